/- The walks of package tally: totals of counts. -/
import Derived.Test.YtjmkkcbilpidnaaWords
import Derived.Test.YtjmkkcbilpidnaaProg
import Derived.Test.YtjmkkcbilpidnaaShelf
import Derived.Test.YtjmkkcbilpidnaaLg
import Derived.BigQuiet
import Derived.Deep.QuietTactic
namespace Go.Proofs.Ytjmkkcbilpidnaa.Tally
open Go Go.RowKit Go.Proofs.Ytjmkkcbilpidnaa.W
set_option linter.unusedVariables false
set_option linter.unusedSimpArgs false

def Hist (zs : List Int) : Prop := zs.length ≤ 256 ∧ ∀ z ∈ zs, 0 ≤ z ∧ z ≤ 2147483648
theorem sum_snoc (l : List Int) (k : Nat) (h : k < l.length) : (l.take (k + 1)).sum = (l.take k).sum + l[k] := by
  rw [List.take_succ_eq_append_getElem h, List.sum_append]; simp
theorem Hist.sum (zs : List Int) (h : Hist zs) : ∀ k, k ≤ zs.length → 0 ≤ (zs.take k).sum ∧ (zs.take k).sum ≤ 2147483648 * k := by
  intro k
  induction k with
  | zero => intro _; simp
  | succ k ih =>
    intro hk
    have := ih (by omega)
    rw [sum_snoc _ _ (by omega)]
    have := h.2 zs[k] (List.getElem_mem _)
    omega

set_option maxHeartbeats 400000 in
theorem total (A : Option Addr) (c : Nat) (zs : List Int) (S : Nat → Prop) (w : World) (h : In (kN .i64) w S A c zs) (hh : Hist zs) :
    Calls Try.prog 14 #[.slice A zs.length c] w fun e w' => e = .returned (.int .i64 zs.sum) ∧ w = w' := by
  have hl := hh.1
  go_enter Try.func14, Try.ntmps14
  go_wp2
  go_loop [2, 7] (fun n i => ∃ k : Nat, k ≤ zs.length ∧ i = .int .i64 k ∧ n = .int .i64 (zs.take k).sum) (fun _ i => zs.length - (intOf i).toNat)
  case atStart => exact ⟨0, Nat.zero_le _, rfl, rfl⟩
  case round =>
    obtain ⟨k, hk, rfl, rfl⟩ := hrel
    by_cases hlt : k < zs.length
    · obtain ⟨b, off, rfl, hS, hc⟩ := h.num hlt
      have hb1 := Hist.sum zs hh k (by omega)
      have hb2 := hh.2 zs[k] (List.getElem_mem _)
      have hsn := Lib.hid (sum_snoc zs k hlt)
      have h0 := hb1.1
      have h1 := hb1.2
      have h2 := hb2.1
      have h3 := hb2.2
      clear hb1 hb2
      go_wp2
      all_goals
        go_round
        case rel => exact ⟨k + 1, by omega, by go_num, by rw [hsn.out]⟩
        case measure => simp [intOf]; omega
    · go_wp2
      go_ret
      exact ⟨ret_int (by rw [List.take_of_length_le (by omega)]), rfl⟩

def usedTo (zs : List Int) (k : Nat) : List Int := ((List.range k).filter fun i => decide (0 < zs.getD i 0)).map Int.ofNat
def used (zs : List Int) : List Int := usedTo zs zs.length
theorem usedTo_yes (zs : List Int) (k : Nat) (h : k < zs.length) (hp : 0 < zs[k]) : usedTo zs (k + 1) = usedTo zs k ++ [(k : Int)] := by
  simp [usedTo, List.range_succ, List.filter_append, List.getElem?_eq_getElem h, hp]
theorem usedTo_no (zs : List Int) (k : Nat) (h : k < zs.length) (hp : ¬ 0 < zs[k]) : usedTo zs (k + 1) = usedTo zs k := by
  simp [usedTo, List.range_succ, List.filter_append, List.getElem?_eq_getElem h, hp]
theorem usedTo_len (zs : List Int) (k : Nat) : (usedTo zs k).length ≤ k := by
  have := List.length_filter_le (fun i => decide (0 < zs.getD i 0)) (List.range k)
  simpa [usedTo] using this

theorem info_int : (Try.prog.info? 3).map (fun i => (i.zero, i.size, i.bytes)) = some (some (.int .i64 0), 1, 8) := by kernel_rfl

set_option maxHeartbeats 400000 in
theorem used_calls (A : Option Addr) (c : Nat) (zs : List Int) (w : World) (h : In (kN .i64) w (Lt w.heap.size) A c zs) (hl : zs.length ≤ 65536) :
    Calls Try.prog 15 #[.slice A zs.length c] w fun e w' => ∃ v, e = .returned v ∧ Own (kN .i64) 3 w' w.heap.size v (used zs) ∧ Below w.heap.size w w' := by
  go_enter Try.func15, Try.ntmps15
  go_wp2
  go_loopw [2, 7] (fun v i wr => ∃ k : Nat, k ≤ zs.length ∧ i = .int .i64 k ∧ Own (kN .i64) 3 wr w.heap.size v (usedTo zs k) ∧ Below w.heap.size w wr) (fun _ i _ => zs.length - (intOf i).toNat)
  case atStart => exact ⟨0, Nat.zero_le _, rfl, Own.nil _ _ _ _, Below.refl _ _⟩
  case round =>
    obtain ⟨k, hk, rfl, hown, hbl⟩ := hrel
    by_cases hlt : k < zs.length
    · obtain ⟨b, off, rfl, hS, hc⟩ := (h.below hbl hbl.size).num hlt
      have hul := usedTo_len zs k
      by_cases hp : 0 < zs[k]
      · go_wp2_with (at_builtin; go_must (refine wl_append1 wr [.int .i64 k] (kN .i64) w.heap.size 3 (.int .i64 0) 8 info_int rfl (by decide) hown rfl _ _ 24 rfl Try.underlying24 rfl (k : Int) rfl rfl (by omega) (by unfold maxLen; omega) hbl.size ?_))
        intro v' w' hown' hb' hg' hv'
        have hus := Lib.hid (usedTo_yes zs k hlt hp)
        go_wp2
        go_roundw
        case rel => exact ⟨k + 1, by omega, by go_num, by rw [hus.out]; exact hown', hbl.trans hb'⟩
        case measure => simp [intOf]; omega
      · go_wp2
        go_roundw
        case rel => exact ⟨k + 1, by omega, by go_num, by rw [usedTo_no zs k hlt hp]; exact hown, hbl⟩
        case measure => simp [intOf]; omega
    · have hkk : k = zs.length := by omega
      subst hkk
      go_wp2
      go_ret
      exact ⟨_, rfl, hown, hbl⟩

/-- A predicate over the elements of a slice of ints, as a function value that reads no more than blocks below B. -/
def Pred (P : Program) (g : Nat) (lb : Array Value) (w : World) (p : Int → Bool) (ok : Int → Prop) : Prop :=
  Ent P g ∧ ∀ (z : Int) (W : World), ok z → Below w.heap.size w W → Calls P g (#[.int .i64 z] ++ lb) W fun e W' => e = .returned (.bool (p z)) ∧ W = W'

def Found (n : Int) (zs : List Int) (p : Int → Bool) : Prop := decide (0 ≤ n) = zs.any p
set_option maxHeartbeats 400000 in
theorem indexFunc (g : Nat) (lb : Array Value) (p : Int → Bool) (A : Option Addr) (c : Nat) (zs : List Int) (w : World) (h : In (kN .i64) w (Lt w.heap.size) A c zs) (hl : zs.length ≤ 65536) (hp : Pred Try.prog g lb w p (fun z => z ∈ zs)) :
    Calls Try.prog 56 #[.slice A zs.length c, .func (.func g) #[] lb] w fun e w' => (∃ n : Int, e = .returned (.int .i64 n) ∧ Found n zs p) ∧ w = w' := by
  have HP := Lib.hid hp
  have hE := hp.1
  unfold Ent at hE
  clear hp
  go_enter Try.func56, Try.ntmps56
  go_wp2
  go_loop [8] (fun i => ∃ k : Nat, k ≤ zs.length ∧ i = .int .i64 k ∧ Hid (∀ j, j < k → ∀ (hj : j < zs.length), p zs[j] = false)) (fun i => zs.length - (intOf i).toNat)
  case atStart => exact ⟨0, Nat.zero_le _, rfl, fun j hj => by omega⟩
  case round =>
    obtain ⟨k, hk, rfl, hno⟩ := hrel
    by_cases hlt : k < zs.length
    · obtain ⟨b, off, rfl, hS, hc⟩ := h.num hlt
      have hmem : zs[k] ∈ zs := List.getElem_mem _
      by_cases hpz : p zs[k] = true
      · go_wp2_with fail
        refine (HP.out.2 zs[k] _ hmem (Below.refl _ _)).mono ?_
        rintro e w' ⟨rfl, rfl⟩
        go_wp2
        go_ret
        exact ⟨⟨_, rfl, by unfold Found; rw [List.any_eq_true.2 ⟨_, hmem, hpz⟩]; simp⟩, rfl⟩
      · rw [Bool.not_eq_true] at hpz
        have hnx : Hid (∀ j, j < k + 1 → ∀ (hj : j < zs.length), p zs[j] = false) := fun j hj hjl => by
          by_cases h : j < k
          · exact hno.out j h hjl
          · have : j = k := by omega
            subst this; exact hpz
        go_wp2_with fail
        refine (HP.out.2 zs[k] _ hmem (Below.refl _ _)).mono ?_
        rintro e w' ⟨rfl, rfl⟩
        go_wp2
        go_round
        case rel => exact ⟨k + 1, by omega, by go_num, hnx⟩
        case measure => simp [intOf]; omega
    · have hall : zs.any p = false := by
        rw [List.any_eq_false]
        intro z hz
        obtain ⟨j, hj, rfl⟩ := List.getElem_of_mem hz
        rw [hno.out j (by omega) hj]; simp
      have HA := Lib.hid hall
      clear hall
      go_wp2
      go_ret
      exact ⟨⟨_, rfl, by unfold Found; rw [HA.out]; simp⟩, rfl⟩

set_option maxHeartbeats 400000 in
theorem containsFunc (g : Nat) (lb : Array Value) (p : Int → Bool) (A : Option Addr) (c : Nat) (zs : List Int) (w : World) (h : In (kN .i64) w (Lt w.heap.size) A c zs) (hl : zs.length ≤ 65536) (hp : Pred Try.prog g lb w p (fun z => z ∈ zs)) :
    Calls Try.prog 51 #[.slice A zs.length c, .func (.func g) #[] lb] w fun e w' => e = .returned (.bool (zs.any p)) ∧ w = w' := by
  go_enter Try.func51, Try.ntmps51
  go_wp2_with fail
  refine (indexFunc g lb p A c zs _ h hl hp).mono ?_
  rintro e w' ⟨⟨n, rfl, hn⟩, rfl⟩
  go_wp2
  go_ret
  exact ⟨ret_bool hn, rfl⟩

def bad (z : Int) : Bool := decide (z < 0) || decide (2147483648 < z)
theorem right1 (z : Int) (w : World) : Calls Try.prog 52 #[.int .i64 z] w fun e w' => e = .returned (.bool (bad z)) ∧ w = w' := by
  by_cases h1 : z < 0
  · go_enter Try.func52, Try.ntmps52
    go_wp2
    go_ret
    exact ⟨ret_bool (by simp [bad, h1]), rfl⟩
  · go_enter Try.func52, Try.ntmps52
    go_wp2
    go_ret
    exact ⟨ret_bool (by have : decide (z < 0) = false := by simpa using h1
                        simp only [bad, this, Bool.false_or]), rfl⟩
theorem right1_pred (w : World) (ok : Int → Prop) : Pred Try.prog 52 #[] w bad ok :=
  ⟨ent_of Try.func52 (by kernel_rfl) rfl, fun z W _ _ => right1 z W⟩

def histB (zs : List Int) : Bool := decide (zs.length ≤ 256) && !zs.any bad
theorem histB_of {zs : List Int} (h : Hist zs) : histB zs = true := by
  unfold histB
  rw [Bool.and_eq_true]
  refine ⟨by simpa using h.1, ?_⟩
  rw [Bool.not_eq_true', List.any_eq_false]
  intro z hz
  have := h.2 z hz
  simp [bad]; omega

set_option maxHeartbeats 400000 in
theorem right (A : Option Addr) (c : Nat) (zs : List Int) (w : World) (h : In (kN .i64) w (Lt w.heap.size) A c zs) (hl : zs.length ≤ 65536) :
    Calls Try.prog 43 #[.slice A zs.length c] w fun e w' => e = .returned (.bool (histB zs)) ∧ w = w' := by
  by_cases h1 : zs.length ≤ 256
  · go_enter Try.func43, Try.ntmps43
    go_wp2_with fail
    refine (containsFunc _ #[] bad A c zs _ h hl (right1_pred _ _)).mono ?_
    rintro e w' ⟨rfl, rfl⟩
    go_wp2
    go_ret
    exact ⟨ret_bool (by simp [histB, h1]), rfl⟩
  · go_enter Try.func43, Try.ntmps43
    go_wp2_with fail
    go_ret
    exact ⟨ret_bool (by simp [histB, h1]), rfl⟩

set_option maxHeartbeats 400000 in
theorem check (A : Option Addr) (c : Nat) (zs : List Int) (w : World) (h : In (kN .i64) w (Lt w.heap.size) A c zs) (hl : zs.length ≤ 65536) (hh : Hist zs) :
    Calls Try.prog 27 #[.slice A zs.length c] w fun e w' => e = .returned (.int .i64 0) ∧ w = w' := by
  have hb := histB_of hh
  have hf : ∀ (x : Value) (w : World), (Instr.field 42 (.agg #[x]) 0).run Try.prog w = .ok x w := fun _ _ => by kernel_rfl
  go_enter Try.func27, Try.ntmps27
  go_wp2_with fail
  refine (right A c zs _ h hl).mono ?_
  rintro e w' ⟨rfl, rfl⟩
  go_wp2
  go_ret
  exact ⟨rfl, rfl⟩

set_option maxHeartbeats 800000 in
theorem log (n : Nat) (w : World) (h1 : 1 ≤ n) (h2 : n ≤ 4611686018427387903) :
    Calls Try.prog 16 #[.int .i64 n] w fun e w' => e = .returned (.int .i64 (Lg.lg n)) ∧ w = w' := by
  obtain ⟨k, hk, hk2, hpow, hpow2⟩ := Lg.parts n h1 h2
  have hlg := Lg.lgk_lt hpow hpow2
  have HL := Lib.hid (Lg.lg_eq hk)
  have HK := Lib.hid hk
  clear hk
  go_enter Try.func16, Try.ntmps16
  go_wp2_with fail
  refine (Try.bits_Len _ _ (by omega) (by omega)).mono ?_
  rintro e w' ⟨rfl, rfl⟩
  simp only [Int.toNat_natCast]
  rw [HK.out]
  have hp64 : ((2 : Int) ^ k) ≤ 4611686018427387904 := by
    have h3 : 2 ^ k ≤ 2 ^ 61 := Nat.pow_le_pow_right (by omega) hk2
    have h4 : ((2 ^ k : Nat) : Int) = (2 : Int) ^ k := by simp
    omega
  have hp0 : (1 : Int) ≤ 2 ^ k := by
    have h3 : 1 ≤ 2 ^ k := Nat.two_pow_pos k
    have h4 : ((2 ^ k : Nat) : Int) = (2 : Int) ^ k := by simp
    omega
  have hpn : (2 : Int) ^ k ≤ (n : Int) := by
    have h4 : ((2 ^ k : Nat) : Int) = (2 : Int) ^ k := by simp
    omega
  have hsub : ((n - 2 ^ k : Nat) : Int) = (n : Int) - (2 : Int) ^ k := by
    have h4 : ((2 ^ k : Nat) : Int) = (2 : Int) ^ k := by simp
    omega
  have HS := Lib.hid hsub
  clear hsub
  by_cases h8 : 8 ≤ k
  · have hq0 : 0 ≤ ((n : Int) - 2 ^ k) / 2 ^ (k - 8) := Int.ediv_nonneg (by omega) (Int.le_of_lt (Int.pow_pos (by omega)))
    have hq1 : ((n : Int) - 2 ^ k) / 2 ^ (k - 8) ≤ (n : Int) - 2 ^ k := Int.ediv_le_self _ (by omega)
    go_wp2_with fail
    go_ret
    refine ⟨ret_int ?_, rfl⟩
    rw [HL.out]
    unfold Lg.lgk
    rw [if_pos h8, Int.natCast_add, Int.natCast_ediv, HS.out]
    simp
  · have hq : (n - 2 ^ k) * 2 ^ (8 - k) < 256 := by
      have := hlg
      unfold Lg.lgk at this
      rw [if_neg h8] at this
      omega
    have hq1 : ((n : Int) - 2 ^ k) * 2 ^ (8 - k) < 256 := by
      rw [← HS.out]
      have h4 : (((n - 2 ^ k) * 2 ^ (8 - k) : Nat) : Int) = ((n - 2 ^ k : Nat) : Int) * 2 ^ (8 - k) := by simp
      omega
    have hq0 : 0 ≤ ((n : Int) - 2 ^ k) * 2 ^ (8 - k) := Int.mul_nonneg (by omega) (Int.le_of_lt (Int.pow_pos (by omega)))
    have h8k : ((8 : Int) - k).toNat = 8 - k := by omega
    go_wp2_with fail
    go_ret
    refine ⟨ret_int ?_, rfl⟩
    rw [HL.out]
    unfold Lg.lgk
    rw [if_neg h8, Int.natCast_add, Int.natCast_mul, Int.natCast_mul, HS.out]
    simp

theorem logq (x : Int) (w : World) (h1 : 1 ≤ x) (h2 : x ≤ 4611686018427387903) :
    Calls Try.prog 16 #[.int .i64 x] w fun e w' => e = .returned (.int .i64 (Lg.lg x.toNat)) ∧ w' = w := by
  obtain ⟨n, rfl⟩ := Int.eq_ofNat_of_zero_le (show 0 ≤ x by omega)
  exact (log n w (by omega) (by omega)).mono fun e w' ⟨he, hw⟩ => ⟨he, hw.symm⟩
/-- The cost of the first k used symbols. -/
def costTo (zs : List Int) (us : List Int) (k : Nat) : Int := ((us.take k).map fun s => zs.getD s.toNat 0 * ((Lg.lg zs.sum.toNat : Int) - Lg.lg (zs.getD s.toNat 0).toNat)).sum
def cost (zs : List Int) : Int := costTo zs (used zs) (used zs).length
theorem costTo_snoc (zs us : List Int) (k : Nat) (h : k < us.length) : costTo zs us (k + 1) = costTo zs us k + zs.getD us[k].toNat 0 * ((Lg.lg zs.sum.toNat : Int) - Lg.lg (zs.getD us[k].toNat 0).toNat) := by
  unfold costTo
  rw [List.take_succ_eq_append_getElem h]
  simp only [List.map_append, List.sum_append, List.map_cons, List.map_nil, List.sum_cons, List.sum_nil, Int.add_zero]
theorem Hist.getD {zs : List Int} (h : Hist zs) (j : Nat) : 0 ≤ zs.getD j 0 ∧ zs.getD j 0 ≤ 2147483648 := by
  by_cases hj : j < zs.length
  · rw [getD_lt _ _ hj]; exact h.2 _ (List.getElem_mem _)
  · rw [getD_ge _ _ (by omega)]; omega
theorem term_bd {zs : List Int} (h : Hist zs) (j : Nat) :
    -34082712977408 ≤ zs.getD j 0 * ((Lg.lg zs.sum.toNat : Int) - Lg.lg (zs.getD j 0).toNat) ∧ zs.getD j 0 * ((Lg.lg zs.sum.toNat : Int) - Lg.lg (zs.getD j 0).toNat) ≤ 34082712977408 ∧
    -15871 ≤ (Lg.lg zs.sum.toNat : Int) - Lg.lg (zs.getD j 0).toNat ∧ (Lg.lg zs.sum.toNat : Int) - Lg.lg (zs.getD j 0).toNat ≤ 15871 := by
  have hz := h.getD j
  have hs := Hist.sum zs h zs.length (Nat.le_refl _)
  rw [List.take_length] at hs
  have hl := h.1
  have h1 := Lg.lg_lt zs.sum.toNat (by omega)
  have h2 := Lg.lg_lt (zs.getD j 0).toNat (by omega)
  have hm := Lg.mul_bd (z := zs.getD j 0) (d := (Lg.lg zs.sum.toNat : Int) - Lg.lg (zs.getD j 0).toNat) (Z := 2147483648) (D := 15871) hz.1 hz.2 (by omega) (by omega) (by omega)
  omega
theorem costTo_bd {zs : List Int} (us : List Int) (h : Hist zs) : ∀ k, k ≤ us.length → -34082712977408 * k ≤ costTo zs us k ∧ costTo zs us k ≤ 34082712977408 * k := by
  intro k
  induction k with
  | zero => intro _; simp [costTo]
  | succ k ih =>
    intro hk
    have := ih (by omega)
    rw [costTo_snoc _ _ _ (by omega)]
    have := term_bd h us[k].toNat
    omega
theorem used_mem {zs : List Int} {s : Int} (h : s ∈ used zs) : ∃ j : Nat, s = j ∧ ∃ hj : j < zs.length, 0 < zs[j] := by
  unfold used usedTo at h
  obtain ⟨j, hj, rfl⟩ := List.mem_map.1 h
  obtain ⟨h1, h2⟩ := List.mem_filter.1 hj
  have hj' : j < zs.length := by simpa using h1
  refine ⟨j, rfl, hj', ?_⟩
  simpa [List.getElem?_eq_getElem hj'] using h2
theorem total_pos {zs : List Int} (h : Hist zs) {j : Nat} (hj : j < zs.length) : zs[j] ≤ zs.sum := by
  have h1 := Hist.sum zs h j (by omega)
  have h2 := sum_snoc zs j hj
  have h3 : ∀ m, j + 1 ≤ m → m ≤ zs.length → (zs.take (j + 1)).sum ≤ (zs.take m).sum := by
    intro m hm
    induction m with
    | zero => omega
    | succ m ih =>
      intro hl
      by_cases he : j + 1 = m + 1
      · rw [he]; exact Int.le_refl _
      · have := ih (by omega) (by omega)
        rw [sum_snoc zs m (by omega)]
        have := h.2 zs[m] (List.getElem_mem _)
        omega
  have := h3 zs.length (by omega) (Nat.le_refl _)
  rw [List.take_length] at this
  omega

set_option maxHeartbeats 1000000 in
theorem cost1 (A : Option Addr) (c : Nat) (zs : List Int) (w : World) (h : In (kN .i64) w (Lt w.heap.size) A c zs) (hh : Hist zs) :
    Calls Try.prog 13 #[.agg #[.slice A zs.length c]] w fun e w' => e = .returned (.int .i64 (cost zs)) ∧ Below w.heap.size w w' := by
  have hl := hh.1
  go_enter Try.func13, Try.ntmps13
  go_wp2_with fail
  refine (total A c zs (Lt w.heap.size) _ (h.below ((Below.refl _ _).alloc (Nat.le_refl _) _) (Nat.le_refl _)) hh).mono ?_
  rintro e w' ⟨rfl, rfl⟩
  go_wp2_with fail
  refine (used_calls A c zs _ (h.below ((Below.refl _ _).alloc (Nat.le_refl _) _) (by simp)) (by omega)).mono ?_
  rintro e w1 ⟨v, rfl, hown, hb1⟩
  obtain ⟨Av, cv, rfl, hin⟩ := hown.sl
  have hB1 : Below w.heap.size w w1 := ((Below.refl _ _).alloc (Nat.le_refl _) _).trans (hb1.mono (by simp))
  have hbox : w1.cell? ⟨w.heap.size, 0, none⟩ = some (.slice A zs.length c) := by
    rw [hb1.cell (by simp), World.cell?_alloc_at _ _ _ _ rfl]; rfl
  have hs1 : w.heap.size < w1.heap.size := by have := hb1.size; simp at this; omega
  have hlen : (used zs).length ≤ zs.length := usedTo_len zs zs.length
  clear hb1 hown
  go_wp2_with fail
  go_loopw [2, 13] (fun n i wr => ∃ k : Nat, k ≤ (used zs).length ∧ i = .int .i64 k ∧ n = .int .i64 (costTo zs (used zs) k) ∧ Below w1.heap.size w1 wr) (fun _ i _ => (used zs).length - (intOf i).toNat)
  case atStart => exact ⟨0, Nat.zero_le _, rfl, rfl, Below.refl _ _⟩
  case round =>
    obtain ⟨k, hk, rfl, rfl, hbr⟩ := hrel
    by_cases hlt : k < (used zs).length
    · obtain ⟨b, off, rfl, hS, hc⟩ := (hin.below hbr hbr.size).num hlt
      obtain ⟨j, hj, hjl, hpos⟩ := used_mem (List.getElem_mem hlt)
      rw [hj] at hc
      obtain ⟨b2, off2, rfl, hS2, hc2⟩ := (h.below (hB1.trans (hbr.mono (by omega))) (Nat.le_refl _)).num hjl
      have hbox' := (hbr.cell (p := ⟨w.heap.size, 0, none⟩) hs1).trans hbox
      have htot := total_pos hh hjl
      have hsum := Hist.sum zs hh zs.length (Nat.le_refl _)
      rw [List.take_length] at hsum
      have hs2 := hsum.2
      have hcs := costTo_snoc zs (used zs) k hlt
      have hbd := costTo_bd (used zs) hh k hk
      have htb := term_bd hh j
      rw [hj] at hcs
      have hgd : zs.getD j 0 = zs[j] := getD_lt _ _ hjl
      simp only [Int.toNat_natCast, hgd] at hcs htb
      have hw1 : IntKind.i64.wrap ((Lg.lg zs.sum.toNat : Int) - Lg.lg zs[j].toNat) = (Lg.lg zs.sum.toNat : Int) - Lg.lg zs[j].toNat := IntWalk.i64_in _ (by omega)
      have hw2 : IntKind.i64.wrap (zs[j] * ((Lg.lg zs.sum.toNat : Int) - Lg.lg zs[j].toNat)) = zs[j] * ((Lg.lg zs.sum.toNat : Int) - Lg.lg zs[j].toNat) := IntWalk.i64_in _ (by omega)
      have hw3 : IntKind.i64.wrap (costTo zs (used zs) k + zs[j] * ((Lg.lg zs.sum.toNat : Int) - Lg.lg zs[j].toNat)) = costTo zs (used zs) k + zs[j] * ((Lg.lg zs.sum.toNat : Int) - Lg.lg zs[j].toNat) := IntWalk.i64_in _ (by omega)
      have hj0 : 0 ≤ (j : Int) := by omega
      have HCS := Lib.hid hcs
      have hs3 : zs.sum ≤ 4611686018427387903 := by omega
      have hz1 : 1 ≤ zs[j] := by omega
      have hz3 : 1 ≤ zs.sum := by omega
      have hz2 : zs[j] ≤ 4611686018427387903 := by omega
      clear hsum hj hcs hbd htb hgd
      go_wp2_with fail
      go_quiet ((go_at_call 16; exact Calls.quiet_of_same (logq _ _ (by assumption) (by assumption))))
      go_wp2
      go_roundw
      case rel => exact ⟨k + 1, by omega, by go_num, by rw [HCS.out], bdrewN hbr _⟩
      case measure => simp [intOf]; omega
    · have hkk : k = (used zs).length := by omega
      subst hkk
      go_wp2
      go_ret
      exact ⟨ret_int rfl, hB1.trans (hbr.mono (by omega))⟩

/-- 'told' at a closure that answers a number. -/
theorem told (g : Nat) (r : Int) (A : Option Addr) (c : Nat) (zs : List Int) (w : World) (h : In (kN .i64) w (Lt w.heap.size) A c zs) (hh : Hist zs) (hE : Ent Try.prog g)
    (hg : Calls Try.prog g #[.agg #[.slice A zs.length c]] w fun e w' => e = .returned (.int .i64 r) ∧ Below w.heap.size w w') :
    Calls Try.prog 12 #[.slice A zs.length c, .func (.func g) #[] #[]] w fun e w' => e = .returned (.tuple #[.int .i64 r, .int .i64 0]) ∧ Below w.heap.size w w' := by
  have hl := hh.1
  have HG := Lib.hid hg
  clear hg
  unfold Ent at hE
  go_enter Try.func12, Try.ntmps12
  go_wp2_with fail
  refine (check A c zs _ h (by omega) hh).mono ?_
  rintro e w' ⟨rfl, rfl⟩
  go_wp2_with fail
  refine (HG.out).mono ?_
  rintro e w' ⟨rfl, hb⟩
  go_wp2
  go_ret2
  exact ⟨rfl, hb⟩

theorem cost_calls (A : Option Addr) (c : Nat) (zs : List Int) (w : World) (h : In (kN .i64) w (Lt w.heap.size) A c zs) (hh : Hist zs) :
    Calls Try.prog 6 #[.slice A zs.length c] w fun e w' => e = .returned (.tuple #[.int .i64 (cost zs), .int .i64 0]) ∧ Below w.heap.size w w' := by
  go_enter Try.func6, Try.ntmps6
  go_wp2_with fail
  refine (told 13 _ A c zs _ h hh (ent_of Try.func13 (by kernel_rfl) rfl) (cost1 A c zs w h hh)).mono ?_
  rintro e w' ⟨rfl, hb⟩
  go_wp2
  go_ret2
  exact ⟨rfl, hb⟩

theorem log2 (x : Int) (w : World) (h1 : 1 ≤ x) (h2 : x ≤ 4611686018427387903) :
    Calls Try.prog 11 #[.int .i64 x] w fun e w' => e = .returned (.tuple #[.int .i64 (Lg.lg x.toNat), .int .i64 0]) ∧ w = w' := by
  go_enter Try.func11, Try.ntmps11
  go_wp2_with fail
  refine (logq x _ h1 h2).mono ?_
  rintro e w' ⟨rfl, rfl⟩
  go_wp2
  go_ret2
  exact ⟨rfl, rfl⟩
end Go.Proofs.Ytjmkkcbilpidnaa.Tally
