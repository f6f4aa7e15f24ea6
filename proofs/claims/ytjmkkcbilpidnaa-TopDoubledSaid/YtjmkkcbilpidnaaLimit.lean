/- The walks of package limit: checks, panics, recover. -/
import Derived.Test.YtjmkkcbilpidnaaWords
import Derived.Test.YtjmkkcbilpidnaaProg
import Derived.Test.YtjmkkcbilpidnaaTally
import Derived.Recover
namespace Go.Proofs.Ytjmkkcbilpidnaa.Limit
open Go Go.RowKit Go.Proofs.Ytjmkkcbilpidnaa.W Go.Proofs.Ytjmkkcbilpidnaa.Tally
set_option linter.unusedVariables false
set_option linter.unusedSimpArgs false

set_option maxHeartbeats 400000 in
theorem used_calls (A : Option Addr) (c : Nat) (zs : List Int) (w : World) (h : In (kN .i64) w (Lt w.heap.size) A c zs) (hl : zs.length ≤ 65536) :
    Calls Try.prog 39 #[.slice A zs.length c] w fun e w' => ∃ v, e = .returned v ∧ Own (kN .i64) 3 w' w.heap.size v (used zs) ∧ Below w.heap.size w w' := by
  go_enter Try.func39, Try.ntmps39
  go_wp2
  go_loopw [2, 7] (fun v i wr => ∃ k : Nat, k ≤ zs.length ∧ i = .int .i64 k ∧ Own (kN .i64) 3 wr w.heap.size v (usedTo zs k) ∧ Below w.heap.size w wr) (fun _ i _ => zs.length - (intOf i).toNat)
  case atStart => exact ⟨0, Nat.zero_le _, rfl, Own.nil _ _ _ _, Below.refl _ _⟩
  case round =>
    obtain ⟨k, hk, rfl, hown, hbl⟩ := hrel
    by_cases hlt : k < zs.length
    · obtain ⟨b, off, rfl, hS, hc⟩ := (h.below hbl hbl.size).num hlt
      have hul := usedTo_len zs k
      by_cases hp : 0 < zs[k]
      · go_wp2_with (at_builtin; go_must (refine wl_append1 wr [.int .i64 k] (kN .i64) w.heap.size 3 (.int .i64 0) 8 info_int rfl (by decide) hown rfl _ _ 24 rfl Try.underlying24 rfl (k : Int) rfl rfl (by omega) (by unfold maxLen; omega) hbl.size ?_))
        intro v' w' hown' hb' hg' hv'
        have hus := Lib.hid (usedTo_yes zs k hlt hp)
        go_wp2
        go_roundw
        case rel => exact ⟨k + 1, by omega, by go_num, by rw [hus.out]; exact hown', hbl.trans hb'⟩
        case measure => simp [intOf]; omega
      · go_wp2
        go_roundw
        case rel => exact ⟨k + 1, by omega, by go_num, by rw [usedTo_no zs k hlt hp]; exact hown, hbl⟩
        case measure => simp [intOf]; omega
    · have hkk : k = zs.length := by omega
      subst hkk
      go_wp2
      go_ret
      exact ⟨_, rfl, hown, hbl⟩

set_option maxHeartbeats 400000 in
theorem indexFunc (g : Nat) (lb : Array Value) (p : Int → Bool) (A : Option Addr) (c : Nat) (zs : List Int) (w : World) (h : In (kN .i64) w (Lt w.heap.size) A c zs) (hl : zs.length ≤ 65536) (hp : Pred Try.prog g lb w p (fun z => z ∈ zs)) :
    Calls Try.prog 55 #[.slice A zs.length c, .func (.func g) #[] lb] w fun e w' => (∃ n : Int, e = .returned (.int .i64 n) ∧ Tally.Found n zs p) ∧ w = w' := by
  have HP := Lib.hid hp
  have hE := hp.1
  unfold Ent at hE
  clear hp
  go_enter Try.func55, Try.ntmps55
  go_wp2
  go_loop [8] (fun i => ∃ k : Nat, k ≤ zs.length ∧ i = .int .i64 k ∧ Hid (∀ j, j < k → ∀ (hj : j < zs.length), p zs[j] = false)) (fun i => zs.length - (intOf i).toNat)
  case atStart => exact ⟨0, Nat.zero_le _, rfl, fun j hj => by omega⟩
  case round =>
    obtain ⟨k, hk, rfl, hno⟩ := hrel
    by_cases hlt : k < zs.length
    · obtain ⟨b, off, rfl, hS, hc⟩ := h.num hlt
      have hmem : zs[k] ∈ zs := List.getElem_mem _
      by_cases hpz : p zs[k] = true
      · go_wp2_with fail
        refine (HP.out.2 zs[k] _ hmem (Below.refl _ _)).mono ?_
        rintro e w' ⟨rfl, rfl⟩
        go_wp2
        go_ret
        exact ⟨⟨_, rfl, by unfold Tally.Found; rw [List.any_eq_true.2 ⟨_, hmem, hpz⟩]; simp⟩, rfl⟩
      · rw [Bool.not_eq_true] at hpz
        have hnx : Hid (∀ j, j < k + 1 → ∀ (hj : j < zs.length), p zs[j] = false) := fun j hj hjl => by
          by_cases h : j < k
          · exact hno.out j h hjl
          · have : j = k := by omega
            subst this; exact hpz
        go_wp2_with fail
        refine (HP.out.2 zs[k] _ hmem (Below.refl _ _)).mono ?_
        rintro e w' ⟨rfl, rfl⟩
        go_wp2
        go_round
        case rel => exact ⟨k + 1, by omega, by go_num, hnx⟩
        case measure => simp [intOf]; omega
    · have hall : zs.any p = false := by
        rw [List.any_eq_false]
        intro z hz
        obtain ⟨j, hj, rfl⟩ := List.getElem_of_mem hz
        rw [hno.out j (by omega) hj]; simp
      have HA := Lib.hid hall
      clear hall
      go_wp2
      go_ret
      exact ⟨⟨_, rfl, by unfold Tally.Found; rw [HA.out]; simp⟩, rfl⟩

set_option maxHeartbeats 400000 in
theorem containsFunc (g : Nat) (lb : Array Value) (p : Int → Bool) (A : Option Addr) (c : Nat) (zs : List Int) (w : World) (h : In (kN .i64) w (Lt w.heap.size) A c zs) (hl : zs.length ≤ 65536) (hp : Pred Try.prog g lb w p (fun z => z ∈ zs)) :
    Calls Try.prog 49 #[.slice A zs.length c, .func (.func g) #[] lb] w fun e w' => e = .returned (.bool (zs.any p)) ∧ w = w' := by
  go_enter Try.func49, Try.ntmps49
  go_wp2_with fail
  refine (indexFunc g lb p A c zs _ h hl hp).mono ?_
  rintro e w' ⟨⟨n, rfl, hn⟩, rfl⟩
  go_wp2
  go_ret
  exact ⟨ret_bool hn, rfl⟩


def out_ (most z : Int) : Bool := decide (z < 0) || decide (most < z)
theorem within1 (most z : Int) (p : Addr) (w : World) (hc : w.cell? p = some (.int .i64 most)) : Calls Try.prog 50 #[.int .i64 z, .pointer (some p)] w fun e w' => e = .returned (.bool (out_ most z)) ∧ w = w' := by
  by_cases h1 : z < 0
  · go_enter Try.func50, Try.ntmps50
    go_wp2
    go_ret
    exact ⟨ret_bool (by simp [out_, h1]), rfl⟩
  · have h2 : decide (z < 0) = false := by simpa using h1
    go_enter Try.func50, Try.ntmps50
    go_wp2
    go_ret
    exact ⟨ret_bool (by simp only [out_, h2, Bool.false_or]), rfl⟩

def withinB (zs : List Int) (most : Int) : Bool := decide (zs.length ≤ 256) && !zs.any (out_ most)
theorem withinB_of {zs : List Int} {most : Int} (hl : zs.length ≤ 256) (h : ∀ z ∈ zs, 0 ≤ z ∧ z ≤ most) : withinB zs most = true := by
  unfold withinB
  rw [Bool.and_eq_true]
  refine ⟨by simpa using hl, ?_⟩
  rw [Bool.not_eq_true', List.any_eq_false]
  intro z hz
  have := h z hz
  simp [out_]; omega
set_option maxHeartbeats 400000 in
theorem within (A : Option Addr) (c : Nat) (zs : List Int) (most : Int) (w : World) (h : In (kN .i64) w (Lt w.heap.size) A c zs) (hl : zs.length ≤ 256) :
    Calls Try.prog 38 #[.slice A zs.length c, .int .i64 most] w fun e w' => e = .returned (.bool (withinB zs most)) ∧ Below w.heap.size w w' := by
  have hmf : ∀ (fn : Fn) (first cap : Array Value) (w : World), (Instr.makeFunc fn first cap).run Try.prog w = .ok (.func fn first cap) w := fun _ _ _ _ => rfl
  have hb : Below w.heap.size w (w.alloc (.cells #[.int .i64 most] 3)) := (Below.refl _ _).alloc (Nat.le_refl _) _
  have hc : (w.alloc (.cells #[.int .i64 most] 3)).cell? ⟨w.heap.size, 0, none⟩ = some (.int .i64 most) := by rw [World.cell?_alloc_at _ _ _ _ rfl]; rfl
  have hs : w.heap.size < (w.alloc (.cells #[.int .i64 most] 3)).heap.size := by simp
  have hp : Pred Try.prog 50 #[.pointer (some ⟨w.heap.size, 0, none⟩)] (w.alloc (.cells #[.int .i64 most] 3)) (out_ most) (fun z => z ∈ zs) :=
    ⟨ent_of Try.func50 (by kernel_rfl) rfl, fun z W _ hW => calls_args (within1 most z ⟨w.heap.size, 0, none⟩ W ((hW.cell (p := ⟨w.heap.size, 0, none⟩) hs).trans hc)) rfl⟩
  have HB := Lib.hid hb
  have HP := Lib.hid hp
  clear hb hp hc hs
  go_enter Try.func38, Try.ntmps38
  go_wp2_with fail
  refine (containsFunc _ _ (out_ most) A c zs _ (h.below HB.out (by simp)) (by omega) HP.out).mono ?_
  rintro e w' ⟨rfl, rfl⟩
  go_wp2
  go_ret
  exact ⟨ret_bool (by simp [withinB, hl]), HB.out⟩

theorem must_ok (e : Int) (w : World) : Calls Try.prog 33 #[.bool true, .int .i64 e] w fun x w' => x = .returned (.tuple #[]) ∧ w = w' := by
  go_enter Try.func33, Try.ntmps33
  go_wp2
  go_end0
  exact ⟨rfl, rfl⟩
/-- What 'must' panics with. -/
def raised (e : Int) : List PanicEntry := [{ v := .iface 26 (.int .i64 e), recovered := false }]
theorem must_no (e : Int) (w : World) : Calls Try.prog 33 #[.bool false, .int .i64 e] w fun x w' => x = .panicked (raised e) ∧ w = w' := by
  go_enter Try.func33, Try.ntmps33
  go_wp2
  exact ⟨rfl, rfl, rfl⟩

theorem must_if {b : Bool} (e : Int) (w : World) (hb : b = true) : Calls Try.prog 33 #[.bool b, .int .i64 e] w fun x w' => x = .returned (.tuple #[]) ∧ w = w' := by
  subst hb; exact must_ok e w
theorem must_else {b : Bool} (e : Int) (w : World) (hb : b = false) : Calls Try.prog 33 #[.bool b, .int .i64 e] w fun x w' => x = .panicked (raised e) ∧ w = w' := by
  subst hb; exact must_no e w
theorem at_yes (A : Option Addr) (c : Nat) (zs : List Int) (S : Nat → Prop) (w : World) (h : In (kN .i64) w S A c zs) (i : Nat) (hi : i < zs.length) :
    Calls Try.prog 40 #[.slice A zs.length c, .int .i64 i] w fun e w' => e = .returned (.int .i64 zs[i]) ∧ w = w' := by
  obtain ⟨b, off, rfl, _, hc⟩ := h.num hi
  go_enter Try.func40, Try.ntmps40
  go_wp2
  go_ret
  exact ⟨rfl, rfl⟩

/-! ### 'caught' -/
theorem caught_idle (p : Value) (f : Value) (w : World) :
    CallsD Try.prog 29 #[p, f] .returning w fun e u' w' => e = .returned (.tuple #[]) ∧ u' = .returning ∧ w' = w := by
  refine callsD_of_wpS Try.func29 rfl fun c₀ cs hu => ?_
  simp only [Try.ntmps29, List.size_toArray, List.length_cons, List.length_nil, Nat.reduceAdd, Nat.reduceSub, Array.replicate_succ,
     Array.replicate_zero, List.push_toArray, List.append_toArray, List.nil_append, List.cons_append]
  refine wpS_seq ?_
  refine wpS_region ?_
  simp [wpOpsS, go_sem, recoverD, hu]
  simp only [Exit.thenS]
  refine wpS_of_wp ?_
  go_wp2
  cases c₀
  simp_all [bodyPostS, results, Try.results29]
theorem caught_panics (pe : Addr) (g : Nat) (lb : Array Value) (x0 : Int) (e : Int) (older : List PanicEntry) (w w1 : World) (hE : Ent Try.prog g) (hclr : Calls Try.prog g lb w fun x w' => x = .returned (.tuple #[]) ∧ w' = w1)
    (hc : w1.cell? pe = some (.int .i64 x0)) (hz : w1.frozen? pe = false) :
    CallsD Try.prog 29 #[.pointer (some pe), .func (.func g) #[] lb] (.panicking ({ v := .iface 26 (.int .i64 e), recovered := false } :: older)) w fun x u' w' => x = .returned (.tuple #[]) ∧ u' = .panicking ({ v := .iface 26 (.int .i64 e), recovered := true } :: older) ∧ w' = w1.setCell pe (.int .i64 e) := by
  have HC := Lib.hid hclr
  unfold Ent at hE
  clear hclr
  have hta : ∀ w, (Instr.typeAssert (.iface 26 (.int .i64 e)) 20 26 true).run Try.prog w = .ok (.tuple #[.int .i64 e, .bool true]) w := fun w => by kernel_rfl
  refine callsD_of_wpS Try.func29 rfl fun c₀ cs hu => ?_
  simp only [Try.ntmps29, List.size_toArray, List.length_cons, List.length_nil, Nat.reduceAdd, Nat.reduceSub, Array.replicate_succ,
     Array.replicate_zero, List.push_toArray, List.append_toArray, List.nil_append, List.cons_append]
  refine wpS_seq ?_
  refine wpS_region ?_
  simp [wpOpsS, go_sem, recoverD, hu]
  simp only [Exit.thenS]
  refine wpS_of_wp ?_
  go_wp2_with fail
  refine (HC.out).mono ?_
  rintro x w2 ⟨rfl, rfl⟩
  go_wp2
  cases c₀
  simp_all [bodyPostS, results, Try.results29]
end Go.Proofs.Ytjmkkcbilpidnaa.Limit
