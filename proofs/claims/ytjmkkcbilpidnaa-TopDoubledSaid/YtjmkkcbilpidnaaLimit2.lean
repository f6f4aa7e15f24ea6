/- limit.asked and what it leans on. -/
import Derived.Test.YtjmkkcbilpidnaaLimit
import Derived.Test.YtjmkkcbilpidnaaNorm
namespace Go.Proofs.Ytjmkkcbilpidnaa.Limit
open Go Go.RowKit Go.Proofs.Ytjmkkcbilpidnaa.W Go.Proofs.Ytjmkkcbilpidnaa.Tally
set_option linter.unusedVariables false
set_option linter.unusedSimpArgs false

def Has (n : Int) (fs : List Bool) : Prop := decide (0 ≤ n) = fs.contains false
set_option maxHeartbeats 400000 in
theorem indexFalse (A : Option Addr) (c : Nat) (fs : List Bool) (w : World) (h : In kB w (Lt w.heap.size) A c fs) (hl : fs.length ≤ 65536) :
    Calls Try.prog 53 #[.slice A fs.length c, .bool false] w fun e w' => (∃ n : Int, e = .returned (.int .i64 n) ∧ Has n fs) ∧ w = w' := by
  go_enter Try.func53, Try.ntmps53
  go_wp2
  go_loop [8] (fun i => ∃ k : Nat, k ≤ fs.length ∧ i = .int .i64 k ∧ Hid (∀ j, j < k → ∀ (hj : j < fs.length), fs[j] = true)) (fun i => fs.length - (intOf i).toNat)
  case atStart => exact ⟨0, Nat.zero_le _, rfl, fun j hj => by omega⟩
  case round =>
    obtain ⟨k, hk, rfl, hno⟩ := hrel
    by_cases hlt : k < fs.length
    · obtain ⟨b, off, rfl, hS, hc⟩ := h.bool hlt
      cases hv : fs[k] with
      | false =>
        have hhas : Hid (fs.contains false = true) := by
          show fs.contains false = true
          rw [List.contains_iff_mem]
          rw [← hv]; exact List.getElem_mem _
        rw [hv] at hc
        clear hv
        go_wp2
        go_ret
        exact ⟨⟨_, rfl, by unfold Has; rw [hhas.out]; simp⟩, rfl⟩
      | true =>
        have hnx : Hid (∀ j, j < k + 1 → ∀ (hj : j < fs.length), fs[j] = true) := fun j hj hjl => by
          by_cases h : j < k
          · exact hno.out j h hjl
          · have : j = k := by omega
            subst this; exact hv
        rw [hv] at hc
        clear hv
        go_wp2
        go_round
        case rel => exact ⟨k + 1, by omega, by go_num, hnx⟩
        case measure => simp [intOf]; omega
    · have hall : Hid (fs.contains false = false) := by
        show fs.contains false = false
        rw [Bool.eq_false_iff]
        intro hc
        rw [List.contains_iff_mem] at hc
        obtain ⟨j, hj, he⟩ := List.getElem_of_mem hc
        have := hno.out j (by omega) hj
        rw [this] at he; cases he
      go_wp2
      go_ret
      exact ⟨⟨_, rfl, by unfold Has; rw [hall.out]; simp⟩, rfl⟩
theorem containsFalse (A : Option Addr) (c : Nat) (fs : List Bool) (w : World) (h : In kB w (Lt w.heap.size) A c fs) (hl : fs.length ≤ 65536) :
    Calls Try.prog 46 #[.slice A fs.length c, .bool false] w fun e w' => e = .returned (.bool (fs.contains false)) ∧ w = w' := by
  go_enter Try.func46, Try.ntmps46
  go_wp2_with fail
  refine (indexFalse A c fs _ h hl).mono ?_
  rintro e w' ⟨⟨n, rfl, hn⟩, rfl⟩
  go_wp2
  go_ret
  exact ⟨ret_bool hn, rfl⟩

theorem used_len (zs : List Int) : (used zs).length = NormP.nUsed zs := by
  have : ∀ k, k ≤ zs.length → (usedTo zs k).length = NormP.nUsed (zs.take k) := by
    intro k
    induction k with
    | zero => intro _; rfl
    | succ k ih =>
      intro hk
      have := ih (by omega)
      rw [Norm.nUsed_snoc zs k (by omega)]
      by_cases hp : 0 < zs[k]
      · rw [usedTo_yes zs k (by omega) hp, if_pos hp, List.length_append, this]; rfl
      · rw [usedTo_no zs k (by omega) hp, if_neg hp, this]; rfl
  have := this zs.length (Nat.le_refl _)
  rw [List.take_length] at this
  exact this

set_option maxHeartbeats 1000000 in
/-- 'asked': what comes back, or with which error it panics. -/
theorem asked_ok (A Af : Option Addr) (c cf : Nat) (zs : List Int) (fs : List Bool) (w : World) (h : In (kN .i64) w (Lt w.heap.size) A c zs) (hh : Hist zs) (hf : In kB w (Lt w.heap.size) Af cf fs) (hfl : fs.length ≤ 65536)
    (h1 : fs.contains false = false) (h2 : 1 < NormP.nUsed zs) :
    Calls Try.prog 31 #[.slice A zs.length c, .slice Af fs.length cf] w fun e w' => e = .returned (.agg #[.slice A zs.length c]) ∧ Below w.heap.size w w' := by
  have hl := hh.1
  have hwb := withinB_of (most := 2147483648) hl hh.2
  have hul := used_len zs
  have HW := Lib.hid hwb
  have H1 := Lib.hid h1
  have HU := Lib.hid hul
  clear hwb h1 hul
  go_enter Try.func31, Try.ntmps31
  go_wp2_with fail
  have hb0 : Below w.heap.size w ((w.alloc (.cells #[.slice none 0 0] 65)).alloc (.cells #[.slice A zs.length c] 65)) := ((Below.refl _ _).alloc (Nat.le_refl _) _).alloc (by simp) _
  refine (within A c zs 2147483648 _ (h.below hb0 (by simp; omega)) hl).mono ?_
  rintro e w1 ⟨rfl, hb1⟩
  rw [HW.out]
  have c1 : w1.cell? ⟨w.heap.size + 1, 0, none⟩ = some (.slice A zs.length c) := by rw [hb1.cell (by simp)]; simp [go_sem]
  have c0 : w1.cell? ⟨w.heap.size, 0, none⟩ = some (.slice none 0 0) := by rw [hb1.cell (by first | (simp; done) | (simp; omega))]; simp [go_sem]
  have f0 : w1.frozen? ⟨w.heap.size, 0, none⟩ = false := by rw [hb1.frozen (by first | (simp; done) | (simp; omega))]; simp [go_sem]
  have hb01 := hb0.trans (hb1.mono (by simp; omega))
  have hs1 := hb1.size
  simp only [World.size_alloc] at hs1
  clear hb0
  go_wp2_with fail
  refine (containsFalse Af cf fs _ (hf.below hb01 hb01.size) hfl).mono ?_
  rintro e w2 ⟨rfl, rfl⟩
  rw [H1.out]
  go_wp2_with fail
  refine (must_if _ _ (by rfl)).mono ?_
  rintro e w2 ⟨rfl, rfl⟩
  go_wp2_with fail
  refine (used_calls A c zs _ (h.below hb01 hb01.size) (by omega)).mono ?_
  rintro e w2 ⟨v, rfl, hown, hb2⟩
  obtain ⟨Av, cv, rfl, hin⟩ := hown.sl
  rw [HU.out]
  clear hown hin hb1
  have c1' := (hb2.cell (p := ⟨w.heap.size + 1, 0, none⟩) (by show w.heap.size + 1 < w1.heap.size; omega)).trans c1
  have c0' := (hb2.cell (p := ⟨w.heap.size, 0, none⟩) (by show w.heap.size < w1.heap.size; omega)).trans c0
  have f0' := (hb2.frozen (p := ⟨w.heap.size, 0, none⟩) (by show w.heap.size < w1.heap.size; omega)).trans f0
  have hb02 := hb01.trans (hb2.mono hb01.size)
  clear hb2 c1 c0 f0
  go_wp2_with fail
  refine (must_if _ _ (by simp; omega)).mono ?_
  rintro e w3 ⟨rfl, rfl⟩
  go_wp2
  have q0 : (w2.setCell ⟨w.heap.size, 0, none⟩ (.slice A zs.length c)).cell? ⟨w.heap.size, 0, none⟩ = some (.slice A zs.length c) := World.cell?_setCell_same _ _ _ c0'
  exact bodyPost_ret (v := .agg #[.slice A zs.length c]) (by simp [results, Try.results31, go_sem, q0]) rfl ⟨rfl, hb02.setCell (Nat.le_refl _) _⟩
set_option maxHeartbeats 1000000 in
theorem asked_none (A Af : Option Addr) (c cf : Nat) (zs : List Int) (fs : List Bool) (w : World) (h : In (kN .i64) w (Lt w.heap.size) A c zs) (hh : Hist zs) (hf : In kB w (Lt w.heap.size) Af cf fs) (hfl : fs.length ≤ 65536)
    (h1 : fs.contains false = false) (h2 : ¬ 1 < NormP.nUsed zs) :
    Calls Try.prog 31 #[.slice A zs.length c, .slice Af fs.length cf] w fun e w' => e = .panicked (raised 22) ∧ Below w.heap.size w w' := by
  have hl := hh.1
  have hwb := withinB_of (most := 2147483648) hl hh.2
  have hul := used_len zs
  have HW := Lib.hid hwb
  have H1 := Lib.hid h1
  have HU := Lib.hid hul
  clear hwb h1 hul
  go_enter Try.func31, Try.ntmps31
  go_wp2_with fail
  have hb0 : Below w.heap.size w ((w.alloc (.cells #[.slice none 0 0] 65)).alloc (.cells #[.slice A zs.length c] 65)) := ((Below.refl _ _).alloc (Nat.le_refl _) _).alloc (by simp) _
  refine (within A c zs 2147483648 _ (h.below hb0 (by simp; omega)) hl).mono ?_
  rintro e w1 ⟨rfl, hb1⟩
  rw [HW.out]
  have c1 : w1.cell? ⟨w.heap.size + 1, 0, none⟩ = some (.slice A zs.length c) := by rw [hb1.cell (by simp)]; simp [go_sem]
  have c0 : w1.cell? ⟨w.heap.size, 0, none⟩ = some (.slice none 0 0) := by rw [hb1.cell (by first | (simp; done) | (simp; omega))]; simp [go_sem]
  have f0 : w1.frozen? ⟨w.heap.size, 0, none⟩ = false := by rw [hb1.frozen (by first | (simp; done) | (simp; omega))]; simp [go_sem]
  have hb01 := hb0.trans (hb1.mono (by simp; omega))
  have hs1 := hb1.size
  simp only [World.size_alloc] at hs1
  clear hb0
  go_wp2_with fail
  refine (containsFalse Af cf fs _ (hf.below hb01 hb01.size) hfl).mono ?_
  rintro e w2 ⟨rfl, rfl⟩
  rw [H1.out]
  go_wp2_with fail
  refine (must_if _ _ (by rfl)).mono ?_
  rintro e w2 ⟨rfl, rfl⟩
  go_wp2_with fail
  refine (used_calls A c zs _ (h.below hb01 hb01.size) (by omega)).mono ?_
  rintro e w2 ⟨v, rfl, hown, hb2⟩
  obtain ⟨Av, cv, rfl, hin⟩ := hown.sl
  rw [HU.out]
  clear hown hin hb1
  have c1' := (hb2.cell (p := ⟨w.heap.size + 1, 0, none⟩) (by show w.heap.size + 1 < w1.heap.size; omega)).trans c1
  have c0' := (hb2.cell (p := ⟨w.heap.size, 0, none⟩) (by show w.heap.size < w1.heap.size; omega)).trans c0
  have f0' := (hb2.frozen (p := ⟨w.heap.size, 0, none⟩) (by show w.heap.size < w1.heap.size; omega)).trans f0
  have hb02 := hb01.trans (hb2.mono hb01.size)
  clear hb2 c1 c0 f0
  go_wp2_with fail
  refine (must_else _ _ (by simp; omega)).mono ?_
  rintro e w3 ⟨rfl, rfl⟩
  go_wp2
  exact ⟨rfl, rfl, hb02⟩

set_option maxHeartbeats 1000000 in
theorem asked_arg (A Af : Option Addr) (c cf : Nat) (zs : List Int) (fs : List Bool) (w : World) (h : In (kN .i64) w (Lt w.heap.size) A c zs) (hh : Hist zs) (hf : In kB w (Lt w.heap.size) Af cf fs) (hfl : fs.length ≤ 65536)
    (h1 : fs.contains false = true) :
    Calls Try.prog 31 #[.slice A zs.length c, .slice Af fs.length cf] w fun e w' => e = .panicked (raised 2) ∧ Below w.heap.size w w' := by
  have hl := hh.1
  have hwb := withinB_of (most := 2147483648) hl hh.2
  have hul := used_len zs
  have HW := Lib.hid hwb
  have H1 := Lib.hid h1
  have HU := Lib.hid hul
  clear hwb h1 hul
  go_enter Try.func31, Try.ntmps31
  go_wp2_with fail
  have hb0 : Below w.heap.size w ((w.alloc (.cells #[.slice none 0 0] 65)).alloc (.cells #[.slice A zs.length c] 65)) := ((Below.refl _ _).alloc (Nat.le_refl _) _).alloc (by simp) _
  refine (within A c zs 2147483648 _ (h.below hb0 (by simp; omega)) hl).mono ?_
  rintro e w1 ⟨rfl, hb1⟩
  rw [HW.out]
  have c1 : w1.cell? ⟨w.heap.size + 1, 0, none⟩ = some (.slice A zs.length c) := by rw [hb1.cell (by simp)]; simp [go_sem]
  have c0 : w1.cell? ⟨w.heap.size, 0, none⟩ = some (.slice none 0 0) := by rw [hb1.cell (by first | (simp; done) | (simp; omega))]; simp [go_sem]
  have f0 : w1.frozen? ⟨w.heap.size, 0, none⟩ = false := by rw [hb1.frozen (by first | (simp; done) | (simp; omega))]; simp [go_sem]
  have hb01 := hb0.trans (hb1.mono (by simp; omega))
  have hs1 := hb1.size
  simp only [World.size_alloc] at hs1
  clear hb0
  go_wp2_with fail
  refine (containsFalse Af cf fs _ (hf.below hb01 hb01.size) hfl).mono ?_
  rintro e w2 ⟨rfl, rfl⟩
  rw [H1.out]
  go_wp2_with fail
  refine (must_else _ _ (by rfl)).mono ?_
  rintro e w2 ⟨rfl, rfl⟩
  go_wp2
  exact ⟨rfl, rfl, hb01⟩

end Go.Proofs.Ytjmkkcbilpidnaa.Limit
