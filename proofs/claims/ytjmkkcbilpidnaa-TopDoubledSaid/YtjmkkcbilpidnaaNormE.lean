/- norm.Normalize where it refuses; norm.Equal; slices.Equal at ints. -/
import Derived.Test.YtjmkkcbilpidnaaNorm
namespace Go.Proofs.Ytjmkkcbilpidnaa.Norm
open Go Go.RowKit Go.Proofs.Ytjmkkcbilpidnaa.W Go.Proofs.Ytjmkkcbilpidnaa.NormP Go.Proofs.Ytjmkkcbilpidnaa.Tally
set_option linter.unusedVariables false
set_option linter.unusedSimpArgs false

def Refused (zs : List Int) (lg : Int) : Prop := nUsed zs = 0 ∨ lg < 0 ∨ 9 < lg ∨ (2 : Int) ^ lg.toNat < nUsed zs
set_option maxRecDepth 100000 in
set_option maxHeartbeats 1000000 in
theorem normalize_no (A : Option Addr) (c : Nat) (zs : List Int) (lg : Int) (w : World) (h : In (kN .i64) w (Lt w.heap.size) A c zs) (hh : Hist zs) (hr : Refused zs lg) :
    Calls Try.prog 7 #[.slice A zs.length c, .int .i64 lg] w fun e w' => e = .returned (.tuple #[.agg #[.int .i64 0, .slice none 0 0], .int .i64 2]) ∧ Below w.heap.size w w' := by
  have hl := hh.1
  have hb0 := (((Below.refl w.heap.size w).alloc (Nat.le_refl _) (.cells #[.slice A zs.length c] 24)).alloc (by simp) (.cells #[.int .i64 0, .slice none 0 0] 30)).alloc (by simp; omega) (.cells #[.int .i64 zs.sum] 3)
  by_cases h0 : nUsed zs = 0
  · have hd : decide (0 < (nUsed zs : Int)) = false := by simp [h0]
    have HB := Lib.hid hb0
    have HD := Lib.hid hd
    clear h0 hb0 hd
    go_enter Try.func7, Try.ntmps7
    go_wp2_with fail
    refine (all A c zs (Lt w.heap.size) _ (h.below (((Below.refl _ _).alloc (Nat.le_refl _) _).alloc (by simp) _) (Nat.le_refl _)) hh).mono ?_
    rw [HD.out]
    rintro e w' ⟨rfl, rfl⟩
    go_wp2
    exact bodyPost_ret (v := .tuple #[.agg #[.int .i64 0, .slice none 0 0], .int .i64 2]) (by simp [results, Try.results7, go_sem]) rfl ⟨rfl, HB.out⟩
  · have hd : decide (0 < (nUsed zs : Int)) = true := by simp; omega
    have HD := Lib.hid hd
    clear hd
    by_cases h1 : lg < 0
    · have HB := Lib.hid hb0
      clear h0 hb0
      go_enter Try.func7, Try.ntmps7
      go_wp2_with fail
      refine (all A c zs (Lt w.heap.size) _ (h.below (((Below.refl _ _).alloc (Nat.le_refl _) _).alloc (by simp) _) (Nat.le_refl _)) hh).mono ?_
      rw [HD.out]
      rintro e w' ⟨rfl, rfl⟩
      go_wp2
      exact bodyPost_ret (v := .tuple #[.agg #[.int .i64 0, .slice none 0 0], .int .i64 2]) (by simp [results, Try.results7, go_sem]) rfl ⟨rfl, HB.out⟩
    · by_cases h2 : 9 < lg
      · have HB := Lib.hid hb0
        clear h0 hb0
        go_enter Try.func7, Try.ntmps7
        go_wp2_with fail
        refine (all A c zs (Lt w.heap.size) _ (h.below (((Below.refl _ _).alloc (Nat.le_refl _) _).alloc (by simp) _) (Nat.le_refl _)) hh).mono ?_
        rw [HD.out]
        rintro e w' ⟨rfl, rfl⟩
        go_wp2
        exact bodyPost_ret (v := .tuple #[.agg #[.int .i64 0, .slice none 0 0], .int .i64 2]) (by simp [results, Try.results7, go_sem]) rfl ⟨rfl, HB.out⟩
      · have h3 : (2 : Int) ^ lg.toNat < nUsed zs := by rcases hr with hr | hr | hr | hr <;> first | exact hr | omega
        obtain ⟨g, rfl⟩ := Int.eq_ofNat_of_zero_le (show 0 ≤ lg by omega)
        simp only [Int.toNat_natCast] at h3
        have hp : (2 : Int) ^ g ≤ 512 := by
          have : 2 ^ g ≤ 2 ^ 9 := Nat.pow_le_pow_right (by omega) (by omega)
          have h4 : ((2 ^ g : Nat) : Int) = (2 : Int) ^ g := by simp
          omega
        have hp1 : (1 : Int) ≤ 2 ^ g := by
          have : 1 ≤ 2 ^ g := Nat.two_pow_pos g
          have h4 : ((2 ^ g : Nat) : Int) = (2 : Int) ^ g := by simp
          omega
        have HB := Lib.hid hb0
        clear h0 hb0
        go_enter Try.func7, Try.ntmps7
        go_wp2_with fail
        refine (all A c zs (Lt w.heap.size) _ (h.below (((Below.refl _ _).alloc (Nat.le_refl _) _).alloc (by simp) _) (Nat.le_refl _)) hh).mono ?_
        rw [HD.out]
        rintro e w' ⟨rfl, rfl⟩
        go_wp2
        exact bodyPost_ret (v := .tuple #[.agg #[.int .i64 0, .slice none 0 0], .int .i64 2]) (by simp [results, Try.results7, go_sem]) rfl ⟨rfl, HB.out⟩

theorem cells_of {w : World} {S : Nat → Prop} {b o c : Nat} {xs : List Int} (h : In (kN .i64) w S (some ⟨b, o, none⟩) c xs) : ∀ j, j < xs.length → w.cell? ⟨b, o + j, none⟩ = some (.int .i64 (xs.getD j 0)) := by
  intro j hj
  obtain ⟨b', o', he, _, hc⟩ := h.num hj
  injection he with he
  injection he with e1 e2
  subst e1; subst e2
  rw [getD_lt xs 0 hj]; exact hc
theorem equal (A1 A2 : Option Addr) (c1 c2 : Nat) (xs ys : List Int) (w : World) {S1 S2 : Nat → Prop} (h1 : In (kN .i64) w S1 A1 c1 xs) (h2 : In (kN .i64) w S2 A2 c2 ys) (hx : xs.length ≤ 65536) (hy : ys.length ≤ 65536) :
    Calls Try.prog 23 #[.slice A1 xs.length c1, .slice A2 ys.length c2] w fun e w' => e = .returned (.bool (xs == ys)) ∧ ∃ q, w' = w.drewN q := by
  by_cases hn : xs.length = ys.length
  · by_cases h0 : xs.length = 0
    · have e1 : xs = [] := List.eq_nil_of_length_eq_zero h0
      have e2 : ys = [] := List.eq_nil_of_length_eq_zero (by omega)
      subst e1; subst e2
      exact (Try.slices_Equal_int_empty A1 A2 c1 0 c2 w (by omega)).mono fun e w' ⟨he, hw⟩ => ⟨by rw [he]; rfl, 0, by rw [hw]; rfl⟩
    · obtain ⟨b1, o1, rfl, _, _⟩ := h1.num (j := 0) (by omega)
      obtain ⟨b2, o2, rfl, _, _⟩ := h2.num (j := 0) (by omega)
      refine (Try.slices_Equal_int b1 o1 xs.length c1 b2 o2 ys.length c2 xs ys w (Nat.le_refl _) (Nat.le_refl _) (by omega) (by omega) (cells_of h1) (cells_of h2)).mono fun e w' ⟨he, hw⟩ => ⟨?_, hw⟩
      rw [he, List.take_length, List.take_length]
  · refine (Try.slices_Equal_int_lens A1 A2 xs.length c1 ys.length c2 w hn).mono fun e w' ⟨he, hw⟩ => ⟨?_, 0, by rw [hw]; rfl⟩
    rw [he]
    have : (xs == ys) = false := by
      rw [beq_eq_false_iff_ne]
      intro e; rw [e] at hn; exact hn rfl
    rw [this]

set_option maxHeartbeats 400000 in
theorem equal_tables (A1 A2 : Option Addr) (c1 c2 : Nat) (xs ys : List Int) (l1 l2 : Int) (w : World) (h1 : In (kN .i64) w (Lt w.heap.size) A1 c1 xs) (h2 : In (kN .i64) w (Lt w.heap.size) A2 c2 ys) (hx : xs.length ≤ 65536) (hy : ys.length ≤ 65536) :
    Calls Try.prog 8 #[.agg #[.int .i64 l1, .slice A1 xs.length c1], .agg #[.int .i64 l2, .slice A2 ys.length c2]] w fun e w' => e = .returned (.bool (l1 == l2 && xs == ys)) ∧ Below w.heap.size w w' := by
  by_cases hl : l1 = l2
  · subst hl
    go_enter Try.func8, Try.ntmps8
    go_wp2_with fail
    refine (equal A1 A2 c1 c2 xs ys _ (h1.below (((Below.refl _ _).alloc (Nat.le_refl _) _).alloc (by simp) _) (Nat.le_refl _)) (h2.below (((Below.refl _ _).alloc (Nat.le_refl _) _).alloc (by simp) _) (Nat.le_refl _)) hx hy).mono ?_
    rintro e w' ⟨rfl, q, rfl⟩
    go_wp2
    go_ret
    exact ⟨ret_bool (by simp), bdrewN (((Below.refl _ _).alloc (Nat.le_refl _) _).alloc (by simp) _) q⟩
  · have hb : (l1 == l2) = false := by simpa using hl
    go_enter Try.func8, Try.ntmps8
    go_wp2
    go_ret
    exact ⟨ret_bool (by simp [hb]), ((Below.refl _ _).alloc (Nat.le_refl _) _).alloc (by simp) _⟩
end Go.Proofs.Ytjmkkcbilpidnaa.Norm
