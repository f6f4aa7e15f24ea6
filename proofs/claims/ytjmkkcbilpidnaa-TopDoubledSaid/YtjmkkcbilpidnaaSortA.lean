/- The walks of the stable sort (library text): exchanges of ranges. -/
import Derived.Test.YtjmkkcbilpidnaaWords
import Derived.Test.YtjmkkcbilpidnaaProg
import Derived.Test.YtjmkkcbilpidnaaSortP
import Derived.BigRegion
import Derived.CellFam
import Derived.Deep.Draws
namespace Go.Proofs.Ytjmkkcbilpidnaa.SortA
open Go Go.RowKit Go.Proofs.Ytjmkkcbilpidnaa.W Go.Proofs.Ytjmkkcbilpidnaa.SortP
set_option linter.unusedVariables false
set_option linter.unusedSimpArgs false

/-- The memory while a row of numbers is sorted. -/
structure Sw (D : Int → Prop) (w0 : World) (g N : Nat) (xs : List Int) (w : World) : Prop where
  gr : w0.grownBy w (some g)
  row : Row .i64 3 w g xs
  len : xs.length = N
  dom : ∀ i, i < N → D (xs.getD i 0)
section
variable {D : Int → Prop} {w0 w : World} {g N : Nat} {xs : List Int}
theorem Sw.cell (h : Sw D w0 g N xs w) {t : Nat} (ht : t < N) : w.cell? ⟨g, t, none⟩ = some (.int .i64 (xs.getD t 0)) := by
  have h1 : t < xs.length := by rw [h.len]; exact ht
  rw [getD_lt xs 0 h1]; exact h.row.cell h1
theorem Sw.drewN (h : Sw D w0 g N xs w) (q : Nat) : Sw D w0 g N xs (w.drewN q) :=
  ⟨⟨h.gr.os, h.gr.tape, h.gr.output, h.gr.size, h.gr.block⟩, h.row.drewN q, h.len, h.dom⟩
theorem Sw.drew (h : Sw D w0 g N xs w) : Sw D w0 g N xs w.drew :=
  ⟨⟨h.gr.os, h.gr.tape, h.gr.output, h.gr.size, h.gr.block⟩, h.row.drewN 1, h.len, h.dom⟩
theorem Sw.swp (h : Sw D w0 g N xs w) {i j : Nat} (hi : i < N) (hj : j < N) :
    Sw D w0 g N (swp xs i j) ((w.setCell ⟨g, i, none⟩ (.int .i64 (xs.getD j 0))).setCell ⟨g, j, none⟩ (.int .i64 (xs.getD i 0))) := by
  refine ⟨⟨h.gr.os, h.gr.tape, h.gr.output, by simpa using h.gr.size, fun b hb hne => ?_⟩, (h.row.set i _).set j _, by rw [swp_len, h.len], fun t ht => ?_⟩
  · have hne' : b ≠ g := fun e => hne (by rw [e])
    rw [Below.heap_setCell _ _ _ _ hne', Below.heap_setCell _ _ _ _ hne']
    exact h.gr.block b hb hne
  · rw [swp_at _ _ _ _ (by rw [h.len]; exact hi) (by rw [h.len]; exact hj)]
    split
    · exact h.dom i hi
    · split
      · exact h.dom j hj
      · exact h.dom t ht
end

set_option maxHeartbeats 1000000 in
theorem swapRange (D : Int → Prop) (g c N a b n : Nat) (f : Value) (xs : List Int) (w0 w : World) (h : Sw D w0 g N xs w) (hN : N ≤ 65536) (ha : a + n ≤ b) (hb : b + n ≤ N) :
    Calls Try.prog 60 #[.slice (some ⟨g, 0, none⟩) N c, .int .i64 a, .int .i64 b, .int .i64 n, f] w fun e w' => e = .returned (.tuple #[]) ∧ Sw D w0 g N (swapR xs a b n) w' := by
  go_enter Try.func60, Try.ntmps60
  have H := Lib.hid h
  clear h
  go_wp2
  go_loopw [10] (fun i wr => ∃ k : Nat, k ≤ n ∧ i = .int .i64 k ∧ Hid (Sw D w0 g N (swapR xs a b k) wr)) (fun i _ => n - (intOf i).toNat)
  case atStart => exact ⟨0, Nat.zero_le _, rfl, H⟩
  case round =>
    clear H
    obtain ⟨k, hk, rfl, H⟩ := hrel
    by_cases hlt : k < n
    · obtain ⟨u, hu⟩ : ∃ u, u = (swapR xs a b k).getD (a + k) 0 := ⟨_, rfl⟩
      obtain ⟨v, hv⟩ : ∃ v, v = (swapR xs a b k).getD (b + k) 0 := ⟨_, rfl⟩
      have hc1 : wr.cell? ⟨g, a + k, none⟩ = some (.int .i64 u) := by rw [hu]; exact H.out.cell (by omega)
      have hc2 : wr.cell? ⟨g, b + k, none⟩ = some (.int .i64 v) := by rw [hv]; exact H.out.cell (by omega)
      have hf1 : wr.frozen? ⟨g, a + k, none⟩ = false := H.out.row.free _
      have hf2 : wr.frozen? ⟨g, b + k, none⟩ = false := H.out.row.free _
      have hne : a ≠ b := by omega
      have hne2 : ¬ a = b := hne
      have hlt2 : a < b := by omega
      have HU := Lib.hid hu
      have HV := Lib.hid hv
      clear hu hv
      go_wp2
      go_region
      all_goals go_wp2
      all_goals go_roundw
      case rel => exact ⟨k + 1, by omega, by go_num, by have := (H.out.swp (i := a + k) (j := b + k) (by omega) (by omega)).drew; rw [← HU.out, ← HV.out] at this; exact this⟩
      case measure => simp [intOf]; omega
    · have hkn : k = n := by omega
      subst hkn
      go_wp2
      go_end0
      exact ⟨rfl, H.out⟩

set_option maxHeartbeats 1000000 in
theorem rotate (D : Int → Prop) (g c N a m b : Nat) (f : Value) (xs : List Int) (w0 w : World) (h : Sw D w0 g N xs w) (hN : N ≤ 65536) (ha : a < m) (hm : m < b) (hb : b ≤ N) :
    Calls Try.prog 59 #[.slice (some ⟨g, 0, none⟩) N c, .int .i64 a, .int .i64 m, .int .i64 b, f] w fun e w' => e = .returned (.tuple #[]) ∧ ∃ zs, Sw D w0 g N zs w' ∧ Rot a m b xs zs ∧ Shuf a b xs zs := by
  go_enter Try.func59, Try.ntmps59
  have H := Lib.hid h
  clear h
  go_wp2
  go_loopw [10, 11] (fun vi vj wr => ∃ (i j : Nat) (ys : List Int), 0 < i ∧ 0 < j ∧ i ≤ m - a ∧ j ≤ b - m ∧ vi = .int .i64 i ∧ vj = .int .i64 j ∧ Hid (Sw D w0 g N ys wr) ∧ Hid (Shuf a b xs ys) ∧ Hid (∀ zs, Rot (m - i) m (m + j) ys zs → Rot a m b xs zs)) (fun vi vj _ => (intOf vi).toNat + (intOf vj).toNat)
  case atStart => exact ⟨m - a, b - m, xs, by omega, by omega, Nat.le_refl _, Nat.le_refl _, by go_num, by go_num, H, .refl, by intro zs hz; rw [show m - (m - a) = a by omega, show m + (b - m) = b by omega] at hz; exact hz⟩
  case round =>
    clear H
    obtain ⟨i, j, ys, hi0, hj0, hia, hjb, rfl, rfl, H, HS, HR⟩ := hrel
    have e1 : ((m - i : Nat) : Int) = (m : Int) - (i : Int) := by omega
    have e2 : ((m + j - i : Nat) : Int) = (m : Int) + (j : Int) - (i : Int) := by omega
    by_cases hij : i = j
    · subst hij
      go_wp2_with fail
      refine (calls_args (swapRange D g c N (m - i) m i f ys w0 _ H.out hN (by omega) (by omega)) (by rw [e1])).mono ?_
      rintro e w' ⟨rfl, h2⟩
      have H2 := Lib.hid h2
      clear h2
      go_wp2
      go_end0
      refine ⟨rfl, _, H2.out, HR.out _ (Rot.equal ys m i (by omega) (by have := H.out.len; omega)), HS.out.trans (swapR_shuf _ _ _ _ _ (by omega) (by omega) (by have := H.out.len; omega) _ (by omega) (by omega))⟩
    · by_cases hgt : j < i
      · go_wp2_with fail
        refine (calls_args (swapRange D g c N (m - i) m j f ys w0 _ H.out hN (by omega) (by omega)) (by rw [e1])).mono ?_
        rintro e w' ⟨rfl, h2⟩
        have H2 := Lib.hid h2
        clear h2
        go_wp2
        go_roundw
        case rel => exact ⟨i - j, j, _, by omega, hj0, by omega, hjb, by go_num, rfl, H2, HS.out.trans (swapR_shuf _ _ _ _ _ (by omega) (by omega) (by have := H.out.len; omega) _ (by omega) (by omega)), fun zs hz => HR.out zs (Rot.left hgt (by omega) (by have := H.out.len; omega) hz)⟩
        case measure => simp [intOf]; omega
      · go_wp2_with fail
        refine (calls_args (swapRange D g c N (m - i) (m + j - i) i f ys w0 _ H.out hN (by omega) (by omega)) (by rw [e1, e2])).mono ?_
        rintro e w' ⟨rfl, h2⟩
        have H2 := Lib.hid h2
        clear h2
        go_wp2
        go_roundw
        case rel => exact ⟨i, j - i, _, hi0, by omega, hia, by omega, rfl, by go_num, H2, HS.out.trans (swapR_shuf _ _ _ _ _ (by omega) (by omega) (by have := H.out.len; omega) _ (by omega) (by omega)), fun zs hz => HR.out zs (Rot.right (by omega) (by omega) (by have := H.out.len; omega) hz)⟩
        case measure => simp [intOf]; omega
end Go.Proofs.Ytjmkkcbilpidnaa.SortA
