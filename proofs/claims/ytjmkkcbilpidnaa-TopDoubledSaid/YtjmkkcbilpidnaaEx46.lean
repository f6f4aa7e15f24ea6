/- The examples of counts, norms and code lengths: counted46. -/
import Derived.Test.YtjmkkcbilpidnaaOut
namespace Go.Proofs.Ytjmkkcbilpidnaa.Limit
open Go Go.RowKit Go.Proofs.Ytjmkkcbilpidnaa.W Go.Proofs.Ytjmkkcbilpidnaa.Tally Go.Proofs.Ytjmkkcbilpidnaa.SortA Go.Proofs.Ytjmkkcbilpidnaa.SortP
set_option linter.unusedVariables false
set_option linter.unusedSimpArgs false

theorem lit_in (w : World) (zs : List Int) (hz : zs.length ≤ 65536) : In (kN .i64) (w.alloc (.cells (zs.map (Value.int .i64)).toArray 3)) (Lt (w.heap.size + 1)) (some ⟨w.heap.size, 0, none⟩) zs.length zs := by
  have hr : Row .i64 3 (w.alloc (.cells (zs.map (Value.int .i64)).toArray 3)) w.heap.size zs :=
    ⟨_, heap_alloc_new w _, by simp, by simp; unfold maxLen; omega, fun i x hx => by simp [hx]⟩
  have := hr.inn (c := zs.length) (Nat.le_refl _) (by unfold maxLen; omega)
  simpa using this
theorem ex_cost : cost [2, 1, 1] = 1536 := by decide +kernel
theorem ex_log : ((Lg.lg (3 : Int).toNat : Nat) : Int) = 384 := by decide +kernel
theorem ex_hist1 : Hist [2, 1, 1] := by unfold Hist; decide
theorem ex_hist2 : Hist [3, 1] := by unfold Hist; decide
theorem ex_hist3 : Hist [5, 2, 1, 1] := by unfold Hist; decide
theorem ex_norm {L E : Int} {xs : List Int} (h : NormIs [3, 1] 2 L xs E) : L = 2 ∧ xs = [3, 1] ∧ E = 0 := by
  have h1 : ¬ Norm.Refused [3, 1] 2 := by unfold Norm.Refused; decide
  have h2 : NormP.norm [3, 1] (2 ^ (2 : Int).toNat) ([3, 1] : List Int).sum = [3, 1] := by decide +kernel
  rcases h with ⟨a, _⟩ | ⟨a, b, c, d⟩
  · exact absurd a h1
  · exact ⟨b, by rw [c, h2], d⟩
theorem ex_sort : wsort [5, 2, 1, 1] = [1, 1, 2, 5] := by
  refine sorted_unique ((wsort_prm _).trans ?_) (wsort_srt _) (by decide)
  decide
theorem ex_minE : minE [5, 2, 1, 1] 2 = 0 := by decide
theorem ex_minK : minK [5, 2, 1, 1] 2 = 18 := by
  unfold minK
  rw [if_pos ex_minE, ex_sort]
  show wcost [1, 1, 2, 5] 1 = 18
  simp [wcost, wrow, wprs, wmrg_cons, wmrg_nil, nil_wmrg]

set_option maxHeartbeats 2000000 in
theorem counted46 (hso : Sorts) (w : World) :
    Calls Try.prog 4 #[] w fun e w' => e = .returned (.bool true) ∧ Below w.heap.size w w' := by
  have HSO := Lib.hid hso
  clear hso
  go_enter Try.func4, Try.ntmps4
  go_wp2_with fail
  refine (log2 3 _ (by omega) (by omega)).mono ?_
  rintro e w1 ⟨rfl, rfl⟩
  rw [ex_log]
  go_wp2_with fail
  have h1 := lit_in w [2, 1, 1] (by decide)
  refine (cost_calls _ _ [2, 1, 1] _ (h1.sub (Lt.le (by simp))) ex_hist1).mono ?_
  rintro e w1 ⟨rfl, hb1⟩
  rw [ex_cost]
  have HB1 : Hid (Below w.heap.size w w1) := ((Below.refl _ _).alloc (Nat.le_refl _) _).trans (hb1.mono (by simp))
  clear hb1 h1
  go_wp2_with fail
  have h1 := lit_in w1 [3, 1] (by decide)
  refine (normalize_any _ _ [3, 1] 2 _ (h1.sub (Lt.le (by simp))) ex_hist2).mono ?_
  rintro e w2 ⟨L, xs, E, v, rfl, hn, hs, hxl, hb2⟩
  obtain ⟨rfl, rfl, rfl⟩ := ex_norm hn
  obtain ⟨A, c, rfl, hin⟩ := hs
  obtain ⟨b, o, rfl, hlt, _⟩ := hin.num (j := 0) (by decide)
  have hcs := Norm.cells_of hin
  have HB2 : Hid (Below w.heap.size w w2) := (HB1.out.alloc HB1.out.size _).trans (hb2.mono (by have := HB1.out.size; simp; omega))
  have k0 : w2.cell? ⟨b, o, none⟩ = some (.int .i64 3) := hcs 0 (by decide)
  have k1 : w2.cell? ⟨b, o + 1, none⟩ = some (.int .i64 1) := hcs 1 (by decide)
  have hc2 : (2 : Int) ≤ (c : Int) := by have := hin.1; simp at this; omega
  have hbl : b < w2.heap.size := hlt
  clear hb2 h1 hn hxl hin hcs hlt
  simp only [List.length_cons, List.length_nil]
  go_wp2_with fail
  have h1 := lit_in (w2.alloc (.cells #[.int .i64 2, .slice (some ⟨b, o, none⟩) 2 c] 30)) [5, 2, 1, 1] (by decide)
  have hsz2 : (w2.alloc (.cells #[.int .i64 2, .slice (some ⟨b, o, none⟩) 2 c] 30)).heap.size = w2.heap.size + 1 := by simp
  rw [hsz2] at h1
  refine (minCost_any HSO.out _ _ [5, 2, 1, 1] 2 _ (h1.sub (Lt.le (by simp))) ex_hist3 (by decide) (by decide)).mono ?_
  rintro e w3 ⟨rfl, _, hb3⟩
  rw [ex_minE, ex_minK]
  have hb3' := hb3
  have m0 : w3.cell? ⟨b, o, none⟩ = some (.int .i64 3) := by rw [hb3.cell (by simp; omega)]; simp [go_sem, hbl]; exact k0
  have m1 : w3.cell? ⟨b, o + 1, none⟩ = some (.int .i64 1) := by rw [hb3.cell (by simp; omega)]; simp [go_sem, hbl]; exact k1
  have m2 : w3.cell? ⟨w2.heap.size, 0, none⟩ = some (.int .i64 2) := by rw [hb3.cell (by simp; omega)]; simp [go_sem]
  have m3 : w3.cell? ⟨w2.heap.size, 1, none⟩ = some (.slice (some ⟨b, o, none⟩) 2 c) := by rw [hb3.cell (by simp; omega)]; simp [go_sem]
  have HB3 : Hid (Below w.heap.size w w3) := ((HB2.out.alloc HB2.out.size _).alloc (by have := HB2.out.size; simp; omega) _).trans (hb3.mono (by have := HB2.out.size; simp; omega))
  clear hb3 hb3' k0 k1 h1
  go_wp2
  go_ret
  exact ⟨rfl, HB3.out⟩
end Go.Proofs.Ytjmkkcbilpidnaa.Limit
