/- The weights of the used symbols, sorted: one list for all orders of the counts. -/
import Derived.Test.YtjmkkcbilpidnaaPm3
namespace Go.Proofs.Ytjmkkcbilpidnaa.Limit
open Go.Proofs.Ytjmkkcbilpidnaa.W Go.Proofs.Ytjmkkcbilpidnaa.Tally Go.Proofs.Ytjmkkcbilpidnaa.SortP
set_option linter.unusedVariables false
set_option linter.unusedSimpArgs false

theorem sorted_pair {key : Int → Int} {us : List Int} (h : Sorted key us 0 us.length) : (us.map key).Pairwise (· ≤ ·) := by
  rw [List.pairwise_iff_getElem]
  intro i j hi hj hij
  simp only [List.length_map] at hi hj
  have := h i j (by omega) hij hj
  rw [getD_lt _ _ hi, getD_lt _ _ hj] at this
  simpa using this
theorem sorted_unique : ∀ {l1 l2 : List Int}, l1.Perm l2 → l1.Pairwise (· ≤ ·) → l2.Pairwise (· ≤ ·) → l1 = l2
  | [], l2, h, _, _ => (List.nil_perm.1 h).symm
  | a :: l1, [], h, _, _ => absurd h (by intro h; have := h.length_eq; simp at this)
  | a :: l1, b :: l2, h, h1, h2 => by
    rw [List.pairwise_cons] at h1 h2
    have e : a = b := by
      have ha : a ∈ b :: l2 := h.mem_iff.1 (List.mem_cons_self ..)
      have hb : b ∈ a :: l1 := h.mem_iff.2 (List.mem_cons_self ..)
      rcases List.mem_cons.1 ha with ha | ha
      · exact ha
      · rcases List.mem_cons.1 hb with hb | hb
        · exact hb.symm
        · have := h1.1 b hb
          have := h2.1 a ha
          omega
    subst e
    rw [sorted_unique (List.Perm.cons_inv h) h1.2 h2.2]
/-- the counts of the used symbols are the positive counts -/
theorem used_weights (zs : List Int) : (used zs).map (fun s => zs.getD s.toNat 0) = zs.filter fun c => decide (0 < c) := by
  have h : ∀ k, k ≤ zs.length → (usedTo zs k).map (fun s => zs.getD s.toNat 0) = (zs.take k).filter fun c => decide (0 < c) := by
    intro k
    induction k with
    | zero => intro _; rfl
    | succ k ih =>
      intro hk
      rw [List.take_succ_eq_append_getElem (by omega), List.filter_append]
      by_cases hp : 0 < zs[k]
      · rw [usedTo_yes zs k (by omega) hp, List.map_append, ih (by omega)]
        simp [hp, List.getElem?_eq_getElem (show k < zs.length by omega)]
      · rw [usedTo_no zs k (by omega) hp, ih (by omega)]
        simp [hp]
  have := h zs.length (Nat.le_refl _)
  rwa [List.take_length] at this
/-- us: the used symbols of zs, sorted by their counts -/
def Us (zs us : List Int) : Prop := us.Perm (used zs) ∧ Sorted (fun s => zs.getD s.toNat 0) us 0 us.length
def wsOf (zs us : List Int) : List Int := us.map fun s => zs.getD s.toNat 0
theorem wsOf_perm {zs us : List Int} (h : Us zs us) : (wsOf zs us).Perm (zs.filter fun c => decide (0 < c)) := by
  rw [← used_weights]; exact h.1.map _
theorem ws_same {zs zs' us us' : List Int} (h : Us zs us) (h' : Us zs' us') (hp : zs'.Perm zs) : wsOf zs' us' = wsOf zs us :=
  sorted_unique ((wsOf_perm h').trans ((hp.filter _).trans (wsOf_perm h).symm)) (sorted_pair h'.2) (sorted_pair h.2)
theorem filter_dbl : ∀ (zs : List Int), (dbl zs).filter (fun c => decide (0 < c)) = dbl (zs.filter fun c => decide (0 < c))
  | [] => rfl
  | z :: zs => by
    have ih := filter_dbl zs
    show List.filter _ (2 * z :: dbl zs) = _
    by_cases c : 0 < z
    · rw [List.filter_cons_of_pos (by simp; omega), List.filter_cons_of_pos (by simpa using c), ih]; rfl
    · rw [List.filter_cons_of_neg (by simp; omega), List.filter_cons_of_neg (by simpa using c), ih]
theorem ws_twice {zs us us' : List Int} (h : Us zs us) (h' : Us (dbl zs) us') : wsOf (dbl zs) us' = dbl (wsOf zs us) := by
  refine sorted_unique ((wsOf_perm h').trans ?_) (sorted_pair h'.2) ?_
  · rw [filter_dbl]; exact ((wsOf_perm h).symm).map _
  · unfold dbl
    rw [List.pairwise_map]
    exact (sorted_pair h.2).imp (fun h => by omega)
end Go.Proofs.Ytjmkkcbilpidnaa.Limit
