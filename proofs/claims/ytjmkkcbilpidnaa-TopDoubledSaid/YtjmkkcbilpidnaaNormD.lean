/- Doubled counts have the same table. Plain Lean. -/
import Derived.Test.YtjmkkcbilpidnaaPm4
namespace Go.Proofs.Ytjmkkcbilpidnaa.NormP
open Go.Proofs.Ytjmkkcbilpidnaa.Limit
set_option linter.unusedVariables false
set_option linter.unusedSimpArgs false

theorem dbl_getD (cs : List Int) (i : Nat) : (dbl cs).getD i 0 = 2 * cs.getD i 0 := by
  unfold dbl
  simp only [List.getD, List.getElem?_map]
  cases cs[i]? <;> simp
theorem nUsed_dbl (cs : List Int) : nUsed (dbl cs) = nUsed cs := by
  unfold nUsed dbl
  rw [List.countP_map]
  apply List.countP_congr
  intro c _
  simp; omega
theorem start_dbl (cs : List Int) (S T : Int) : start (dbl cs) S (2 * T) = start cs S T := by
  unfold start dbl
  rw [List.map_map]
  apply List.map_congr_left
  intro c _
  show (if 0 < 2 * c then max (2 * c * S / (2 * T)) 1 else 0) = _
  rw [Int.mul_assoc, Int.mul_ediv_mul_of_pos _ _ (by omega)]
  by_cases h : 0 < c
  · rw [if_pos h, if_pos (by omega)]
  · rw [if_neg h, if_neg (by omega)]
theorem above_dbl (cs : List Int) (S T : Int) (nm : List Int) (i : Nat) : above (dbl cs) S (2 * T) nm i = 2 * above cs S T nm i := by
  unfold above
  rw [dbl_getD, Int.mul_assoc, Int.mul_sub, Int.mul_left_comm (nm.getD i 0) 2 T]
theorem at_dbl (cs : List Int) (S T : Int) (up : Bool) (nm : List Int) : at_ (dbl cs) S (2 * T) up nm = at_ cs S T up nm := by
  unfold at_
  cases up with
  | true =>
    rw [if_pos rfl, if_pos rfl]
    refine far_congr _ _ _ _ nm.length (fun i _ => ?_) (fun i j _ _ => ?_) _ (Nat.le_refl _)
    · rw [dbl_getD]; simp only [decide_eq_decide]; omega
    · rw [above_dbl, above_dbl]; omega
  | false =>
    rw [if_neg (by simp), if_neg (by simp)]
    refine far_congr _ _ _ _ nm.length (fun i _ => rfl) (fun i j _ _ => ?_) _ (Nat.le_refl _)
    simp only [above_dbl]; omega
theorem step_dbl (cs : List Int) (S T : Int) (up : Bool) (nm : List Int) : step (dbl cs) S (2 * T) up nm = step cs S T up nm := by
  unfold step; rw [at_dbl]
theorem steps_dbl (cs : List Int) (S T : Int) (up : Bool) (nm : List Int) : ∀ q, steps (dbl cs) S (2 * T) up q nm = steps cs S T up q nm
  | 0 => rfl
  | q + 1 => by simp only [steps]; rw [steps_dbl cs S T up nm q, step_dbl]
theorem marked_dbl (cs : List Int) (S T : Int) (nm : List Int) (k : Nat) : marked (dbl cs) S (2 * T) nm k = marked cs S T nm k := by
  unfold marked
  apply List.map_congr_left
  intro i _
  rw [dbl_getD, Int.mul_assoc]
  by_cases h : i < k ∧ 0 < cs.getD i 0 ∧ cs.getD i 0 * S < T
  · rw [if_pos h, if_pos (by omega)]
  · rw [if_neg h, if_neg (by omega)]
theorem lastUsed_dbl (cs : List Int) (d : Nat) : ∀ k, lastUsed (dbl cs) d k = lastUsed cs d k
  | 0 => rfl
  | k + 1 => by
    simp only [lastUsed]
    rw [lastUsed_dbl cs d k, dbl_getD]
    by_cases h : 0 < cs.getD k 0
    · rw [if_pos h, if_pos (by omega)]
    · rw [if_neg h, if_neg (by omega)]
theorem norm_dbl (cs : List Int) (S T : Int) : norm (dbl cs) S (2 * T) = norm cs S T := by
  have hf : full (dbl cs) S (2 * T) = full cs S T := by
    unfold full left0
    simp only [start_dbl, steps_dbl]
  unfold norm
  rw [hf, marked_dbl, nUsed_dbl, lastUsed_dbl, show (dbl cs).length = cs.length from List.length_map ..]
end Go.Proofs.Ytjmkkcbilpidnaa.NormP
