/- The cost of doubled counts, of counts in another order. Plain Lean. -/
import Derived.Test.YtjmkkcbilpidnaaPm4
namespace Go.Proofs.Ytjmkkcbilpidnaa.Tally
open Go.Proofs.Ytjmkkcbilpidnaa.W Go.Proofs.Ytjmkkcbilpidnaa.Limit
set_option linter.unusedVariables false
set_option linter.unusedSimpArgs false

def term (T c : Int) : Int := c * ((Lg.lg T.toNat : Int) - Lg.lg c.toNat)
theorem cost_eq (zs : List Int) : cost zs = ((zs.filter fun c => decide (0 < c)).map (term zs.sum)).sum := by
  unfold cost costTo
  rw [List.take_length, ← used_weights, List.map_map]
  rfl
theorem perm_sum {a b : List Int} (h : a.Perm b) : a.sum = b.sum := by
  induction h with
  | nil => rfl
  | cons x _ ih => rw [List.sum_cons, List.sum_cons, ih]
  | swap x y l => simp only [List.sum_cons]; omega
  | trans _ _ h1 h2 => exact h1.trans h2
theorem cost_perm {zs zs' : List Int} (h : zs'.Perm zs) : cost zs' = cost zs := by
  rw [cost_eq, cost_eq, perm_sum h]
  exact perm_sum ((h.filter _).map _)
theorem term_dbl (T c : Int) (hT : 1 ≤ T) (hT2 : T ≤ 2305843009213693951) (hc : 0 < c) (hc2 : c ≤ 2305843009213693951) : term (2 * T) (2 * c) = 2 * term T c := by
  unfold term
  rw [show (2 * T).toNat = 2 * T.toNat by omega, show (2 * c).toNat = 2 * c.toNat by omega, Lg.lg_double _ (by omega) (by omega), Lg.lg_double _ (by omega) (by omega), Int.mul_assoc]
  have e : ((Lg.lg T.toNat + 256 : Nat) : Int) - ((Lg.lg c.toNat + 256 : Nat) : Int) = (Lg.lg T.toNat : Int) - (Lg.lg c.toNat : Int) := by
    rw [Int.natCast_add, Int.natCast_add]; exact Int.add_sub_add_right ..
  rw [e]
theorem cost_dbl {zs : List Int} (hh : Hist zs) : cost (dbl zs) = 2 * cost zs := by
  have hs := Hist.sum zs hh zs.length (Nat.le_refl _)
  rw [List.take_length] at hs
  have hl := hh.1
  rw [cost_eq, cost_eq, filter_dbl, dbl_sum]
  have key : ∀ l : List Int, (∀ c ∈ l, 0 < c ∧ c ≤ 2147483648 ∧ c ≤ zs.sum) → ((dbl l).map (term (2 * zs.sum))).sum = 2 * (l.map (term zs.sum)).sum := by
    intro l
    induction l with
    | nil => intro _; rfl
    | cons c l ih =>
      intro h
      have hc := h c (by simp)
      have ih' := ih (fun d hd => h d (by simp [hd]))
      show term (2 * zs.sum) (2 * c) + ((dbl l).map (term (2 * zs.sum))).sum = _
      rw [ih', term_dbl _ _ (by omega) (by omega) hc.1 (by omega), List.map_cons, List.sum_cons]
      omega
  refine key _ (fun c hc => ?_)
  rw [List.mem_filter] at hc
  have h1 := hh.2 c hc.1
  obtain ⟨j, hj, e⟩ := List.getElem_of_mem hc.1
  have h2 := total_pos hh hj
  rw [e] at h2
  exact ⟨by simpa using hc.2, h1.2, h2⟩
end Go.Proofs.Ytjmkkcbilpidnaa.Tally
