/- Package-merge, in plain Lean: lengths as counts, the cost as a sum of weights, rows of weights alone. -/
import Derived.Test.YtjmkkcbilpidnaaPm
import Derived.Test.YtjmkkcbilpidnaaLimitCost
namespace Go.Proofs.Ytjmkkcbilpidnaa.Limit
open Go.Proofs.Ytjmkkcbilpidnaa.W Go.Proofs.Ytjmkkcbilpidnaa.Tally
set_option linter.unusedVariables false
set_option linter.unusedSimpArgs false

def inc (out : List Int) (s : Int) : List Int := out.set s.toNat (out.getD s.toNat 0 + 1)
def incs (out ss : List Int) : List Int := ss.foldl inc out
theorem inc_len (out : List Int) (s : Int) : (inc out s).length = out.length := by simp [inc]
theorem incs_len (ss : List Int) : ∀ out, (incs out ss).length = out.length := by
  induction ss with
  | nil => intro out; rfl
  | cons s ss ih => intro out; show (incs (inc out s) ss).length = _; rw [ih, inc_len]
theorem incs_app (out a b : List Int) : incs out (a ++ b) = incs (incs out a) b := List.foldl_append
theorem inc_at (out : List Int) (j i : Nat) (hj : j < out.length) : (inc out (j : Int)).getD i 0 = out.getD i 0 + if i = j then 1 else 0 := by
  unfold inc
  rw [Int.toNat_natCast]
  by_cases e : i = j
  · subst e
    simp [List.getD, List.getElem?_set, hj]
  · rw [if_neg e]
    simp [List.getD, List.getElem?_set, Ne.symm e]
theorem incs_at (ss : List Int) : ∀ (out : List Int) (i : Nat), (∀ s ∈ ss, ∃ j : Nat, s = j ∧ j < out.length) → (incs out ss).getD i 0 = out.getD i 0 + (ss.count (i : Int) : Int) := by
  induction ss with
  | nil => intro out i _; simp [incs]
  | cons s ss ih =>
    intro out i h
    obtain ⟨j, rfl, hj⟩ := h s (by simp)
    show (incs (inc out (j : Int)) ss).getD i 0 = _
    rw [ih _ _ (fun s hs => by rw [inc_len]; exact h s (by simp [hs])), inc_at _ _ _ hj, List.count_cons]
    by_cases e : i = j
    · subst e; simp; omega
    · have : ¬ ((j : Int) == (i : Int)) = true := by simp; omega
      rw [if_neg e, if_neg this]; simp
theorem map_add_sum (us : List Int) (g h : Int → Int) : (us.map fun u => g u + h u).sum = (us.map g).sum + (us.map h).sum := by
  induction us with
  | nil => rfl
  | cons u us ih => simp only [List.map_cons, List.sum_cons, ih]; omega
theorem one_sum (f : Int → Int) (s : Int) : ∀ (us : List Int), us.Nodup → s ∈ us → (us.map fun u => if s = u then f u else 0).sum = f s
  | [], _, h => by simp at h
  | u :: us, hn, h => by
    rw [List.nodup_cons] at hn
    rw [List.map_cons, List.sum_cons]
    by_cases e : s = u
    · subst e
      have : (us.map fun u => if s = u then f u else 0).sum = 0 := by
        have hz : ∀ (l : List Int), s ∉ l → (l.map fun u => if s = u then f u else 0).sum = 0 := by
          intro l
          induction l with
          | nil => intro _; rfl
          | cons v l ih =>
            intro hv
            rw [List.mem_cons, not_or] at hv
            rw [List.map_cons, List.sum_cons, if_neg hv.1, ih hv.2]; rfl
        exact hz us hn.1
      rw [if_pos rfl, this]; omega
    · rw [if_neg e, one_sum f s us hn.2 (by
        rcases List.mem_cons.1 h with h | h
        · exact absurd h e
        · exact h)]
      omega
theorem sum_count (f : Int → Int) (us : List Int) (hn : us.Nodup) : ∀ (ss : List Int), (∀ s ∈ ss, s ∈ us) → (us.map fun u => f u * (ss.count u : Int)).sum = (ss.map f).sum
  | [], _ => by
    have hz : ∀ l : List Int, (l.map fun u => f u * (([] : List Int).count u : Int)).sum = 0 := by
      intro l
      induction l with
      | nil => rfl
      | cons u l ih => rw [List.map_cons, List.sum_cons, ih]; simp
    exact hz us
  | s :: ss, h => by
    have ih := sum_count f us hn ss (fun x hx => h x (by simp [hx]))
    have e : (us.map fun u => f u * ((s :: ss).count u : Int)) = us.map fun u => f u * (ss.count u : Int) + if s = u then f u else 0 := by
      apply List.map_congr_left
      intro u _
      rw [List.count_cons]
      by_cases c : s = u
      · subst c; simp [Int.mul_add]
      · rw [if_neg c, if_neg (by simpa using c)]; simp
    rw [e, map_add_sum, ih, one_sum f s us hn (h s (by simp)), List.map_cons, List.sum_cons]; omega

/-- each package's weight is its symbols' -/
def Wt (f : Int → Int) (row : List PK) : Prop := ∀ p ∈ row, p.1 = (p.2.map f).sum
theorem Wt.mrg {f : Int → Int} {a b : List PK} (h1 : Wt f a) (h2 : Wt f b) : Wt f (mrg a b) := fun p hp => by
  rcases mrg_mem.1 hp with h | h
  · exact h1 p h
  · exact h2 p h
theorem Wt.prs {f : Int → Int} {a : List PK} (h : Wt f a) : Wt f (prs a) := fun p hp => by
  obtain ⟨x, hx, y, hy, rfl⟩ := prs_mem hp
  show x.1 + y.1 = ((x.2 ++ y.2).map f).sum
  rw [List.map_append, List.sum_append, h x hx, h y hy]
theorem rowOf_wt {f : Int → Int} {single : List PK} (h : Wt f single) : ∀ k, Wt f (rowOf single k)
  | 0 => h
  | k + 1 => h.mrg (rowOf_wt h k).prs
theorem fl_sum {f : Int → Int} : ∀ {row : List PK}, Wt f row → ((fl row).map f).sum = (row.map fun p => p.1).sum
  | [], _ => rfl
  | p :: row, h => by
    have ih := fl_sum (row := row) (fun q hq => h q (by simp [hq]))
    unfold fl at ih ⊢
    rw [List.flatMap_cons, List.map_append, List.sum_append, ih, List.map_cons, List.sum_cons, h p (by simp)]

/-! ### Weights alone -/
def wmrg (a b : List Int) : List Int := a.merge b fun x y => decide (x ≤ y)
def wprs : List Int → List Int
  | x :: y :: l => (x + y) :: wprs l
  | _ => []
def wrow (ws : List Int) : Nat → List Int
  | 0 => ws
  | k + 1 => wmrg ws (wprs (wrow ws k))
theorem wmrg_nil (a : List Int) : wmrg a [] = a := by unfold wmrg; cases a <;> simp [List.merge]
theorem nil_wmrg (b : List Int) : wmrg [] b = b := by unfold wmrg; simp [List.merge]
theorem wmrg_cons (x y : Int) (a b : List Int) : wmrg (x :: a) (y :: b) = if x ≤ y then x :: wmrg a (y :: b) else y :: wmrg (x :: a) b := by
  unfold wmrg; rw [List.merge]; simp
theorem mrg_w : ∀ (n : Nat) (a b : List PK), a.length + b.length ≤ n → (mrg a b).map (fun p => p.1) = wmrg (a.map fun p => p.1) (b.map fun p => p.1)
  | n, [], b, _ => by rw [nil_mrg, List.map_nil, nil_wmrg]
  | n, x :: a, [], _ => by rw [mrg_nil, List.map_nil, wmrg_nil]
  | 0, x :: a, y :: b, h => by simp at h
  | n + 1, x :: a, y :: b, h => by
    rw [mrg_cons, List.map_cons, List.map_cons, wmrg_cons]
    split
    · rw [List.map_cons, mrg_w n a (y :: b) (by simp at h ⊢; omega), List.map_cons]
    · rw [List.map_cons, mrg_w n (x :: a) b (by simp at h ⊢; omega), List.map_cons]
theorem prs_w : ∀ (a : List PK), (prs a).map (fun p => p.1) = wprs (a.map fun p => p.1)
  | [] => rfl
  | [x] => rfl
  | x :: y :: l => by simp only [prs, List.map_cons, wprs]; rw [prs_w l]
theorem rowOf_w (single : List PK) : ∀ k, (rowOf single k).map (fun p => p.1) = wrow (single.map fun p => p.1) k
  | 0 => rfl
  | k + 1 => by simp only [rowOf, wrow]; rw [mrg_w _ _ _ (Nat.le_refl _), prs_w, rowOf_w single k]
/-- twice -/
def dbl (ws : List Int) : List Int := ws.map fun x => 2 * x
theorem wmrg_dbl : ∀ (n : Nat) (a b : List Int), a.length + b.length ≤ n → wmrg (dbl a) (dbl b) = dbl (wmrg a b)
  | n, [], b, _ => by rw [nil_wmrg]; exact nil_wmrg _
  | n, x :: a, [], _ => by rw [wmrg_nil]; exact wmrg_nil _
  | 0, x :: a, y :: b, h => by simp at h
  | n + 1, x :: a, y :: b, h => by
    have e1 : dbl (x :: a) = 2 * x :: dbl a := rfl
    have e2 : dbl (y :: b) = 2 * y :: dbl b := rfl
    rw [e1, e2, wmrg_cons, wmrg_cons]
    by_cases c : x ≤ y
    · rw [if_pos c, if_pos (by omega), ← e2, wmrg_dbl n a (y :: b) (by simp at h ⊢; omega)]; rfl
    · rw [if_neg c, if_neg (by omega), ← e1, wmrg_dbl n (x :: a) b (by simp at h ⊢; omega)]; rfl
theorem wprs_dbl : ∀ (a : List Int), wprs (dbl a) = dbl (wprs a)
  | [] => rfl
  | [x] => rfl
  | x :: y :: l => by
    show (2 * x + 2 * y) :: wprs (dbl l) = 2 * (x + y) :: dbl (wprs l)
    rw [wprs_dbl l, Int.mul_add]
theorem wrow_dbl (ws : List Int) : ∀ k, wrow (dbl ws) k = dbl (wrow ws k)
  | 0 => rfl
  | k + 1 => by simp only [wrow]; rw [wrow_dbl ws k, wprs_dbl, wmrg_dbl _ _ _ (Nat.le_refl _)]
theorem dbl_sum : ∀ (ws : List Int), (dbl ws).sum = 2 * ws.sum
  | [] => rfl
  | x :: ws => by
    show 2 * x + (dbl ws).sum = 2 * (x :: ws).sum
    rw [dbl_sum ws, List.sum_cons]; omega
/-- the cost, from the weights of the symbols -/
def wcost (ws : List Int) (k : Nat) : Int := ((wrow ws k).take (2 * ws.length - 2)).sum
theorem wcost_dbl (ws : List Int) (k : Nat) : wcost (dbl ws) k = 2 * wcost ws k := by
  unfold wcost
  rw [wrow_dbl, show (dbl ws).length = ws.length from List.length_map .., ← dbl_sum]
  unfold dbl
  rw [List.map_take]
end Go.Proofs.Ytjmkkcbilpidnaa.Limit
