/- Codes without a limit, in plain Lean: the rows, the symbols counted, the cost as a sum of weights. -/
import Derived.Test.YtjmkkcbilpidnaaPm4
namespace Go.Proofs.Ytjmkkcbilpidnaa.Limit
open Go.Proofs.Ytjmkkcbilpidnaa.W Go.Proofs.Ytjmkkcbilpidnaa.Tally
set_option linter.unusedVariables false
set_option linter.unusedSimpArgs false

/-- one round: the first two packages become one -/
def hnext : List PK → List PK
  | x :: y :: l => mrg l [(x.1 + y.1, x.2 ++ y.2)]
  | l => l
/-- the symbols of the package that the round makes -/
def hsyms : List PK → List Int
  | x :: y :: _ => x.2 ++ y.2
  | _ => []
/-- its weight -/
def hw : List PK → Int
  | x :: y :: _ => x.1 + y.1
  | _ => 0
theorem hnext_len (x y : PK) (l : List PK) : (hnext (x :: y :: l)).length = l.length + 1 := by unfold hnext; rw [mrg_len]; rfl
/-- the row after k rounds -/
def hrow (row : List PK) : Nat → List PK
  | 0 => row
  | k + 1 => hnext (hrow row k)
def hcount (row : List PK) : Nat → List Int
  | 0 => []
  | k + 1 => hcount row k ++ hsyms (hrow row k)
theorem hrow_len (row : List PK) : ∀ k, k < row.length → (hrow row k).length = row.length - k
  | 0, _ => rfl
  | k + 1, h => by
    have ih := hrow_len row k (by omega)
    simp only [hrow]
    match hr : hrow row k with
    | [] => rw [hr] at ih; simp at ih; omega
    | [x] => rw [hr] at ih; simp at ih; omega
    | x :: y :: l => rw [hnext_len]; rw [hr] at ih; simp at ih; omega

/-! ### Weights alone -/
def wnext : List Int → List Int
  | x :: y :: l => wmrg l [x + y]
  | l => l
def whead : List Int → Int
  | x :: y :: _ => x + y
  | _ => 0
def whrow (ws : List Int) : Nat → List Int
  | 0 => ws
  | k + 1 => wnext (whrow ws k)
def whcost (ws : List Int) : Nat → Int
  | 0 => 0
  | k + 1 => whcost ws k + whead (whrow ws k)
theorem hnext_w : ∀ (row : List PK), (hnext row).map (fun p => p.1) = wnext (row.map fun p => p.1)
  | [] => rfl
  | [x] => rfl
  | x :: y :: l => by unfold hnext wnext; rw [mrg_w _ _ _ (Nat.le_refl _)]; rfl
theorem hrow_w (row : List PK) : ∀ k, (hrow row k).map (fun p => p.1) = whrow (row.map fun p => p.1) k
  | 0 => rfl
  | k + 1 => by simp only [hrow, whrow]; rw [hnext_w, hrow_w row k]
theorem wnext_dbl : ∀ (ws : List Int), wnext (dbl ws) = dbl (wnext ws)
  | [] => rfl
  | [x] => rfl
  | x :: y :: l => by
    show wmrg (dbl l) [2 * x + 2 * y] = dbl (wmrg l [x + y])
    rw [← wmrg_dbl _ _ _ (Nat.le_refl _)]
    show _ = wmrg (dbl l) [2 * (x + y)]
    rw [Int.mul_add]
theorem whrow_dbl (ws : List Int) : ∀ k, whrow (dbl ws) k = dbl (whrow ws k)
  | 0 => rfl
  | k + 1 => by simp only [whrow]; rw [whrow_dbl ws k, wnext_dbl]
theorem whcost_dbl (ws : List Int) : ∀ k, whcost (dbl ws) k = 2 * whcost ws k
  | 0 => rfl
  | k + 1 => by
    simp only [whcost]
    rw [whcost_dbl ws k, whrow_dbl]
    have h : ∀ l : List Int, whead (dbl l) = 2 * whead l := fun l => by
      match l with
      | [] => rfl
      | [x] => rfl
      | x :: y :: l => show 2 * x + 2 * y = 2 * (x + y); omega
    rw [h]; omega
theorem hw_w : ∀ (row : List PK), hw row = whead (row.map fun p => p.1)
  | [] => rfl
  | [x] => rfl
  | x :: y :: l => rfl
theorem Wt.hnext {f : Int → Int} : ∀ {row : List PK}, Wt f row → Wt f (hnext row)
  | [], h => h
  | [x], h => h
  | x :: y :: l, h => by
    refine Wt.mrg (fun p hp => h p (by simp [hp])) (fun p hp => ?_)
    simp only [List.mem_singleton] at hp
    subst hp
    show x.1 + y.1 = ((x.2 ++ y.2).map f).sum
    rw [List.map_append, List.sum_append, h x (by simp), h y (by simp)]
theorem hrow_wt {f : Int → Int} {row : List PK} (h : Wt f row) : ∀ k, Wt f (hrow row k)
  | 0 => h
  | k + 1 => (hrow_wt h k).hnext
theorem hsyms_sum {f : Int → Int} : ∀ {row : List PK}, Wt f row → ((hsyms row).map f).sum = hw row
  | [], _ => rfl
  | [x], _ => rfl
  | x :: y :: l, h => by
    show ((x.2 ++ y.2).map f).sum = x.1 + y.1
    rw [List.map_append, List.sum_append, h x (by simp), h y (by simp)]
theorem hcount_sum {f : Int → Int} {row : List PK} (h : Wt f row) : ∀ k, ((hcount row k).map f).sum = whcost (row.map fun p => p.1) k
  | 0 => rfl
  | k + 1 => by
    simp only [hcount, whcost]
    rw [List.map_append, List.sum_append, hcount_sum h k, hsyms_sum (hrow_wt h k), hw_w, hrow_w]
end Go.Proofs.Ytjmkkcbilpidnaa.Limit
