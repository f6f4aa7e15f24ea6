/- Sorting by exchanges, in plain Lean: no program in sight. -/
import Derived.Lib.Hide
namespace Go.Proofs.Ytjmkkcbilpidnaa.SortP
set_option linter.unusedVariables false

def swp (l : List Int) (i j : Nat) : List Int := (l.set i (l.getD j 0)).set j (l.getD i 0)
theorem swp_len (l : List Int) (i j : Nat) : (swp l i j).length = l.length := by simp [swp]
theorem getD_set' (l : List Int) (i t : Nat) (x : Int) (hi : i < l.length) : (l.set i x).getD t 0 = if i = t then x else l.getD t 0 := by
  simp only [List.getD, List.getElem?_set, hi]
  by_cases h : i = t
  · subst h; simp
  · simp [h]
theorem swp_at (l : List Int) (i j t : Nat) (hi : i < l.length) (hj : j < l.length) : (swp l i j).getD t 0 = if t = j then l.getD i 0 else if t = i then l.getD j 0 else l.getD t 0 := by
  unfold swp
  rw [getD_set' _ _ _ _ (by simpa using hj), getD_set' _ _ _ _ hi]
  by_cases h1 : t = j
  · rw [if_pos h1.symm, if_pos h1]
  · rw [if_neg (fun e => h1 e.symm), if_neg h1]
    by_cases h2 : t = i
    · rw [if_pos h2.symm, if_pos h2]
    · rw [if_neg (fun e => h2 e.symm), if_neg h2]
theorem swp_perm (l : List Int) (i j : Nat) (hi : i < l.length) (hj : j < l.length) : (swp l i j).Perm l := by
  unfold swp
  have e1 : l.getD i 0 = l[i] := by simp [List.getD, List.getElem?_eq_getElem hi]
  have e2 : l.getD j 0 = l[j] := by simp [List.getD, List.getElem?_eq_getElem hj]
  rw [e1, e2]
  exact List.set_set_perm hi hj

/-- ys comes from xs by exchanges among the places from a to b (b itself is out). -/
inductive Shuf (a b : Nat) (xs : List Int) : List Int → Prop
  | refl : Shuf a b xs xs
  | step {ys : List Int} {i j : Nat} (h : Shuf a b xs ys) (hi : a ≤ i) (hi' : i < b) (hj : a ≤ j) (hj' : j < b) (hb : b ≤ ys.length) : Shuf a b xs (swp ys i j)
theorem Shuf.len {a b : Nat} {xs ys : List Int} (h : Shuf a b xs ys) : ys.length = xs.length := by
  induction h with
  | refl => rfl
  | step _ _ _ _ _ _ ih => rw [swp_len, ih]
theorem Shuf.perm {a b : Nat} {xs ys : List Int} (h : Shuf a b xs ys) : ys.Perm xs := by
  induction h with
  | refl => exact List.Perm.refl _
  | step _ _ _ _ _ _ ih => exact (swp_perm _ _ _ (by omega) (by omega)).trans ih
theorem Shuf.out {a b : Nat} {xs ys : List Int} (h : Shuf a b xs ys) (t : Nat) (ht : t < a ∨ b ≤ t) : ys.getD t 0 = xs.getD t 0 := by
  induction h with
  | refl => rfl
  | step _ _ _ _ _ _ ih => rw [swp_at _ _ _ _ (by omega) (by omega), if_neg (by omega), if_neg (by omega), ih]
theorem Shuf.inn {a b : Nat} {xs ys : List Int} (h : Shuf a b xs ys) : ∀ t, a ≤ t → t < b → ∃ s, a ≤ s ∧ s < b ∧ ys.getD t 0 = xs.getD s 0 := by
  induction h with
  | refl => intro t h1 h2; exact ⟨t, h1, h2, rfl⟩
  | @step ys i j _ h1 h2 h3 h4 _ ih =>
    intro t h5 h6
    rw [swp_at _ _ _ _ (by omega) (by omega)]
    split
    · exact ih i h1 h2
    · split
      · exact ih j h3 h4
      · exact ih t h5 h6
theorem Shuf.trans {a b : Nat} {xs ys zs : List Int} (h : Shuf a b xs ys) (k : Shuf a b ys zs) : Shuf a b xs zs := by
  induction k with
  | refl => exact h
  | step _ h1 h2 h3 h4 h5 ih => exact ih.step h1 h2 h3 h4 h5
theorem Shuf.wide {a b a' b' : Nat} {xs ys : List Int} (h : Shuf a b xs ys) (ha : a' ≤ a) (hb : b ≤ b') (hl : b' ≤ xs.length) : Shuf a' b' xs ys := by
  induction h with
  | refl => exact .refl
  | step h h1 h2 h3 h4 h5 ih => exact ih.step (by omega) (by omega) (by omega) (by omega) (by rw [h.len]; exact hl)

/-- exchange of two ranges -/
def swapR (l : List Int) (a b : Nat) : Nat → List Int
  | 0 => l
  | n + 1 => swp (swapR l a b n) (a + n) (b + n)
theorem swapR_len (l : List Int) (a b n : Nat) : (swapR l a b n).length = l.length := by
  induction n with
  | zero => rfl
  | succ n ih => simp only [swapR]; rw [swp_len, ih]
theorem swapR_shuf (l : List Int) (a b lo hi : Nat) (h1 : lo ≤ a) (h2 : lo ≤ b) (hl : hi ≤ l.length) : ∀ n, a + n ≤ hi → b + n ≤ hi → Shuf lo hi l (swapR l a b n)
  | 0, _, _ => .refl
  | n + 1, h3, h4 => (swapR_shuf l a b lo hi h1 h2 hl n (by omega) (by omega)).step (by omega) (by omega) (by omega) (by omega) (by rw [swapR_len]; exact hl)
theorem swapR_at (l : List Int) (a b : Nat) : ∀ n, a + n ≤ b → b + n ≤ l.length → ∀ t, (swapR l a b n).getD t 0 = if a ≤ t ∧ t < a + n then l.getD (t - a + b) 0 else if b ≤ t ∧ t < b + n then l.getD (t - b + a) 0 else l.getD t 0
  | 0, h1, h2, t => by
    rw [if_neg (by omega), if_neg (by omega)]; rfl
  | n + 1, h1, h2, t => by
    have ih := swapR_at l a b n (by omega) (by omega)
    simp only [swapR]
    rw [swp_at _ _ _ _ (by rw [swapR_len]; omega) (by rw [swapR_len]; omega), ih, ih, ih]
    repeat' split
    all_goals first | (exfalso; omega) | (congr 1; omega) | rfl

/-- ys is xs with the ranges from lo to m and from m to hi exchanged. -/
def Rot (lo m hi : Nat) (xs ys : List Int) : Prop := ∀ t, ys.getD t 0 = if lo ≤ t ∧ t < lo + (hi - m) then xs.getD (t + (m - lo)) 0 else if lo + (hi - m) ≤ t ∧ t < hi then xs.getD (t - (hi - m)) 0 else xs.getD t 0
theorem Rot.equal (xs : List Int) (m i : Nat) (hi : i ≤ m) (hl : m + i ≤ xs.length) : Rot (m - i) m (m + i) xs (swapR xs (m - i) m i) := by
  intro t
  rw [swapR_at _ _ _ _ (by omega) hl]
  repeat' split
  all_goals first | (exfalso; omega) | (congr 1; omega) | rfl
theorem Rot.left {xs ys : List Int} {m i j : Nat} (hij : j < i) (hi : i ≤ m) (hl : m + j ≤ xs.length) (h : Rot (m - (i - j)) m (m + j) (swapR xs (m - i) m j) ys) : Rot (m - i) m (m + j) xs ys := by
  intro t
  rw [h t]
  have e := swapR_at xs (m - i) m j (by omega) (by omega)
  rw [e, e, e]
  repeat' split
  all_goals first | (exfalso; omega) | (congr 1; omega) | rfl
theorem Rot.right {xs ys : List Int} {m i j : Nat} (hij : i < j) (hi : i ≤ m) (hl : m + j ≤ xs.length) (h : Rot (m - i) m (m + (j - i)) (swapR xs (m - i) (m + j - i) i) ys) : Rot (m - i) m (m + j) xs ys := by
  intro t
  rw [h t]
  have e := swapR_at xs (m - i) (m + j - i) i (by omega) (by omega)
  rw [e, e, e]
  repeat' split
  all_goals first | (exfalso; omega) | (congr 1; omega) | rfl

/-- sorted by the key, from a to b -/
def Sorted (key : Int → Int) (xs : List Int) (a b : Nat) : Prop := ∀ i j, a ≤ i → i < j → j < b → key (xs.getD i 0) ≤ key (xs.getD j 0)
theorem Sorted.le {key : Int → Int} {xs : List Int} {a b : Nat} (h : Sorted key xs a b) {i j : Nat} (h1 : a ≤ i) (h2 : i ≤ j) (h3 : j < b) : key (xs.getD i 0) ≤ key (xs.getD j 0) := by
  rcases Nat.lt_or_ge i j with h4 | h4
  · exact h i j h1 h4 h3
  · have : i = j := by omega
    subst this; exact Int.le_refl _
theorem Sorted.join {key : Int → Int} {xs : List Int} {a m b : Nat} (h1 : Sorted key xs a m) (h2 : Sorted key xs m b) (h : ∀ i j, a ≤ i → i < m → m ≤ j → j < b → key (xs.getD i 0) ≤ key (xs.getD j 0)) : Sorted key xs a b := by
  intro i j hi hij hj
  by_cases c1 : j < m
  · exact h1 i j hi hij c1
  · by_cases c2 : i < m
    · exact h i j hi c2 (by omega) hj
    · exact h2 i j (by omega) hij hj
end Go.Proofs.Ytjmkkcbilpidnaa.SortP
