/- Package-merge, in plain Lean: rows, how long they are, what they hold. -/
import Derived.Test.YtjmkkcbilpidnaaPair
namespace Go.Proofs.Ytjmkkcbilpidnaa.Limit
set_option linter.unusedVariables false
set_option linter.unusedSimpArgs false

theorem mrg_mem {a b : List PK} {p : PK} : p ∈ mrg a b ↔ p ∈ a ∨ p ∈ b := by unfold mrg; exact List.mem_merge
theorem mrg_perm (a b : List PK) : (mrg a b).Perm (a ++ b) := List.merge_perm_append _
theorem mrg_len (a b : List PK) : (mrg a b).length = a.length + b.length := by rw [(mrg_perm a b).length_eq, List.length_append]
theorem prs_mem : ∀ {xs : List PK} {p : PK}, p ∈ prs xs → ∃ x ∈ xs, ∃ y ∈ xs, p = (x.1 + y.1, x.2 ++ y.2)
  | [], p, h => by simp [prs] at h
  | [x], p, h => by simp [prs] at h
  | x :: y :: l, p, h => by
    simp only [prs, List.mem_cons] at h
    rcases h with h | h
    · exact ⟨x, by simp, y, by simp, h⟩
    · obtain ⟨a, ha, b, hb, e⟩ := prs_mem h
      exact ⟨a, by simp [ha], b, by simp [hb], e⟩
theorem prs_length : ∀ (xs : List PK), (prs xs).length = xs.length / 2
  | [] => rfl
  | [x] => by simp [prs]
  | x :: y :: l => by simp only [prs, List.length_cons]; rw [prs_length l]; omega

def rowOf (single : List PK) : Nat → List PK
  | 0 => single
  | k + 1 => mrg single (prs (rowOf single k))
theorem rowOf_len (single : List PK) : ∀ k, (rowOf single k).length ≤ 2 * single.length
  | 0 => by simp only [rowOf]; omega
  | k + 1 => by simp only [rowOf]; rw [mrg_len, prs_length]; have := rowOf_len single k; omega
theorem rowOf_ge (single : List PK) : ∀ k m, single.length ≤ m * 2 ^ k → 2 * single.length ≤ (rowOf single k).length + m
  | 0, m, h => by simp only [rowOf]; simp at h; omega
  | k + 1, m, h => by
    simp only [rowOf]
    rw [mrg_len, prs_length]
    have := rowOf_ge single k (2 * m) (by rw [Nat.pow_succ, Nat.mul_comm (2 ^ k) 2, ← Nat.mul_assoc, Nat.mul_comm m 2] at h; exact h)
    omega

/-- what the packages of a row are like -/
def Good (n : Nat) (B : Int) (C : Nat) (row : List PK) : Prop := ∀ p ∈ row, 0 ≤ p.1 ∧ p.1 ≤ B ∧ 0 < p.2.length ∧ p.2.length ≤ C ∧ ∀ s ∈ p.2, ∃ j : Nat, s = j ∧ j < n
theorem Good.mrg {n : Nat} {B : Int} {C : Nat} {a b : List PK} (h1 : Good n B C a) (h2 : Good n B C b) : Good n B C (mrg a b) := fun p hp => by
  rcases mrg_mem.1 hp with h | h
  · exact h1 p h
  · exact h2 p h
theorem Good.prs {n : Nat} {B : Int} {C : Nat} {a : List PK} (h : Good n B C a) : Good n (2 * B) (2 * C) (prs a) := fun p hp => by
  obtain ⟨x, hx, y, hy, rfl⟩ := prs_mem hp
  have h1 := h x hx
  have h2 := h y hy
  refine ⟨by show 0 ≤ x.1 + y.1; omega, by show x.1 + y.1 ≤ 2 * B; omega, ?_, ?_, fun s hs => ?_⟩
  · show 0 < (x.2 ++ y.2).length; rw [List.length_append]; omega
  · show (x.2 ++ y.2).length ≤ 2 * C; rw [List.length_append]; omega
  · rcases List.mem_append.1 hs with h | h
    · exact h1.2.2.2.2 s h
    · exact h2.2.2.2.2 s h
theorem Good.le {n : Nat} {B B' : Int} {C C' : Nat} {a : List PK} (h : Good n B C a) (hB : B ≤ B') (hC : C ≤ C') : Good n B' C' a := fun p hp => by
  have := h p hp
  exact ⟨this.1, by omega, this.2.2.1, by omega, this.2.2.2.2⟩
theorem rowOf_good {n : Nat} {B : Int} (hB : 0 ≤ B) {single : List PK} (h : Good n B 1 single) : ∀ k, Good n (B * 2 ^ k) (2 ^ k) (rowOf single k)
  | 0 => by simpa [rowOf] using h
  | k + 1 => by
    have ih := rowOf_good hB h k
    have e1 : B * 2 ^ (k + 1) = 2 * (B * 2 ^ k) := by rw [Int.pow_succ, Int.mul_comm ((2 : Int) ^ k) 2, Int.mul_left_comm]
    have e2 : (2 : Nat) ^ (k + 1) = 2 * 2 ^ k := by rw [Nat.pow_succ, Nat.mul_comm]
    rw [e1, e2]
    have p1 : (1 : Nat) ≤ 2 ^ k := Nat.one_le_two_pow
    have p2 : B ≤ 2 * (B * 2 ^ k) := by
      have h3 : (1 : Int) ≤ 2 ^ k := by have : ((2 ^ k : Nat) : Int) = (2 : Int) ^ k := by simp
                                        omega
      have h4 := Int.mul_le_mul_of_nonneg_left h3 hB
      omega
    exact (h.le p2 (by omega)).mrg ih.prs

/-- the symbols of a row, one after the other -/
def fl (row : List PK) : List Int := row.flatMap fun p => p.2
theorem fl_mrg (a b : List PK) : (fl (mrg a b)).Perm (fl a ++ fl b) := by
  unfold fl
  rw [← List.flatMap_append]
  exact List.Perm.flatMap_right _ (mrg_perm a b)
theorem fl_prs (s : Int) : ∀ (a : List PK), (fl (prs a)).count s ≤ (fl a).count s
  | [] => by simp [prs]
  | [x] => by simp [prs, fl]
  | x :: y :: l => by
    have := fl_prs s l
    simp only [prs, fl, List.flatMap_cons, List.count_append] at *
    omega
theorem rowOf_count (s : Int) {single : List PK} (h : (fl single).count s ≤ 1) : ∀ k, (fl (rowOf single k)).count s ≤ k + 1
  | 0 => by simpa [rowOf] using h
  | k + 1 => by
    simp only [rowOf]
    rw [(fl_mrg _ _).count_eq, List.count_append]
    have := rowOf_count s h k
    have := fl_prs s (rowOf single k)
    omega

/-- how far on an element of the first list may lie -/
theorem mrg_place (M : Int) (x : PK) : ∀ (n : Nat) (a b : List PK), a.length + b.length ≤ n → x ∈ a → (∀ y ∈ a, y.1 ≤ M) → ∃ l1 l2, mrg a b = l1 ++ x :: l2 ∧ l1.length + 1 ≤ a.length + b.countP fun y => decide (y.1 < M)
  | n, [], b, _, hx, _ => by simp at hx
  | n, y :: a, [], _, hx, _ => by
    rw [mrg_nil]
    obtain ⟨l1, l2, e⟩ := List.append_of_mem hx
    exact ⟨l1, l2, e, by have := congrArg List.length e; simp at this; simp; omega⟩
  | 0, y :: a, z :: b, hn, _, _ => by simp at hn
  | n + 1, y :: a, z :: b, hn, hx, hM => by
    rw [mrg_cons]
    split
    · rename_i hle
      by_cases e : x = y
      · subst e
        exact ⟨[], _, rfl, by simp; omega⟩
      · have hx' : x ∈ a := by
          rcases List.mem_cons.1 hx with h | h
          · exact absurd h e
          · exact h
        obtain ⟨l1, l2, e2, h2⟩ := mrg_place M x n a (z :: b) (by simp at hn ⊢; omega) hx' (fun q hq => hM q (List.mem_cons_of_mem _ hq))
        exact ⟨y :: l1, l2, by rw [e2]; rfl, by simp at h2 ⊢; omega⟩
    · rename_i hle
      have hz : z.1 < M := by have := hM y (List.mem_cons_self ..); omega
      obtain ⟨l1, l2, e2, h2⟩ := mrg_place M x n (y :: a) b (by simp at hn ⊢; omega) hx hM
      refine ⟨z :: l1, l2, by rw [e2]; rfl, ?_⟩
      rw [List.countP_cons_of_pos (by simpa using hz)]
      simp at h2 ⊢; omega
theorem prs_below (M : Int) : ∀ (a : List PK), (∀ p ∈ a, 0 ≤ p.1) → 2 * (prs a).countP (fun y => decide (y.1 < M)) ≤ a.countP fun y => decide (y.1 < M)
  | [], _ => by simp [prs]
  | [x], _ => by simp [prs]
  | x :: y :: l, h => by
    have ih := prs_below M l (fun p hp => h p (by simp [hp]))
    have hx := h x (by simp)
    have hy := h y (by simp)
    simp only [prs, List.countP_cons]
    by_cases c : x.1 + y.1 < M
    · rw [if_pos (by simpa using c), if_pos (by simp; omega), if_pos (by simp; omega)]; omega
    · rw [if_neg (by simpa using c)]; omega
theorem rowOf_below (M : Int) {single : List PK} (h0 : ∀ p ∈ single, 0 ≤ p.1) (hn : 2 ≤ single.length) (hM : ∃ p ∈ single, p.1 = M) : ∀ k, (∀ p ∈ rowOf single k, 0 ≤ p.1) ∧ (rowOf single k).countP (fun y => decide (y.1 < M)) + 3 ≤ 2 * single.length := by
  have hs : single.countP (fun y => decide (y.1 < M)) + 1 ≤ single.length := by
    obtain ⟨p, hp, e⟩ := hM
    obtain ⟨l1, l2, rfl⟩ := List.append_of_mem hp
    rw [List.countP_append, List.countP_cons_of_neg (by simp; omega)]
    have h1 := List.countP_le_length (p := fun y : PK => decide (y.1 < M)) (l := l1)
    have h2 := List.countP_le_length (p := fun y : PK => decide (y.1 < M)) (l := l2)
    simp; omega
  intro k
  induction k with
  | zero => exact ⟨h0, by simp only [rowOf]; omega⟩
  | succ k ih =>
    refine ⟨fun p hp => ?_, ?_⟩
    · rcases mrg_mem.1 hp with h | h
      · exact h0 p h
      · obtain ⟨x, hx, y, hy, rfl⟩ := prs_mem h
        have := ih.1 x hx
        have := ih.1 y hy
        show 0 ≤ x.1 + y.1
        omega
    · simp only [rowOf]
      rw [(mrg_perm _ _).countP_eq, List.countP_append]
      have := prs_below M _ ih.1
      have := ih.2
      omega
theorem exists_max : ∀ (l : List PK), l ≠ [] → ∃ p ∈ l, ∀ q ∈ l, q.1 ≤ p.1
  | [x], _ => ⟨x, by simp, by simp⟩
  | x :: y :: l, _ => by
    obtain ⟨p, hp, hm⟩ := exists_max (y :: l) (by simp)
    by_cases c : x.1 ≤ p.1
    · exact ⟨p, List.mem_cons_of_mem _ hp, fun q hq => by
        rcases List.mem_cons.1 hq with rfl | h
        · exact c
        · exact hm q h⟩
    · exact ⟨x, by simp, fun q hq => by
        rcases List.mem_cons.1 hq with rfl | h
        · exact Int.le_refl _
        · have := hm q h; omega⟩
/-- each symbol's own package lies among those that are taken -/
theorem single_taken {single : List PK} (h0 : ∀ p ∈ single, 0 ≤ p.1) (hn : 2 ≤ single.length) (k : Nat) {x : PK} (hx : x ∈ single) : x ∈ (rowOf single k).take (2 * single.length - 2) := by
  obtain ⟨m, hm, hmax⟩ := exists_max single (by intro h; rw [h] at hn; simp at hn)
  cases k with
  | zero => simp only [rowOf]; rw [List.take_of_length_le (by omega)]; exact hx
  | succ k =>
    have hb := rowOf_below m.1 h0 hn ⟨m, hm, rfl⟩ k
    have hp := prs_below m.1 _ hb.1
    obtain ⟨l1, l2, e, hl⟩ := mrg_place m.1 x _ single (prs (rowOf single k)) (Nat.le_refl _) hx hmax
    simp only [rowOf]
    rw [e, List.take_append, List.mem_append]
    right
    rw [show 2 * single.length - 2 - l1.length = (2 * single.length - 2 - l1.length - 1) + 1 by omega, List.take_succ_cons]
    exact List.mem_cons_self ..
end Go.Proofs.Ytjmkkcbilpidnaa.Limit
