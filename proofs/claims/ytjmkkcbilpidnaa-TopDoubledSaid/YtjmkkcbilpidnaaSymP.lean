/- The merge of two sorted ranges, in plain Lean: no program in sight. -/
import Derived.Test.YtjmkkcbilpidnaaSortP
namespace Go.Proofs.Ytjmkkcbilpidnaa.SortP
set_option linter.unusedVariables false

/-- the element at a has been moved up to the place k -/
def Up (xs : List Int) (a k : Nat) (ys : List Int) : Prop := ys.length = xs.length ∧ ∀ t, ys.getD t 0 = if a ≤ t ∧ t < k then xs.getD (t + 1) 0 else if t = k then xs.getD a 0 else xs.getD t 0
theorem Up.start (xs : List Int) (a : Nat) : Up xs a a xs := ⟨rfl, fun t => by
  repeat' split
  all_goals first | (exfalso; omega) | (congr 1; omega) | rfl | (subst_vars; rfl)⟩
theorem Up.step {xs ys : List Int} {a k : Nat} (h : Up xs a k ys) (ha : a ≤ k) (hk : k + 1 < xs.length) : Up xs a (k + 1) (swp ys k (k + 1)) := ⟨by rw [swp_len, h.1], fun t => by
  rw [swp_at _ _ _ _ (by rw [h.1]; omega) (by rw [h.1]; omega), h.2, h.2, h.2]
  repeat' split
  all_goals first | (exfalso; omega) | (congr 1; omega) | rfl | (subst_vars; rfl)⟩
/-- the element at m has been moved down to the place k -/
def Down (xs : List Int) (m k : Nat) (ys : List Int) : Prop := ys.length = xs.length ∧ ∀ t, ys.getD t 0 = if k < t ∧ t ≤ m then xs.getD (t - 1) 0 else if t = k then xs.getD m 0 else xs.getD t 0
theorem Down.start (xs : List Int) (m : Nat) : Down xs m m xs := ⟨rfl, fun t => by
  repeat' split
  all_goals first | (exfalso; omega) | (congr 1; omega) | rfl | (subst_vars; rfl)⟩
theorem Down.step {xs ys : List Int} {m k : Nat} (h : Down xs m (k + 1) ys) (ha : k + 1 ≤ m) (hk : m < xs.length) : Down xs m k (swp ys (k + 1) k) := ⟨by rw [swp_len, h.1], fun t => by
  rw [swp_at _ _ _ _ (by rw [h.1]; omega) (by rw [h.1]; omega), h.2, h.2, h.2]
  repeat' split
  all_goals first | (exfalso; omega) | (congr 1; omega) | rfl | (subst_vars; rfl)⟩
section
variable {key : Int → Int} {xs ys : List Int} {a b i m : Nat}
theorem Up.sorted (h : Up xs a i ys) (ha : a ≤ i) (hb : i < b) (hs : Sorted key xs (a + 1) b) (h1 : ∀ t, a < t → t ≤ i → key (xs.getD t 0) ≤ key (xs.getD a 0)) (h2 : ∀ t, i < t → t < b → key (xs.getD a 0) ≤ key (xs.getD t 0)) : Sorted key ys a b := by
  intro s t hs1 hst ht
  rw [h.2, h.2]
  repeat' split
  all_goals first | (exfalso; omega) | (exact hs _ _ (by omega) (by omega) (by omega)) | (exact h1 _ (by omega) (by omega)) | (exact h2 _ (by omega) (by omega))
theorem Down.sorted (h : Down xs m i ys) (hi : a ≤ i) (him : i ≤ m) (hs : Sorted key xs a m) (h1 : ∀ t, a ≤ t → t < i → key (xs.getD t 0) ≤ key (xs.getD m 0)) (h2 : ∀ t, i ≤ t → t < m → key (xs.getD m 0) ≤ key (xs.getD t 0)) : Sorted key ys a (m + 1) := by
  intro s t hs1 hst ht
  rw [h.2, h.2]
  repeat' split
  all_goals first | (exfalso; omega) | (exact hs _ _ (by omega) (by omega) (by omega)) | (exact h1 _ (by omega) (by omega)) | (exact h2 _ (by omega) (by omega))
end
theorem Rot.refl (lo m hi : Nat) (xs : List Int) (h1 : lo ≤ m) (h2 : m ≤ hi) (h : lo = m ∨ m = hi) : Rot lo m hi xs xs := by
  intro t
  repeat' split
  all_goals first | (exfalso; omega) | (congr 1; omega) | rfl
/-- The two halves behind the rotation. -/
theorem sym_split {key : Int → Int} {xs zs : List Int} {a m b s e mid : Nat} (ha : a ≤ s) (hs : s ≤ m) (he : m ≤ e) (hb : e ≤ b) (hmid : s + (e - m) = mid) (h1 : Sorted key xs a m) (h2 : Sorted key xs m b) (hr : Rot s m e xs zs)
    (hA : s = a ∨ e = b ∨ key (xs.getD (s - 1) 0) ≤ key (xs.getD e 0)) (hB : s = m ∨ e = m ∨ key (xs.getD (e - 1) 0) ≤ key (xs.getD s 0)) :
    Sorted key zs a s ∧ Sorted key zs s mid ∧ Sorted key zs mid e ∧ Sorted key zs e b ∧ ∀ i j, a ≤ i → i < mid → mid ≤ j → j < b → key (zs.getD i 0) ≤ key (zs.getD j 0) := by
  have z1 : ∀ t, t < s → zs.getD t 0 = xs.getD t 0 := fun t ht => by rw [hr t, if_neg (by omega), if_neg (by omega)]
  have z2 : ∀ t, s ≤ t → t < mid → zs.getD t 0 = xs.getD (t + (m - s)) 0 := fun t ht1 ht2 => by rw [hr t, if_pos (by omega)]
  have z3 : ∀ t, mid ≤ t → t < e → zs.getD t 0 = xs.getD (t - (e - m)) 0 := fun t ht1 ht2 => by rw [hr t, if_neg (by omega), if_pos (by omega)]
  have z4 : ∀ t, e ≤ t → zs.getD t 0 = xs.getD t 0 := fun t ht => by rw [hr t, if_neg (by omega), if_neg (by omega)]
  refine ⟨fun i j h3 h4 h5 => ?_, fun i j h3 h4 h5 => ?_, fun i j h3 h4 h5 => ?_, fun i j h3 h4 h5 => ?_, fun i j h3 h4 h5 h6 => ?_⟩
  · rw [z1 i (by omega), z1 j (by omega)]; exact h1 i j (by omega) h4 (by omega)
  · rw [z2 i (by omega) (by omega), z2 j (by omega) (by omega)]; exact h2 _ _ (by omega) (by omega) (by omega)
  · rw [z3 i (by omega) (by omega), z3 j (by omega) (by omega)]; exact h1 _ _ (by omega) (by omega) (by omega)
  · rw [z4 i (by omega), z4 j (by omega)]; exact h2 _ _ (by omega) (by omega) (by omega)
  · by_cases c1 : i < s
    · rw [z1 i c1]
      by_cases c2 : j < e
      · rw [z3 j h5 c2]; exact h1.le (by omega) (by omega) (by omega)
      · rw [z4 j (by omega)]
        rcases hA with hA | hA | hA
        · omega
        · omega
        · exact Int.le_trans (h1.le (i := i) (j := s - 1) h3 (by omega) (by omega)) (Int.le_trans hA (h2.le (i := e) (j := j) (by omega) (by omega) h6))
    · rw [z2 i (by omega) h4]
      by_cases c2 : j < e
      · rw [z3 j h5 c2]
        rcases hB with hB | hB | hB
        · omega
        · omega
        · exact Int.le_trans (h2.le (i := i + (m - s)) (j := e - 1) (by omega) (by omega) (by omega)) (Int.le_trans hB (h1.le (i := s) (j := j - (e - m)) (by omega) (by omega) (by omega)))
      · rw [z4 j (by omega)]; exact h2.le (by omega) (by omega) h6
/-- what a range exchanged within two halves keeps -/
theorem halves {key : Int → Int} {zs us vs : List Int} {a mid b : Nat} (h : ∀ i j, a ≤ i → i < mid → mid ≤ j → j < b → key (zs.getD i 0) ≤ key (zs.getD j 0)) (h1 : Shuf a mid zs us) (h2 : Shuf mid b us vs) :
    ∀ i j, a ≤ i → i < mid → mid ≤ j → j < b → key (vs.getD i 0) ≤ key (vs.getD j 0) := by
  intro i j h3 h4 h5 h6
  rw [h2.out i (by omega)]
  obtain ⟨s, hs1, hs2, es⟩ := h1.inn i h3 h4
  obtain ⟨t, ht1, ht2, et⟩ := h2.inn j h5 h6
  rw [es, et, h1.out t (by omega)]
  exact h s t hs1 hs2 ht1 ht2
theorem Sorted.congr {key : Int → Int} {xs ys : List Int} {a b : Nat} (h : Sorted key xs a b) (he : ∀ t, a ≤ t → t < b → ys.getD t 0 = xs.getD t 0) : Sorted key ys a b := by
  intro i j h1 h2 h3
  rw [he i h1 (by omega), he j (by omega) h3]
  exact h i j h1 h2 h3
end Go.Proofs.Ytjmkkcbilpidnaa.SortP
