/- Plain laws on the fixed-point logarithm: no program in sight. -/
import Derived.Lib.BitFns
namespace Go.Proofs.Ytjmkkcbilpidnaa.Lg
theorem aux_parts : ∀ (f n : Nat), 1 ≤ n → n < 2 ^ f → ∃ k, Go.Lib.bitLenAux f n = k + 1 ∧ 2 ^ k ≤ n ∧ n < 2 ^ (k + 1)
  | 0, n, h1, h2 => by simp at h2; omega
  | f + 1, n, h1, h2 => by
    simp only [Go.Lib.bitLenAux]
    rw [if_neg (by omega)]
    by_cases hn : n = 1
    · subst hn
      refine ⟨0, ?_, by simp, by simp⟩
      cases f <;> simp [Go.Lib.bitLenAux]
    · obtain ⟨k, hk, hl, hr⟩ := aux_parts f (n / 2) (by omega) (by rw [Nat.pow_succ] at h2; omega)
      refine ⟨k + 1, by omega, by rw [Nat.pow_succ]; omega, ?_⟩
      have h3 : 2 ^ (k + 1 + 1) = 2 ^ (k + 1) * 2 := Nat.pow_succ ..
      omega
theorem parts (n : Nat) (h1 : 1 ≤ n) (h2 : n ≤ 4611686018427387903) : ∃ k, Go.Lib.bitLen n = k + 1 ∧ k ≤ 61 ∧ 2 ^ k ≤ n ∧ n < 2 ^ (k + 1) := by
  obtain ⟨k, hk, hl, hr⟩ := aux_parts 64 n h1 (by omega)
  refine ⟨k, hk, ?_, hl, hr⟩
  have hb : Go.Lib.bitLen n ≤ 62 := Go.Lib.bitLen_le n 62 (by omega) (by omega)
  unfold Go.Lib.bitLen at hb
  omega
def lgk (n k : Nat) : Nat := if 8 ≤ k then k * 256 + (n - 2 ^ k) / 2 ^ (k - 8) else k * 256 + (n - 2 ^ k) * 2 ^ (8 - k)
def lg (n : Nat) : Nat := lgk n (Go.Lib.bitLen n - 1)
theorem lg_eq {n k : Nat} (h : Go.Lib.bitLen n = k + 1) : lg n = lgk n k := by unfold lg; rw [h]; rfl
theorem pow_unique {n k l : Nat} (h1 : 2 ^ k ≤ n) (h2 : n < 2 ^ (k + 1)) (h3 : 2 ^ l ≤ n) (h4 : n < 2 ^ (l + 1)) : k = l := by
  rcases Nat.lt_trichotomy k l with h | h | h
  · have : 2 ^ (k + 1) ≤ 2 ^ l := Nat.pow_le_pow_right (by omega) h
    omega
  · exact h
  · have : 2 ^ (l + 1) ≤ 2 ^ k := Nat.pow_le_pow_right (by omega) h
    omega
theorem lg_double (n : Nat) (h1 : 1 ≤ n) (h2 : 2 * n ≤ 4611686018427387903) : lg (2 * n) = lg n + 256 := by
  obtain ⟨k, hk, hk2, hl, hr⟩ := parts n h1 (by omega)
  obtain ⟨l, hl1, _, hl3, hl4⟩ := parts (2 * n) (by omega) h2
  have hkl : l = k + 1 := pow_unique hl3 hl4 (by rw [Nat.pow_succ]; omega) (by rw [Nat.pow_succ]; omega)
  subst hkl
  rw [lg_eq hk, lg_eq hl1]
  unfold lgk
  have e1 : 2 * n - 2 ^ (k + 1) = (n - 2 ^ k) * 2 := by rw [Nat.pow_succ]; omega
  rw [e1]
  by_cases h8 : 8 ≤ k
  · rw [if_pos (by omega), if_pos h8]
    rw [show k + 1 - 8 = (k - 8) + 1 from by omega, Nat.pow_succ, Nat.mul_div_mul_right _ _ (by omega)]
    omega
  · rw [if_neg h8]
    by_cases h7 : k = 7
    · subst h7
      rw [if_pos (by omega)]
      simp; omega
    · rw [if_neg (by omega), show 8 - k = (8 - (k + 1)) + 1 from by omega, Nat.pow_succ, Nat.mul_assoc, Nat.mul_comm 2]
      omega
theorem lgk_lt {n k : Nat} (h1 : 2 ^ k ≤ n) (h2 : n < 2 ^ (k + 1)) : lgk n k < (k + 1) * 256 := by
  have hp : 2 ^ (k + 1) = 2 ^ k * 2 := Nat.pow_succ ..
  unfold lgk
  split
  · have : (n - 2 ^ k) / 2 ^ (k - 8) < 256 := by
      rw [Nat.div_lt_iff_lt_mul (Nat.two_pow_pos _)]
      have : 2 ^ k = 256 * 2 ^ (k - 8) := by
        rw [show (256 : Nat) = 2 ^ 8 from rfl, ← Nat.pow_add]; congr 1; omega
      omega
    omega
  · have : (n - 2 ^ k) * 2 ^ (8 - k) < 256 := by
      have h3 : (n - 2 ^ k) * 2 ^ (8 - k) < 2 ^ k * 2 ^ (8 - k) := Nat.mul_lt_mul_of_pos_right (by omega) (Nat.two_pow_pos _)
      rw [← Nat.pow_add, show k + (8 - k) = 8 from by omega] at h3
      exact h3
    omega
theorem lg_lt (n : Nat) (h2 : n ≤ 4611686018427387903) : lg n ≤ 15871 := by
  rcases Nat.eq_zero_or_pos n with h0 | h1
  · subst h0; decide
  obtain ⟨k, hk, hk2, hl, hr⟩ := parts n h1 h2
  rw [lg_eq hk]
  have := lgk_lt hl hr
  have h3 : (k + 1) * 256 ≤ 62 * 256 := Nat.mul_le_mul_right _ (by omega)
  omega
theorem mul_bd {z d Z D : Int} (h0 : 0 ≤ z) (h1 : z ≤ Z) (h2 : -D ≤ d) (h3 : d ≤ D) (h4 : 0 ≤ D) : -(Z * D) ≤ z * d ∧ z * d ≤ Z * D := by
  have a1 : z * d ≤ z * D := Int.mul_le_mul_of_nonneg_left h3 h0
  have a2 : z * D ≤ Z * D := Int.mul_le_mul_of_nonneg_right h1 h4
  have a3 : z * -D ≤ z * d := Int.mul_le_mul_of_nonneg_left h2 h0
  rw [Int.mul_neg] at a3
  omega
end Go.Proofs.Ytjmkkcbilpidnaa.Lg
