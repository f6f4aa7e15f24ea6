/- The walks of the stable sort (library text): the whole. -/
import Derived.Test.YtjmkkcbilpidnaaSymM
namespace Go.Proofs.Ytjmkkcbilpidnaa.SortP
/-- every block of s places is sorted, as far as e -/
def Blk (key : Int → Int) (xs : List Int) (s e : Nat) : Prop := ∀ k, Sorted key xs (s * k) (min (s * k + s) e)
/-- every block of s places from a on is sorted, as far as e -/
def RestS (key : Int → Int) (xs : List Int) (s a e : Nat) : Prop := ∀ k, a ≤ s * k → Sorted key xs (s * k) (min (s * k + s) e)
section
variable {key : Int → Int} {xs ys : List Int}
theorem Sorted.none {a b : Nat} (h : b ≤ a) : Sorted key xs a b := fun i j h1 h2 h3 => by omega
theorem Sorted.sub {a b a' b' : Nat} (h : Sorted key xs a b) (h1 : a ≤ a') (h2 : b' ≤ b) : Sorted key xs a' b' := fun i j h3 h4 h5 => h i j (by omega) h4 (by omega)
theorem Blk.start (s : Nat) : Blk key xs s 0 := fun k => Sorted.none (by omega)
theorem mul_step {s k j : Nat} (h : k < j) : s * k + s ≤ s * j := by
  have := Nat.mul_le_mul_left s (show k + 1 ≤ j from h)
  rwa [Nat.mul_succ] at this
theorem Blk.next {s A e k : Nat} (h : Blk key xs s A) (hA : A = s * k) (_ : A ≤ e) (he2 : e ≤ A + s) (hs : Shuf A e xs ys) (ho : Sorted key ys A e) : Blk key ys s e := by
  intro j
  rcases Nat.lt_trichotomy j k with h1 | h1 | h1
  · have := mul_step (s := s) h1
    refine (((h j).sub (a' := s * j) (b' := s * j + s) (Nat.le_refl _) (by omega)).congr fun t h2 h3 => hs.out t (by omega)).sub (Nat.le_refl _) (by omega)
  · subst h1
    rw [← hA]
    exact ho.sub (Nat.le_refl _) (by omega)
  · have := mul_step (s := s) h1
    exact Sorted.none (by omega)
theorem Blk.rest {s e : Nat} (h : Blk key xs s e) : RestS key xs s 0 e := fun k _ => h k
theorem RestS.next {s A A2 e : Nat} (h : RestS key xs s A e) (hA : A ≤ A2) (hs : Shuf A A2 xs ys) : RestS key ys s A2 e := fun k hk => (h k (by omega)).congr fun t h1 h2 => hs.out t (by omega)
theorem RestS.run {s A e k : Nat} (h : RestS key xs s A e) (hA : A = s * k) : Sorted key xs A (min (A + s) e) := by
  have := h k (by omega)
  rwa [← hA] at this
theorem RestS.run2 {s A e k : Nat} (h : RestS key xs s A e) (hA : A = s * k) : Sorted key xs (A + s) (min (A + 2 * s) e) := by
  have := h (k + 1) (by rw [Nat.mul_succ]; omega)
  rw [Nat.mul_succ, ← hA] at this
  exact this.sub (Nat.le_refl _) (by omega)
end
end Go.Proofs.Ytjmkkcbilpidnaa.SortP
namespace Go.Proofs.Ytjmkkcbilpidnaa.SortA
open Go Go.RowKit Go.Proofs.Ytjmkkcbilpidnaa.W Go.Proofs.Ytjmkkcbilpidnaa.SortP
set_option linter.unusedVariables false
set_option linter.unusedSimpArgs false

set_option maxRecDepth 100000 in
set_option maxHeartbeats 4000000 in
theorem stable (D : Int → Prop) (key : Int → Int) (g c N f : Nat) (lb : Array Value) (xs : List Int) (w0 w : World) (h : Sw D w0 g N xs w) (hf : FnC Try.prog f lb D key w0 g) (hN : N ≤ 65536) :
    Calls Try.prog 54 #[.slice (some ⟨g, 0, none⟩) N c, .int .i64 N, .func (.func f) #[] lb] w fun e w' => e = .returned (.tuple #[]) ∧ ∃ zs, Sw D w0 g N zs w' ∧ Sorted key zs 0 N ∧ Shuf 0 N xs zs := by
  have HF := Lib.hid hf
  have H := Lib.hid h
  have HLEN := Lib.hid h.len
  clear h hf
  go_enter Try.func54, Try.ntmps54
  go_wp2
  go_loopw [7, 8] (fun va vb wr => ∃ (A k : Nat) (ys : List Int), A ≤ N ∧ Hid (A = 20 * k) ∧ va = .int .i64 A ∧ vb = .int .i64 (A + 20 : Nat) ∧ Hid (Sw D w0 g N ys wr) ∧ Hid (Shuf 0 N xs ys) ∧ Hid (Blk key ys 20 A)) (fun va vb _ => N - (intOf va).toNat)
  case atStart => exact ⟨0, 0, xs, by omega, rfl, rfl, rfl, H, .refl, Blk.start 20⟩
  case round =>
    clear H
    obtain ⟨A, k, ys, hA, HA, rfl, rfl, H, HS, HB⟩ := hrel
    by_cases hlt : A + 20 ≤ N
    · go_wp2_with fail
      refine (calls_args (insertionSort D key g c N A (A + 20) f lb ys w0 _ H.out HF.out hN (by omega) hlt) rfl).mono ?_
      rintro e' w' ⟨rfl, zs, t1, t2, t3⟩
      have T1 := Lib.hid t1
      have T2 := Lib.hid t2
      have T3 := Lib.hid t3
      clear t1 t2 t3
      go_wp2
      go_roundw
      case rel => exact ⟨A + 20, k + 1, zs, hlt, by have := HA.out; show A + 20 = 20 * (k + 1); omega, by go_num, by go_num, T1, HS.out.trans (T3.out.wide (by omega) hlt (by have := H.out.len; omega)), HB.out.next HA.out (by omega) (by omega) T3.out T2.out⟩
      case measure => simp [intOf]; omega
    · go_wp2_with fail
      refine (insertionSort D key g c N A N f lb ys w0 _ H.out HF.out hN hA (Nat.le_refl _)).mono ?_
      rintro e' w' ⟨rfl, zs, t1, t2, t3⟩
      have T1 := Lib.hid t1
      have T3 := Lib.hid (HS.out.trans (t3.wide (by omega) (Nat.le_refl _) (by have := H.out.len; omega)))
      have T4 := Lib.hid (HB.out.next HA.out hA (by omega) t3 t2)
      clear t1 t2 t3 H HS HB HA
      go_wp2
      go_loopw [6, 7, 8, 9] (fun vs va vb vm wr => ∃ (s : Nat) (ys : List Int), 20 ≤ s ∧ s ≤ 2 * N + 20 ∧ vs = .int .i64 s ∧ Hid (Sw D w0 g N ys wr) ∧ Hid (Shuf 0 N xs ys) ∧ Hid (Blk key ys s N)) (fun vs va vb vm _ => N - (intOf vs).toNat)
      case atStart => exact ⟨20, zs, by omega, by omega, rfl, T1, T3, T4⟩
      case round =>
        clear T1 T3 T4
        obtain ⟨s, ys, hs1, hs2, rfl, H, HS, HB⟩ := hrel
        by_cases hlt : s < N
        · go_wp2
          go_loopw [7, 8] (fun va vb wr => ∃ (B k : Nat) (zs : List Int), B ≤ N ∧ Hid (B = 2 * s * k) ∧ va = .int .i64 B ∧ vb = .int .i64 (B + 2 * s : Nat) ∧ Hid (Sw D w0 g N zs wr) ∧ Hid (Shuf 0 N xs zs) ∧ Hid (Blk key zs (2 * s) B) ∧ Hid (RestS key zs s B N)) (fun va vb _ => N - (intOf va).toNat)
          case atStart => exact ⟨0, 0, ys, by omega, rfl, rfl, by go_num, H, HS, Blk.start _, HB.out.rest⟩
          case round =>
            clear H HS HB
            obtain ⟨B, k, zs, hB, HBk, rfl, rfl, H, HS, HB, HR⟩ := hrel
            have HB2 : Hid (B = s * (2 * k)) := by have := HBk.out; show B = s * (2 * k); rw [this, Nat.mul_assoc, Nat.mul_left_comm]
            by_cases hlt2 : B + 2 * s ≤ N
            · go_wp2_with fail
              refine (calls_args (symMerge D key g c N f lb w0 HF.out hN _ B (B + s) (B + 2 * s) zs _ (Nat.le_refl _) H.out (by omega) (by omega) hlt2 ((HR.out.run HB2.out).sub (Nat.le_refl _) (by omega)) ((HR.out.run2 HB2.out).sub (Nat.le_refl _) (by omega))) (by simp)).mono ?_
              rintro e' w' ⟨rfl, us, t1, t2, t3⟩
              have T1 := Lib.hid t1
              have T2 := Lib.hid t2
              have T3 := Lib.hid t3
              clear t1 t2 t3
              go_wp2
              go_roundw
              case rel => exact ⟨B + 2 * s, k + 1, us, hlt2, by have := HBk.out; show B + 2 * s = 2 * s * (k + 1); rw [Nat.mul_succ, ← this], by go_num, by go_num, T1, HS.out.trans (T3.out.wide (by omega) hlt2 (by have := H.out.len; omega)), HB.out.next HBk.out (by omega) (by omega) T3.out T2.out, HR.out.next (by omega) T3.out⟩
              case measure => simp [intOf]; omega
            · by_cases hlt3 : B + s < N
              · go_wp2_with fail
                refine (calls_args (symMerge D key g c N f lb w0 HF.out hN _ B (B + s) N zs _ (Nat.le_refl _) H.out (by omega) hlt3 (Nat.le_refl _) ((HR.out.run HB2.out).sub (Nat.le_refl _) (by omega)) ((HR.out.run2 HB2.out).sub (Nat.le_refl _) (by omega))) (by simp)).mono ?_
                rintro e' w' ⟨rfl, us, t1, t2, t3⟩
                have T1 := Lib.hid t1
                have T2 := Lib.hid t2
                have T3 := Lib.hid t3
                clear t1 t2 t3
                go_wp2
                go_roundw
                case rel => exact ⟨2 * s, us, by omega, by omega, by go_num, T1, HS.out.trans (T3.out.wide (by omega) (Nat.le_refl _) (by have := H.out.len; omega)), HB.out.next HBk.out hB (by omega) T3.out T2.out⟩
                case measure => simp [intOf]; omega
              · go_wp2
                go_roundw
                case rel => exact ⟨2 * s, zs, by omega, by omega, by go_num, H, HS, HB.out.next HBk.out hB (by omega) .refl ((HR.out.run HB2.out).sub (Nat.le_refl _) (by omega))⟩
                case measure => simp [intOf]; omega
        · go_wp2
          go_end0
          exact ⟨rfl, ys, H.out, by have := HB.out 0; rw [Nat.mul_zero] at this; exact this.sub (Nat.le_refl _) (by omega), HS.out⟩

theorem sortStable (D : Int → Prop) (key : Int → Int) (g c N f : Nat) (lb : Array Value) (xs : List Int) (w0 w : World) (h : Sw D w0 g N xs w) (hf : FnC Try.prog f lb D key w0 g) (hN : N ≤ 65536) :
    Calls Try.prog 47 #[.slice (some ⟨g, 0, none⟩) N c, .func (.func f) #[] lb] w fun e w' => e = .returned (.tuple #[]) ∧ ∃ zs, Sw D w0 g N zs w' ∧ Sorted key zs 0 N ∧ Shuf 0 N xs zs := by
  have HF := Lib.hid hf
  have H := Lib.hid h
  clear h hf
  go_enter Try.func47, Try.ntmps47
  go_wp2_with fail
  refine (stable D key g c N f lb xs w0 _ H.out HF.out hN).mono ?_
  rintro e' w' ⟨rfl, zs, t1, t2, t3⟩
  go_wp2
  go_end0
  exact ⟨rfl, zs, t1, t2, t3⟩
end Go.Proofs.Ytjmkkcbilpidnaa.SortA
