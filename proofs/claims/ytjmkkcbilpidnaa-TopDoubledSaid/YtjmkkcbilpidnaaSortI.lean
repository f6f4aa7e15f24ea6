/- The walks of the stable sort (library text): insertion. -/
import Derived.Test.YtjmkkcbilpidnaaSortA
import Derived.BigQuiet
namespace Go.Proofs.Ytjmkkcbilpidnaa.SortA
open Go Go.RowKit Go.Proofs.Ytjmkkcbilpidnaa.W Go.Proofs.Ytjmkkcbilpidnaa.SortP
set_option linter.unusedVariables false
set_option linter.unusedSimpArgs false

/-- sorted but for the place j as the later one -/
def Ins (key : Int → Int) (zs : List Int) (a i j : Nat) : Prop := ∀ s t, a ≤ s → s < t → t ≤ i → t ≠ j → key (zs.getD s 0) ≤ key (zs.getD t 0)
theorem Ins.start {key : Int → Int} {zs : List Int} {a i : Nat} (h : Sorted key zs a i) : Ins key zs a i i := fun s t h1 h2 h3 h4 => h s t h1 h2 (by omega)
theorem Ins.step {key : Int → Int} {zs : List Int} {a i p : Nat} (h : Ins key zs a i (p + 1)) (hp : a ≤ p) (hi : p + 1 ≤ i) (hl : i < zs.length) (hk : key (zs.getD (p + 1) 0) < key (zs.getD p 0)) : Ins key (swp zs (p + 1) p) a i p := by
  intro s t h1 h2 h3 h4
  rw [swp_at _ _ _ _ (by omega) (by omega), swp_at _ _ _ _ (by omega) (by omega)]
  rw [if_neg h4]
  by_cases e1 : t = p + 1
  · subst e1
    rw [if_pos rfl]
    by_cases e2 : s = p
    · rw [if_pos e2]; omega
    · rw [if_neg e2, if_neg (by omega)]
      exact h s p h1 (by omega) (by omega) (by omega)
  · rw [if_neg e1]
    by_cases e2 : s = p
    · rw [if_pos e2]; exact h (p + 1) t (by omega) (by omega) h3 e1
    · rw [if_neg e2]
      by_cases e3 : s = p + 1
      · rw [if_pos e3]; exact h p t hp (by omega) h3 e1
      · rw [if_neg e3]; exact h s t h1 h2 h3 e1
theorem Ins.done {key : Int → Int} {zs : List Int} {a i j : Nat} (h : Ins key zs a i j) (hj : j ≤ i) (haj : a ≤ j) (hk : j = a ∨ key (zs.getD (j - 1) 0) ≤ key (zs.getD j 0)) : Sorted key zs a (i + 1) := by
  intro s t h1 h2 h3
  by_cases e : t = j
  · subst e
    rcases hk with hk | hk
    · omega
    · by_cases e2 : s = t - 1
      · subst e2; exact hk
      · exact Int.le_trans (h s (t - 1) h1 (by omega) (by omega) (by omega)) hk
  · exact h s t h1 h2 (by omega) e

/-- A comparator: the difference of keys; it only reads outside the block g. -/
def FnC (P : Program) (f : Nat) (lb : Array Value) (D : Int → Prop) (key : Int → Int) (w0 : World) (g : Nat) : Prop :=
  Ent P f ∧ ∀ (x y : Int) (w : World), D x → D y → w0.grownBy w (some g) → Calls P f (#[.int .i64 x, .int .i64 y] ++ lb) w fun e W' => e = .returned (.int .i64 (key x - key y)) ∧ ∃ q, W' = w.drewN q

theorem Sw.with {D : Int → Prop} {w0 w : World} {g N : Nat} {xs : List Int} (h : Sw D w0 g N xs w) {P : Program} {f : Nat} {lb : Array Value} {key : Int → Int} (hc : FnC P f lb D key w0 g) {s t : Nat} (hs : s < N) (ht : t < N) {u v : Int} (hu : u = xs.getD s 0) (hv : v = xs.getD t 0) :
    ∀ q, Calls P f (#[.int .i64 u, .int .i64 v] ++ lb) (w.drewN q) fun e W' => e = .returned (.int .i64 (key u - key v)) ∧ ∃ m, W' = (w.drewN q).drewN m := fun q => by
  subst hu; subst hv
  exact hc.2 _ _ _ (h.dom s hs) (h.dom t ht) (h.drewN q).gr

set_option maxHeartbeats 2000000 in
theorem insertionSort (D : Int → Prop) (key : Int → Int) (g c N a b f : Nat) (lb : Array Value) (xs : List Int) (w0 w : World) (h : Sw D w0 g N xs w) (hf : FnC Try.prog f lb D key w0 g) (hN : N ≤ 65536) (hab : a ≤ b) (hb : b ≤ N) :
    Calls Try.prog 57 #[.slice (some ⟨g, 0, none⟩) N c, .int .i64 a, .int .i64 b, .func (.func f) #[] lb] w fun e w' => e = .returned (.tuple #[]) ∧ ∃ zs, Sw D w0 g N zs w' ∧ Sorted key zs a b ∧ Shuf a b xs zs := by
  have e1 := hf.1
  unfold Ent at e1
  have HF := Lib.hid hf
  have H := Lib.hid h
  clear h hf
  go_enter Try.func57, Try.ntmps57
  go_wp2
  go_loopw [8] (fun vi wr => ∃ (i : Nat) (ys : List Int), a < i ∧ i ≤ b + 1 ∧ vi = .int .i64 i ∧ Hid (Sw D w0 g N ys wr) ∧ Hid (Shuf a b xs ys) ∧ Hid (Sorted key ys a (min i b))) (fun vi _ => b + 1 - (intOf vi).toNat)
  case atStart => exact ⟨a + 1, xs, by omega, by omega, by go_num, H, .refl, fun i j h1 h2 h3 => by omega⟩
  case round =>
    clear H
    obtain ⟨i, ys, hai, hib, rfl, H, HS, HO⟩ := hrel
    by_cases hlt : i < b
    · have hmin : min i b = i := by omega
      rw [hmin] at HO
      clear hmin
      go_wp2
      go_loopw [9] (fun vj wr => ∃ (j : Nat) (zs : List Int), a ≤ j ∧ j ≤ i ∧ vj = .int .i64 j ∧ Hid (Sw D w0 g N zs wr) ∧ Hid (Shuf a b xs zs) ∧ Hid (Ins key zs a i j)) (fun vj _ => (intOf vj).toNat)
      case atStart => exact ⟨i, ys, by omega, Nat.le_refl _, rfl, H, HS, Ins.start HO.out⟩
      case round =>
        clear H HS HO
        obtain ⟨j, zs, haj, hji, rfl, H, HS, HI⟩ := hrel
        have hlen := H.out.len
        by_cases hja : a < j
        · obtain ⟨p, rfl⟩ : ∃ p, j = p + 1 := ⟨j - 1, by omega⟩
          obtain ⟨u, hu⟩ : ∃ u, u = zs.getD (p + 1) 0 := ⟨_, rfl⟩
          obtain ⟨v, hv⟩ : ∃ v, v = zs.getD p 0 := ⟨_, rfl⟩
          have hc1 : wr.cell? ⟨g, p + 1, none⟩ = some (.int .i64 u) := by rw [hu]; exact H.out.cell (by omega)
          have hc2 : wr.cell? ⟨g, p, none⟩ = some (.int .i64 v) := by rw [hv]; exact H.out.cell (by omega)
          have hf1 : wr.frozen? ⟨g, p + 1, none⟩ = false := H.out.row.free _
          have hf2 : wr.frozen? ⟨g, p, none⟩ = false := H.out.row.free _
          have HC := Lib.hid (H.out.with HF.out (s := p + 1) (t := p) (by omega) (by omega) hu hv)
          have HU := Lib.hid hu
          have HV := Lib.hid hv
          clear hu hv
          have hja2 : (a : Int) < (p : Int) + 1 := by omega
          have hp0 : (0 : Int) ≤ (p : Int) := by omega
          have hpN : (p : Int) + 1 < (N : Int) := by omega
          have hpN2 : (p : Int) < (N : Int) := by omega
          by_cases hl : key u - key v < 0
          · go_wp2_with fail
            go_quiet (exact Calls.quiet_of (HC.out _))
            go_wp2
            clear hlen
            go_region
            all_goals go_wp2
            all_goals go_roundw
            case rel => exact ⟨p, _, by omega, by omega, by go_num, by have := (((H.out.drewN nq).swp (i := p + 1) (j := p) (by omega) (by omega))).drew; rw [← HU.out, ← HV.out] at this; exact this, HS.out.step (by omega) (by omega) (by omega) (by omega) (by have := H.out.len; omega), HI.out.step (by omega) (by omega) (by have := H.out.len; omega) (by rw [← HU.out, ← HV.out]; omega)⟩
            case measure => simp [intOf]
          · go_wp2_with fail
            go_quiet (exact Calls.quiet_of (HC.out _))
            go_wp2
            go_roundw
            case rel => exact ⟨i + 1, zs, by omega, by omega, by go_num, H.out.drewN nq, HS, by rw [show min (i + 1) b = i + 1 by omega]; exact HI.out.done (by omega) (by omega) (.inr (by rw [Nat.add_sub_cancel, ← HU.out, ← HV.out]; omega))⟩
            case measure => simp [intOf]; omega
        · have hja' : j = a := by omega
          subst hja'
          go_wp2_with fail
          go_quiet (fail)
          go_wp2
          go_roundw
          case rel => exact ⟨i + 1, zs, by omega, by omega, by go_num, H.out.drewN nq, HS, by rw [show min (i + 1) b = i + 1 by omega]; exact HI.out.done (by omega) (by omega) (.inl rfl)⟩
          case measure => simp [intOf]; omega
    · have hmin : min i b = b := by omega
      rw [hmin] at HO
      go_wp2
      go_end0
      exact ⟨rfl, ys, H.out, HO.out, HS.out⟩
end Go.Proofs.Ytjmkkcbilpidnaa.SortA
