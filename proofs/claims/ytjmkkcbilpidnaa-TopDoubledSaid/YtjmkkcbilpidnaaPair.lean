/- The walk of 'paired'. -/
import Derived.Test.YtjmkkcbilpidnaaMerge
import Derived.Test.YtjmkkcbilpidnaaBoth
namespace Go.Proofs.Ytjmkkcbilpidnaa.Limit
open Go Go.RowKit Go.Proofs.Ytjmkkcbilpidnaa.W Go.Proofs.Ytjmkkcbilpidnaa.Tally
set_option linter.unusedVariables false
set_option linter.unusedSimpArgs false
attribute [local go_sem ↓] Go.wp_at_zero Go.wp_at_succ

/-- consecutive pairs -/
def prs : List PK → List PK
  | x :: y :: l => (x.1 + y.1, x.2 ++ y.2) :: prs l
  | _ => []
def prsTo (xs : List PK) (k : Nat) : List PK := prs (xs.take (2 * k))
theorem prs_snoc : ∀ (k : Nat) (xs : List PK) (h : 2 * k + 1 < xs.length), prs (xs.take (2 * (k + 1))) = prs (xs.take (2 * k)) ++ [(xs[2 * k].1 + xs[2 * k + 1].1, xs[2 * k].2 ++ xs[2 * k + 1].2)]
  | 0, x :: y :: l, h => by simp [prs]
  | k + 1, x :: y :: l, h => by
    have := prs_snoc k l (by simp at h; omega)
    have h3 : 2 * k + 1 < l.length := by simp at h; omega
    have h4 : 2 * k < l.length := by omega
    show prs (x :: y :: l.take (2 * (k + 1))) = prs (x :: y :: l.take (2 * k)) ++ [(l[2 * k].1 + l[2 * k + 1].1, l[2 * k].2 ++ l[2 * k + 1].2)]
    simp only [prs, List.cons_append]
    rw [this]
theorem prs_end : ∀ (k : Nat) (xs : List PK), xs.length ≤ 2 * k + 1 → prs (xs.take (2 * k)) = prs xs
  | 0, [], h => rfl
  | 0, [x], h => rfl
  | 0, x :: y :: l, h => by simp at h
  | k + 1, [], h => by simp
  | k + 1, [x], h => by rw [show 2 * (k + 1) = 2 * k + 1 + 1 by omega]; simp
  | k + 1, x :: y :: l, h => by
    rw [show 2 * (k + 1) = 2 * k + 1 + 1 by omega, List.take_succ_cons, List.take_succ_cons]
    simp only [prs]
    rw [prs_end k l (by simp at h; omega)]
theorem prs_len : ∀ (xs : List PK), (prs xs).length ≤ xs.length
  | [] => by simp [prs]
  | [x] => by simp [prs]
  | x :: y :: l => by simp only [prs, List.length_cons]; have := prs_len l; omega

theorem pack_ok2 {w wr : World} {base : Nat} {A' : Option Addr} {c' : Nat} {p : PK} {e : TypeId} {v : Value} {done : List PK} {wt : Int} {pn : Nat} (hi : In (kN .i64) w (fun g => wr.heap.size ≤ g ∧ g < w.heap.size) A' c' p.2) (ho : Own kK e wr base v done) (h1 : wt = p.1) (h2 : pn = p.2.length) :
    kK.ok w (Off w v) p [.int .i64 wt, .slice A' pn c'] := by
  subst h1; subst h2
  exact ⟨[.int .i64 p.1], [.slice A' p.2.length c'], rfl, rfl, A', c', rfl, hi.sub fun g hg => ⟨hg.2, fun h => by have := (ho.lt g h).2; omega⟩⟩

set_option maxRecDepth 100000 in
set_option maxHeartbeats 4000000 in
theorem paired (g : Nat) (hg : Both Try.prog g) (A : Option Addr) (cA : Nat) (xs : List PK) (w : World) (hA : In kK w (Lt w.heap.size) A cA xs) (hl : xs.length ≤ 65536)
    (hx : ∀ p ∈ xs, 0 ≤ p.1 ∧ p.1 ≤ 1152921504606846976 ∧ 0 < p.2.length ∧ p.2.length ≤ 32768) :
    Calls Try.prog 35 #[.slice A xs.length cA, .func (.func g) #[] #[]] w fun e w' => ∃ v, e = .returned v ∧ Own kK 74 w' w.heap.size v (prs xs) ∧ Below w.heap.size w w' := by
  have hE := hg.1
  unfold Ent at hE
  have HG := Lib.hid hg.2
  have HA := Lib.hid hA
  have HX := Lib.hid hx
  clear hg hA hx
  go_enter Try.func35, Try.ntmps35
  go_wp2
  go_loopw [4, 5] (fun vo vi wr => ∃ k : Nat, 2 * k ≤ xs.length + 1 ∧ vi = .int .i64 (2 * k : Nat) ∧ Hid (Own kK 74 wr w.heap.size vo (prs (xs.take (2 * k)))) ∧ Hid (Below w.heap.size w wr)) (fun _ vi _ => xs.length + 1 - (intOf vi).toNat)
  case atStart => exact ⟨0, by omega, rfl, Own.nil _ _ _ _, Below.refl _ _⟩
  case round =>
    obtain ⟨k, hk, rfl, hown, hbl⟩ := hrel
    obtain ⟨i, hi⟩ : ∃ i, i = 2 * k := ⟨_, rfl⟩
    rw [← hi] at hk hown
    by_cases hlt : i + 1 < xs.length
    · obtain ⟨b, off, xA, xc, rfl, xlt, xc1, xc2, xi⟩ := In.pack (HA.out.below hbl.out (Nat.le_refl _)) (j := i) (by omega)
      obtain ⟨b', off', yA, yc, eb, ylt, yc1, yc2, yi⟩ := In.pack (HA.out.below hbl.out (Nat.le_refl _)) (j := i + 1) (by omega)
      injection eb with eb
      injection eb with eb1 eb2
      subst eb1; subst eb2
      obtain ⟨x, hx⟩ : ∃ q, q = xs[i] := ⟨_, rfl⟩
      obtain ⟨y, hy⟩ : ∃ q, q = xs[i + 1] := ⟨_, rfl⟩
      have hsn : Hid (prs (xs.take (2 * (k + 1))) = prs (xs.take i) ++ [(x.1 + y.1, x.2 ++ y.2)]) := by
        subst hi; subst hx; subst hy; exact prs_snoc k xs hlt
      have bx := HX.out x (by rw [hx]; exact List.getElem_mem _)
      have by' := HX.out y (by rw [hy]; exact List.getElem_mem _)
      rw [← hx] at xc1 xc2 xi
      rw [← hy] at yc1 yc2 yi
      clear hx hy
      have XI := Lib.hid xi
      have YI := Lib.hid yi
      have XL := Lib.hid xlt
      have hil : (prs (xs.take i)).length ≤ i := by have := prs_len (xs.take i); have h2 := List.length_take_le i xs; omega
      have HIL := Lib.hid hil
      have BX := Lib.hid bx
      have BY := Lib.hid by'
      obtain ⟨xw, hxw⟩ : ∃ q, q = x.1 := ⟨_, rfl⟩
      obtain ⟨xn, hxn⟩ : ∃ q, q = x.2.length := ⟨_, rfl⟩
      obtain ⟨yw, hyw⟩ : ∃ q, q = y.1 := ⟨_, rfl⟩
      obtain ⟨yn, hyn⟩ : ∃ q, q = y.2.length := ⟨_, rfl⟩
      rw [← hxw] at xc1
      rw [← hxn] at xc2
      rw [← hyw] at yc1
      rw [← hyn] at yc2
      have hws : IntKind.i64.wrap (xw + yw) = xw + yw := IntWalk.i64_in _ (by omega)
      have hw1 : IntKind.i64.wrap ((i : Int) + 1) = (i : Int) + 1 := IntWalk.i64_in _ (by omega)
      have hi0 : (0 : Int) ≤ (i : Int) := by omega
      have hi01 : (0 : Int) ≤ (i : Int) + 1 := by omega
      have hi1 : (i : Int) < (xs.length : Int) := by omega
      have hi2 : (i : Int) + 1 < (xs.length : Int) := by omega
      have HXW := Lib.hid hxw
      have HYW := Lib.hid hyw
      have HXN := Lib.hid hxn
      have HYN := Lib.hid hyn
      have HI := Lib.hid hi
      clear xi yi xlt ylt hil bx by' hxw hyw hxn hyn
      rw [← hi]
      clear hi
      obtain ⟨pn, hpn⟩ : ∃ q, q = (x.2 ++ y.2).length := ⟨_, rfl⟩
      have HPN := Lib.hid hpn
      have HC : Hid (Calls Try.prog g #[.slice xA xn xc, .slice yA yn yc] wr.drew fun e w' => ∃ A' c', e = .returned (.slice A' pn c') ∧ In (kN .i64) w' (fun g => wr.heap.size ≤ g ∧ g < w'.heap.size) A' c' (x.2 ++ y.2) ∧ Below wr.heap.size wr w') := by
        have hd : Below wr.heap.size wr wr.drew := bdrewN (Below.refl _ _) 1
        have := HG.out xA yA xc yc x.2 y.2 wr.drew ((XI.out.sub (Lt.le hbl.out.size)).below hd (Nat.le_refl _)) ((YI.out.sub (Lt.le hbl.out.size)).below hd (Nat.le_refl _)) BX.out.2.2.1 BY.out.2.2.1 (by have h1 := BX.out.2.2.2; have h2 := BY.out.2.2.2; omega)
        rw [← HXN.out, ← HYN.out, ← hpn] at this
        refine this.mono ?_
        rintro e w' ⟨A', c', rfl, h1, h2⟩
        exact ⟨A', c', rfl, h1, hd.trans h2⟩
      clear hpn
      have hlen : ((prs (xs.take i)).length + 1) * 32 ≤ 140737488355328 := by have := HIL.out; omega
      have hmax : (prs (xs.take i)).length + 1 ≤ maxLen := by have := HIL.out; unfold maxLen; omega
      have hblt : b < wr.heap.size := Nat.lt_of_lt_of_le XL.out hbl.out.size
      have HBLT := Lib.hid hblt
      have hbne : Hid (some b ≠ u4.ownBlock) := fun h => by have h1 := (hown.out.lt b h.symm).1; have h2 := XL.out; unfold Lt at h2; omega
      clear hblt
      go_wp2_with fail
      go_region_held3 (fun w' => w'.cell? ⟨b, off + i * 2, none⟩ = some (.int .i64 xw) ∧ w'.cell? ⟨b, off + i * 2 + 1, none⟩ = some (.slice xA xn xc) ∧ w'.cell? ⟨b, off + (i + 1) * 2, none⟩ = some (.int .i64 yw) ∧ w'.cell? ⟨b, off + (i + 1) * 2 + 1, none⟩ = some (.slice yA yn yc))
        (first | go_keep | exact ⟨(hg'.cell_far ⟨b, _, none⟩ (Nat.lt_of_lt_of_le HBLT.out hb3.size) hbne.out).trans ((hb3.cell HBLT.out).trans xc1), (hg'.cell_far ⟨b, _, none⟩ (Nat.lt_of_lt_of_le HBLT.out hb3.size) hbne.out).trans ((hb3.cell HBLT.out).trans xc2), (hg'.cell_far ⟨b, _, none⟩ (Nat.lt_of_lt_of_le HBLT.out hb3.size) hbne.out).trans ((hb3.cell HBLT.out).trans yc1), (hg'.cell_far ⟨b, _, none⟩ (Nat.lt_of_lt_of_le HBLT.out hb3.size) hbne.out).trans ((hb3.cell HBLT.out).trans yc2)⟩ | exact ⟨(hb3.cell HBLT.out).trans xc1, (hb3.cell HBLT.out).trans xc2, (hb3.cell HBLT.out).trans yc1, (hb3.cell HBLT.out).trans yc2⟩)
        (first
          | (refine HC.out.mono ?_; rintro e w3 ⟨A3, c3, rfl, hin3, hb3⟩)
          | (refine st_append1 w3 [.int .i64 (xw + yw), .slice A3 pn c3] kK w.heap.size 74 (.agg #[.int .i64 0, .slice none 0 0]) 32 info_pack rfl (by decide) (hown.out.below hb3) (by rfl) _ _ 67 (by rfl) Try.underlying67 (by rfl) (x.1 + y.1, x.2 ++ y.2) (by rfl) (pack_ok2 (p := (x.1 + y.1, x.2 ++ y.2)) hin3 hown.out (by rw [HXW.out, HYW.out]) HPN.out) hlen hmax (Nat.le_trans hbl.out.size hb3.size) ?_; intro v' w' hown' hb' hg' hv'))
      clear hws hw1 hi01
      go_wp2
      go_roundw
      case rel => exact ⟨k + 1, by have := HI.out; omega, congrArg (Value.int .i64) (by have := HI.out; omega), by show Own _ _ _ _ _ _; rw [hsn.out]; exact hown', (hbl.out.trans (hb3.mono hbl.out.size)).trans hb'⟩
      case measure => simp [intOf]; omega
    · have he := prs_end k xs (by omega)
      rw [← hi] at he
      rw [he] at hown
      clear he
      rw [← hi]
      clear hi
      go_wp2
      go_ret
      exact ⟨_, rfl, hown.out, hbl.out⟩
end Go.Proofs.Ytjmkkcbilpidnaa.Limit
