/- The walks of 'merged' and 'paired' once more: what the packages lead to lies in blocks of S0, and stays there. -/
import Derived.Test.YtjmkkcbilpidnaaPair
namespace Go.Proofs.Ytjmkkcbilpidnaa.Limit
open Go Go.RowKit Go.Proofs.Ytjmkkcbilpidnaa.W Go.Proofs.Ytjmkkcbilpidnaa.Tally
set_option linter.unusedVariables false
set_option linter.unusedSimpArgs false
attribute [local go_sem ↓] Go.wp_at_zero Go.wp_at_succ

/-- a row of numbers as an element, in blocks of S0 -/
def kZ (S0 : Nat → Prop) : Kd (List Int) where
  n := 1
  ok w S xs cs := ∃ A c, cs = [.slice A xs.length c] ∧ In (kN .i64) w (fun g => S g ∧ S0 g) A c xs
  len := by rintro w S x cs ⟨A, c, rfl, _⟩; rfl
  one := by rintro w S x cs ⟨A, c, rfl, _⟩ u hu; simp at hu; subst hu; rfl
  mono := by rintro w w' S S' x cs ⟨A, c, rfl, hi⟩ hb hB; exact ⟨A, c, rfl, hi.mono (fun g hg => hb g hg.1) (fun g hg => ⟨hB g hg.1, hg.2⟩)⟩
abbrev kA (S0 : Nat → Prop) : Kd (Int × List Int) := kP (kN .i64) (kZ S0)
section
variable {S0 : Nat → Prop}
theorem packA {w : World} {S : Nat → Prop} {A : Option Addr} {c : Nat} {xs : List PK} (h : In (kA S0) w S A c xs) {j : Nat} (hj : j < xs.length) :
    ∃ b off A' c', A = some ⟨b, off, none⟩ ∧ S b ∧ w.cell? ⟨b, off + j * 2, none⟩ = some (.int .i64 xs[j].1) ∧ w.cell? ⟨b, off + j * 2 + 1, none⟩ = some (.slice A' xs[j].2.length c') ∧ In (kN .i64) w (fun g => S g ∧ S0 g) A' c' xs[j].2 := by
  obtain ⟨b, off, cs, ha, hlt, ⟨a1, a2, hcs, h1, ⟨A', c', h2, hi⟩⟩, hc⟩ := h.2.2 j xs[j] (List.getElem?_eq_getElem hj)
  have h1' : a1 = [.int .i64 xs[j].1] := h1
  subst h1'; subst h2; subst hcs
  exact ⟨b, off, A', c', ha, hlt, hc 0 _ rfl, hc 1 _ rfl, hi⟩
theorem belowA {B : Nat} {w w' : World} {A : Option Addr} {c : Nat} {xs : List Int} (h : In (kN .i64) w (fun g => Lt B g ∧ S0 g) A c xs) (hb : Below B w w') : In (kN .i64) w' (fun g => Lt B g ∧ S0 g) A c xs :=
  h.mono (fun g hg => hb.block g hg.1) (fun _ h => h)
theorem pack_okA {w : World} {base : Nat} {A' : Option Addr} {c' : Nat} {x : PK} {e : TypeId} {v : Value} {done : List PK} {wt : Int} {pn : Nat} (hi : In (kN .i64) w (fun g => Lt base g ∧ S0 g) A' c' x.2) (ho : Own (kA S0) e w base v done) (hb : base ≤ w.heap.size) (h1 : wt = x.1) (h2 : pn = x.2.length) :
    (kA S0).ok w (Off w v) x [.int .i64 wt, .slice A' pn c'] := by
  subst h1; subst h2
  exact ⟨[.int .i64 x.1], [.slice A' x.2.length c'], rfl, rfl, A', c', rfl, hi.sub fun g hg => ⟨⟨Nat.lt_of_lt_of_le hg.1 hb, fun h => by have := (ho.lt g h).1; have h2 := hg.1; unfold Lt at h2; omega⟩, hg.2⟩⟩
theorem pack_okA2 {w wr : World} {base : Nat} {A' : Option Addr} {c' : Nat} {p : PK} {e : TypeId} {v : Value} {done : List PK} {wt : Int} {pn : Nat} (hS : ∀ g, wr.heap.size ≤ g → S0 g) (hi : In (kN .i64) w (fun g => wr.heap.size ≤ g ∧ g < w.heap.size) A' c' p.2) (ho : Own (kA S0) e wr base v done) (h1 : wt = p.1) (h2 : pn = p.2.length) :
    (kA S0).ok w (Off w v) p [.int .i64 wt, .slice A' pn c'] := by
  subst h1; subst h2
  exact ⟨[.int .i64 p.1], [.slice A' p.2.length c'], rfl, rfl, A', c', rfl, hi.sub fun g hg => ⟨⟨hg.2, fun h => by have := (ho.lt g h).2; omega⟩, hS g hg.1⟩⟩
/-- an owned row reads in S0's blocks -/
theorem Own.slA {e : TypeId} {w : World} {base : Nat} {v : Value} {xs : List PK} (h : Own (kA S0) e w base v xs) (hS : ∀ g, base ≤ g → S0 g) : ∃ A c, v = .slice A xs.length c ∧ In (kA S0) w (fun g => g < w.heap.size ∧ S0 g) A c xs := by
  have hs := h.sl
  obtain ⟨A, c, rfl, hi⟩ := hs
  refine ⟨A, c, rfl, hi.1, hi.2.1, fun j x hx => ?_⟩
  obtain ⟨b, off, cs, rfl, hlt, ⟨a1, a2, hcs, h1, ⟨A', c', h2, hi2⟩⟩, hc⟩ := hi.2.2 j x hx
  exact ⟨b, off, cs, rfl, ⟨hlt, hS b (h.lt b rfl).1⟩, ⟨a1, a2, hcs, h1, ⟨A', c', h2, hi2.sub (fun g hg => ⟨⟨hg.1, hg.2⟩, hg.2⟩)⟩⟩, hc⟩
theorem in_kA {w : World} {S : Nat → Prop} {A : Option Addr} {c : Nat} {xs : List PK} (h : In kK w S A c xs) (hS : ∀ g, S g → S0 g) : In (kA S0) w S A c xs := by
  refine ⟨h.1, h.2.1, fun j x hx => ?_⟩
  obtain ⟨b, off, cs, rfl, hlt, ⟨a1, a2, hcs, h1, ⟨A', c', h2, hi2⟩⟩, hc⟩ := h.2.2 j x hx
  exact ⟨b, off, cs, rfl, hlt, ⟨a1, a2, hcs, h1, ⟨A', c', h2, hi2.sub (fun g hg => ⟨hg, hS g hg⟩)⟩⟩, hc⟩
theorem in_cap {α : Type} {k : Kd α} {w : World} {S : Nat → Prop} {A : Option Addr} {c c' : Nat} {xs : List α} (h : In k w S A c xs) (h1 : xs.length ≤ c') (h2 : c' ≤ c) : In k w S A c' xs := ⟨h1, Nat.le_trans h2 h.2.1, h.2.2⟩
end

set_option maxRecDepth 100000 in
set_option maxHeartbeats 2000000 in
theorem mergedA (S0 : Nat → Prop) (A B : Option Addr) (cA cB : Nat) (xs ys : List PK) (w : World) (hA : In (kA S0) w (Lt w.heap.size) A cA xs) (hB : In (kA S0) w (Lt w.heap.size) B cB ys) (hl : xs.length + ys.length ≤ 65536) :
    Calls Try.prog 34 #[.slice A xs.length cA, .slice B ys.length cB] w fun e w' => ∃ v, e = .returned v ∧ Own (kA S0) 74 w' w.heap.size v (mrg xs ys) ∧ Below w.heap.size w w' := by
  go_enter Try.func34, Try.ntmps34
  go_wp2
  go_loopw [0, 1, 5] (fun va vb vo wr => ∃ (A1 B1 : Option Addr) (n1 n2 c1 c2 : Nat) (ra rb done : List PK), va = .slice A1 n1 c1 ∧ vb = .slice B1 n2 c2 ∧ Hid (ra.length = n1) ∧ Hid (rb.length = n2) ∧ Hid (In (kA S0) w (Lt w.heap.size) A1 c1 ra) ∧ Hid (In (kA S0) w (Lt w.heap.size) B1 c2 rb) ∧ Hid (Own (kA S0) 74 wr w.heap.size vo done) ∧ Hid (Below w.heap.size w wr) ∧ Hid (done.length + (ra.length + rb.length) ≤ 65536) ∧ n1 + n2 ≤ 65536 ∧ Hid (done ++ mrg ra rb = mrg xs ys)) (fun va vb _ _ => lenOf va + lenOf vb)
  case atStart => exact ⟨A, B, _, _, cA, cB, xs, ys, [], rfl, rfl, rfl, rfl, hA, hB, Own.nil _ _ _ _, Below.refl _ _, by show _ ≤ _; simpa using hl, hl, rfl⟩
  case round =>
    clear hA hB hl
    obtain ⟨A1, B1, n1, n2, c1, c2, ra, rb, done, rfl, rfl, H1, H2, hA, hB, hown, hbl, hl, hn, hd⟩ := hrel
    by_cases h2 : n2 = 0
    · subst h2
      have eb := Lib.hid (List.eq_nil_of_length_eq_zero H2.out)
      by_cases h1 : n1 = 0
      · subst h1
        go_wp2
        go_ret
        refine ⟨_, rfl, ?_, hbl.out⟩
        have := hd.out
        rw [List.eq_nil_of_length_eq_zero H1.out, eb.out, mrg_nil, List.append_nil] at this
        rw [← this]; exact hown.out
      · have hb : ((0 : Int) == 0) = true := rfl
        obtain ⟨x, ra', rfl⟩ : ∃ x ra', ra = x :: ra' := List.exists_cons_of_length_pos (by rw [H1.out]; omega)
        obtain ⟨xb, xoff, xA, xc, rfl, xlt, xc1, xc2, xi⟩ := packA (hA.out.below hbl.out (Nat.le_refl _)) (j := 0) (by simp)
        simp only [List.getElem_cons_zero, Nat.zero_mul, Nat.add_zero] at xc1 xc2 xi
        have xHI := Lib.hid xi
        have xcap : (n1 : Int) ≤ (c1 : Int) := by have := hA.out.1; rw [H1.out] at this; omega
        have xp : (0 : Int) < (n1 : Int) := by omega
        have xp1 : (1 : Int) ≤ (n1 : Int) := by omega
        obtain ⟨xwt, xhwt⟩ : ∃ q, q = x.1 := ⟨_, rfl⟩
        obtain ⟨xpn, xhpn⟩ : ∃ q, q = x.2.length := ⟨_, rfl⟩
        rw [← xhwt] at xc1
        rw [← xhpn] at xc2
        have xHWT := Lib.hid xhwt
        have xHPN := Lib.hid xhpn
        have xHLT := Lib.hid xlt
        clear xhwt xhpn xi xlt
        have hm : Hid (mrg (x :: ra') rb = x :: mrg ra' rb) := by show mrg (x :: ra') rb = x :: mrg ra' rb; rw [eb.out, mrg_nil, mrg_nil]
        go_wp2_with fail
        go_quiet (fail)
        go_wp2_with fail
        have hb2 : Hid (Below w.heap.size w (wr.drewN nq)) := bdrewN hbl.out nq
        have hown2 : Hid (Own (kA S0) 74 (wr.drewN nq) w.heap.size u5 done) := hown.out.below (bdrewN (Below.refl _ _) nq)
        have hd1 : (wr.drewN nq).cell? ⟨xb, xoff, none⟩ = some (.int .i64 xwt) := xc1
        have hd2 : (wr.drewN nq).cell? ⟨xb, xoff + 1, none⟩ = some (.slice xA xpn xc) := xc2
        have hok : Hid ((kA S0).ok (wr.drewN nq).drew (Off (wr.drewN nq).drew u5) x [.int .i64 xwt, .slice xA xpn xc]) := pack_okA (belowA xHI.out (bdrewN (bdrewN (Below.refl _ _) nq) 1)) hown2.out.drew hb2.out.size xHWT.out xHPN.out
        have hlen : (done.length + 1) * 32 ≤ 140737488355328 := by have := hl.out; omega
        have hmax : done.length + 1 ≤ maxLen := by have := hl.out; unfold maxLen; omega
        have hblt : Hid (xb < (wr.drewN nq).heap.size) := Nat.lt_of_lt_of_le xHLT.out hb2.out.size
        have hbne : Hid (some xb ≠ u5.ownBlock) := fun h => by have h1 := (hown2.out.lt xb h.symm).1; have h2 := xHLT.out; unfold Lt at h2; omega
        generalize hW : wr.drewN nq = w2 at *
        clear hW hbl hown
        go_region_held3 (fun w' => w'.cell? ⟨xb, xoff, none⟩ = some (.int .i64 xwt) ∧ w'.cell? ⟨xb, xoff + 1, none⟩ = some (.slice xA xpn xc)) (first | go_keep | exact ⟨(hg'.cell_far ⟨xb, xoff, none⟩ hblt.out hbne.out).trans hd1, (hg'.cell_far ⟨xb, xoff + 1, none⟩ hblt.out hbne.out).trans hd2⟩)
          ((refine st_append1 w2.drew [.int .i64 xwt, .slice xA xpn xc] (kA S0) w.heap.size 74 (.agg #[.int .i64 0, .slice none 0 0]) 32 info_pack rfl (Nat.succ_pos 1) hown2.out.drew (by rfl) _ _ 67 (by rfl) Try.underlying67 (by rfl) x (by rfl) hok.out hlen hmax hb2.out.size ?_; intro v' w' hown' hb' hg' hv'))
        go_wp2
        go_roundw
        case rel => exact ⟨_, _, n1 - 1, _, c1 - 1, c2, ra', _, done ++ [x], rfl, rfl, by have := H1.out; show ra'.length = n1 - 1; simp at this; omega, H2, hA.out.drop (l := 1) (by simp), hB, hown', (hb2.out.trans (bdrewN (Below.refl _ _) 1)).trans hb', by have := hl.out; show _ ≤ _; simp at this ⊢; omega, by omega, by show _ = _; rw [List.append_assoc]; have := hd.out; rw [hm.out] at this; exact this⟩
        case measure => simp [lenOf]; omega
    · have hb : ((n2 : Int) == 0) = false := by simp; omega
      by_cases h1 : n1 = 0
      · subst h1
        have ea := Lib.hid (List.eq_nil_of_length_eq_zero H1.out)
        obtain ⟨y, rb', rfl⟩ : ∃ y rb', rb = y :: rb' := List.exists_cons_of_length_pos (by rw [H2.out]; omega)
        obtain ⟨yb, yoff, yA, yc, rfl, ylt, yc1, yc2, yi⟩ := packA (hB.out.below hbl.out (Nat.le_refl _)) (j := 0) (by simp)
        simp only [List.getElem_cons_zero, Nat.zero_mul, Nat.add_zero] at yc1 yc2 yi
        have yHI := Lib.hid yi
        have ycap : (n2 : Int) ≤ (c2 : Int) := by have := hB.out.1; rw [H2.out] at this; omega
        have yp : (0 : Int) < (n2 : Int) := by omega
        have yp1 : (1 : Int) ≤ (n2 : Int) := by omega
        obtain ⟨ywt, yhwt⟩ : ∃ q, q = y.1 := ⟨_, rfl⟩
        obtain ⟨ypn, yhpn⟩ : ∃ q, q = y.2.length := ⟨_, rfl⟩
        rw [← yhwt] at yc1
        rw [← yhpn] at yc2
        have yHWT := Lib.hid yhwt
        have yHPN := Lib.hid yhpn
        have yHLT := Lib.hid ylt
        clear yhwt yhpn yi ylt
        have hm : Hid (mrg ra (y :: rb') = y :: mrg ra rb') := by show mrg ra (y :: rb') = y :: mrg ra rb'; rw [ea.out, nil_mrg, nil_mrg]
        go_wp2_with fail
        go_quiet (fail)
        go_wp2_with fail
        have hb2 : Hid (Below w.heap.size w (wr.drewN nq)) := bdrewN hbl.out nq
        have hown2 : Hid (Own (kA S0) 74 (wr.drewN nq) w.heap.size u5 done) := hown.out.below (bdrewN (Below.refl _ _) nq)
        have hd1 : (wr.drewN nq).cell? ⟨yb, yoff, none⟩ = some (.int .i64 ywt) := yc1
        have hd2 : (wr.drewN nq).cell? ⟨yb, yoff + 1, none⟩ = some (.slice yA ypn yc) := yc2
        have hok : Hid ((kA S0).ok (wr.drewN nq).drew (Off (wr.drewN nq).drew u5) y [.int .i64 ywt, .slice yA ypn yc]) := pack_okA (belowA yHI.out (bdrewN (bdrewN (Below.refl _ _) nq) 1)) hown2.out.drew hb2.out.size yHWT.out yHPN.out
        have hlen : (done.length + 1) * 32 ≤ 140737488355328 := by have := hl.out; omega
        have hmax : done.length + 1 ≤ maxLen := by have := hl.out; unfold maxLen; omega
        have hblt : Hid (yb < (wr.drewN nq).heap.size) := Nat.lt_of_lt_of_le yHLT.out hb2.out.size
        have hbne : Hid (some yb ≠ u5.ownBlock) := fun h => by have h1 := (hown2.out.lt yb h.symm).1; have h2 := yHLT.out; unfold Lt at h2; omega
        generalize hW : wr.drewN nq = w2 at *
        clear hW hbl hown
        go_region_held3 (fun w' => w'.cell? ⟨yb, yoff, none⟩ = some (.int .i64 ywt) ∧ w'.cell? ⟨yb, yoff + 1, none⟩ = some (.slice yA ypn yc)) (first | go_keep | exact ⟨(hg'.cell_far ⟨yb, yoff, none⟩ hblt.out hbne.out).trans hd1, (hg'.cell_far ⟨yb, yoff + 1, none⟩ hblt.out hbne.out).trans hd2⟩)
          ((refine st_append1 w2.drew [.int .i64 ywt, .slice yA ypn yc] (kA S0) w.heap.size 74 (.agg #[.int .i64 0, .slice none 0 0]) 32 info_pack rfl (Nat.succ_pos 1) hown2.out.drew (by rfl) _ _ 67 (by rfl) Try.underlying67 (by rfl) y (by rfl) hok.out hlen hmax hb2.out.size ?_; intro v' w' hown' hb' hg' hv'))
        go_wp2
        go_roundw
        case rel => exact ⟨_, _, _, n2 - 1, c1, c2 - 1, _, rb', done ++ [y], rfl, rfl, H1, by have := H2.out; show rb'.length = n2 - 1; simp at this; omega, hA, hB.out.drop (l := 1) (by simp), hown', (hb2.out.trans (bdrewN (Below.refl _ _) 1)).trans hb', by have := hl.out; show _ ≤ _; simp at this ⊢; omega, by omega, by show _ = _; rw [List.append_assoc]; have := hd.out; rw [hm.out] at this; exact this⟩
        case measure => simp [lenOf]; omega
      ·
        obtain ⟨x, ra', rfl⟩ : ∃ x ra', ra = x :: ra' := List.exists_cons_of_length_pos (by rw [H1.out]; omega)
        obtain ⟨xb, xoff, xA, xc, rfl, xlt, xc1, xc2, xi⟩ := packA (hA.out.below hbl.out (Nat.le_refl _)) (j := 0) (by simp)
        simp only [List.getElem_cons_zero, Nat.zero_mul, Nat.add_zero] at xc1 xc2 xi
        have xHI := Lib.hid xi
        have xcap : (n1 : Int) ≤ (c1 : Int) := by have := hA.out.1; rw [H1.out] at this; omega
        have xp : (0 : Int) < (n1 : Int) := by omega
        have xp1 : (1 : Int) ≤ (n1 : Int) := by omega
        obtain ⟨xwt, xhwt⟩ : ∃ q, q = x.1 := ⟨_, rfl⟩
        obtain ⟨xpn, xhpn⟩ : ∃ q, q = x.2.length := ⟨_, rfl⟩
        rw [← xhwt] at xc1
        rw [← xhpn] at xc2
        have xHWT := Lib.hid xhwt
        have xHPN := Lib.hid xhpn
        have xHLT := Lib.hid xlt
        clear xhwt xhpn xi xlt
        obtain ⟨y, rb', rfl⟩ : ∃ y rb', rb = y :: rb' := List.exists_cons_of_length_pos (by rw [H2.out]; omega)
        obtain ⟨yb, yoff, yA, yc, rfl, ylt, yc1, yc2, yi⟩ := packA (hB.out.below hbl.out (Nat.le_refl _)) (j := 0) (by simp)
        simp only [List.getElem_cons_zero, Nat.zero_mul, Nat.add_zero] at yc1 yc2 yi
        have yHI := Lib.hid yi
        have ycap : (n2 : Int) ≤ (c2 : Int) := by have := hB.out.1; rw [H2.out] at this; omega
        have yp : (0 : Int) < (n2 : Int) := by omega
        have yp1 : (1 : Int) ≤ (n2 : Int) := by omega
        obtain ⟨ywt, yhwt⟩ : ∃ q, q = y.1 := ⟨_, rfl⟩
        obtain ⟨ypn, yhpn⟩ : ∃ q, q = y.2.length := ⟨_, rfl⟩
        rw [← yhwt] at yc1
        rw [← yhpn] at yc2
        have yHWT := Lib.hid yhwt
        have yHPN := Lib.hid yhpn
        have yHLT := Lib.hid ylt
        clear yhwt yhpn yi ylt
        have hp2 : decide (0 < n1) = true := decide_eq_true (by omega)
        by_cases hle : xwt ≤ ywt
        · have hm : Hid (mrg (x :: ra') (y :: rb') = x :: mrg ra' (y :: rb')) := by show mrg (x :: ra') (y :: rb') = x :: mrg ra' (y :: rb'); rw [mrg_cons, if_pos (by rw [← xHWT.out, ← yHWT.out]; exact hle)]
          have hdd : decide (xwt ≤ ywt) = true := decide_eq_true hle
          clear hle
          go_wp2_with fail
          go_quiet (fail)
          clear hp2
          have q1 : 0 < n1 := by omega
          have q2 : 0 < n2 := by omega
          go_wp2_with fail
          have hb2 : Hid (Below w.heap.size w (wr.drewN nq)) := bdrewN hbl.out nq
          have hown2 : Hid (Own (kA S0) 74 (wr.drewN nq) w.heap.size u5 done) := hown.out.below (bdrewN (Below.refl _ _) nq)
          have hd1 : (wr.drewN nq).cell? ⟨xb, xoff, none⟩ = some (.int .i64 xwt) := xc1
          have hd2 : (wr.drewN nq).cell? ⟨xb, xoff + 1, none⟩ = some (.slice xA xpn xc) := xc2
          have hok : Hid ((kA S0).ok (wr.drewN nq).drew (Off (wr.drewN nq).drew u5) x [.int .i64 xwt, .slice xA xpn xc]) := pack_okA (belowA xHI.out (bdrewN (bdrewN (Below.refl _ _) nq) 1)) hown2.out.drew hb2.out.size xHWT.out xHPN.out
          have hlen : (done.length + 1) * 32 ≤ 140737488355328 := by have := hl.out; omega
          have hmax : done.length + 1 ≤ maxLen := by have := hl.out; unfold maxLen; omega
          have hblt : Hid (xb < (wr.drewN nq).heap.size) := Nat.lt_of_lt_of_le xHLT.out hb2.out.size
          have hbne : Hid (some xb ≠ u5.ownBlock) := fun h => by have h1 := (hown2.out.lt xb h.symm).1; have h2 := xHLT.out; unfold Lt at h2; omega
          generalize hW : wr.drewN nq = w2 at *
          clear hW hbl hown
          go_region_held3 (fun w' => w'.cell? ⟨xb, xoff, none⟩ = some (.int .i64 xwt) ∧ w'.cell? ⟨xb, xoff + 1, none⟩ = some (.slice xA xpn xc)) (first | go_keep | exact ⟨(hg'.cell_far ⟨xb, xoff, none⟩ hblt.out hbne.out).trans hd1, (hg'.cell_far ⟨xb, xoff + 1, none⟩ hblt.out hbne.out).trans hd2⟩)
            ((refine st_append1 w2.drew [.int .i64 xwt, .slice xA xpn xc] (kA S0) w.heap.size 74 (.agg #[.int .i64 0, .slice none 0 0]) 32 info_pack rfl (Nat.succ_pos 1) hown2.out.drew (by rfl) _ _ 67 (by rfl) Try.underlying67 (by rfl) x (by rfl) hok.out hlen hmax hb2.out.size ?_; intro v' w' hown' hb' hg' hv'))
          go_wp2
          go_roundw
          case rel => exact ⟨_, _, n1 - 1, _, c1 - 1, c2, ra', _, done ++ [x], rfl, rfl, by have := H1.out; show ra'.length = n1 - 1; simp at this; omega, H2, hA.out.drop (l := 1) (by simp), hB, hown', (hb2.out.trans (bdrewN (Below.refl _ _) 1)).trans hb', by have := hl.out; show _ ≤ _; simp at this ⊢; omega, by omega, by show _ = _; rw [List.append_assoc]; have := hd.out; rw [hm.out] at this; exact this⟩
          case measure => simp [lenOf]; omega
        · have hm : Hid (mrg (x :: ra') (y :: rb') = y :: mrg (x :: ra') rb') := by show mrg (x :: ra') (y :: rb') = y :: mrg (x :: ra') rb'; rw [mrg_cons, if_neg (by rw [← xHWT.out, ← yHWT.out]; exact hle)]
          have hdd : decide (xwt ≤ ywt) = false := decide_eq_false hle
          clear hle
          go_wp2_with fail
          go_quiet (fail)
          clear hp2
          have q1 : 0 < n1 := by omega
          have q2 : 0 < n2 := by omega
          go_wp2_with fail
          have hb2 : Hid (Below w.heap.size w (wr.drewN nq)) := bdrewN hbl.out nq
          have hown2 : Hid (Own (kA S0) 74 (wr.drewN nq) w.heap.size u5 done) := hown.out.below (bdrewN (Below.refl _ _) nq)
          have hd1 : (wr.drewN nq).cell? ⟨yb, yoff, none⟩ = some (.int .i64 ywt) := yc1
          have hd2 : (wr.drewN nq).cell? ⟨yb, yoff + 1, none⟩ = some (.slice yA ypn yc) := yc2
          have hok : Hid ((kA S0).ok (wr.drewN nq).drew (Off (wr.drewN nq).drew u5) y [.int .i64 ywt, .slice yA ypn yc]) := pack_okA (belowA yHI.out (bdrewN (bdrewN (Below.refl _ _) nq) 1)) hown2.out.drew hb2.out.size yHWT.out yHPN.out
          have hlen : (done.length + 1) * 32 ≤ 140737488355328 := by have := hl.out; omega
          have hmax : done.length + 1 ≤ maxLen := by have := hl.out; unfold maxLen; omega
          have hblt : Hid (yb < (wr.drewN nq).heap.size) := Nat.lt_of_lt_of_le yHLT.out hb2.out.size
          have hbne : Hid (some yb ≠ u5.ownBlock) := fun h => by have h1 := (hown2.out.lt yb h.symm).1; have h2 := yHLT.out; unfold Lt at h2; omega
          generalize hW : wr.drewN nq = w2 at *
          clear hW hbl hown
          go_region_held3 (fun w' => w'.cell? ⟨yb, yoff, none⟩ = some (.int .i64 ywt) ∧ w'.cell? ⟨yb, yoff + 1, none⟩ = some (.slice yA ypn yc)) (first | go_keep | exact ⟨(hg'.cell_far ⟨yb, yoff, none⟩ hblt.out hbne.out).trans hd1, (hg'.cell_far ⟨yb, yoff + 1, none⟩ hblt.out hbne.out).trans hd2⟩)
            ((refine st_append1 w2.drew [.int .i64 ywt, .slice yA ypn yc] (kA S0) w.heap.size 74 (.agg #[.int .i64 0, .slice none 0 0]) 32 info_pack rfl (Nat.succ_pos 1) hown2.out.drew (by rfl) _ _ 67 (by rfl) Try.underlying67 (by rfl) y (by rfl) hok.out hlen hmax hb2.out.size ?_; intro v' w' hown' hb' hg' hv'))
          go_wp2
          go_roundw
          case rel => exact ⟨_, _, _, n2 - 1, c1, c2 - 1, _, rb', done ++ [y], rfl, rfl, H1, by have := H2.out; show rb'.length = n2 - 1; simp at this; omega, hA, hB.out.drop (l := 1) (by simp), hown', (hb2.out.trans (bdrewN (Below.refl _ _) 1)).trans hb', by have := hl.out; show _ ≤ _; simp at this ⊢; omega, by omega, by show _ = _; rw [List.append_assoc]; have := hd.out; rw [hm.out] at this; exact this⟩
          case measure => simp [lenOf]; omega

set_option maxRecDepth 100000 in
set_option maxHeartbeats 4000000 in
theorem pairedA (S0 : Nat → Prop) (g : Nat) (hg : Both Try.prog g) (A : Option Addr) (cA : Nat) (xs : List PK) (w : World) (hA : In (kA S0) w (Lt w.heap.size) A cA xs) (hl : xs.length ≤ 65536) (hS0 : ∀ g, w.heap.size ≤ g → S0 g)
    (hx : ∀ p ∈ xs, 0 ≤ p.1 ∧ p.1 ≤ 1152921504606846976 ∧ 0 < p.2.length ∧ p.2.length ≤ 32768) :
    Calls Try.prog 35 #[.slice A xs.length cA, .func (.func g) #[] #[]] w fun e w' => ∃ v, e = .returned v ∧ Own (kA S0) 74 w' w.heap.size v (prs xs) ∧ Below w.heap.size w w' := by
  have hE := hg.1
  unfold Ent at hE
  have HG := Lib.hid hg.2
  have HS0 := Lib.hid hS0
  clear hS0
  have HA := Lib.hid hA
  have HX := Lib.hid hx
  clear hg hA hx
  go_enter Try.func35, Try.ntmps35
  go_wp2
  go_loopw [4, 5] (fun vo vi wr => ∃ k : Nat, 2 * k ≤ xs.length + 1 ∧ vi = .int .i64 (2 * k : Nat) ∧ Hid (Own (kA S0) 74 wr w.heap.size vo (prs (xs.take (2 * k)))) ∧ Hid (Below w.heap.size w wr)) (fun _ vi _ => xs.length + 1 - (intOf vi).toNat)
  case atStart => exact ⟨0, by omega, rfl, Own.nil _ _ _ _, Below.refl _ _⟩
  case round =>
    obtain ⟨k, hk, rfl, hown, hbl⟩ := hrel
    obtain ⟨i, hi⟩ : ∃ i, i = 2 * k := ⟨_, rfl⟩
    rw [← hi] at hk hown
    by_cases hlt : i + 1 < xs.length
    · obtain ⟨b, off, xA, xc, rfl, xlt, xc1, xc2, xi⟩ := packA (HA.out.below hbl.out (Nat.le_refl _)) (j := i) (by omega)
      obtain ⟨b', off', yA, yc, eb, ylt, yc1, yc2, yi⟩ := packA (HA.out.below hbl.out (Nat.le_refl _)) (j := i + 1) (by omega)
      injection eb with eb
      injection eb with eb1 eb2
      subst eb1; subst eb2
      obtain ⟨x, hx⟩ : ∃ q, q = xs[i] := ⟨_, rfl⟩
      obtain ⟨y, hy⟩ : ∃ q, q = xs[i + 1] := ⟨_, rfl⟩
      have hsn : Hid (prs (xs.take (2 * (k + 1))) = prs (xs.take i) ++ [(x.1 + y.1, x.2 ++ y.2)]) := by
        subst hi; subst hx; subst hy; exact prs_snoc k xs hlt
      have bx := HX.out x (by rw [hx]; exact List.getElem_mem _)
      have by' := HX.out y (by rw [hy]; exact List.getElem_mem _)
      rw [← hx] at xc1 xc2 xi
      rw [← hy] at yc1 yc2 yi
      clear hx hy
      have XI := Lib.hid xi
      have YI := Lib.hid yi
      have XL := Lib.hid xlt
      have hil : (prs (xs.take i)).length ≤ i := by have := prs_len (xs.take i); have h2 := List.length_take_le i xs; omega
      have HIL := Lib.hid hil
      have BX := Lib.hid bx
      have BY := Lib.hid by'
      obtain ⟨xw, hxw⟩ : ∃ q, q = x.1 := ⟨_, rfl⟩
      obtain ⟨xn, hxn⟩ : ∃ q, q = x.2.length := ⟨_, rfl⟩
      obtain ⟨yw, hyw⟩ : ∃ q, q = y.1 := ⟨_, rfl⟩
      obtain ⟨yn, hyn⟩ : ∃ q, q = y.2.length := ⟨_, rfl⟩
      rw [← hxw] at xc1
      rw [← hxn] at xc2
      rw [← hyw] at yc1
      rw [← hyn] at yc2
      have hws : IntKind.i64.wrap (xw + yw) = xw + yw := IntWalk.i64_in _ (by omega)
      have hw1 : IntKind.i64.wrap ((i : Int) + 1) = (i : Int) + 1 := IntWalk.i64_in _ (by omega)
      have hi0 : (0 : Int) ≤ (i : Int) := by omega
      have hi01 : (0 : Int) ≤ (i : Int) + 1 := by omega
      have hi1 : (i : Int) < (xs.length : Int) := by omega
      have hi2 : (i : Int) + 1 < (xs.length : Int) := by omega
      have HXW := Lib.hid hxw
      have HYW := Lib.hid hyw
      have HXN := Lib.hid hxn
      have HYN := Lib.hid hyn
      have HI := Lib.hid hi
      clear xi yi xlt ylt hil bx by' hxw hyw hxn hyn
      rw [← hi]
      clear hi
      obtain ⟨pn, hpn⟩ : ∃ q, q = (x.2 ++ y.2).length := ⟨_, rfl⟩
      have HPN := Lib.hid hpn
      have HC : Hid (Calls Try.prog g #[.slice xA xn xc, .slice yA yn yc] wr.drew fun e w' => ∃ A' c', e = .returned (.slice A' pn c') ∧ In (kN .i64) w' (fun g => wr.heap.size ≤ g ∧ g < w'.heap.size) A' c' (x.2 ++ y.2) ∧ Below wr.heap.size wr w') := by
        have hd : Below wr.heap.size wr wr.drew := bdrewN (Below.refl _ _) 1
        have := HG.out xA yA xc yc x.2 y.2 wr.drew ((XI.out.sub (fun g hg => Lt.le hbl.out.size g hg.1)).below hd (Nat.le_refl _)) ((YI.out.sub (fun g hg => Lt.le hbl.out.size g hg.1)).below hd (Nat.le_refl _)) BX.out.2.2.1 BY.out.2.2.1 (by have h1 := BX.out.2.2.2; have h2 := BY.out.2.2.2; omega)
        rw [← HXN.out, ← HYN.out, ← hpn] at this
        refine this.mono ?_
        rintro e w' ⟨A', c', rfl, h1, h2⟩
        exact ⟨A', c', rfl, h1, hd.trans h2⟩
      clear hpn
      have hlen : ((prs (xs.take i)).length + 1) * 32 ≤ 140737488355328 := by have := HIL.out; omega
      have hmax : (prs (xs.take i)).length + 1 ≤ maxLen := by have := HIL.out; unfold maxLen; omega
      have hblt : b < wr.heap.size := Nat.lt_of_lt_of_le XL.out hbl.out.size
      have HBLT := Lib.hid hblt
      have hbne : Hid (some b ≠ u4.ownBlock) := fun h => by have h1 := (hown.out.lt b h.symm).1; have h2 := XL.out; unfold Lt at h2; omega
      clear hblt
      go_wp2_with fail
      go_region_held3 (fun w' => w'.cell? ⟨b, off + i * 2, none⟩ = some (.int .i64 xw) ∧ w'.cell? ⟨b, off + i * 2 + 1, none⟩ = some (.slice xA xn xc) ∧ w'.cell? ⟨b, off + (i + 1) * 2, none⟩ = some (.int .i64 yw) ∧ w'.cell? ⟨b, off + (i + 1) * 2 + 1, none⟩ = some (.slice yA yn yc))
        (first | go_keep | exact ⟨(hg'.cell_far ⟨b, _, none⟩ (Nat.lt_of_lt_of_le HBLT.out hb3.size) hbne.out).trans ((hb3.cell HBLT.out).trans xc1), (hg'.cell_far ⟨b, _, none⟩ (Nat.lt_of_lt_of_le HBLT.out hb3.size) hbne.out).trans ((hb3.cell HBLT.out).trans xc2), (hg'.cell_far ⟨b, _, none⟩ (Nat.lt_of_lt_of_le HBLT.out hb3.size) hbne.out).trans ((hb3.cell HBLT.out).trans yc1), (hg'.cell_far ⟨b, _, none⟩ (Nat.lt_of_lt_of_le HBLT.out hb3.size) hbne.out).trans ((hb3.cell HBLT.out).trans yc2)⟩ | exact ⟨(hb3.cell HBLT.out).trans xc1, (hb3.cell HBLT.out).trans xc2, (hb3.cell HBLT.out).trans yc1, (hb3.cell HBLT.out).trans yc2⟩)
        (first
          | (refine HC.out.mono ?_; rintro e w3 ⟨A3, c3, rfl, hin3, hb3⟩)
          | (refine st_append1 w3 [.int .i64 (xw + yw), .slice A3 pn c3] (kA S0) w.heap.size 74 (.agg #[.int .i64 0, .slice none 0 0]) 32 info_pack rfl (Nat.succ_pos 1) (hown.out.below hb3) (by rfl) _ _ 67 (by rfl) Try.underlying67 (by rfl) (x.1 + y.1, x.2 ++ y.2) (by rfl) (pack_okA2 (fun g hg => HS0.out g (Nat.le_trans hbl.out.size hg)) (p := (x.1 + y.1, x.2 ++ y.2)) hin3 hown.out (by rw [HXW.out, HYW.out]) HPN.out) hlen hmax (Nat.le_trans hbl.out.size hb3.size) ?_; intro v' w' hown' hb' hg' hv'))
      clear hws hw1 hi01
      go_wp2
      go_roundw
      case rel => exact ⟨k + 1, by have := HI.out; omega, congrArg (Value.int .i64) (by have := HI.out; omega), by show Own _ _ _ _ _ _; rw [hsn.out]; exact hown', (hbl.out.trans (hb3.mono hbl.out.size)).trans hb'⟩
      case measure => simp [intOf]; omega
    · have he := prs_end k xs (by omega)
      rw [← hi] at he
      rw [he] at hown
      clear he
      rw [← hi]
      clear hi
      go_wp2
      go_ret
      exact ⟨_, rfl, hown.out, hbl.out⟩
end Go.Proofs.Ytjmkkcbilpidnaa.Limit
