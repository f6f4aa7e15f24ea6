/- The walks of 'merged' and 'paired'. -/
import Derived.Test.YtjmkkcbilpidnaaFirst
import Derived.Test.YtjmkkcbilpidnaaApp
import Derived.Deep.RegionHeld3
import Derived.Deep.DrawnRows
namespace Go.Proofs.Ytjmkkcbilpidnaa.Limit
open Go Go.RowKit Go.Proofs.Ytjmkkcbilpidnaa.W Go.Proofs.Ytjmkkcbilpidnaa.Tally
set_option linter.unusedVariables false
set_option linter.unusedSimpArgs false
attribute [local go_sem ↓] Go.wp_at_zero Go.wp_at_succ

abbrev PK := Int × List Int
/-- lists of packages, each sorted by weight, put together -/
def mrg (a b : List PK) : List PK := a.merge b fun x y => decide (x.1 ≤ y.1)
theorem mrg_nil (a : List PK) : mrg a [] = a := by unfold mrg; cases a <;> simp [List.merge]
theorem nil_mrg (b : List PK) : mrg [] b = b := by unfold mrg; simp [List.merge]
theorem mrg_cons (x y : PK) (a b : List PK) : mrg (x :: a) (y :: b) = if x.1 ≤ y.1 then x :: mrg a (y :: b) else y :: mrg (x :: a) b := by
  unfold mrg; rw [List.merge]; simp
/-- The element at j of a row of packages. -/
theorem In.pack {w : World} {S : Nat → Prop} {A : Option Addr} {c : Nat} {xs : List PK} (h : In kK w S A c xs) {j : Nat} (hj : j < xs.length) :
    ∃ b off A' c', A = some ⟨b, off, none⟩ ∧ S b ∧ w.cell? ⟨b, off + j * 2, none⟩ = some (.int .i64 xs[j].1) ∧ w.cell? ⟨b, off + j * 2 + 1, none⟩ = some (.slice A' xs[j].2.length c') ∧ In (kN .i64) w S A' c' xs[j].2 := by
  obtain ⟨b, off, cs, ha, hlt, ⟨a1, a2, hcs, h1, ⟨A', c', h2, hi⟩⟩, hc⟩ := h.2.2 j xs[j] (List.getElem?_eq_getElem hj)
  have h1' : a1 = [.int .i64 xs[j].1] := h1
  subst h1'; subst h2; subst hcs
  exact ⟨b, off, A', c', ha, hlt, hc 0 _ rfl, hc 1 _ rfl, hi⟩

theorem pack_ok {w : World} {base : Nat} {A' : Option Addr} {c' : Nat} {x : PK} {e : TypeId} {v : Value} {done : List PK} {wt : Int} {pn : Nat} (hi : In (kN .i64) w (Lt base) A' c' x.2) (ho : Own kK e w base v done) (hb : base ≤ w.heap.size) (h1 : wt = x.1) (h2 : pn = x.2.length) :
    kK.ok w (Off w v) x [.int .i64 wt, .slice A' pn c'] := by
  subst h1; subst h2
  exact ⟨[.int .i64 x.1], [.slice A' x.2.length c'], rfl, rfl, A', c', rfl, hi.sub fun g hg => ⟨Nat.lt_of_lt_of_le hg hb, fun h => by have := (ho.lt g h).1; unfold Lt at hg; omega⟩⟩
def lenOf : Value → Nat
  | .slice _ n _ => n
  | _ => 0

set_option maxRecDepth 100000 in
set_option maxHeartbeats 2000000 in
theorem merged (A B : Option Addr) (cA cB : Nat) (xs ys : List PK) (w : World) (hA : In kK w (Lt w.heap.size) A cA xs) (hB : In kK w (Lt w.heap.size) B cB ys) (hl : xs.length + ys.length ≤ 65536) :
    Calls Try.prog 34 #[.slice A xs.length cA, .slice B ys.length cB] w fun e w' => ∃ v, e = .returned v ∧ Own kK 74 w' w.heap.size v (mrg xs ys) ∧ Below w.heap.size w w' := by
  go_enter Try.func34, Try.ntmps34
  go_wp2
  go_loopw [0, 1, 5] (fun va vb vo wr => ∃ (A1 B1 : Option Addr) (n1 n2 c1 c2 : Nat) (ra rb done : List PK), va = .slice A1 n1 c1 ∧ vb = .slice B1 n2 c2 ∧ Hid (ra.length = n1) ∧ Hid (rb.length = n2) ∧ Hid (In kK w (Lt w.heap.size) A1 c1 ra) ∧ Hid (In kK w (Lt w.heap.size) B1 c2 rb) ∧ Hid (Own kK 74 wr w.heap.size vo done) ∧ Hid (Below w.heap.size w wr) ∧ Hid (done.length + (ra.length + rb.length) ≤ 65536) ∧ n1 + n2 ≤ 65536 ∧ Hid (done ++ mrg ra rb = mrg xs ys)) (fun va vb _ _ => lenOf va + lenOf vb)
  case atStart => exact ⟨A, B, _, _, cA, cB, xs, ys, [], rfl, rfl, rfl, rfl, hA, hB, Own.nil _ _ _ _, Below.refl _ _, by show _ ≤ _; simpa using hl, hl, rfl⟩
  case round =>
    clear hA hB hl
    obtain ⟨A1, B1, n1, n2, c1, c2, ra, rb, done, rfl, rfl, H1, H2, hA, hB, hown, hbl, hl, hn, hd⟩ := hrel
    by_cases h2 : n2 = 0
    · subst h2
      have eb := Lib.hid (List.eq_nil_of_length_eq_zero H2.out)
      by_cases h1 : n1 = 0
      · subst h1
        go_wp2
        go_ret
        refine ⟨_, rfl, ?_, hbl.out⟩
        have := hd.out
        rw [List.eq_nil_of_length_eq_zero H1.out, eb.out, mrg_nil, List.append_nil] at this
        rw [← this]; exact hown.out
      · have hb : ((0 : Int) == 0) = true := rfl
        obtain ⟨x, ra', rfl⟩ : ∃ x ra', ra = x :: ra' := List.exists_cons_of_length_pos (by rw [H1.out]; omega)
        obtain ⟨xb, xoff, xA, xc, rfl, xlt, xc1, xc2, xi⟩ := In.pack (hA.out.below hbl.out (Nat.le_refl _)) (j := 0) (by simp)
        simp only [List.getElem_cons_zero, Nat.zero_mul, Nat.add_zero] at xc1 xc2 xi
        have xHI := Lib.hid xi
        have xcap : (n1 : Int) ≤ (c1 : Int) := by have := hA.out.1; rw [H1.out] at this; omega
        have xp : (0 : Int) < (n1 : Int) := by omega
        have xp1 : (1 : Int) ≤ (n1 : Int) := by omega
        obtain ⟨xwt, xhwt⟩ : ∃ q, q = x.1 := ⟨_, rfl⟩
        obtain ⟨xpn, xhpn⟩ : ∃ q, q = x.2.length := ⟨_, rfl⟩
        rw [← xhwt] at xc1
        rw [← xhpn] at xc2
        have xHWT := Lib.hid xhwt
        have xHPN := Lib.hid xhpn
        have xHLT := Lib.hid xlt
        clear xhwt xhpn xi xlt
        have hm : Hid (mrg (x :: ra') rb = x :: mrg ra' rb) := by show mrg (x :: ra') rb = x :: mrg ra' rb; rw [eb.out, mrg_nil, mrg_nil]
        go_wp2_with fail
        go_quiet (fail)
        go_wp2_with fail
        have hb2 : Hid (Below w.heap.size w (wr.drewN nq)) := bdrewN hbl.out nq
        have hown2 : Hid (Own kK 74 (wr.drewN nq) w.heap.size u5 done) := hown.out.below (bdrewN (Below.refl _ _) nq)
        have hd1 : (wr.drewN nq).cell? ⟨xb, xoff, none⟩ = some (.int .i64 xwt) := xc1
        have hd2 : (wr.drewN nq).cell? ⟨xb, xoff + 1, none⟩ = some (.slice xA xpn xc) := xc2
        have hok : Hid (kK.ok (wr.drewN nq).drew (Off (wr.drewN nq).drew u5) x [.int .i64 xwt, .slice xA xpn xc]) := pack_ok (xHI.out.below (bdrewN (bdrewN (Below.refl _ _) nq) 1) (Nat.le_refl _)) hown2.out.drew hb2.out.size xHWT.out xHPN.out
        have hlen : (done.length + 1) * 32 ≤ 140737488355328 := by have := hl.out; omega
        have hmax : done.length + 1 ≤ maxLen := by have := hl.out; unfold maxLen; omega
        have hblt : Hid (xb < (wr.drewN nq).heap.size) := Nat.lt_of_lt_of_le xHLT.out hb2.out.size
        have hbne : Hid (some xb ≠ u5.ownBlock) := fun h => by have h1 := (hown2.out.lt xb h.symm).1; have h2 := xHLT.out; unfold Lt at h2; omega
        generalize hW : wr.drewN nq = w2 at *
        clear hW hbl hown
        go_region_held3 (fun w' => w'.cell? ⟨xb, xoff, none⟩ = some (.int .i64 xwt) ∧ w'.cell? ⟨xb, xoff + 1, none⟩ = some (.slice xA xpn xc)) (first | go_keep | exact ⟨(hg'.cell_far ⟨xb, xoff, none⟩ hblt.out hbne.out).trans hd1, (hg'.cell_far ⟨xb, xoff + 1, none⟩ hblt.out hbne.out).trans hd2⟩)
          ((refine st_append1 w2.drew [.int .i64 xwt, .slice xA xpn xc] kK w.heap.size 74 (.agg #[.int .i64 0, .slice none 0 0]) 32 info_pack rfl (by decide) hown2.out.drew (by rfl) _ _ 67 (by rfl) Try.underlying67 (by rfl) x (by rfl) hok.out hlen hmax hb2.out.size ?_; intro v' w' hown' hb' hg' hv'))
        go_wp2
        go_roundw
        case rel => exact ⟨_, _, n1 - 1, _, c1 - 1, c2, ra', _, done ++ [x], rfl, rfl, by have := H1.out; show ra'.length = n1 - 1; simp at this; omega, H2, hA.out.drop (l := 1) (by simp), hB, hown', (hb2.out.trans (bdrewN (Below.refl _ _) 1)).trans hb', by have := hl.out; show _ ≤ _; simp at this ⊢; omega, by omega, by show _ = _; rw [List.append_assoc]; have := hd.out; rw [hm.out] at this; exact this⟩
        case measure => simp [lenOf]; omega
    · have hb : ((n2 : Int) == 0) = false := by simp; omega
      by_cases h1 : n1 = 0
      · subst h1
        have ea := Lib.hid (List.eq_nil_of_length_eq_zero H1.out)
        obtain ⟨y, rb', rfl⟩ : ∃ y rb', rb = y :: rb' := List.exists_cons_of_length_pos (by rw [H2.out]; omega)
        obtain ⟨yb, yoff, yA, yc, rfl, ylt, yc1, yc2, yi⟩ := In.pack (hB.out.below hbl.out (Nat.le_refl _)) (j := 0) (by simp)
        simp only [List.getElem_cons_zero, Nat.zero_mul, Nat.add_zero] at yc1 yc2 yi
        have yHI := Lib.hid yi
        have ycap : (n2 : Int) ≤ (c2 : Int) := by have := hB.out.1; rw [H2.out] at this; omega
        have yp : (0 : Int) < (n2 : Int) := by omega
        have yp1 : (1 : Int) ≤ (n2 : Int) := by omega
        obtain ⟨ywt, yhwt⟩ : ∃ q, q = y.1 := ⟨_, rfl⟩
        obtain ⟨ypn, yhpn⟩ : ∃ q, q = y.2.length := ⟨_, rfl⟩
        rw [← yhwt] at yc1
        rw [← yhpn] at yc2
        have yHWT := Lib.hid yhwt
        have yHPN := Lib.hid yhpn
        have yHLT := Lib.hid ylt
        clear yhwt yhpn yi ylt
        have hm : Hid (mrg ra (y :: rb') = y :: mrg ra rb') := by show mrg ra (y :: rb') = y :: mrg ra rb'; rw [ea.out, nil_mrg, nil_mrg]
        go_wp2_with fail
        go_quiet (fail)
        go_wp2_with fail
        have hb2 : Hid (Below w.heap.size w (wr.drewN nq)) := bdrewN hbl.out nq
        have hown2 : Hid (Own kK 74 (wr.drewN nq) w.heap.size u5 done) := hown.out.below (bdrewN (Below.refl _ _) nq)
        have hd1 : (wr.drewN nq).cell? ⟨yb, yoff, none⟩ = some (.int .i64 ywt) := yc1
        have hd2 : (wr.drewN nq).cell? ⟨yb, yoff + 1, none⟩ = some (.slice yA ypn yc) := yc2
        have hok : Hid (kK.ok (wr.drewN nq).drew (Off (wr.drewN nq).drew u5) y [.int .i64 ywt, .slice yA ypn yc]) := pack_ok (yHI.out.below (bdrewN (bdrewN (Below.refl _ _) nq) 1) (Nat.le_refl _)) hown2.out.drew hb2.out.size yHWT.out yHPN.out
        have hlen : (done.length + 1) * 32 ≤ 140737488355328 := by have := hl.out; omega
        have hmax : done.length + 1 ≤ maxLen := by have := hl.out; unfold maxLen; omega
        have hblt : Hid (yb < (wr.drewN nq).heap.size) := Nat.lt_of_lt_of_le yHLT.out hb2.out.size
        have hbne : Hid (some yb ≠ u5.ownBlock) := fun h => by have h1 := (hown2.out.lt yb h.symm).1; have h2 := yHLT.out; unfold Lt at h2; omega
        generalize hW : wr.drewN nq = w2 at *
        clear hW hbl hown
        go_region_held3 (fun w' => w'.cell? ⟨yb, yoff, none⟩ = some (.int .i64 ywt) ∧ w'.cell? ⟨yb, yoff + 1, none⟩ = some (.slice yA ypn yc)) (first | go_keep | exact ⟨(hg'.cell_far ⟨yb, yoff, none⟩ hblt.out hbne.out).trans hd1, (hg'.cell_far ⟨yb, yoff + 1, none⟩ hblt.out hbne.out).trans hd2⟩)
          ((refine st_append1 w2.drew [.int .i64 ywt, .slice yA ypn yc] kK w.heap.size 74 (.agg #[.int .i64 0, .slice none 0 0]) 32 info_pack rfl (by decide) hown2.out.drew (by rfl) _ _ 67 (by rfl) Try.underlying67 (by rfl) y (by rfl) hok.out hlen hmax hb2.out.size ?_; intro v' w' hown' hb' hg' hv'))
        go_wp2
        go_roundw
        case rel => exact ⟨_, _, _, n2 - 1, c1, c2 - 1, _, rb', done ++ [y], rfl, rfl, H1, by have := H2.out; show rb'.length = n2 - 1; simp at this; omega, hA, hB.out.drop (l := 1) (by simp), hown', (hb2.out.trans (bdrewN (Below.refl _ _) 1)).trans hb', by have := hl.out; show _ ≤ _; simp at this ⊢; omega, by omega, by show _ = _; rw [List.append_assoc]; have := hd.out; rw [hm.out] at this; exact this⟩
        case measure => simp [lenOf]; omega
      ·
        obtain ⟨x, ra', rfl⟩ : ∃ x ra', ra = x :: ra' := List.exists_cons_of_length_pos (by rw [H1.out]; omega)
        obtain ⟨xb, xoff, xA, xc, rfl, xlt, xc1, xc2, xi⟩ := In.pack (hA.out.below hbl.out (Nat.le_refl _)) (j := 0) (by simp)
        simp only [List.getElem_cons_zero, Nat.zero_mul, Nat.add_zero] at xc1 xc2 xi
        have xHI := Lib.hid xi
        have xcap : (n1 : Int) ≤ (c1 : Int) := by have := hA.out.1; rw [H1.out] at this; omega
        have xp : (0 : Int) < (n1 : Int) := by omega
        have xp1 : (1 : Int) ≤ (n1 : Int) := by omega
        obtain ⟨xwt, xhwt⟩ : ∃ q, q = x.1 := ⟨_, rfl⟩
        obtain ⟨xpn, xhpn⟩ : ∃ q, q = x.2.length := ⟨_, rfl⟩
        rw [← xhwt] at xc1
        rw [← xhpn] at xc2
        have xHWT := Lib.hid xhwt
        have xHPN := Lib.hid xhpn
        have xHLT := Lib.hid xlt
        clear xhwt xhpn xi xlt
        obtain ⟨y, rb', rfl⟩ : ∃ y rb', rb = y :: rb' := List.exists_cons_of_length_pos (by rw [H2.out]; omega)
        obtain ⟨yb, yoff, yA, yc, rfl, ylt, yc1, yc2, yi⟩ := In.pack (hB.out.below hbl.out (Nat.le_refl _)) (j := 0) (by simp)
        simp only [List.getElem_cons_zero, Nat.zero_mul, Nat.add_zero] at yc1 yc2 yi
        have yHI := Lib.hid yi
        have ycap : (n2 : Int) ≤ (c2 : Int) := by have := hB.out.1; rw [H2.out] at this; omega
        have yp : (0 : Int) < (n2 : Int) := by omega
        have yp1 : (1 : Int) ≤ (n2 : Int) := by omega
        obtain ⟨ywt, yhwt⟩ : ∃ q, q = y.1 := ⟨_, rfl⟩
        obtain ⟨ypn, yhpn⟩ : ∃ q, q = y.2.length := ⟨_, rfl⟩
        rw [← yhwt] at yc1
        rw [← yhpn] at yc2
        have yHWT := Lib.hid yhwt
        have yHPN := Lib.hid yhpn
        have yHLT := Lib.hid ylt
        clear yhwt yhpn yi ylt
        have hp2 : decide (0 < n1) = true := decide_eq_true (by omega)
        by_cases hle : xwt ≤ ywt
        · have hm : Hid (mrg (x :: ra') (y :: rb') = x :: mrg ra' (y :: rb')) := by show mrg (x :: ra') (y :: rb') = x :: mrg ra' (y :: rb'); rw [mrg_cons, if_pos (by rw [← xHWT.out, ← yHWT.out]; exact hle)]
          have hdd : decide (xwt ≤ ywt) = true := decide_eq_true hle
          clear hle
          go_wp2_with fail
          go_quiet (fail)
          clear hp2
          have q1 : 0 < n1 := by omega
          have q2 : 0 < n2 := by omega
          go_wp2_with fail
          have hb2 : Hid (Below w.heap.size w (wr.drewN nq)) := bdrewN hbl.out nq
          have hown2 : Hid (Own kK 74 (wr.drewN nq) w.heap.size u5 done) := hown.out.below (bdrewN (Below.refl _ _) nq)
          have hd1 : (wr.drewN nq).cell? ⟨xb, xoff, none⟩ = some (.int .i64 xwt) := xc1
          have hd2 : (wr.drewN nq).cell? ⟨xb, xoff + 1, none⟩ = some (.slice xA xpn xc) := xc2
          have hok : Hid (kK.ok (wr.drewN nq).drew (Off (wr.drewN nq).drew u5) x [.int .i64 xwt, .slice xA xpn xc]) := pack_ok (xHI.out.below (bdrewN (bdrewN (Below.refl _ _) nq) 1) (Nat.le_refl _)) hown2.out.drew hb2.out.size xHWT.out xHPN.out
          have hlen : (done.length + 1) * 32 ≤ 140737488355328 := by have := hl.out; omega
          have hmax : done.length + 1 ≤ maxLen := by have := hl.out; unfold maxLen; omega
          have hblt : Hid (xb < (wr.drewN nq).heap.size) := Nat.lt_of_lt_of_le xHLT.out hb2.out.size
          have hbne : Hid (some xb ≠ u5.ownBlock) := fun h => by have h1 := (hown2.out.lt xb h.symm).1; have h2 := xHLT.out; unfold Lt at h2; omega
          generalize hW : wr.drewN nq = w2 at *
          clear hW hbl hown
          go_region_held3 (fun w' => w'.cell? ⟨xb, xoff, none⟩ = some (.int .i64 xwt) ∧ w'.cell? ⟨xb, xoff + 1, none⟩ = some (.slice xA xpn xc)) (first | go_keep | exact ⟨(hg'.cell_far ⟨xb, xoff, none⟩ hblt.out hbne.out).trans hd1, (hg'.cell_far ⟨xb, xoff + 1, none⟩ hblt.out hbne.out).trans hd2⟩)
            ((refine st_append1 w2.drew [.int .i64 xwt, .slice xA xpn xc] kK w.heap.size 74 (.agg #[.int .i64 0, .slice none 0 0]) 32 info_pack rfl (by decide) hown2.out.drew (by rfl) _ _ 67 (by rfl) Try.underlying67 (by rfl) x (by rfl) hok.out hlen hmax hb2.out.size ?_; intro v' w' hown' hb' hg' hv'))
          go_wp2
          go_roundw
          case rel => exact ⟨_, _, n1 - 1, _, c1 - 1, c2, ra', _, done ++ [x], rfl, rfl, by have := H1.out; show ra'.length = n1 - 1; simp at this; omega, H2, hA.out.drop (l := 1) (by simp), hB, hown', (hb2.out.trans (bdrewN (Below.refl _ _) 1)).trans hb', by have := hl.out; show _ ≤ _; simp at this ⊢; omega, by omega, by show _ = _; rw [List.append_assoc]; have := hd.out; rw [hm.out] at this; exact this⟩
          case measure => simp [lenOf]; omega
        · have hm : Hid (mrg (x :: ra') (y :: rb') = y :: mrg (x :: ra') rb') := by show mrg (x :: ra') (y :: rb') = y :: mrg (x :: ra') rb'; rw [mrg_cons, if_neg (by rw [← xHWT.out, ← yHWT.out]; exact hle)]
          have hdd : decide (xwt ≤ ywt) = false := decide_eq_false hle
          clear hle
          go_wp2_with fail
          go_quiet (fail)
          clear hp2
          have q1 : 0 < n1 := by omega
          have q2 : 0 < n2 := by omega
          go_wp2_with fail
          have hb2 : Hid (Below w.heap.size w (wr.drewN nq)) := bdrewN hbl.out nq
          have hown2 : Hid (Own kK 74 (wr.drewN nq) w.heap.size u5 done) := hown.out.below (bdrewN (Below.refl _ _) nq)
          have hd1 : (wr.drewN nq).cell? ⟨yb, yoff, none⟩ = some (.int .i64 ywt) := yc1
          have hd2 : (wr.drewN nq).cell? ⟨yb, yoff + 1, none⟩ = some (.slice yA ypn yc) := yc2
          have hok : Hid (kK.ok (wr.drewN nq).drew (Off (wr.drewN nq).drew u5) y [.int .i64 ywt, .slice yA ypn yc]) := pack_ok (yHI.out.below (bdrewN (bdrewN (Below.refl _ _) nq) 1) (Nat.le_refl _)) hown2.out.drew hb2.out.size yHWT.out yHPN.out
          have hlen : (done.length + 1) * 32 ≤ 140737488355328 := by have := hl.out; omega
          have hmax : done.length + 1 ≤ maxLen := by have := hl.out; unfold maxLen; omega
          have hblt : Hid (yb < (wr.drewN nq).heap.size) := Nat.lt_of_lt_of_le yHLT.out hb2.out.size
          have hbne : Hid (some yb ≠ u5.ownBlock) := fun h => by have h1 := (hown2.out.lt yb h.symm).1; have h2 := yHLT.out; unfold Lt at h2; omega
          generalize hW : wr.drewN nq = w2 at *
          clear hW hbl hown
          go_region_held3 (fun w' => w'.cell? ⟨yb, yoff, none⟩ = some (.int .i64 ywt) ∧ w'.cell? ⟨yb, yoff + 1, none⟩ = some (.slice yA ypn yc)) (first | go_keep | exact ⟨(hg'.cell_far ⟨yb, yoff, none⟩ hblt.out hbne.out).trans hd1, (hg'.cell_far ⟨yb, yoff + 1, none⟩ hblt.out hbne.out).trans hd2⟩)
            ((refine st_append1 w2.drew [.int .i64 ywt, .slice yA ypn yc] kK w.heap.size 74 (.agg #[.int .i64 0, .slice none 0 0]) 32 info_pack rfl (by decide) hown2.out.drew (by rfl) _ _ 67 (by rfl) Try.underlying67 (by rfl) y (by rfl) hok.out hlen hmax hb2.out.size ?_; intro v' w' hown' hb' hg' hv'))
          go_wp2
          go_roundw
          case rel => exact ⟨_, _, _, n2 - 1, c1, c2 - 1, _, rb', done ++ [y], rfl, rfl, H1, by have := H2.out; show rb'.length = n2 - 1; simp at this; omega, hA, hB.out.drop (l := 1) (by simp), hown', (hb2.out.trans (bdrewN (Below.refl _ _) 1)).trans hb', by have := hl.out; show _ ≤ _; simp at this ⊢; omega, by omega, by show _ = _; rw [List.append_assoc]; have := hd.out; rw [hm.out] at this; exact this⟩
          case measure => simp [lenOf]; omega
end Go.Proofs.Ytjmkkcbilpidnaa.Limit
