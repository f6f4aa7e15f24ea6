/- The walk of TopDoubled. -/
import Derived.Test.YtjmkkcbilpidnaaEx46
import Derived.Test.YtjmkkcbilpidnaaStab
namespace Go.Proofs.Ytjmkkcbilpidnaa.Limit
open Go Go.RowKit Go.Proofs.Ytjmkkcbilpidnaa.W Go.Proofs.Ytjmkkcbilpidnaa.Tally Go.Proofs.Ytjmkkcbilpidnaa.SortA Go.Proofs.Ytjmkkcbilpidnaa.SortP Go.Proofs.Ytjmkkcbilpidnaa.Hist
set_option linter.unusedVariables false
set_option linter.unusedSimpArgs false

theorem sorts : Sorts := sortStable
theorem hist_len (bs : List UInt8) : (hist bs).length = 256 := by simp [hist]
theorem hist_ok (bs : List UInt8) (h : bs.length ≤ 1000000) : Hist (hist bs) := by
  refine ⟨by rw [hist_len]; omega, fun z hz => ?_⟩
  obtain ⟨i, hi, rfl⟩ := List.mem_map.1 hz
  have := cnt_le bs i
  omega
theorem hist_two (bs : List UInt8) : hist (bs ++ bs) = dbl (hist bs) := by
  unfold hist dbl cnt
  rw [List.map_map]
  apply List.map_congr_left
  intro i _
  show ((List.countP (fun b => b.toNat == i) (bs ++ bs) : Nat) : Int) = 2 * ((List.countP (fun b => b.toNat == i) bs : Nat) : Int)
  rw [List.countP_append]; omega
theorem hist_at (bs : List UInt8) (h : bs.length ≤ 2000) (i : Nat) : 0 ≤ (hist bs).getD i 0 ∧ (hist bs).getD i 0 ≤ 2000 := by
  unfold hist
  rw [List.getD, List.getElem?_map]
  cases (List.range 256)[i]? with
  | none => simp
  | some j => have := cnt_le bs j; simp; omega
theorem cost_bd {zs : List Int} (hh : Hist zs) : -10000000000000000 ≤ cost zs ∧ cost zs ≤ 10000000000000000 := by
  have h1 := costTo_bd (used zs) hh (used zs).length (Nat.le_refl _)
  have h2 := usedTo_len zs zs.length
  have h3 := hh.1
  unfold cost
  unfold used at *
  omega
/-- two elements of a new row -/
theorem In.two_new {α : Type} {k : Kd α} {w : World} {S : Nat → Prop} {x y : α} {u v : Value} (e : TypeId) (hn : k.n = 1) (hk : k.ok w S x [u]) (hk2 : k.ok w S y [v]) (hS : ∀ g, S g → g < w.heap.size) :
    In k (w.alloc (.cells #[u, v] e)) (fun g => S g ∨ g = w.heap.size) (some ⟨w.heap.size, 0, none⟩) 2 [x, y] := by
  refine ⟨by simp, by unfold maxLen; omega, fun j z hz => ?_⟩
  match j, hz with
  | 0, hz =>
    simp at hz; subst hz
    refine ⟨w.heap.size, 0, [u], rfl, .inr rfl, k.mono hk (fun g hg => Below.heap_alloc w _ g (hS g hg)) (fun g hg => .inl hg), fun t a ha => ?_⟩
    match t, ha with
    | 0, ha => simp at ha; subst ha; rw [World.cell?_alloc_at _ _ _ _ rfl]; simp
  | 1, hz =>
    simp at hz; subst hz
    refine ⟨w.heap.size, 0, [v], rfl, .inr rfl, k.mono hk2 (fun g hg => Below.heap_alloc w _ g (hS g hg)) (fun g hg => .inl hg), fun t a ha => ?_⟩
    match t, ha with
    | 0, ha => simp at ha; subst ha; rw [World.cell?_alloc_at _ _ _ _ rfl]; simp [hn]
  | j + 2, hz => simp at hz
/-- zs turned round, as far as it has been -/
def turned (zs : List Int) (k : Nat) : List Int := List.replicate (zs.length - k) 0 ++ (zs.take k).reverse
theorem turned_len (zs : List Int) (k : Nat) (h : k ≤ zs.length) : (turned zs k).length = zs.length := by simp [turned]; omega
theorem turned_zero (zs : List Int) : turned zs 0 = List.replicate zs.length 0 := by simp [turned]
theorem turned_all (zs : List Int) : turned zs zs.length = zs.reverse := by simp [turned]
theorem turned_set (zs : List Int) (k : Nat) (h : k < zs.length) : (turned zs k).set (zs.length - 1 - k) (zs.getD k 0) = turned zs (k + 1) := by
  unfold turned
  rw [List.take_succ_eq_append_getElem h, List.reverse_append, getD_lt _ _ h]
  obtain ⟨m, hm⟩ : ∃ m, zs.length - k = m + 1 := ⟨zs.length - k - 1, by omega⟩
  rw [hm, show zs.length - 1 - k = m by omega, show zs.length - (k + 1) = m by omega, List.replicate_succ', List.append_assoc, List.set_append_right _ _ (by simp)]
  simp

/-- What lies in memory: the three histograms. -/
structure Tw (w wr : World) (b1 o1 c1 b2 o2 c2 z : Nat) (zs ys : List Int) : Prop where
  bel : Below w.heap.size w wr
  zw : w.heap.size ≤ z
  zl : z < wr.heap.size
  i1 : In (kN .i64) wr (Lt z) (some ⟨b1, o1, none⟩) c1 zs
  i2 : In (kN .i64) wr (Lt z) (some ⟨b2, o2, none⟩) c2 (dbl zs)
  i3 : Row .i64 3 wr z ys
theorem Tw.step {w wr wr2 : World} {b1 o1 c1 b2 o2 c2 z : Nat} {zs ys : List Int} (h : Tw w wr b1 o1 c1 b2 o2 c2 z zs ys) (hb : Below wr.heap.size wr wr2) : Tw w wr2 b1 o1 c1 b2 o2 c2 z zs ys :=
  ⟨h.bel.trans (hb.mono h.bel.size), h.zw, Nat.lt_of_lt_of_le h.zl hb.size, h.i1.below (hb.mono (Nat.le_of_lt h.zl)) (Nat.le_refl _), h.i2.below (hb.mono (Nat.le_of_lt h.zl)) (Nat.le_refl _), h.i3.below hb h.zl⟩
theorem Tw.in1 {w wr : World} {b1 o1 c1 b2 o2 c2 z : Nat} {zs ys : List Int} (h : Tw w wr b1 o1 c1 b2 o2 c2 z zs ys) : In (kN .i64) wr (Lt wr.heap.size) (some ⟨b1, o1, none⟩) c1 zs := h.i1.sub (Lt.le (Nat.le_of_lt h.zl))
theorem Tw.in2 {w wr : World} {b1 o1 c1 b2 o2 c2 z : Nat} {zs ys : List Int} (h : Tw w wr b1 o1 c1 b2 o2 c2 z zs ys) : In (kN .i64) wr (Lt wr.heap.size) (some ⟨b2, o2, none⟩) c2 (dbl zs) := h.i2.sub (Lt.le (Nat.le_of_lt h.zl))
theorem Tw.in3 {w wr : World} {b1 o1 c1 b2 o2 c2 z : Nat} {zs ys : List Int} (h : Tw w wr b1 o1 c1 b2 o2 c2 z zs ys) (hl : ys.length = 256) : In (kN .i64) wr (Lt wr.heap.size) (some ⟨z, 0, none⟩) 256 ys := h.i3.inn (by omega) (by unfold maxLen; omega)
theorem Tw.set {w wr : World} {b1 o1 c1 b2 o2 c2 z : Nat} {zs ys : List Int} (h : Tw w wr b1 o1 c1 b2 o2 c2 z zs ys) (i : Nat) (x : Int) : Tw w (wr.setCell ⟨z, i, none⟩ (.int .i64 x)) b1 o1 c1 b2 o2 c2 z zs (ys.set i x) :=
  ⟨h.bel.setCell h.zw _, h.zw, by simpa using h.zl, h.i1.mono (fun g hg => Below.heap_setCell _ _ _ _ (by show g ≠ z; unfold Lt at hg; omega)) (fun _ h => h), h.i2.mono (fun g hg => Below.heap_setCell _ _ _ _ (by show g ≠ z; unfold Lt at hg; omega)) (fun _ h => h), h.i3.set i x⟩

set_option maxRecDepth 100000 in
set_option maxHeartbeats 1000000 in
theorem topDoubled_long (A : Option Addr) (c n : Nat) (lg most : Int) (w : World) (hn : 2000 < n) :
    Calls Try.prog 3 #[.slice A n c, .int .i64 lg, .int .i64 most] w fun e w' => e = .returned (.bool true) ∧ Below w.heap.size w w' := by
  have hn2 : (2000 : Int) < (n : Int) := by omega
  have H := Lib.hid (counted46 sorts)
  go_enter Try.func3, Try.ntmps3
  go_wp2_with fail
  refine (H.out _).mono ?_
  rintro e w' ⟨rfl, hb⟩
  have HB := Lib.hid hb
  clear hb
  go_wp2
  go_ret
  exact ⟨rfl, HB.out⟩

set_option maxRecDepth 100000 in
set_option maxHeartbeats 8000000 in
theorem topDoubled (A : Option Addr) (c : Nat) (bs : List UInt8) (lg most : Int) (w : World) (hin : In kY w (Lt w.heap.size) A c bs) (hn : bs.length ≤ 2000) (hm1 : -9223372036854775808 ≤ most) (hm2 : most ≤ 9223372036854775807) :
    Calls Try.prog 3 #[.slice A bs.length c, .int .i64 lg, .int .i64 most] w fun e w' => e = .returned (.bool true) ∧ Below w.heap.size w w' := by
  have H46 := Lib.hid (counted46 sorts)
  have HN := Lib.hid hn
  obtain ⟨n, hnn⟩ : ∃ n, n = bs.length := ⟨_, rfl⟩
  have hn2 : (n : Int) ≤ 2000 := by omega
  have HNN := Lib.hid hnn
  rw [← hnn]
  clear hn hnn
  go_enter Try.func3, Try.ntmps3
  go_wp2_with fail
  have h1 := (In.one_new (k := kS kY) (cs := [.slice A n c]) 22 ⟨A, c, by rw [HNN.out], hin⟩ (fun g hg => hg)).sub (S' := Lt (w.alloc (.cells #[.slice A n c] 22)).heap.size) (fun g hg => by
    rcases hg with hg | rfl
    · unfold Lt at *; simp; omega
    · simp [Lt])
  refine (calls_args (histogram _ 1 [bs] _ h1 (by have := HN.out; simp; omega) (by simp)) (by rfl)).mono ?_
  rintro e w1 ⟨v1, rfl, ⟨A1, c1, rfl, hi1⟩, hb1⟩
  have e1 : [bs].flatten = bs := by simp
  rw [e1] at hi1 ⊢
  rw [hist_len]
  obtain ⟨b1, o1, rfl, -, -⟩ := hi1.num (j := 0) (by rw [hist_len]; omega)
  have hb01 : Below w.heap.size w w1 := ((Below.refl _ _).alloc (Nat.le_refl _) _).trans (hb1.mono (by simp))
  have hin1 := hin.below hb01 hb01.size
  clear h1 hb1 e1
  have HI1 := Lib.hid hi1
  have HB01 := Lib.hid hb01
  have HIN1 := Lib.hid hin1
  clear hi1 hb01 hin1
  go_wp2_with fail
  have h1 := (In.two_new (k := kS kY) (u := .slice A n c) (v := .slice A n c) 22 rfl ⟨A, c, by rw [HNN.out], HIN1.out⟩ ⟨A, c, by rw [HNN.out], HIN1.out⟩ (fun g hg => hg)).sub (S' := Lt (w1.alloc (.cells #[.slice A n c, .slice A n c] 22)).heap.size) (fun g hg => by
    rcases hg with hg | rfl
    · unfold Lt at *; simp; omega
    · simp [Lt])
  refine (calls_args (histogram _ 2 [bs, bs] _ h1 (by have := HN.out; simp; omega) (by simp)) (by rfl)).mono ?_
  rintro e w2 ⟨v2, rfl, ⟨A2, c2, rfl, hi2⟩, hb2⟩
  have e2 : [bs, bs].flatten = bs ++ bs := by simp
  rw [e2] at hi2 ⊢
  rw [hist_len]
  rw [hist_two] at hi2
  have hz0 := hist_at bs HN.out
  have hh := hist_ok bs (by have := HN.out; omega)
  have hh2 : Hist (dbl (hist bs)) := by rw [← hist_two]; exact hist_ok _ (by have := HN.out; simp; omega)
  have hzl := hist_len bs
  have hi1 := HI1.out
  obtain ⟨zs, hzs⟩ : ∃ zs, zs = hist bs := ⟨_, rfl⟩
  rw [← hzs] at hi1 hi2 hz0 hh hh2 hzl
  have HH := Lib.hid hh
  have HH2 := Lib.hid hh2
  have HZL := Lib.hid hzl
  have HZ0 := Lib.hid hz0
  have hdl : (dbl zs).length = 256 := by rw [← HZL.out]; exact List.length_map ..
  have HDL := Lib.hid hdl
  obtain ⟨b2, o2, rfl, -, -⟩ := hi2.num (j := 0) (by omega)
  have hb12 : Below w1.heap.size w1 w2 := ((Below.refl _ _).alloc (Nat.le_refl _) _).trans (hb2.mono (by simp))
  have HB02 := Lib.hid (HB01.out.trans (hb12.mono HB01.out.size))
  have HI12 := Lib.hid (hi1.below hb12 hb12.size)
  have HI22 := Lib.hid hi2
  clear h1 hb2 e2 hi1 hi2 hb12 hz0 hh hh2 hzl hdl hzs HI1 HB01 HIN1
  have hmk : ∀ w : World, (Instr.makeSlice 24 (.int .i64 256) (.int .i64 256)).run Try.prog w = .ok (.slice (some ⟨w.heap.size, 0, none⟩) 256 256) (w.alloc (.cells (zrow .i64 256) 3)) := fun w => run_mk (P := Try.prog) .i64 3 8 256 24 Try.underlying24 info_int (by omega) (by unfold maxLen; omega) .i64 .i64 w
  go_wp2_with fail
  have ht0 : Tw w (w2.alloc (.cells (zrow .i64 256) 3)) b1 o1 c1 b2 o2 c2 w2.heap.size zs (turned zs 0) := by
    have hba : Below w2.heap.size w2 (w2.alloc (.cells (zrow .i64 256) 3)) := (Below.refl _ _).alloc (Nat.le_refl _) _
    refine ⟨HB02.out.trans (hba.mono HB02.out.size), HB02.out.size, by simp, HI12.out.below hba (Nat.le_refl _), HI22.out.below hba (Nat.le_refl _), ?_⟩
    rw [turned_zero, HZL.out]
    exact Row.zrow .i64 3 w2 256 (by unfold maxLen; omega)
  have HT0 := Lib.hid ht0
  obtain ⟨z, hz⟩ : ∃ z, z = w2.heap.size := ⟨_, rfl⟩
  rw [← hz] at HT0 ⊢
  generalize hW : w2.alloc (.cells (zrow .i64 256) 3) = w3 at *
  clear hW hz ht0 HB02 HI12 HI22 hmk
  go_loopw [10] (fun vi wr => ∃ k : Nat, k ≤ 256 ∧ vi = .int .i64 k ∧ Hid (Tw w wr b1 o1 c1 b2 o2 c2 z zs (turned zs k))) (fun vi _ => 256 - (intOf vi).toNat)
  case atStart => exact ⟨0, by omega, rfl, HT0⟩
  case round =>
    clear HT0
    obtain ⟨k, hk, rfl, HT⟩ := hrel
    by_cases hlt : k < 256
    · have q1 := Norm.cells_of HT.out.i1 k (by rw [HZL.out]; exact hlt)
      have q2 := Norm.cells_of HT.out.i2 k (by rw [HDL.out]; exact hlt)
      rw [NormP.dbl_getD] at q2
      have hx := HZ0.out k
      have HTS : Hid ((turned zs k).set (255 - k) (zs.getD k 0) = turned zs (k + 1)) := by
        show _ = _
        have := turned_set zs k (by rw [HZL.out]; exact hlt)
        rwa [HZL.out] at this
      have htl := turned_len zs k (by rw [HZL.out]; exact hk)
      have hc := HT.out.i3.cell (i := 255 - k) (by rw [htl, HZL.out]; omega)
      have hf := HT.out.i3.free (255 - k)
      obtain ⟨x, hxx⟩ : ∃ x, x = zs.getD k 0 := ⟨_, rfl⟩
      rw [← hxx] at q1 q2 hx HTS
      obtain ⟨y, hy⟩ : ∃ y, y = (turned zs k)[255 - k]'(by rw [htl, HZL.out]; omega) := ⟨_, rfl⟩
      rw [← hy] at hc
      clear hxx hy htl
      obtain ⟨j, hj⟩ : ∃ j, j = 255 - k := ⟨_, rfl⟩
      rw [← hj] at hc hf HTS
      have hkj : (255 : Int) - (k : Int) = (j : Int) := by omega
      have hj2 : (j : Int) < 256 := by omega
      have hj0 : 0 ≤ (j : Int) := by omega
      have HJ := Lib.hid hj
      clear hj
      have hw2 : IntKind.i64.wrap (2 * x) = 2 * x := IntWalk.i64_in _ (by omega)
      have hk0 : 0 ≤ (k : Int) := by omega
      have hk2 : (k : Int) < 256 := by omega
      have hwj : IntKind.i64.wrap (j : Int) = (j : Int) := IntWalk.i64_in _ (by omega)
      go_wp2_with fail
      go_quiet (fail)
      clear hw2
      have HT2 : Hid (Tw w ((wr.drewN nq).setCell ⟨z, j, none⟩ (.int .i64 x)) b1 o1 c1 b2 o2 c2 z zs (turned zs (k + 1))) := by
        show Tw _ _ _ _ _ _ _ _ _ _ _
        rw [← HTS.out]
        exact (HT.out.step (bdrewN (Below.refl _ _) nq)).set j x
      go_wp2
      go_roundw
      case rel => exact ⟨k + 1, by omega, by go_num, HT2⟩
      case measure => simp [intOf]; omega
    · have hk256 : k = 256 := by omega
      subst hk256
      have HT1 : Hid (Tw w wr b1 o1 c1 b2 o2 c2 z zs zs.reverse) := by
        show Tw _ _ _ _ _ _ _ _ _ _ _
        rw [← turned_all, HZL.out]; exact HT.out
      have hrp : zs.reverse.Perm zs := List.reverse_perm zs
      have hrl : zs.reverse.length = 256 := by rw [List.length_reverse]; exact HZL.out
      have hrh : Hist zs.reverse := ⟨by omega, fun z hz => HH.out.2 z (List.mem_reverse.1 hz)⟩
      have HRL := Lib.hid hrl
      have HRH := Lib.hid hrh
      obtain ⟨X, hX⟩ : ∃ X, X = cost zs := ⟨_, rfl⟩
      have HX1 : Hid (cost zs = X) := hX.symm
      have HX2 : Hid (cost (dbl zs) = 2 * X) := by show _ = _; rw [hX]; exact cost_dbl HH.out
      have HX3 : Hid (cost zs.reverse = X) := by show _ = _; rw [hX]; exact cost_perm hrp
      have hXb := cost_bd HH.out
      rw [← hX] at hXb
      obtain ⟨K, hK⟩ : ∃ K, K = minK zs most := ⟨_, rfl⟩
      obtain ⟨E1, hE1⟩ : ∃ K, K = minE zs most := ⟨_, rfl⟩
      have HK1 : Hid (minK zs most = K ∧ minE zs most = E1) := ⟨hK.symm, hE1.symm⟩
      have HK2 : Hid (minK (dbl zs) most = 2 * K ∧ minE (dbl zs) most = E1) := by rw [minK_dbl, minE_dbl, ← hK, ← hE1]; exact ⟨rfl, rfl⟩
      have HK3 : Hid (minK zs.reverse most = K ∧ minE zs.reverse most = E1) := by rw [minK_perm hrp, minE_perm hrp, ← hK, ← hE1]; exact ⟨rfl, rfl⟩
      obtain ⟨M, hM⟩ : ∃ K, K = hufK zs := ⟨_, rfl⟩
      obtain ⟨E2, hE2⟩ : ∃ K, K = hufE zs := ⟨_, rfl⟩
      have HM1 : Hid (hufK zs = M ∧ hufE zs = E2) := ⟨hM.symm, hE2.symm⟩
      have HM2 : Hid (hufK (dbl zs) = 2 * M ∧ hufE (dbl zs) = E2) := by rw [hufK_dbl, hufE_dbl, ← hM, ← hE2]; exact ⟨rfl, rfl⟩
      have HM3 : Hid (hufK zs.reverse = M ∧ hufE zs.reverse = E2) := by rw [hufK_perm hrp, hufE_perm hrp, ← hM, ← hE2]; exact ⟨rfl, rfl⟩
      clear HT hX hK hE1 hM hE2 hrp hrl hrh HZ0
      -- the cost of each
      go_wp2_with fail
      refine (calls_args (cost_calls _ c1 zs _ HT1.out.in1 HH.out) (by rw [HZL.out])).mono ?_
      rintro e w4 ⟨rfl, hb⟩
      rw [HX1.out]
      have HT2 : Hid (Tw w w4 b1 o1 c1 b2 o2 c2 z zs zs.reverse) := HT1.out.step hb
      clear hb HT1
      go_wp2_with fail
      refine (calls_args (cost_calls _ c2 (dbl zs) _ HT2.out.in2 HH2.out) (by rw [HDL.out])).mono ?_
      rintro e w5 ⟨rfl, hb⟩
      rw [HX2.out]
      have HT1 : Hid (Tw w w5 b1 o1 c1 b2 o2 c2 z zs zs.reverse) := HT2.out.step hb
      clear hb HT2
      go_wp2_with fail
      refine (calls_args (cost_calls _ 256 zs.reverse _ (HT1.out.in3 HRL.out) HRH.out) (by rw [HRL.out])).mono ?_
      rintro e w6 ⟨rfl, hb⟩
      rw [HX3.out]
      have HT2 : Hid (Tw w w6 b1 o1 c1 b2 o2 c2 z zs zs.reverse) := HT1.out.step hb
      clear hb HT1
      go_wp2_with fail
      -- the tables
      refine (calls_args (normalize_any _ c1 zs lg _ HT2.out.in1 HH.out) (by rw [HZL.out])).mono ?_
      rintro e w7 ⟨L, xs, E, v, rfl, hN1, ⟨A4, c4, rfl, hi4⟩, hxl, hb⟩
      have HT1 : Hid (Tw w w7 b1 o1 c1 b2 o2 c2 z zs zs.reverse) := HT2.out.step hb
      have HN1 := Lib.hid hN1
      have HI4 := Lib.hid hi4
      have HXL := Lib.hid hxl
      clear hb HT2 hN1 hi4 hxl
      go_wp2_with fail
      have hba : Below w7.heap.size w7 (w7.alloc (.cells #[.int .i64 L, .slice A4 xs.length c4] 30)) := (Below.refl _ _).alloc (Nat.le_refl _) _
      have HT2 := Lib.hid (HT1.out.step hba)
      have HI5 := Lib.hid (HI4.out.below hba hba.size)
      clear hba HT1 HI4
      refine (calls_args (normalize_any _ c2 (dbl zs) lg _ HT2.out.in2 HH2.out) (by rw [HDL.out])).mono ?_
      rintro e w8 ⟨L', xs', E', v, rfl, hN2, ⟨A5, c5, rfl, hi6⟩, -, hb⟩
      obtain ⟨hL, hxs, hE⟩ := HN1.out.dbl hN2
      subst hL; subst hxs; subst hE
      have HT1 := Lib.hid (HT2.out.step hb)
      have HI6 := Lib.hid hi6
      have HI4 := Lib.hid (HI5.out.below hb hb.size)
      have m0 : w8.cell? ⟨w7.heap.size, 0, none⟩ = some (.int .i64 L') := by rw [hb.cell (by simp)]; simp [go_sem]
      have m1 : w8.cell? ⟨w7.heap.size, 1, none⟩ = some (.slice A4 xs'.length c4) := by rw [hb.cell (by simp)]; simp [go_sem]
      have hs8 : w7.heap.size < w8.heap.size := by have := hb.size; simp at this; omega
      clear hb HT2 hN2 hi6 HI5 HN1
      go_wp2_with fail
      have hba : Below w8.heap.size w8 (w8.alloc (.cells #[.int .i64 L', .slice A5 xs'.length c5] 30)) := (Below.refl _ _).alloc (Nat.le_refl _) _
      have HT2 := Lib.hid (HT1.out.step hba)
      refine (Norm.equal_tables A4 A5 c4 c5 xs' xs' L' L' _ (HI4.out.below hba hba.size) (HI6.out.below hba hba.size) HXL.out HXL.out).mono ?_
      rintro e w9 ⟨rfl, hb⟩
      have hbb : (L' == L' && xs' == xs') = true := by simp
      rw [hbb]
      have HT1 := Lib.hid (HT2.out.step hb)
      have p0 : w9.cell? ⟨w7.heap.size, 0, none⟩ = some (.int .i64 L') := by rw [hb.cell (by simp; omega)]; simp [go_sem, hs8, m0]
      have p1 : w9.cell? ⟨w7.heap.size, 1, none⟩ = some (.slice A4 xs'.length c4) := by rw [hb.cell (by simp; omega)]; simp [go_sem, hs8, m1]
      have p2 : w9.cell? ⟨w8.heap.size, 0, none⟩ = some (.int .i64 L') := by rw [hb.cell (by simp)]; simp [go_sem]
      have p3 : w9.cell? ⟨w8.heap.size, 1, none⟩ = some (.slice A5 xs'.length c5) := by rw [hb.cell (by simp)]; simp [go_sem]
      clear hb hba HT2 m0 m1 hbb HI4 HI6 HXL
      -- the least costs
      go_wp2_with fail
      clear p0 p1 p2 p3 hs8
      refine (calls_args (minCost_any sorts _ c1 zs most _ HT1.out.in1 HH.out hm1 hm2) (by rw [HZL.out])).mono ?_
      rintro e w10 ⟨rfl, hbd, hb⟩
      rw [HK1.out.1, HK1.out.2]
      rw [HK1.out.1] at hbd
      have hKb : 0 ≤ K ∧ K ≤ 1000000000000000 := hbd
      have HT2 := Lib.hid (HT1.out.step hb)
      clear hb hbd HT1
      go_wp2_with fail
      refine (calls_args (minCost_any sorts _ c2 (dbl zs) most _ HT2.out.in2 HH2.out hm1 hm2) (by rw [HDL.out])).mono ?_
      rintro e w11 ⟨rfl, -, hb⟩
      rw [HK2.out.1, HK2.out.2]
      have HT1 := Lib.hid (HT2.out.step hb)
      clear hb HT2
      go_wp2_with fail
      refine (calls_args (minCost_any sorts _ 256 zs.reverse most _ (HT1.out.in3 HRL.out) HRH.out hm1 hm2) (by rw [HRL.out])).mono ?_
      rintro e w12 ⟨rfl, -, hb⟩
      rw [HK3.out.1, HK3.out.2]
      have HT2 := Lib.hid (HT1.out.step hb)
      clear hb HT1
      go_wp2_with fail
      -- codes without a limit
      refine (calls_args (lengths46 sorts _ c1 zs _ HT2.out.in1 HH.out) (by rw [HZL.out])).mono ?_
      rintro e w13 ⟨rfl, hbd, hb⟩
      rw [HM1.out.1, HM1.out.2]
      rw [HM1.out.1] at hbd
      have hMb : 0 ≤ M ∧ M ≤ 1000000000000000 := hbd
      have HT1 := Lib.hid (HT2.out.step hb)
      clear hb hbd HT2
      go_wp2_with fail
      refine (calls_args (lengths46 sorts _ c2 (dbl zs) _ HT1.out.in2 HH2.out) (by rw [HDL.out])).mono ?_
      rintro e w14 ⟨rfl, -, hb⟩
      rw [HM2.out.1, HM2.out.2]
      have HT2 := Lib.hid (HT1.out.step hb)
      clear hb HT1
      go_wp2_with fail
      refine (calls_args (lengths46 sorts _ 256 zs.reverse _ (HT2.out.in3 HRL.out) HRH.out) (by rw [HRL.out])).mono ?_
      rintro e w15 ⟨rfl, -, hb⟩
      rw [HM3.out.1, HM3.out.2]
      have HT1 := Lib.hid (HT2.out.step hb)
      clear hb HT2
      go_wp2_with fail
      refine (H46.out _).mono ?_
      rintro e w16 ⟨rfl, hb⟩
      have HT2 := Lib.hid (HT1.out.step hb)
      clear hb HT1
      go_wp2
      go_ret
      exact ⟨rfl, HT2.out.bel⟩
end Go.Proofs.Ytjmkkcbilpidnaa.Limit
