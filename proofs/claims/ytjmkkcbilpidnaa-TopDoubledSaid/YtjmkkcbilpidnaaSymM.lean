/- The walks of the stable sort (library text): the merge of two sorted ranges, any lengths. -/
import Derived.Test.YtjmkkcbilpidnaaSym
import Derived.Deep.CutRange
import Derived.Deep.DeepCutAuto
import Derived.Deep.CutBlock
namespace Go.Proofs.Ytjmkkcbilpidnaa.SortA
open Go Go.RowKit Go.Proofs.Ytjmkkcbilpidnaa.W Go.Proofs.Ytjmkkcbilpidnaa.SortP
set_option linter.unusedVariables false
set_option linter.unusedSimpArgs false

set_option maxRecDepth 100000 in
set_option maxHeartbeats 4000000 in
theorem symMerge (D : Int → Prop) (key : Int → Int) (g c N f : Nat) (lb : Array Value) (w0 : World) (hf : FnC Try.prog f lb D key w0 g) (hN : N ≤ 65536) : ∀ (n a m b : Nat) (xs : List Int) (w : World), b - a ≤ n → Sw D w0 g N xs w → a < m → m < b → b ≤ N → Sorted key xs a m → Sorted key xs m b →
    Calls Try.prog 58 #[.slice (some ⟨g, 0, none⟩) N c, .int .i64 a, .int .i64 m, .int .i64 b, .func (.func f) #[] lb] w fun e w' => e = .returned (.tuple #[]) ∧ ∃ zs, Sw D w0 g N zs w' ∧ Sorted key zs a b ∧ Shuf a b xs zs := by
  intro n
  induction n with
  | zero => intro a m b xs w h0 _ h1 h2; omega
  | succ n ih =>
  intro a m b xs w hn h ham hmb hb h1 h2
  by_cases q1 : m = a + 1
  · subst q1
    exact symMerge1 D key g c N a (a + 1) b f lb xs w0 w h hf hN rfl hmb hb h2
  by_cases q2 : b = m + 1
  · subst q2
    exact symMerge2 D key g c N a m (m + 1) f lb xs w0 w h hf hN (by omega) rfl hb h1
  have hm1 : ((m : Int) - (a : Int) == 1) = false := by simp; omega
  have hm2 : ((b : Int) - (m : Int) == 1) = false := by simp; omega
  have e1 := hf.1
  unfold Ent at e1
  obtain ⟨q, hq1, hq2, hq⟩ := half a b
  have HF := Lib.hid hf
  have H := Lib.hid h
  have HO1 := Lib.hid h1
  have HO2 := Lib.hid h2
  have HLEN := Lib.hid h.len
  have IH := Lib.hid ih
  clear h hf h1 h2 ih
  go_enter Try.func58, Try.ntmps58
  go_upto_if 140 with (fail)
  go_cut [20, 21] from 25 (fun vs vr wc => ∃ lo hi : Nat, a ≤ lo ∧ lo ≤ hi ∧ hi ≤ m ∧ hi ≤ q ∧ (lo = a ∨ lo + b = q + m) ∧ (hi = m ∨ hi = q) ∧ q + m ≤ lo + b ∧ vs = .int .i64 lo ∧ vr = .int .i64 hi ∧ wc = w)
  case first => as_aux_lemma =>
    by_cases hmq : q < m
    · go_wp2
      go_meet
      exact ⟨q + m - b, q, by omega, by omega, by omega, by omega, by omega, by omega, by omega, by go_num, rfl, rfl⟩
    · go_wp2
      go_meet
      exact ⟨a, m, by omega, by omega, by omega, by omega, by omega, by omega, by omega, rfl, rfl, rfl⟩
  case rest =>
  obtain ⟨lo, hi, g1, g2, g3, g4, g5, g6, g7, rfl, rfl, rfl⟩ := hcut
  obtain ⟨p, hp⟩ : ∃ p : Nat, p + 1 = q + m := ⟨q + m - 1, by omega⟩
  have hpz : (q : Int) + (m : Int) - 1 = (p : Int) := by omega
  go_upto_block 8 with (fail)
  clear hpz
  go_cut [20] from 23 (fun vs wx => ∃ s : Nat, lo ≤ s ∧ s ≤ hi ∧ vs = .int .i64 s ∧ Hid (Sw D w0 g N xs wx) ∧ Hid (s = lo ∨ key (xs.getD (s - 1) 0) ≤ key (xs.getD (q + m - s) 0)) ∧ Hid (s = hi ∨ key (xs.getD (q + m - s - 1) 0) ≤ key (xs.getD s 0)))
  case first => as_aux_lemma =>
    go_wp2
    go_loopw [20, 21] (fun vs vr wr => ∃ s r : Nat, lo ≤ s ∧ s ≤ r ∧ r ≤ hi ∧ vs = .int .i64 s ∧ vr = .int .i64 r ∧ Hid (Sw D w0 g N xs wr) ∧ Hid (s = lo ∨ key (xs.getD (s - 1) 0) ≤ key (xs.getD (q + m - s) 0)) ∧ Hid (r = hi ∨ key (xs.getD (q + m - r - 1) 0) ≤ key (xs.getD r 0))) (fun vs vr _ => (intOf vr).toNat - (intOf vs).toNat)
    case atStart => exact ⟨lo, hi, Nat.le_refl _, g2, Nat.le_refl _, rfl, rfl, H, .inl rfl, .inl rfl⟩
    case round =>
      clear H
      obtain ⟨s, r, hs, hsr, hr, rfl, rfl, H, HA, HB⟩ := hrel
      by_cases hlt : s < r
      · obtain ⟨k, hk1, hk2, hk⟩ := half s r
        obtain ⟨d, hd⟩ : ∃ d : Nat, d = q + m - k - 1 := ⟨_, rfl⟩
        have hwd : IntKind.i64.wrap ((p : Int) - (k : Int)) = (d : Int) := by rw [show (p : Int) - (k : Int) = (d : Int) by omega]; exact IntWalk.i64_in _ (by omega)
        have hkN : (k : Int) < (N : Int) := by omega
        have hk0 : 0 ≤ (k : Int) := by omega
        have hdN : (d : Int) < (N : Int) := by omega
        have hd0 : 0 ≤ (d : Int) := by omega
        obtain ⟨u, hu⟩ : ∃ u, u = xs.getD d 0 := ⟨_, rfl⟩
        obtain ⟨v, hv⟩ : ∃ v, v = xs.getD k 0 := ⟨_, rfl⟩
        have hc1 : wr.cell? ⟨g, d, none⟩ = some (.int .i64 u) := by rw [hu]; exact H.out.cell (by omega)
        have hc2 : wr.cell? ⟨g, k, none⟩ = some (.int .i64 v) := by rw [hv]; exact H.out.cell (by omega)
        have HC := Lib.hid (H.out.with HF.out (s := d) (t := k) (by omega) (by omega) hu hv)
        have HU := Lib.hid hu
        have HV := Lib.hid hv
        have HD := Lib.hid hd
        clear hu hv hd
        by_cases hl : key u - key v < 0
        · have hdd : decide (key u - key v < 0) = true := decide_eq_true hl
          have HK := Lib.hid hl
          clear hl
          go_wp2_with fail
          go_quiet (exact Calls.quiet_of (HC.out _))
          go_wp2
          go_roundw
          case rel => exact ⟨s, k, hs, by omega, by omega, rfl, rfl, H.out.drewN nq, HA, .inr (by rw [← HD.out, ← HU.out, ← HV.out]; have := HK.out; omega)⟩
          case measure => simp [intOf]; omega
        · have hdd : decide (key u - key v < 0) = false := decide_eq_false hl
          have HK : Hid (key v ≤ key u) := by show key v ≤ key u; omega
          clear hl
          go_wp2_with fail
          go_quiet (exact Calls.quiet_of (HC.out _))
          go_wp2
          go_roundw
          case rel => exact ⟨k + 1, r, by omega, by omega, hr, by go_num, rfl, H.out.drewN nq, .inr (by rw [show q + m - (k + 1) = d by have := HD.out; omega, Nat.add_sub_cancel, ← HU.out, ← HV.out]; exact HK.out), HB⟩
          case measure => simp [intOf]; omega
      · have hsr2 : s = r := by omega
        subst hsr2
        go_wp2
        go_meet
        exact ⟨s, hs, hr, rfl, H, HA, HB⟩
  case rest =>
  obtain ⟨s, hs, hr, rfl, H, HA, HB⟩ := hcut
  obtain ⟨e, he⟩ : ∃ e : Nat, e = q + m - s := ⟨_, rfl⟩
  have hez : (q : Int) + (m : Int) - (s : Int) = (e : Int) := by omega
  rw [← he] at HA HB
  have HE := Lib.hid he
  have hA : Hid (s = a ∨ e = b ∨ key (xs.getD (s - 1) 0) ≤ key (xs.getD e 0)) := by
    show s = a ∨ e = b ∨ key (xs.getD (s - 1) 0) ≤ key (xs.getD e 0)
    rcases HA.out with h | h
    · omega
    · exact .inr (.inr h)
  have hB : Hid (s = m ∨ e = m ∨ key (xs.getD (e - 1) 0) ≤ key (xs.getD s 0)) := by
    show s = m ∨ e = m ∨ key (xs.getD (e - 1) 0) ≤ key (xs.getD s 0)
    rcases HB.out with h | h
    · omega
    · exact .inr (.inr h)
  clear HA HB
  have h3 : s ≤ m := by omega
  have h4 : m ≤ e := by omega
  have h5 : e ≤ b := by omega
  have h6 : a ≤ s := by omega
  have h7 : s + (e - m) = q := by omega
  have h8 : s ≤ q := by omega
  have h9 : q ≤ e := by omega
  clear he
  go_upto_region 39 with (fail)
  go_cut [185] from 25 (fun vc wx => vc = .bool (decide (s < m ∧ m < e)) ∧ wx = wc)
  case first => as_aux_lemma =>
    by_cases c1 : s < m
    · by_cases c2 : m < e
      all_goals
        go_wp2
        go_meet
        exact ⟨by simp [c1, c2], rfl⟩
    · go_wp2
      go_meet
      exact ⟨by simp [c1], rfl⟩
  case rest =>
  obtain ⟨rfl, rfl⟩ := hcut
  go_upto_if 185 with (fail)
  go_cut [] from 25 (fun wx => ∃ zs, Hid (Sw D w0 g N zs wx) ∧ Hid (Rot s m e xs zs) ∧ Hid (Shuf a b xs zs))
  case first => as_aux_lemma =>
    by_cases c1 : s < m ∧ m < e
    · have c3 : decide (s < m ∧ m < e) = true := decide_eq_true c1
      rw [c3]
      go_wp2_with fail
      refine (rotate D g c N s m e _ xs w0 _ H.out hN c1.1 c1.2 (by omega)).mono ?_
      rintro e' w' ⟨rfl, zs, t1, t2, t3⟩
      have T1 := Lib.hid t1
      have T2 := Lib.hid t2
      have T3 := Lib.hid t3
      clear t1 t2 t3
      go_wp2
      go_meet
      exact ⟨zs, T1, T2, T3.out.wide (by omega) (by omega) (by have := HLEN.out; omega)⟩
    · have c3 : decide (s < m ∧ m < e) = false := decide_eq_false c1
      rw [c3]
      go_wp2
      go_meet
      exact ⟨xs, H, Rot.refl _ _ _ _ h3 h4 (by omega), .refl⟩
  case rest =>
  obtain ⟨zs, H, HR, HS⟩ := hcut
  have hsp := sym_split h6 h3 h4 h5 h7 HO1.out HO2.out HR.out hA.out hB.out
  have S1 := Lib.hid hsp.1
  have S2 := Lib.hid hsp.2.1
  have S3 := Lib.hid hsp.2.2.1
  have S4 := Lib.hid hsp.2.2.2.1
  have S5 := Lib.hid hsp.2.2.2.2
  clear hsp
  go_upto_region 41 with (fail)
  go_cut [199] from 25 (fun vc wx => vc = .bool (decide (a < s ∧ s < q)) ∧ wx = wc)
  case first => as_aux_lemma =>
    by_cases c1 : a < s
    · by_cases c2 : s < q
      all_goals
        go_wp2
        go_meet
        exact ⟨by simp [c1, c2], rfl⟩
    · go_wp2
      go_meet
      exact ⟨by simp [c1], rfl⟩
  case rest =>
  obtain ⟨rfl, rfl⟩ := hcut
  go_upto_if 199 with (fail)
  go_cut [] from 25 (fun wx => ∃ us, Hid (Sw D w0 g N us wx) ∧ Hid (Sorted key us a q) ∧ Hid (Shuf a q zs us))
  case first => as_aux_lemma =>
    by_cases c1 : a < s ∧ s < q
    · have c3 : decide (a < s ∧ s < q) = true := decide_eq_true c1
      rw [c3]
      go_wp2_with fail
      refine (IH.out a s q zs _ (by omega) H.out c1.1 c1.2 (by omega) S1.out S2.out).mono ?_
      rintro e' w' ⟨rfl, us, t1, t2, t3⟩
      have T1 := Lib.hid t1
      have T2 := Lib.hid t2
      have T3 := Lib.hid t3
      clear t1 t2 t3
      go_wp2
      go_meet
      exact ⟨us, T1, T2, T3⟩
    · have c3 : decide (a < s ∧ s < q) = false := decide_eq_false c1
      rw [c3]
      go_wp2
      go_meet
      refine ⟨zs, H, ?_, .refl⟩
      show Sorted key zs a q
      by_cases c2 : a < s
      · have : q = s := by omega
        rw [this]; exact S1.out
      · have : a = s := by omega
        rw [this]; exact S2.out
  case rest =>
  obtain ⟨us, H2, T2, T3⟩ := hcut
  go_upto_region 43 with (fail)
  go_cut [213] from 25 (fun vc wx => vc = .bool (decide (q < e ∧ e < b)) ∧ wx = wc)
  case first => as_aux_lemma =>
    by_cases c1 : q < e
    · by_cases c2 : e < b
      all_goals
        go_wp2
        go_meet
        exact ⟨by simp [c1, c2], rfl⟩
    · go_wp2
      go_meet
      exact ⟨by simp [c1], rfl⟩
  case rest =>
  obtain ⟨rfl, rfl⟩ := hcut
  have U3 : Hid (Sorted key us q e) := S3.out.congr fun t h1 h2 => T3.out.out t (by omega)
  have U4 : Hid (Sorted key us e b) := S4.out.congr fun t h1 h2 => T3.out.out t (by omega)
  by_cases c1 : q < e ∧ e < b
  · as_aux_lemma =>
    have c3 : decide (q < e ∧ e < b) = true := decide_eq_true c1
    rw [c3]
    go_wp2_with fail
    refine (IH.out q e b us _ (by omega) H2.out c1.1 c1.2 hb U3.out U4.out).mono ?_
    rintro e' w' ⟨rfl, vs, t1, t2, t3⟩
    have X1 := Lib.hid t1
    have X2 := Lib.hid t2
    have X3 := Lib.hid t3
    clear t1 t2 t3
    go_wp2
    go_end0
    refine ⟨rfl, vs, X1.out, Sorted.join (m := q) (T2.out.congr fun t h1 h2 => X3.out.out t (by omega)) X2.out (halves S5.out T3.out X3.out), (HS.out.trans (T3.out.wide (by omega) (by omega) (by have := H.out.len; omega))).trans (X3.out.wide (by omega) (by omega) (by have := H2.out.len; omega))⟩
  · as_aux_lemma =>
    have c3 : decide (q < e ∧ e < b) = false := decide_eq_false c1
    rw [c3]
    go_wp2
    go_end0
    refine ⟨rfl, us, H2.out, Sorted.join (m := q) T2.out ?_ (halves S5.out T3.out .refl), HS.out.trans (T3.out.wide (by omega) (by omega) (by have := H.out.len; omega))⟩
    by_cases c2 : q < e
    · have : b = e := by omega
      rw [this]; exact U3.out
    · have : q = e := by omega
      rw [this]; exact U4.out
end Go.Proofs.Ytjmkkcbilpidnaa.SortA
