/- The walks of the stable sort (library text): the merge of two sorted ranges. -/
import Derived.Test.YtjmkkcbilpidnaaSortI
import Derived.Test.YtjmkkcbilpidnaaSymP
namespace Go.Proofs.Ytjmkkcbilpidnaa.SortA
open Go Go.RowKit Go.Proofs.Ytjmkkcbilpidnaa.W Go.Proofs.Ytjmkkcbilpidnaa.SortP
set_option linter.unusedVariables false
set_option linter.unusedSimpArgs false

/-- the middle of two small numbers, as Go takes it -/
theorem half (x y : Nat) : ∃ q : Nat, 2 * q ≤ x + y ∧ x + y ≤ 2 * q + 1 ∧ ((x : Int) + (y : Int)) / 2 = (q : Int) := ⟨(x + y) / 2, by omega, by omega, by omega⟩

set_option maxRecDepth 100000 in
set_option maxHeartbeats 4000000 in
theorem symMerge1 (D : Int → Prop) (key : Int → Int) (g c N a m b f : Nat) (lb : Array Value) (xs : List Int) (w0 w : World) (h : Sw D w0 g N xs w) (hf : FnC Try.prog f lb D key w0 g) (hN : N ≤ 65536) (hm : m = a + 1) (hmb : m < b) (hb : b ≤ N) (h2 : Sorted key xs (a + 1) b) :
    Calls Try.prog 58 #[.slice (some ⟨g, 0, none⟩) N c, .int .i64 a, .int .i64 m, .int .i64 b, .func (.func f) #[] lb] w fun e w' => e = .returned (.tuple #[]) ∧ ∃ zs, Sw D w0 g N zs w' ∧ Sorted key zs a b ∧ Shuf a b xs zs := by
  have hm1 : ((m : Int) - (a : Int) == 1) = true := by simp; omega
  have e1 := hf.1
  unfold Ent at e1
  have HF := Lib.hid hf
  have H := Lib.hid h
  have HO2 := Lib.hid h2
  have HLEN := Lib.hid h.len
  clear h hf h2
  go_enter Try.func58, Try.ntmps58
  go_wp2
  clear hm1
  go_loopw [10, 11] (fun vi vj wr => ∃ (i j : Nat), a < i ∧ i ≤ j ∧ j ≤ b ∧ vi = .int .i64 i ∧ vj = .int .i64 j ∧ Hid (Sw D w0 g N xs wr) ∧ Hid (∀ t, a < t → t < i → key (xs.getD t 0) ≤ key (xs.getD a 0)) ∧ Hid (∀ t, j ≤ t → t < b → key (xs.getD a 0) ≤ key (xs.getD t 0))) (fun vi vj _ => (intOf vj).toNat - (intOf vi).toNat)
  case atStart => exact ⟨m, b, by omega, by omega, by omega, rfl, rfl, H, fun t h1 h2 => by omega, fun t h1 h2 => by omega⟩
  case round =>
    clear H
    obtain ⟨i, j, hai, hij, hjb, rfl, rfl, H, HL, HR⟩ := hrel
    by_cases hlt : i < j
    · obtain ⟨q, hq1, hq2, hq⟩ := half i j
      have hqN : (q : Int) < (N : Int) := by omega
      have hq0 : 0 ≤ (q : Int) := by omega
      have ha0 : 0 ≤ (a : Int) := by omega
      have haN : (a : Int) < (N : Int) := by omega
      obtain ⟨u, hu⟩ : ∃ u, u = xs.getD (q) 0 := ⟨_, rfl⟩
      obtain ⟨v, hv⟩ : ∃ v, v = xs.getD (a) 0 := ⟨_, rfl⟩
      have hc1 : wr.cell? ⟨g, q, none⟩ = some (.int .i64 u) := by rw [hu]; exact H.out.cell (by omega)
      have hc2 : wr.cell? ⟨g, a, none⟩ = some (.int .i64 v) := by rw [hv]; exact H.out.cell (by omega)
      have hf1 : wr.frozen? ⟨g, q, none⟩ = false := H.out.row.free _
      have hf2 : wr.frozen? ⟨g, a, none⟩ = false := H.out.row.free _
      have HC := Lib.hid (H.out.with HF.out (s := q) (t := a) (by omega) (by omega) hu hv)
      have HU := Lib.hid hu
      have HV := Lib.hid hv
      clear hu hv
      by_cases hl : key u - key v < 0
      · have hd : decide (key u - key v < 0) = true := decide_eq_true hl
        have HK := Lib.hid hl
        clear hl
        go_wp2_with fail
        go_quiet (exact Calls.quiet_of (HC.out _))
        go_wp2
        go_roundw
        case rel => exact ⟨q + 1, j, by omega, by omega, hjb, by go_num, rfl, H.out.drewN nq, fun t h1 h2 => by
          have h3 : key (xs.getD q 0) < key (xs.getD a 0) := by rw [← HU.out, ← HV.out]; have := HK.out; omega
          have h4 := HO2.out.le (i := t) (j := q) (by omega) (by omega) (by omega)
          omega, HR⟩
        case measure => simp [intOf]; omega
      · have hd : decide (key u - key v < 0) = false := decide_eq_false hl
        have HK : Hid (key v ≤ key u) := by show key v ≤ key u; omega
        clear hl
        go_wp2_with fail
        go_quiet (exact Calls.quiet_of (HC.out _))
        go_wp2
        go_roundw
        case rel => exact ⟨i, q, hai, by omega, by omega, rfl, rfl, H.out.drewN nq, HL, fun t h1 h2 => by
          have h3 : key (xs.getD a 0) ≤ key (xs.getD q 0) := by rw [← HU.out, ← HV.out]; have := HK.out; omega
          have h4 := HO2.out.le (i := q) (j := t) (by omega) (by omega) (by omega)
          omega⟩
        case measure => simp [intOf]; omega
    · have hij2 : i = j := by omega
      subst hij2
      obtain ⟨e, rfl⟩ : ∃ e, i = e + 1 := ⟨i - 1, by omega⟩
      go_wp2
      go_loopw [13] (fun vk wr => ∃ (k : Nat) (ys : List Int), a ≤ k ∧ k ≤ e ∧ vk = .int .i64 k ∧ Hid (Sw D w0 g N ys wr) ∧ Hid (Shuf a b xs ys) ∧ Hid (Up xs a k ys)) (fun vk _ => e - (intOf vk).toNat)
      case atStart => exact ⟨a, xs, by omega, by omega, rfl, H, .refl, Up.start xs a⟩
      case round =>
        clear H
        obtain ⟨k, ys, hak, hke, rfl, H, HS, HP⟩ := hrel
        by_cases hlt : k < e
        · have hkN : (k : Int) < (N : Int) := by omega
          have hk0 : 0 ≤ (k : Int) := by omega
          have hkN1 : (k : Int) + 1 < (N : Int) := by omega
          have hkz : (k : Int) < (e : Int) := by omega
          obtain ⟨u, hu⟩ : ∃ u, u = ys.getD (k) 0 := ⟨_, rfl⟩
          obtain ⟨v, hv⟩ : ∃ v, v = ys.getD (k + 1) 0 := ⟨_, rfl⟩
          have hc1 : wr.cell? ⟨g, k, none⟩ = some (.int .i64 u) := by rw [hu]; exact H.out.cell (by omega)
          have hc2 : wr.cell? ⟨g, k + 1, none⟩ = some (.int .i64 v) := by rw [hv]; exact H.out.cell (by omega)
          have hf1 : wr.frozen? ⟨g, k, none⟩ = false := H.out.row.free _
          have hf2 : wr.frozen? ⟨g, k + 1, none⟩ = false := H.out.row.free _
          have HC := Lib.hid (H.out.with HF.out (s := k) (t := k + 1) (by omega) (by omega) hu hv)
          have HU := Lib.hid hu
          have HV := Lib.hid hv
          clear hu hv
          go_wp2
          go_region
          all_goals go_wp2
          all_goals go_roundw
          case rel => exact ⟨k + 1, _, by omega, by omega, by go_num, by have := (H.out.swp (i := k) (j := k + 1) (by omega) (by omega)).drew; rw [← HU.out, ← HV.out] at this; exact this, HS.out.step (by omega) (by omega) (by omega) (by omega) (by have := H.out.len; omega), HP.out.step (by omega) (by have := HLEN.out; omega)⟩
          case measure => simp [intOf]; omega
        · have hke2 : k = e := by omega
          subst hke2
          go_wp2
          refine bodyPost_ret (results_none rfl _ _ _) rfl ?_
          refine ⟨rfl, ys, H.out, HP.out.sorted (by omega) (by omega) HO2.out (fun t h1 h2 => HL.out t h1 (by omega)) (fun t h1 h2 => HR.out t (by omega) h2), HS.out⟩

set_option maxRecDepth 100000 in
set_option maxHeartbeats 4000000 in
theorem symMerge2 (D : Int → Prop) (key : Int → Int) (g c N a m b f : Nat) (lb : Array Value) (xs : List Int) (w0 w : World) (h : Sw D w0 g N xs w) (hf : FnC Try.prog f lb D key w0 g) (hN : N ≤ 65536) (hm : a + 1 < m) (hmb : b = m + 1) (hb : b ≤ N) (h2 : Sorted key xs a m) :
    Calls Try.prog 58 #[.slice (some ⟨g, 0, none⟩) N c, .int .i64 a, .int .i64 m, .int .i64 b, .func (.func f) #[] lb] w fun e w' => e = .returned (.tuple #[]) ∧ ∃ zs, Sw D w0 g N zs w' ∧ Sorted key zs a b ∧ Shuf a b xs zs := by
  have hm1 : ((m : Int) - (a : Int) == 1) = false := by simp; omega
  have hm2 : ((b : Int) - (m : Int) == 1) = true := by simp; omega
  have e1 := hf.1
  unfold Ent at e1
  have HF := Lib.hid hf
  have H := Lib.hid h
  have HO2 := Lib.hid h2
  have HLEN := Lib.hid h.len
  clear h hf h2
  go_enter Try.func58, Try.ntmps58
  go_wp2
  clear hm1 hm2
  go_loopw [14, 15] (fun vi vj wr => ∃ (i j : Nat), a ≤ i ∧ i ≤ j ∧ j ≤ m ∧ vi = .int .i64 i ∧ vj = .int .i64 j ∧ Hid (Sw D w0 g N xs wr) ∧ Hid (∀ t, a ≤ t → t < i → key (xs.getD t 0) ≤ key (xs.getD m 0)) ∧ Hid (∀ t, j ≤ t → t < m → key (xs.getD m 0) ≤ key (xs.getD t 0))) (fun vi vj _ => (intOf vj).toNat - (intOf vi).toNat)
  case atStart => exact ⟨a, m, by omega, by omega, by omega, rfl, rfl, H, fun t h1 h2 => by omega, fun t h1 h2 => by omega⟩
  case round =>
    clear H
    obtain ⟨i, j, hai, hij, hjb, rfl, rfl, H, HL, HR⟩ := hrel
    by_cases hlt : i < j
    · obtain ⟨q, hq1, hq2, hq⟩ := half i j
      have hqN : (q : Int) < (N : Int) := by omega
      have hq0 : 0 ≤ (q : Int) := by omega
      have ha0 : 0 ≤ (m : Int) := by omega
      have haN : (m : Int) < (N : Int) := by omega
      obtain ⟨u, hu⟩ : ∃ u, u = xs.getD (m) 0 := ⟨_, rfl⟩
      obtain ⟨v, hv⟩ : ∃ v, v = xs.getD (q) 0 := ⟨_, rfl⟩
      have hc1 : wr.cell? ⟨g, m, none⟩ = some (.int .i64 u) := by rw [hu]; exact H.out.cell (by omega)
      have hc2 : wr.cell? ⟨g, q, none⟩ = some (.int .i64 v) := by rw [hv]; exact H.out.cell (by omega)
      have hf1 : wr.frozen? ⟨g, m, none⟩ = false := H.out.row.free _
      have hf2 : wr.frozen? ⟨g, q, none⟩ = false := H.out.row.free _
      have HC := Lib.hid (H.out.with HF.out (s := m) (t := q) (by omega) (by omega) hu hv)
      have HU := Lib.hid hu
      have HV := Lib.hid hv
      clear hu hv
      by_cases hl : key u - key v < 0
      · have hd : decide (key u - key v < 0) = true := decide_eq_true hl
        have HK := Lib.hid hl
        clear hl
        go_wp2_with fail
        go_quiet (exact Calls.quiet_of (HC.out _))
        go_wp2
        go_roundw
        case rel => exact ⟨i, q, hai, by omega, by omega, rfl, rfl, H.out.drewN nq, HL, fun t h1 h2 => by
          have h3 : key (xs.getD m 0) < key (xs.getD q 0) := by rw [← HU.out, ← HV.out]; have := HK.out; omega
          have h4 := HO2.out.le (i := q) (j := t) (by omega) (by omega) (by omega)
          omega⟩
        case measure => simp [intOf]; omega
      · have hd : decide (key u - key v < 0) = false := decide_eq_false hl
        have HK : Hid (key v ≤ key u) := by show key v ≤ key u; omega
        clear hl
        go_wp2_with fail
        go_quiet (exact Calls.quiet_of (HC.out _))
        go_wp2
        go_roundw
        case rel => exact ⟨q + 1, j, by omega, by omega, hjb, by go_num, rfl, H.out.drewN nq, fun t h1 h2 => by
          have h3 : key (xs.getD q 0) ≤ key (xs.getD m 0) := by rw [← HU.out, ← HV.out]; have := HK.out; omega
          have h4 := HO2.out.le (i := t) (j := q) (by omega) (by omega) (by omega)
          omega, HR⟩
        case measure => simp [intOf]; omega
    · have hij2 : i = j := by omega
      subst hij2
      go_wp2
      go_loopw [17] (fun vk wr => ∃ (k : Nat) (ys : List Int), i ≤ k ∧ k ≤ m ∧ vk = .int .i64 k ∧ Hid (Sw D w0 g N ys wr) ∧ Hid (Shuf a b xs ys) ∧ Hid (Down xs m k ys)) (fun vk _ => (intOf vk).toNat)
      case atStart => exact ⟨m, xs, by omega, by omega, rfl, H, .refl, Down.start xs m⟩
      case round =>
        clear H
        obtain ⟨k, ys, hak, hke, rfl, H, HS, HP⟩ := hrel
        by_cases hlt : i < k
        · obtain ⟨p, rfl⟩ : ∃ p, k = p + 1 := ⟨k - 1, by omega⟩
          have hkN : (p : Int) < (N : Int) := by omega
          have hk0 : 0 ≤ (p : Int) := by omega
          have hkN1 : (p : Int) + 1 < (N : Int) := by omega
          have hkz : (i : Int) < (p : Int) + 1 := by omega
          obtain ⟨u, hu⟩ : ∃ u, u = ys.getD (p + 1) 0 := ⟨_, rfl⟩
          obtain ⟨v, hv⟩ : ∃ v, v = ys.getD (p) 0 := ⟨_, rfl⟩
          have hc1 : wr.cell? ⟨g, p + 1, none⟩ = some (.int .i64 u) := by rw [hu]; exact H.out.cell (by omega)
          have hc2 : wr.cell? ⟨g, p, none⟩ = some (.int .i64 v) := by rw [hv]; exact H.out.cell (by omega)
          have hf1 : wr.frozen? ⟨g, p + 1, none⟩ = false := H.out.row.free _
          have hf2 : wr.frozen? ⟨g, p, none⟩ = false := H.out.row.free _
          have HC := Lib.hid (H.out.with HF.out (s := p + 1) (t := p) (by omega) (by omega) hu hv)
          have HU := Lib.hid hu
          have HV := Lib.hid hv
          clear hu hv
          go_wp2
          go_region
          all_goals go_wp2
          all_goals go_roundw
          case rel => exact ⟨p, _, by omega, by omega, by go_num, by have := (H.out.swp (i := p + 1) (j := p) (by omega) (by omega)).drew; rw [← HU.out, ← HV.out] at this; exact this, HS.out.step (by omega) (by omega) (by omega) (by omega) (by have := H.out.len; omega), HP.out.step (by omega) (by have := HLEN.out; omega)⟩
          case measure => simp [intOf]
        · have hke2 : k = i := by omega
          subst hke2
          go_wp2
          refine bodyPost_ret (results_none rfl _ _ _) rfl ?_
          refine ⟨rfl, ys, H.out, ?_, HS.out⟩
          rw [hmb]
          exact HP.out.sorted (by omega) (by omega) HO2.out HL.out HR.out
end Go.Proofs.Ytjmkkcbilpidnaa.SortA
