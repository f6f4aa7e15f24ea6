/- The walks of package norm. -/
import Derived.Test.YtjmkkcbilpidnaaWords
import Derived.Test.YtjmkkcbilpidnaaProg
import Derived.Test.YtjmkkcbilpidnaaShelf
import Derived.Test.YtjmkkcbilpidnaaNormP
import Derived.Test.YtjmkkcbilpidnaaTally
namespace Go.Proofs.Ytjmkkcbilpidnaa.Norm
open Go Go.RowKit Go.Proofs.Ytjmkkcbilpidnaa.W Go.Proofs.Ytjmkkcbilpidnaa.NormP Go.Proofs.Ytjmkkcbilpidnaa.Tally
set_option linter.unusedVariables false
set_option linter.unusedSimpArgs false

theorem nUsed_snoc (zs : List Int) (k : Nat) (h : k < zs.length) : nUsed (zs.take (k + 1)) = nUsed (zs.take k) + if 0 < zs[k] then 1 else 0 := by
  unfold nUsed
  rw [List.take_succ_eq_append_getElem h, List.countP_append, List.countP_singleton]
  simp only [decide_eq_true_eq]
theorem nUsed_le (zs : List Int) (k : Nat) : nUsed (zs.take k) ≤ k := by
  have := List.countP_le_length (p := fun c : Int => decide (0 < c)) (l := zs.take k)
  have h2 := List.length_take_le k zs
  unfold nUsed; omega

set_option maxHeartbeats 400000 in
theorem all (A : Option Addr) (c : Nat) (zs : List Int) (S : Nat → Prop) (w : World) (h : In (kN .i64) w S A c zs) (hh : Hist zs) :
    Calls Try.prog 17 #[.slice A zs.length c] w fun e w' => e = .returned (.tuple #[.int .i64 zs.sum, .int .i64 (nUsed zs), .bool (decide (0 < (nUsed zs : Int)))]) ∧ w = w' := by
  have hl := hh.1
  go_enter Try.func17, Try.ntmps17
  go_wp2
  go_loop [2, 3, 9] (fun n u i => ∃ k : Nat, k ≤ zs.length ∧ i = .int .i64 k ∧ n = .int .i64 (zs.take k).sum ∧ u = .int .i64 (nUsed (zs.take k))) (fun _ _ i => zs.length - (intOf i).toNat)
  case atStart => exact ⟨0, Nat.zero_le _, rfl, rfl, rfl⟩
  case round =>
    obtain ⟨k, hk, rfl, rfl, rfl⟩ := hrel
    by_cases hlt : k < zs.length
    · obtain ⟨b, off, rfl, hS, hc⟩ := h.num hlt
      have hb1 := Hist.sum zs hh k (by omega)
      have hb2 := hh.2 zs[k] (List.getElem_mem _)
      have hsn := Lib.hid (sum_snoc zs k hlt)
      have hun := Lib.hid (nUsed_snoc zs k hlt)
      have hul := nUsed_le zs k
      have h0 := hb1.1
      have h1 := hb1.2
      have h2 := hb2.1
      have h3 := hb2.2
      clear hb1 hb2
      by_cases hp : 0 < zs[k]
      all_goals
        go_wp2
        go_round
        case rel => exact ⟨k + 1, by omega, by go_num, by rw [hsn.out], by rw [hun.out]; first | rw [if_pos hp]; go_num | rw [if_neg hp]; go_num⟩
        case measure => simp [intOf]; omega
    · have hkk : k = zs.length := by omega
      subst hkk
      have hul := nUsed_le zs zs.length
      rw [List.take_length] at *
      go_wp2
      go_ret3
      exact ⟨rfl, rfl⟩

/-- A function value on indexes below n that only reads (it may draw). -/
def FnI (P : Program) (g : Nat) (lb : Array Value) (w : World) (n : Nat) (v : Nat → Value) : Prop :=
  Ent P g ∧ ∀ (i q : Nat), i < n → Calls P g (#[.int .i64 i] ++ lb) (w.drewN q) fun e W' => e = .returned (v i) ∧ ∃ q', W' = w.drewN q'

set_option maxHeartbeats 1000000 in
theorem furthest (g1 g2 : Nat) (lb1 lb2 : Array Value) (among : Nat → Bool) (of : Nat → Int) (A : Option Addr) (n c : Nat) (w : World) (q0 : Nat) (hn : n ≤ 65536)
    (h1 : FnI Try.prog g1 lb1 w n fun i => .bool (among i)) (h2 : FnI Try.prog g2 lb2 w n fun i => .int .i64 (of i)) :
    Calls Try.prog 22 #[.slice A n c, .func (.func g1) #[] lb1, .func (.func g2) #[] lb2] (w.drewN q0) fun e w' => e = .returned (.int .i64 (far among of n)) ∧ ∃ q, w' = w.drewN q := by
  have H1 := Lib.hid h1
  have H2 := Lib.hid h2
  have e1 := h1.1
  have e2 := h2.1
  unfold Ent at e1 e2
  clear h1 h2
  go_enter Try.func22, Try.ntmps22
  go_wp2
  go_loopw [7, 11] (fun b i wr => ∃ k q : Nat, k ≤ n ∧ i = .int .i64 k ∧ b = .int .i64 (far among of k) ∧ wr = w.drewN q) (fun _ i _ => n - (intOf i).toNat)
  case atStart => exact ⟨0, q0, Nat.zero_le _, rfl, rfl, rfl⟩
  case round =>
    obtain ⟨k, q, hk, rfl, rfl, rfl⟩ := hrel
    by_cases hlt : k < n
    · have hfl := far_lt among of k
      have hf1 := hfl.1
      have hf2 := hfl.2
      clear hfl
      cases hak : among k with
      | false =>
        have hfx : Hid (far among of (k + 1) = far among of k) := by
          show far among of (k + 1) = far among of k
          simp only [far, hak, Bool.false_eq_true, false_and, ↓reduceIte]
        have HA := Lib.hid hak
        clear hak
        go_wp2_with fail
        refine (H1.out.2 k _ hlt).mono ?_
        rintro e w1 ⟨rfl, q1, rfl⟩
        simp only [HA.out]
        go_wp2
        go_roundw
        case rel => exact ⟨k + 1, q1, by omega, by go_num, by rw [hfx.out], rfl⟩
        case measure => simp [intOf]; omega
      | true =>
        by_cases h0 : far among of k < 0
        · have hfx : Hid (far among of (k + 1) = (k : Int)) := by
            show far among of (k + 1) = (k : Int)
            simp only [far, hak, true_and, h0, true_or, ↓reduceIte]
          have HA := Lib.hid hak
          clear hak
          go_wp2_with fail
          refine (H1.out.2 k _ hlt).mono ?_
          rintro e w1 ⟨rfl, q1, rfl⟩
          simp only [HA.out]
          go_wp2
          go_roundw
          case rel => exact ⟨k + 1, q1, by omega, by go_num, by rw [hfx.out], rfl⟩
          case measure => simp [intOf]; omega
        · obtain ⟨m, hm⟩ := Int.eq_ofNat_of_zero_le (show 0 ≤ far among of k by omega)
          have hml : m < n := by omega
          have hfx : Hid (far among of (k + 1) = if of m < of k then (k : Int) else far among of k) := by
            show far among of (k + 1) = _
            simp only [far, hak, true_and, h0, false_or]
            rw [hm]; rfl
          have HA := Lib.hid hak
          have HM := Lib.hid hm
          rw [hm]
          clear hak hm h0 hf1 hf2
          go_wp2_with fail
          refine (H1.out.2 k _ hlt).mono ?_
          rintro e w1 ⟨rfl, q1, rfl⟩
          simp only [HA.out]
          go_wp2_with fail
          refine (H2.out.2 k _ hlt).mono ?_
          rintro e w2 ⟨rfl, q2, rfl⟩
          go_wp2_with fail
          refine (H2.out.2 m _ hml).mono ?_
          rintro e w3 ⟨rfl, q3, rfl⟩
          by_cases hcmp : of m < of k
          all_goals
            go_wp2
            go_roundw
            case rel => exact ⟨k + 1, q3, by omega, by go_num, by rw [hfx.out, HM.out]; first | rw [if_pos (by omega)] | rw [if_neg (by omega)], rfl⟩
            case measure => simp [intOf]; omega
    · have hkk : k = n := by omega
      subst hkk
      go_wp2
      go_ret
      exact ⟨rfl, q, rfl⟩

/-! ### The closures of 'Normalize' -/
/-- Captured: a slice in the box p, which reads as xs. -/
def Box (w : World) (p : Addr) (xs : List Int) : Prop := ∃ A c, w.cell? p = some (.slice A xs.length c) ∧ In (kN .i64) w (Lt w.heap.size) A c xs

set_option maxHeartbeats 400000 in
theorem above_calls (p1 p2 p3 p4 : Addr) (cs nm : List Int) (S T : Int) (w : World) (q i : Nat) (h1 : Box w p1 cs) (h2 : w.cell? p2 = some (.int .i64 S)) (h3 : Box w p3 nm) (h4 : w.cell? p4 = some (.int .i64 T))
    (hi : i < cs.length) (hl : cs.length = nm.length) (hb1 : -4611686018427387904 ≤ cs.getD i 0 * S ∧ cs.getD i 0 * S ≤ 4611686018427387903) (hb2 : -4611686018427387904 ≤ nm.getD i 0 * T ∧ nm.getD i 0 * T ≤ 4611686018427387903) :
    Calls Try.prog 18 #[.int .i64 i, .pointer (some p1), .pointer (some p2), .pointer (some p3), .pointer (some p4)] (w.drewN q) fun e w' => e = .returned (.int .i64 (above cs S T nm i)) ∧ ∃ q, w' = w.drewN q := by
  obtain ⟨A1, c1, h1c, h1i⟩ := h1
  obtain ⟨A3, c3, h3c, h3i⟩ := h3
  obtain ⟨b1, o1, rfl, _, hc1⟩ := h1i.num hi
  obtain ⟨b3, o3, rfl, _, hc3⟩ := h3i.num (j := i) (by omega)
  have e1 := getD_lt cs 0 hi
  have e3 := getD_lt nm 0 (j := i) (by omega)
  have hl2 : i < nm.length := by omega
  have hi0 : 0 ≤ (i : Int) := by omega
  rw [e1] at hb1
  rw [e3] at hb2
  have hw1 : IntKind.i64.wrap (cs[i] * S) = cs[i] * S := IntWalk.i64_in _ (by omega)
  have hw2 : IntKind.i64.wrap (nm[i] * T) = nm[i] * T := IntWalk.i64_in _ (by omega)
  have hw3 : IntKind.i64.wrap (cs[i] * S - nm[i] * T) = cs[i] * S - nm[i] * T := IntWalk.i64_in _ (by omega)
  have hab : Hid (above cs S T nm i = cs[i] * S - nm[i] * T) := by show above cs S T nm i = _; unfold above; rw [e1, e3]
  clear e1 e3 hb1 hb2
  go_enter Try.func18, Try.ntmps18
  go_wp2_with fail
  go_quiet (fail)
  go_wp2
  go_ret
  exact ⟨ret_int (by rw [hab.out]), _, World.drewN_drewN ..⟩

theorem pos_calls (p1 : Addr) (cs : List Int) (w : World) (q i : Nat) (h1 : Box w p1 cs) (hi : i < cs.length) :
    Calls Try.prog 19 #[.int .i64 i, .pointer (some p1)] (w.drewN q) fun e w' => e = .returned (.bool (decide (0 < cs.getD i 0))) ∧ ∃ q, w' = w.drewN q := by
  obtain ⟨A1, c1, h1c, h1i⟩ := h1
  obtain ⟨b1, o1, rfl, _, hc1⟩ := h1i.num hi
  have e1 := Lib.hid (getD_lt cs 0 hi)
  go_enter Try.func19, Try.ntmps19
  go_wp2
  go_ret
  exact ⟨ret_bool (by rw [e1.out]), _, rfl⟩
theorem over_calls (p1 : Addr) (nm : List Int) (w : World) (q i : Nat) (h1 : Box w p1 nm) (hi : i < nm.length) :
    Calls Try.prog 20 #[.int .i64 i, .pointer (some p1)] (w.drewN q) fun e w' => e = .returned (.bool (decide (1 < nm.getD i 0))) ∧ ∃ q, w' = w.drewN q := by
  obtain ⟨A1, c1, h1c, h1i⟩ := h1
  obtain ⟨b1, o1, rfl, _, hc1⟩ := h1i.num hi
  have e1 := Lib.hid (getD_lt nm 0 hi)
  go_enter Try.func20, Try.ntmps20
  go_wp2
  go_ret
  exact ⟨ret_bool (by rw [e1.out]), _, rfl⟩
theorem neg_calls (p : Addr) (p1 p2 p3 p4 : Addr) (cs nm : List Int) (S T : Int) (w : World) (q i : Nat) (hp : w.cell? p = some (.func (.func 18) #[] #[.pointer (some p1), .pointer (some p2), .pointer (some p3), .pointer (some p4)]))
    (h1 : Box w p1 cs) (h2 : w.cell? p2 = some (.int .i64 S)) (h3 : Box w p3 nm) (h4 : w.cell? p4 = some (.int .i64 T))
    (hi : i < cs.length) (hl : cs.length = nm.length) (hb1 : -4611686018427387904 ≤ cs.getD i 0 * S ∧ cs.getD i 0 * S ≤ 4611686018427387903) (hb2 : -4611686018427387904 ≤ nm.getD i 0 * T ∧ nm.getD i 0 * T ≤ 4611686018427387903) :
    Calls Try.prog 21 #[.int .i64 i, .pointer (some p)] (w.drewN q) fun e w' => e = .returned (.int .i64 (-above cs S T nm i)) ∧ ∃ q, w' = w.drewN q := by
  have hE := ent_of (P := Try.prog) Try.func18 (by kernel_rfl) rfl
  have hab : -9223372036854775807 ≤ above cs S T nm i ∧ above cs S T nm i ≤ 9223372036854775807 := by unfold above; omega
  have ha1 := hab.1
  have ha2 := hab.2
  unfold Ent at hE
  go_enter Try.func21, Try.ntmps21
  go_wp2_with fail
  refine (above_calls p1 p2 p3 p4 cs nm S T w q i h1 h2 h3 h4 hi hl hb1 hb2).mono ?_
  rintro e w' ⟨rfl, q', rfl⟩
  go_wp2
  go_ret
  exact ⟨rfl, _, rfl⟩
end Go.Proofs.Ytjmkkcbilpidnaa.Norm
