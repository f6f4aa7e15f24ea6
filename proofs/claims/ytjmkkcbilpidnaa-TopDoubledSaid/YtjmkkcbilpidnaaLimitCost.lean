/- limit.Cost where it does not panic. -/
import Derived.Test.YtjmkkcbilpidnaaLimit
import Derived.Test.YtjmkkcbilpidnaaQTail
namespace Go.Proofs.Ytjmkkcbilpidnaa.Limit
open Go Go.RowKit Go.Proofs.Ytjmkkcbilpidnaa.W Go.Proofs.Ytjmkkcbilpidnaa.Tally
set_option linter.unusedVariables false
set_option linter.unusedSimpArgs false

def lcTo (zs ls us : List Int) (k : Nat) : Int := ((us.take k).map fun s => zs.getD s.toNat 0 * ls.getD s.toNat 0).sum
def lcost (zs ls : List Int) : Int := lcTo zs ls (used zs) (used zs).length
theorem at_q (A : Option Addr) (c : Nat) (zs : List Int) (S : Nat → Prop) (w : World) (q : Nat) (h : In (kN .i64) w S A c zs) (i : Nat) (hi : i < zs.length) :
    Calls Try.prog 40 #[.slice A zs.length c, .int .i64 i] (w.drewN q) fun e w' => e = .returned (.int .i64 zs[i]) ∧ ∃ m, w' = w.drewN m := by
  have h' : In (kN .i64) (w.drewN q) S A c zs := h.mono (fun g _ => rfl) (fun _ h => h)
  exact (at_yes A c zs S (w.drewN q) h' i hi).mono fun e w' ⟨he, hw⟩ => ⟨he, q, hw.symm⟩
theorem lcTo_snoc (zs ls us : List Int) (k : Nat) (h : k < us.length) : lcTo zs ls us (k + 1) = lcTo zs ls us k + zs.getD us[k].toNat 0 * ls.getD us[k].toNat 0 := by
  unfold lcTo
  rw [List.take_succ_eq_append_getElem h]
  simp only [List.map_append, List.sum_append, List.map_cons, List.map_nil, List.sum_cons, List.sum_nil, Int.add_zero]
theorem mul_le_bd {z l : Int} (h0 : 0 ≤ z) (h1 : z ≤ 2147483648) (h2 : 0 ≤ l) (h3 : l ≤ 60) : 0 ≤ z * l ∧ z * l ≤ 128849018880 := by
  have a1 : 0 ≤ z * l := Int.mul_nonneg h0 h2
  have a2 : z * l ≤ 2147483648 * l := Int.mul_le_mul_of_nonneg_right h1 h2
  omega
theorem lcTo_bd {zs ls : List Int} (us : List Int) (h : Hist zs) (hl : ∀ i, 0 ≤ ls.getD i 0 ∧ ls.getD i 0 ≤ 60) : ∀ k, k ≤ us.length → 0 ≤ lcTo zs ls us k ∧ lcTo zs ls us k ≤ 128849018880 * k := by
  intro k
  induction k with
  | zero => intro _; simp [lcTo]
  | succ k ih =>
    intro hk
    have := ih (by omega)
    rw [lcTo_snoc _ _ _ _ (by omega)]
    have hz := h.getD us[k].toNat
    have hq := hl us[k].toNat
    have := mul_le_bd hz.1 hz.2 hq.1 hq.2
    omega

structure Cs (w wr : World) (A Al : Option Addr) (n c nl cl : Nat) (x : Int) : Prop where
  bel : Below w.heap.size w wr
  sz : w.heap.size + 4 ≤ wr.heap.size
  n0 : wr.cell? ⟨w.heap.size, 0, none⟩ = some (.int .i64 x)
  fn : wr.frozen? ⟨w.heap.size, 0, none⟩ = false
  e0 : wr.cell? ⟨w.heap.size + 1, 0, none⟩ = some (.int .i64 0)
  fe : wr.frozen? ⟨w.heap.size + 1, 0, none⟩ = false
  l0 : wr.cell? ⟨w.heap.size + 1 + 1, 0, none⟩ = some (.slice A n c)
  m0 : wr.cell? ⟨w.heap.size + 1 + 1 + 1, 0, none⟩ = some (.slice Al nl cl)
section
variable {w wr : World} {A Al : Option Addr} {n c nl cl : Nat} {x : Int}
theorem Cs.below (h : Cs w wr A Al n c nl cl x) {w2 : World} (hb : Below (w.heap.size + 4) wr w2) : Cs w w2 A Al n c nl cl x := by
  refine ⟨h.bel.trans (hb.mono (by omega)), Nat.le_trans h.sz hb.size, ?_, ?_, ?_, ?_, ?_, ?_⟩
  · rw [hb.cell (by simp)]; exact h.n0
  · rw [hb.frozen (by simp)]; exact h.fn
  · rw [hb.cell (by simp)]; exact h.e0
  · rw [hb.frozen (by simp)]; exact h.fe
  · rw [hb.cell (by simp)]; exact h.l0
  · rw [hb.cell (by simp)]; exact h.m0
theorem Cs.set (h : Cs w wr A Al n c nl cl x) (y : Int) : Cs w (wr.setCell ⟨w.heap.size, 0, none⟩ (.int .i64 y)) A Al n c nl cl y := by
  have hc : ∀ b o, b ≠ w.heap.size → (wr.setCell ⟨w.heap.size, 0, none⟩ (.int .i64 y)).cell? ⟨b, o, none⟩ = wr.cell? ⟨b, o, none⟩ := fun b o hb =>
    World.cell?_setCell_other _ _ _ _ (fun e => hb (congrArg Addr.block e).symm)
  refine ⟨h.bel.setCell (Nat.le_refl _) _, by simpa using h.sz, World.cell?_setCell_same _ _ _ h.n0, by rw [World.frozen?_setCell]; exact h.fn, ?_, by rw [World.frozen?_setCell]; exact h.fe, ?_, ?_⟩
  · rw [hc _ _ (by omega)]; exact h.e0
  · rw [hc _ _ (by omega)]; exact h.l0
  · rw [hc _ _ (by omega)]; exact h.m0
theorem Cs.drewN (h : Cs w wr A Al n c nl cl x) (q : Nat) : Cs w (wr.drewN q) A Al n c nl cl x := h.below (bdrewN (Below.refl _ _) q)
end

set_option maxRecDepth 100000 in
set_option maxHeartbeats 1000000 in
theorem cost_ok (A Al : Option Addr) (c cl : Nat) (zs ls : List Int) (w : World) (h : In (kN .i64) w (Lt w.heap.size) A c zs) (hh : Hist zs) (hi : In (kN .i64) w (Lt w.heap.size) Al cl ls) (hll : ls.length ≤ 256) (hlb : ∀ z ∈ ls, 0 ≤ z ∧ z ≤ 60)
    (hpos : ∀ i : Nat, (i : Int) ∈ used zs → ∃ hi : i < ls.length, 0 < ls[i]) :
    Calls Try.prog 25 #[.slice A zs.length c, .slice Al ls.length cl] w fun e w' => e = .returned (.tuple #[.int .i64 (lcost zs ls), .int .i64 0]) ∧ Below w.heap.size w w' := by
  have hl := hh.1
  have hmf : ∀ (fn : Fn) (first cap : Array Value) (w : World), (Instr.makeFunc fn first cap).run Try.prog w = .ok (.func fn first cap) w := fun _ _ _ _ => rfl
  have hwb := withinB_of (most := 2147483648) hl hh.2
  have hwl := withinB_of (most := 60) hll hlb
  have HW := Lib.hid hwb
  have HWL := Lib.hid hwl
  clear hwb hwl
  go_enter_defers Try.func25, Try.ntmps25
  go_wp2_with fail
  have hs0 : Cs w ((((w.alloc (.cells #[.int .i64 0] 3)).alloc (.cells #[.int .i64 0] 26)).alloc (.cells #[.slice A zs.length c] 65)).alloc (.cells #[.slice Al ls.length cl] 65)) A Al zs.length c ls.length cl 0 :=
    ⟨((((Below.refl _ _).alloc (Nat.le_refl _) _).alloc (by simp) _).alloc (by simp; omega) _).alloc (by simp; omega) _, by simp, by simp [go_sem], by simp [go_sem], by simp [go_sem], by simp [go_sem], by simp [go_sem], by simp [go_sem]⟩
  generalize hW : ((((w.alloc (.cells #[.int .i64 0] 3)).alloc (.cells #[.int .i64 0] 26)).alloc (.cells #[.slice A zs.length c] 65)).alloc (.cells #[.slice Al ls.length cl] 65)) = w0 at *
  clear hW
  have hz0 := hs0.sz
  refine (within A c zs 2147483648 _ (h.below hs0.bel hs0.bel.size) hl).mono ?_
  rintro e w1 ⟨rfl, hb1⟩
  rw [HW.out]
  have hs1 := hs0.below (hb1.mono hz0)
  clear hs0 hb1 hz0
  have g1 := hs1.m0
  go_wp2_with fail
  refine (within Al cl ls 60 _ (hi.below hs1.bel hs1.bel.size) hll).mono ?_
  rintro e w2 ⟨rfl, hb1⟩
  rw [HWL.out]
  have hs2 := hs1.below (hb1.mono hs1.sz)
  clear hs1 hb1 g1
  go_wp2_with fail
  refine (must_if _ _ (by rfl)).mono ?_
  rintro e w3 ⟨rfl, rfl⟩
  have g1 := hs2.l0
  go_wp2_with fail
  refine (used_calls A c zs _ (h.below hs2.bel hs2.bel.size) (by omega)).mono ?_
  rintro e w3 ⟨v, rfl, hown, hb1⟩
  obtain ⟨Av, cv, rfl, hin'⟩ := hown.slGe
  have hin : In (kN .i64) w3 (fun g => w.heap.size + 4 ≤ g) Av cv (used zs) := hin'.sub (fun g hg => Nat.le_trans hs2.sz hg.1)
  clear hin'
  have hs3 := hs2.below (hb1.mono hs2.sz)
  clear hs2 hb1 hown g1
  go_wp2_with fail
  go_loopw [28] (fun i wr => ∃ (k : Nat), k ≤ (used zs).length ∧ i = .int .i64 k ∧ Cs w wr A Al zs.length c ls.length cl (lcTo zs ls (used zs) k) ∧ In (kN .i64) wr (fun g => w.heap.size + 4 ≤ g) Av cv (used zs)) (fun i _ => (used zs).length - (intOf i).toNat)
  case atStart => exact ⟨0, Nat.zero_le _, rfl, hs3, hin⟩
  case round =>
    obtain ⟨k, hk, rfl, hsr, hir⟩ := hrel
    clear hs3 hin
    have hul : (used zs).length ≤ zs.length := usedTo_len zs zs.length
    by_cases hlt : k < (used zs).length
    · obtain ⟨b, off, rfl, hS, hc⟩ := hir.num hlt
      obtain ⟨j, hj, hjl, hpj⟩ := used_mem (List.getElem_mem hlt)
      obtain ⟨hjl2, hpl⟩ := hpos j (by rw [← hj]; exact List.getElem_mem _)
      rw [hj] at hc
      obtain ⟨b2, off2, rfl, hS2, hc2⟩ := (h.below hsr.bel (Nat.le_refl _)).num hjl
      obtain ⟨b3, off3, rfl, hS3, hc3⟩ := (hi.below hsr.bel (Nat.le_refl _)).num hjl2
      have hi' := hi.below hsr.bel hsr.bel.size
      have hsn := lcTo_snoc zs ls (used zs) k hlt
      have hlb' : ∀ i, 0 ≤ ls.getD i 0 ∧ ls.getD i 0 ≤ 60 := fun i => by
        by_cases hil : i < ls.length
        · rw [getD_lt _ _ hil]; exact hlb _ (List.getElem_mem _)
        · rw [getD_ge _ _ (by omega)]; omega
      have hbd := lcTo_bd (ls := ls) (used zs) hh hlb' k hk
      have hb1 := hbd.1
      have hb2 := hbd.2
      have hz := hh.2 zs[j] (List.getElem_mem _)
      have hq := hlb ls[j] (List.getElem_mem _)
      have hm := mul_le_bd hz.1 hz.2 hq.1 hq.2
      rw [hj, Int.toNat_natCast, getD_lt _ _ hjl, getD_lt _ _ hjl2] at hsn
      have hw1 : IntKind.i64.wrap (zs[j] * ls[j]) = zs[j] * ls[j] := IntWalk.i64_in _ (by omega)
      have hw2 : IntKind.i64.wrap (lcTo zs ls (used zs) k + zs[j] * ls[j]) = lcTo zs ls (used zs) k + zs[j] * ls[j] := IntWalk.i64_in _ (by omega)
      have hj0 : 0 ≤ (j : Int) := by omega
      have HSN := Lib.hid hsn
      have HI := Lib.hid hi'
      have HIR := Lib.hid hir
      have HS := Lib.hid hsr
      have g0 := hsr.n0
      have g1 := hsr.l0
      have g2 := hsr.m0
      have g3 := hsr.fn
      clear hj hsn hi' hir hsr hlb' hbd hz hq hm
      go_wp2_with fail
      refine (at_yes _ cl ls _ _ HI.out j hjl2).mono ?_
      rintro e w4 ⟨rfl, rfl⟩
      go_wp2_with fail
      refine (must_if _ _ (by simp)).mono ?_
      rintro e w4 ⟨rfl, rfl⟩
      go_upto_region 8 with (fail)
      refine QTail.wp_region_quiet_tail 12 (by kernel_rfl) (by kernel_rfl) ?_
      simp only [List.take_succ_cons, List.take_zero, List.drop_succ_cons, List.drop_zero]
      repeat (quiet_step ((go_at_call 40; exact at_q _ cl ls _ _ _ HI.out j hjl2)))
      refine wpQuiet_nil ?_
      rintro w' ⟨nq, rfl⟩
      go_upto_region 9 with (fail)
      have hn := (HS.out.drewN nq).set (lcTo zs ls (used zs) k + zs[j] * ls[j])
      have hir2 : In (kN .i64) ((wr.drewN nq).setCell ⟨w.heap.size, 0, none⟩ (.int .i64 (lcTo zs ls (used zs) k + zs[j] * ls[j]))) (fun g => w.heap.size + 4 ≤ g) (some ⟨b, off, none⟩) cv (used zs) :=
        HIR.out.mono (fun g hg => Below.heap_setCell (wr.drewN nq) ⟨w.heap.size, 0, none⟩ _ g (by show g ≠ w.heap.size; omega)) (fun _ h => h)
      generalize hW : (wr.drewN nq).setCell ⟨w.heap.size, 0, none⟩ (.int .i64 (lcTo zs ls (used zs) k + zs[j] * ls[j])) = w5 at *
      clear hW g0 g1 g2 g3 hw1 hw2 hc hc2 hc3
      go_wp2
      go_roundw
      case rel => exact ⟨k + 1, by omega, by go_num, by rw [HSN.out]; exact hn, hir2⟩
      case measure => simp [intOf]; omega
    · have hkk : k = (used zs).length := by omega
      subst hkk
      have g0 := hsr.n0
      have g1 := hsr.fn
      have g2 := hsr.e0
      have g3 := hsr.fe
      have HS := Lib.hid hsr
      clear hsr hir
      go_wp2
      have hn := HS.out.set (lcTo zs ls (used zs) (used zs).length)
      have q0 : ((wr.setCell ⟨w.heap.size, 0, none⟩ (.int .i64 (lcTo zs ls (used zs) (used zs).length))).setCell ⟨w.heap.size + 1, 0, none⟩ (.int .i64 0)).cell? ⟨w.heap.size, 0, none⟩ = some (.int .i64 (lcost zs ls)) := by
        rw [World.cell?_setCell_other _ _ _ _ (by simp)]; exact hn.n0
      have q1 : ((wr.setCell ⟨w.heap.size, 0, none⟩ (.int .i64 (lcTo zs ls (used zs) (used zs).length))).setCell ⟨w.heap.size + 1, 0, none⟩ (.int .i64 0)).cell? ⟨w.heap.size + 1, 0, none⟩ = some (.int .i64 0) :=
        World.cell?_setCell_same _ _ _ hn.e0
      have hb5 : Below w.heap.size w ((wr.setCell ⟨w.heap.size, 0, none⟩ (.int .i64 (lcTo zs ls (used zs) (used zs).length))).setCell ⟨w.heap.size + 1, 0, none⟩ (.int .i64 0)) := hn.bel.setCell (by simp) _
      generalize hW : ((wr.setCell ⟨w.heap.size, 0, none⟩ (.int .i64 (lcTo zs ls (used zs) (used zs).length))).setCell ⟨w.heap.size + 1, 0, none⟩ (.int .i64 0)) = w5 at *
      clear hW g0 g1 g2 g3 hn HS
      refine leaves_cons (f := 29) (args := #[.pointer (some ⟨w.heap.size + 1, 0, none⟩), .func (.func 37) #[] #[.pointer (some ⟨w.heap.size, 0, none⟩)]]) (by simp) (by simp [go_sem]) ?_
      refine (caught_idle _ _ _).mono ?_
      rintro e u' w'' ⟨rfl, rfl, rfl⟩
      simp [Leaves, settle, results, Try.results25, go_sem, q0, q1]
      exact hb5
end Go.Proofs.Ytjmkkcbilpidnaa.Limit
