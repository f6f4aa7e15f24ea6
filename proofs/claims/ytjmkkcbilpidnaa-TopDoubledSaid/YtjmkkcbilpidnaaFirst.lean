/- The walk of 'first': the used symbols as packages, sorted by weight. -/
import Derived.Test.YtjmkkcbilpidnaaLimit2
import Derived.Test.YtjmkkcbilpidnaaSortA
import Derived.Test.YtjmkkcbilpidnaaSortI
namespace Go.Proofs.Ytjmkkcbilpidnaa.Limit
open Go Go.RowKit Go.Proofs.Ytjmkkcbilpidnaa.W Go.Proofs.Ytjmkkcbilpidnaa.Tally Go.Proofs.Ytjmkkcbilpidnaa.SortA Go.Proofs.Ytjmkkcbilpidnaa.SortP
set_option linter.unusedVariables false
set_option linter.unusedSimpArgs false

/-- a package: its weight, its symbols -/
abbrev kK : Kd (Int × List Int) := kP (kN .i64) (kS (kN .i64))
theorem info_pack : (Try.prog.info? 74).map (fun i => (i.zero, i.size, i.bytes)) = some (some (.agg #[.int .i64 0, .slice none 0 0]), 2, 32) := by kernel_rfl
theorem kK_n : kK.n = 2 := rfl

set_option maxHeartbeats 400000 in
theorem less_calls (p1 : Addr) (A : Option Addr) (c : Nat) (zs : List Int) (S : Nat → Prop) (w : World) (i j : Nat) (hp : w.cell? p1 = some (.slice A zs.length c)) (h : In (kN .i64) w S A c zs) (hh : Hist zs) (hi : i < zs.length) (hj : j < zs.length) :
    Calls Try.prog 48 #[.int .i64 i, .int .i64 j, .pointer (some p1)] w fun e w' => e = .returned (.int .i64 (zs.getD i 0 - zs.getD j 0)) ∧ ∃ q, w' = w.drewN q := by
  obtain ⟨b1, o1, rfl, _, hc1⟩ := h.num hi
  obtain ⟨b2, o2, e2, _, hc2⟩ := h.num hj
  injection e2 with e2
  injection e2 with e3 e4
  subst e3; subst e4
  have e1 := Lib.hid (getD_lt zs 0 hi)
  have e2 := Lib.hid (getD_lt zs 0 hj)
  have hb1 := (hh.2 zs[i] (List.getElem_mem _)).1
  have hb2 := (hh.2 zs[i] (List.getElem_mem _)).2
  have hb3 := (hh.2 zs[j] (List.getElem_mem _)).1
  have hb4 := (hh.2 zs[j] (List.getElem_mem _)).2
  have hi0 : 0 ≤ (i : Int) := by omega
  have hj0 : 0 ≤ (j : Int) := by omega
  have hw3 : IntKind.i64.wrap (zs[i] - zs[j]) = zs[i] - zs[j] := IntWalk.i64_in _ (by omega)
  clear h hh
  go_enter Try.func48, Try.ntmps48
  go_wp2_with fail
  go_quiet (fail)
  go_wp2
  go_ret
  exact ⟨ret_int (by rw [e1.out, e2.out]), _, rfl⟩

theorem own_row {k : IntKind} {e : TypeId} {w : World} {base : Nat} {v : Value} {xs : List Int} (h : Own (kN k) e w base v xs) (hx : xs ≠ []) : ∃ g cap, v = .slice (some ⟨g, 0, none⟩) xs.length cap ∧ Row k e w g xs ∧ base ≤ g := by
  have hs := h.sl
  obtain ⟨css, ho, hl, hk⟩ := h
  rcases ho.2 with ⟨rfl, h0⟩ | ⟨g, cap, cur, rfl, hg, hh, hn, hm, hsz, ht⟩
  · exact absurd (List.eq_nil_of_length_eq_zero h0) hx
  · refine ⟨g, cap, rfl, ⟨cur, hh, ?_, ?_, fun i x hi => ?_⟩, hg⟩
    · simp [kN] at hsz; omega
    · simp [kN] at hsz; omega
    · obtain ⟨A, c, hA, hin⟩ := hs
      injection hA with e1 e2 e3
      subst e1
      obtain ⟨hj, rfl⟩ := List.getElem?_eq_some_iff.1 hi
      obtain ⟨b, off, e4, _, hc⟩ := hin.num hj
      injection e4 with e4
      injection e4 with e5 e6
      subst e5; subst e6
      rw [cell_of_row w g _ cur _ (0, 0) hh] at hc
      simpa using hc

/-- the packages of single symbols -/
def packs (zs us : List Int) : List (Int × List Int) := us.map fun s => (zs.getD s.toNat 0, [s])

set_option maxRecDepth 100000 in
set_option maxHeartbeats 2000000 in
theorem first (sortStable : ∀ (D : Int → Prop) (key : Int → Int) (g c N f : Nat) (lb : Array Value) (xs : List Int) (w0 w : World) (h : Sw D w0 g N xs w) (hf : FnC Try.prog f lb D key w0 g) (hN : N ≤ 65536),
    Calls Try.prog 47 #[.slice (some ⟨g, 0, none⟩) N c, .func (.func f) #[] lb] w fun e w' => e = .returned (.tuple #[]) ∧ ∃ zs, Sw D w0 g N zs w' ∧ Sorted key zs 0 N ∧ Shuf 0 N xs zs)
    (A : Option Addr) (c : Nat) (zs : List Int) (w : World) (h : In (kN .i64) w (Lt w.heap.size) A c zs) (hh : Hist zs) (hu : used zs ≠ []) :
    Calls Try.prog 32 #[.agg #[.slice A zs.length c]] w fun e w' => ∃ v us, e = .returned v ∧ Own kK 74 w' w.heap.size v (packs zs us) ∧ us.Perm (used zs) ∧ Sorted (fun s => zs.getD s.toNat 0) us 0 us.length ∧ Below w.heap.size w w' := by
  have hl := hh.1
  have hmf : ∀ (fn : Fn) (first cap : Array Value) (w : World), (Instr.makeFunc fn first cap).run Try.prog w = .ok (.func fn first cap) w := fun _ _ _ _ => rfl
  go_enter Try.func32, Try.ntmps32
  go_wp2_with fail
  have hb0 : Below w.heap.size w (w.alloc (.cells #[.slice A zs.length c] 65)) := (Below.refl _ _).alloc (Nat.le_refl _) _
  refine (used_calls A c zs _ (h.below hb0 hb0.size) (by omega)).mono ?_
  rintro e w1 ⟨v, rfl, hown, hb1⟩
  obtain ⟨g, cap, rfl, hrow, hg⟩ := own_row hown hu
  have hgl := hrow.lt
  have c1 : w1.cell? ⟨w.heap.size, 0, none⟩ = some (.slice A zs.length c) := by rw [hb1.cell (by simp)]; simp [go_sem]
  have hb01 := hb0.trans (hb1.mono (by simp))
  have hul := usedTo_len zs zs.length
  have hul2 : (used zs).length ≤ 256 := by show (usedTo zs zs.length).length ≤ 256; omega
  clear hul
  have hg2 : w.heap.size + 1 ≤ g := by simpa using hg
  clear hown hg hb1 hb0
  have hsw : Sw (fun x => ∃ i : Nat, x = i ∧ i < zs.length) w1 g (used zs).length (used zs) w1 := ⟨⟨rfl, rfl, rfl, Nat.le_refl _, fun _ _ _ => rfl⟩, hrow, rfl, fun i hi => by
    obtain ⟨j, hj, hjl, _⟩ := used_mem (List.getElem_mem hi)
    rw [getD_lt _ _ hi]; exact ⟨j, hj, hjl⟩⟩
  have hfn : FnC Try.prog 48 #[.pointer (some ⟨w.heap.size, 0, none⟩)] (fun x => ∃ i : Nat, x = i ∧ i < zs.length) (fun s => zs.getD s.toNat 0) w1 g := by
    refine ⟨ent_of Try.func48 (by kernel_rfl) rfl, ?_⟩
    rintro x y W ⟨i, rfl, hi⟩ ⟨j, rfl, hj⟩ hW
    have hcell : W.cell? ⟨w.heap.size, 0, none⟩ = some (.slice A zs.length c) := by
      rw [World.cell?_of_block (hW.block w.heap.size (by have := hb01.size; omega) (fun e => by injection e with e; omega))]; exact c1
    have hin : In (kN .i64) W (Lt w.heap.size) A c zs := h.mono (fun b hb => (hW.block b (by have := hb01.size; unfold Lt at hb; omega) (fun e => by injection e with e; unfold Lt at hb; omega)).trans (hb01.block b hb)) (fun _ h => h)
    exact calls_args (less_calls ⟨w.heap.size, 0, none⟩ A c zs _ W i j hcell hin hh hi hj) rfl
  have HS := Lib.hid hsw
  have HF := Lib.hid hfn
  have HROW := Lib.hid hrow
  clear hsw hfn hrow
  go_wp2_with fail
  refine (sortStable _ _ g cap _ _ _ _ _ _ HS.out HF.out (by omega)).mono ?_
  rintro e w3 ⟨rfl, us, hs3, hso, hsh⟩
  have hgr := hs3.gr
  have hb3 : Below w.heap.size w w3 := hb01.grown hgr (by have := hb01.size; omega) (fun b hb => by injection hb with hb; omega)
  have hul : us.length = (used zs).length := hs3.len
  have hsz3 := hgr.size
  have c3 : w3.cell? ⟨w.heap.size, 0, none⟩ = some (.slice A zs.length c) := by
    rw [World.cell?_of_block (hgr.block w.heap.size (by omega) (fun e => by injection e with e; omega))]; exact c1
  have hperm : us.Perm (used zs) := hsh.perm
  have HDOM := Lib.hid hs3.dom
  have HR3 := Lib.hid hs3.row
  have HSO := Lib.hid hso
  have HP := Lib.hid hperm
  have HB3 := Lib.hid hb3
  have h3 : In (kN .i64) w3 (Lt w.heap.size) A c zs := h.mono (Same.of_below hb3) (fun _ h => h)
  clear hs3 hso hsh hgr hperm HS HF c1 HROW hb01 hb3
  rw [← hul]
  rw [← hul] at hul2
  clear hu
  have hgl3 := HR3.out.lt
  go_wp2
  go_loopw [2, 5, 14] (fun v s i wr => ∃ k : Nat, k ≤ us.length ∧ i = .int .i64 k ∧ Own kK 74 wr w3.heap.size v (packs zs (us.take k)) ∧ Below w3.heap.size w3 wr) (fun _ _ i _ => us.length - (intOf i).toNat)
  case atStart => exact ⟨0, Nat.zero_le _, rfl, Own.nil _ _ _ _, Below.refl _ _⟩
  case round =>
    obtain ⟨k, hk, rfl, hown, hbl⟩ := hrel
    by_cases hlt : k < us.length
    · obtain ⟨j, hj, hjl⟩ := HDOM.out k (by omega)
      rw [getD_lt _ _ hlt] at hj
      have hrk := (HR3.out.below hbl hgl3).cell hlt
      rw [hj] at hrk
      obtain ⟨b, off, rfl, hS, hc⟩ := (h3.mono (Same.of_below (hbl.mono (by omega))) (fun _ h => h) : In (kN .i64) wr (Lt w.heap.size) A c zs).num hjl
      have c4 : wr.cell? ⟨w.heap.size, 0, none⟩ = some (.slice (some ⟨b, off, none⟩) zs.length c) := by rw [hbl.cell (by show w.heap.size < w3.heap.size; omega)]; exact c3
      have hj0 : 0 ≤ (j : Int) := by omega
      have hlen : (packs zs (us.take k)).length ≤ 256 := by simp [packs]; omega
      have hsnoc : Hid (packs zs (us.take (k + 1)) = packs zs (us.take k) ++ [(zs[j], [(j : Int)])]) := by
        show packs zs (us.take (k + 1)) = packs zs (us.take k) ++ [(zs[j], [(j : Int)])]
        unfold packs
        rw [List.take_succ_eq_append_getElem hlt, List.map_append, hj]
        simp [List.getElem?_eq_getElem hjl]
      have HJ := Lib.hid hj
      clear hj
      go_wp2_with (at_builtin; go_must (refine wl_append1 (wr.alloc (.cells #[.int .i64 j] 3)) [.int .i64 zs[j], .slice (some ⟨wr.heap.size, 0, none⟩) 1 1] kK w3.heap.size 74 (.agg #[.int .i64 0, .slice none 0 0]) 32 info_pack rfl (by decide) (hown.alloc _) rfl _ _ 67 rfl Try.underlying67 rfl (zs[j], [(j : Int)]) (by show Value.slice (some ⟨wr.heap.size + 1, 0, none⟩) 1 1 = _; rw [World.size_alloc]) ?hok (by omega) (by unfold maxLen; omega) (by have := hbl.size; simp; omega) ?_))
      case hok =>
        refine ⟨[.int .i64 zs[j]], [.slice (some ⟨wr.heap.size, 0, none⟩) 1 1], rfl, rfl, _, _, rfl, (In.one_new (k := kN .i64) (S := fun _ => False) (cs := [.int .i64 j]) _ rfl (fun g hg => hg.elim)).sub (fun g hg => ?_)⟩
        rcases hg with hg | rfl
        · exact hg.elim
        · exact ⟨by simp, fun hv => by have := (hown.lt _ hv).2; omega⟩
      intro v' w' hown' hb' hg' hv'
      have hb2 : Below w3.heap.size w3 w' := (hbl.alloc hbl.size _).trans hb'
      go_wp2
      go_roundw
      case rel => exact ⟨k + 1, by omega, by go_num, by rw [hsnoc.out]; exact hown', hb2⟩
      case measure => simp [intOf]; omega
    · have hkk : k = us.length := by omega
      subst hkk
      rw [List.take_length] at hown
      go_wp2
      go_ret
      refine ⟨_, us, rfl, hown.lower (by omega), HP.out, ?_, HB3.out.trans (hbl.mono (by omega))⟩
      rw [hul]; exact HSO.out
end Go.Proofs.Ytjmkkcbilpidnaa.Limit
