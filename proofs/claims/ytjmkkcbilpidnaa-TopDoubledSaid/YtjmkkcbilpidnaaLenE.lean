/- The walk of Lengths: its errors. -/
import Derived.Test.YtjmkkcbilpidnaaLen
namespace Go.Proofs.Ytjmkkcbilpidnaa.Limit
open Go Go.RowKit Go.Proofs.Ytjmkkcbilpidnaa.W Go.Proofs.Ytjmkkcbilpidnaa.Tally Go.Proofs.Ytjmkkcbilpidnaa.SortA Go.Proofs.Ytjmkkcbilpidnaa.SortP
set_option linter.unusedVariables false
set_option linter.unusedSimpArgs false

theorem clear_calls (p : Addr) (v : Value) (w : World) (hc : w.cell? p = some v) (hf : w.frozen? p = false) :
    Calls Try.prog 30 #[.pointer (some p)] w fun e w' => e = .returned (.tuple #[]) ∧ w' = w.setCell p (.slice none 0 0) := by
  go_enter Try.func30, Try.ntmps30
  go_wp2
  go_end0
  exact ⟨rfl, rfl⟩

set_option maxRecDepth 100000 in
set_option maxHeartbeats 4000000 in
theorem lengths_arg (A : Option Addr) (c : Nat) (zs : List Int) (most : Int) (w : World) (h : In (kN .i64) w (Lt w.heap.size) A c zs) (hh : Hist zs) (h1 : 11 < most) (h2 : most ≤ 9223372036854775807) :
    Calls Try.prog 24 #[.slice A zs.length c, .int .i64 most] w fun e w' => e = .returned (.tuple #[.slice none 0 0, .int .i64 2]) ∧ Below w.heap.size w w' := by
  have hmf : ∀ (fn : Fn) (first cap : Array Value) (w : World), (Instr.makeFunc fn first cap).run Try.prog w = .ok (.func fn first cap) w := fun _ _ _ _ => rfl
  go_enter_defers Try.func24, Try.ntmps24
  go_wp2_with fail
  have hs0 : Lb w ((w.alloc (.cells #[.slice none 0 0] 24)).alloc (.cells #[.int .i64 0] 26)) :=
    ⟨((Below.refl _ _).alloc (Nat.le_refl _) _).alloc (by simp) _, by simp, by rw [Below.heap_alloc _ _ _ (by simp)]; exact heap_alloc_new w _, by have := heap_alloc_new (w.alloc (.cells #[.slice none 0 0] 24)) (.cells #[.int .i64 0] 26); simpa using this⟩
  have hz0 : ((w.alloc (.cells #[.slice none 0 0] 24)).alloc (.cells #[.int .i64 0] 26)).heap.size = w.heap.size + 1 + 1 := by simp
  generalize hW : ((w.alloc (.cells #[.slice none 0 0] 24)).alloc (.cells #[.int .i64 0] 26)) = w0 at *
  clear hW
  have hf : In kB (w0.alloc (.cells #[.bool (decide (most ≤ 11))] 4)) (Lt (w0.alloc (.cells #[.bool (decide (most ≤ 11))] 4)).heap.size) (some ⟨w.heap.size + 1 + 1, 0, none⟩) 1 [decide (most ≤ 11)] := by
    rw [← hz0]
    exact (In.one_new (k := kB) (S := fun _ => False) (cs := [.bool (decide (most ≤ 11))]) _ rfl (fun g hg => hg.elim)).sub (fun g hg => by
      rcases hg with hg | rfl
      · exact hg.elim
      · simp [Lt])
  have hs1 := hs0.below (((Below.refl _ _).alloc hs0.sz (.cells #[.bool (decide (most ≤ 11))] 4)))
  refine (asked_arg A _ c 1 zs _ _ (h.below hs1.bel hs1.bel.size) hh hf (by simp) (by simp; omega)).mono ?_
  rintro e w1 ⟨rfl, hb1⟩
  have hs2 := hs1.below (hb1.mono hs1.sz)
  clear hs1 hb1 hf hs0 hz0
  have c0 : w1.cell? ⟨w.heap.size, 0, none⟩ = some (.slice none 0 0) := by rw [cell_of_row w1 _ 0 _ _ (0, 0) hs2.o0]; rfl
  have f0 : w1.frozen? ⟨w.heap.size, 0, none⟩ = false := by simp [World.frozen?, hs2.o0]
  have c1 : w1.cell? ⟨w.heap.size + 1, 0, none⟩ = some (.int .i64 0) := by rw [cell_of_row w1 _ 0 _ _ (0, 0) hs2.e0]; rfl
  have f1 : w1.frozen? ⟨w.heap.size + 1, 0, none⟩ = false := by simp [World.frozen?, hs2.e0]
  have q0 : ((w1.setCell ⟨w.heap.size, 0, none⟩ (.slice none 0 0)).setCell ⟨w.heap.size + 1, 0, none⟩ (.int .i64 2)).cell? ⟨w.heap.size, 0, none⟩ = some (.slice none 0 0) := by
    rw [World.cell?_setCell_other _ _ _ _ (by simp)]; exact World.cell?_setCell_same _ _ _ c0
  have q1 : ((w1.setCell ⟨w.heap.size, 0, none⟩ (.slice none 0 0)).setCell ⟨w.heap.size + 1, 0, none⟩ (.int .i64 2)).cell? ⟨w.heap.size + 1, 0, none⟩ = some (.int .i64 2) :=
    World.cell?_setCell_same _ _ _ (by rw [World.cell?_setCell_other _ _ _ _ (by simp)]; exact c1)
  have hb5 : Below w.heap.size w ((w1.setCell ⟨w.heap.size, 0, none⟩ (.slice none 0 0)).setCell ⟨w.heap.size + 1, 0, none⟩ (.int .i64 2)) := (hs2.bel.setCell (Nat.le_refl _) _).setCell (by simp) _
  go_wp2
  refine leaves_cons (f := 29) (args := #[.pointer (some ⟨w.heap.size + 1, 0, none⟩), .func (.func 30) #[] #[.pointer (some ⟨w.heap.size, 0, none⟩)]]) (by simp) (by simp [go_sem]) ?_
  refine (caught_panics ⟨w.heap.size + 1, 0, none⟩ 30 _ 0 2 [] w1 _ (ent_of Try.func30 (by kernel_rfl) rfl) (clear_calls _ _ w1 c0 f0) (by rw [World.cell?_setCell_other _ _ _ _ (by simp)]; exact c1) (by rw [World.frozen?_setCell]; exact f1)).mono ?_
  rintro e u' w'' ⟨rfl, rfl, rfl⟩
  simp [Leaves, settle, results, Try.results24, go_sem, q0, q1]
  exact hb5
set_option maxRecDepth 100000 in
set_option maxHeartbeats 4000000 in
theorem lengths_arg0 (A : Option Addr) (c : Nat) (zs : List Int) (most : Int) (w : World) (h : In (kN .i64) w (Lt w.heap.size) A c zs) (hh : Hist zs) (h1 : most < 1) (h2 : -9223372036854775808 ≤ most) :
    Calls Try.prog 24 #[.slice A zs.length c, .int .i64 most] w fun e w' => e = .returned (.tuple #[.slice none 0 0, .int .i64 2]) ∧ Below w.heap.size w w' := by
  have hmf : ∀ (fn : Fn) (first cap : Array Value) (w : World), (Instr.makeFunc fn first cap).run Try.prog w = .ok (.func fn first cap) w := fun _ _ _ _ => rfl
  go_enter_defers Try.func24, Try.ntmps24
  go_wp2_with fail
  have hs0 : Lb w ((w.alloc (.cells #[.slice none 0 0] 24)).alloc (.cells #[.int .i64 0] 26)) :=
    ⟨((Below.refl _ _).alloc (Nat.le_refl _) _).alloc (by simp) _, by simp, by rw [Below.heap_alloc _ _ _ (by simp)]; exact heap_alloc_new w _, by have := heap_alloc_new (w.alloc (.cells #[.slice none 0 0] 24)) (.cells #[.int .i64 0] 26); simpa using this⟩
  have hz0 : ((w.alloc (.cells #[.slice none 0 0] 24)).alloc (.cells #[.int .i64 0] 26)).heap.size = w.heap.size + 1 + 1 := by simp
  generalize hW : ((w.alloc (.cells #[.slice none 0 0] 24)).alloc (.cells #[.int .i64 0] 26)) = w0 at *
  clear hW
  have hf : In kB (w0.alloc (.cells #[.bool (false)] 4)) (Lt (w0.alloc (.cells #[.bool (false)] 4)).heap.size) (some ⟨w.heap.size + 1 + 1, 0, none⟩) 1 [false] := by
    rw [← hz0]
    exact (In.one_new (k := kB) (S := fun _ => False) (cs := [.bool (false)]) _ rfl (fun g hg => hg.elim)).sub (fun g hg => by
      rcases hg with hg | rfl
      · exact hg.elim
      · simp [Lt])
  have hs1 := hs0.below (((Below.refl _ _).alloc hs0.sz (.cells #[.bool (false)] 4)))
  refine (asked_arg A _ c 1 zs _ _ (h.below hs1.bel hs1.bel.size) hh hf (by simp) (by simp)).mono ?_
  rintro e w1 ⟨rfl, hb1⟩
  have hs2 := hs1.below (hb1.mono hs1.sz)
  clear hs1 hb1 hf hs0 hz0
  have c0 : w1.cell? ⟨w.heap.size, 0, none⟩ = some (.slice none 0 0) := by rw [cell_of_row w1 _ 0 _ _ (0, 0) hs2.o0]; rfl
  have f0 : w1.frozen? ⟨w.heap.size, 0, none⟩ = false := by simp [World.frozen?, hs2.o0]
  have c1 : w1.cell? ⟨w.heap.size + 1, 0, none⟩ = some (.int .i64 0) := by rw [cell_of_row w1 _ 0 _ _ (0, 0) hs2.e0]; rfl
  have f1 : w1.frozen? ⟨w.heap.size + 1, 0, none⟩ = false := by simp [World.frozen?, hs2.e0]
  have q0 : ((w1.setCell ⟨w.heap.size, 0, none⟩ (.slice none 0 0)).setCell ⟨w.heap.size + 1, 0, none⟩ (.int .i64 2)).cell? ⟨w.heap.size, 0, none⟩ = some (.slice none 0 0) := by
    rw [World.cell?_setCell_other _ _ _ _ (by simp)]; exact World.cell?_setCell_same _ _ _ c0
  have q1 : ((w1.setCell ⟨w.heap.size, 0, none⟩ (.slice none 0 0)).setCell ⟨w.heap.size + 1, 0, none⟩ (.int .i64 2)).cell? ⟨w.heap.size + 1, 0, none⟩ = some (.int .i64 2) :=
    World.cell?_setCell_same _ _ _ (by rw [World.cell?_setCell_other _ _ _ _ (by simp)]; exact c1)
  have hb5 : Below w.heap.size w ((w1.setCell ⟨w.heap.size, 0, none⟩ (.slice none 0 0)).setCell ⟨w.heap.size + 1, 0, none⟩ (.int .i64 2)) := (hs2.bel.setCell (Nat.le_refl _) _).setCell (by simp) _
  go_wp2
  refine leaves_cons (f := 29) (args := #[.pointer (some ⟨w.heap.size + 1, 0, none⟩), .func (.func 30) #[] #[.pointer (some ⟨w.heap.size, 0, none⟩)]]) (by simp) (by simp [go_sem]) ?_
  refine (caught_panics ⟨w.heap.size + 1, 0, none⟩ 30 _ 0 2 [] w1 _ (ent_of Try.func30 (by kernel_rfl) rfl) (clear_calls _ _ w1 c0 f0) (by rw [World.cell?_setCell_other _ _ _ _ (by simp)]; exact c1) (by rw [World.frozen?_setCell]; exact f1)).mono ?_
  rintro e u' w'' ⟨rfl, rfl, rfl⟩
  simp [Leaves, settle, results, Try.results24, go_sem, q0, q1]
  exact hb5
set_option maxRecDepth 100000 in
set_option maxHeartbeats 4000000 in
theorem lengths_none (A : Option Addr) (c : Nat) (zs : List Int) (most : Int) (w : World) (h : In (kN .i64) w (Lt w.heap.size) A c zs) (hh : Hist zs) (h0 : 1 ≤ most) (h1 : most ≤ 11) (h2 : ¬ 1 < NormP.nUsed zs) :
    Calls Try.prog 24 #[.slice A zs.length c, .int .i64 most] w fun e w' => e = .returned (.tuple #[.slice none 0 0, .int .i64 22]) ∧ Below w.heap.size w w' := by
  have hmf : ∀ (fn : Fn) (first cap : Array Value) (w : World), (Instr.makeFunc fn first cap).run Try.prog w = .ok (.func fn first cap) w := fun _ _ _ _ => rfl
  go_enter_defers Try.func24, Try.ntmps24
  go_wp2_with fail
  have hs0 : Lb w ((w.alloc (.cells #[.slice none 0 0] 24)).alloc (.cells #[.int .i64 0] 26)) :=
    ⟨((Below.refl _ _).alloc (Nat.le_refl _) _).alloc (by simp) _, by simp, by rw [Below.heap_alloc _ _ _ (by simp)]; exact heap_alloc_new w _, by have := heap_alloc_new (w.alloc (.cells #[.slice none 0 0] 24)) (.cells #[.int .i64 0] 26); simpa using this⟩
  have hz0 : ((w.alloc (.cells #[.slice none 0 0] 24)).alloc (.cells #[.int .i64 0] 26)).heap.size = w.heap.size + 1 + 1 := by simp
  generalize hW : ((w.alloc (.cells #[.slice none 0 0] 24)).alloc (.cells #[.int .i64 0] 26)) = w0 at *
  clear hW
  have hf : In kB (w0.alloc (.cells #[.bool (true)] 4)) (Lt (w0.alloc (.cells #[.bool (true)] 4)).heap.size) (some ⟨w.heap.size + 1 + 1, 0, none⟩) 1 [true] := by
    rw [← hz0]
    exact (In.one_new (k := kB) (S := fun _ => False) (cs := [.bool (true)]) _ rfl (fun g hg => hg.elim)).sub (fun g hg => by
      rcases hg with hg | rfl
      · exact hg.elim
      · simp [Lt])
  have hs1 := hs0.below (((Below.refl _ _).alloc hs0.sz (.cells #[.bool (true)] 4)))
  refine (asked_none A _ c 1 zs _ _ (h.below hs1.bel hs1.bel.size) hh hf (by simp) (by simp) h2).mono ?_
  rintro e w1 ⟨rfl, hb1⟩
  have hs2 := hs1.below (hb1.mono hs1.sz)
  clear hs1 hb1 hf hs0 hz0
  have c0 : w1.cell? ⟨w.heap.size, 0, none⟩ = some (.slice none 0 0) := by rw [cell_of_row w1 _ 0 _ _ (0, 0) hs2.o0]; rfl
  have f0 : w1.frozen? ⟨w.heap.size, 0, none⟩ = false := by simp [World.frozen?, hs2.o0]
  have c1 : w1.cell? ⟨w.heap.size + 1, 0, none⟩ = some (.int .i64 0) := by rw [cell_of_row w1 _ 0 _ _ (0, 0) hs2.e0]; rfl
  have f1 : w1.frozen? ⟨w.heap.size + 1, 0, none⟩ = false := by simp [World.frozen?, hs2.e0]
  have q0 : ((w1.setCell ⟨w.heap.size, 0, none⟩ (.slice none 0 0)).setCell ⟨w.heap.size + 1, 0, none⟩ (.int .i64 22)).cell? ⟨w.heap.size, 0, none⟩ = some (.slice none 0 0) := by
    rw [World.cell?_setCell_other _ _ _ _ (by simp)]; exact World.cell?_setCell_same _ _ _ c0
  have q1 : ((w1.setCell ⟨w.heap.size, 0, none⟩ (.slice none 0 0)).setCell ⟨w.heap.size + 1, 0, none⟩ (.int .i64 22)).cell? ⟨w.heap.size + 1, 0, none⟩ = some (.int .i64 22) :=
    World.cell?_setCell_same _ _ _ (by rw [World.cell?_setCell_other _ _ _ _ (by simp)]; exact c1)
  have hb5 : Below w.heap.size w ((w1.setCell ⟨w.heap.size, 0, none⟩ (.slice none 0 0)).setCell ⟨w.heap.size + 1, 0, none⟩ (.int .i64 22)) := (hs2.bel.setCell (Nat.le_refl _) _).setCell (by simp) _
  go_wp2
  refine leaves_cons (f := 29) (args := #[.pointer (some ⟨w.heap.size + 1, 0, none⟩), .func (.func 30) #[] #[.pointer (some ⟨w.heap.size, 0, none⟩)]]) (by simp) (by simp [go_sem]) ?_
  refine (caught_panics ⟨w.heap.size + 1, 0, none⟩ 30 _ 0 22 [] w1 _ (ent_of Try.func30 (by kernel_rfl) rfl) (clear_calls _ _ w1 c0 f0) (by rw [World.cell?_setCell_other _ _ _ _ (by simp)]; exact c1) (by rw [World.frozen?_setCell]; exact f1)).mono ?_
  rintro e u' w'' ⟨rfl, rfl, rfl⟩
  simp [Leaves, settle, results, Try.results24, go_sem, q0, q1]
  exact hb5
set_option maxRecDepth 100000 in
set_option maxHeartbeats 4000000 in
theorem lengths_limit (hso : Sorts) (A : Option Addr) (c : Nat) (zs : List Int) (most : Nat) (w : World) (h : In (kN .i64) w (Lt w.heap.size) A c zs) (hh : Hist zs) (hu : 1 < NormP.nUsed zs) (h1 : 1 ≤ most) (h2 : most ≤ 11) (h3 : 2 ^ most < NormP.nUsed zs) :
    Calls Try.prog 24 #[.slice A zs.length c, .int .i64 most] w fun e w' => e = .returned (.tuple #[.slice none 0 0, .int .i64 18]) ∧ Below w.heap.size w w' := by
  have hl := hh.1
  have hul := Lib.hid (used_len zs)
  have hmf : ∀ (fn : Fn) (first cap : Array Value) (w : World), (Instr.makeFunc fn first cap).run Try.prog w = .ok (.func fn first cap) w := fun _ _ _ _ => rfl
  have hne : used zs ≠ [] := fun e => by have := hul.out; rw [e] at this; simp at this; omega
  have HSO := Lib.hid hso
  clear hso
  go_enter_defers Try.func24, Try.ntmps24
  go_wp2_with fail
  have hs0 : Lb w ((w.alloc (.cells #[.slice none 0 0] 24)).alloc (.cells #[.int .i64 0] 26)) :=
    ⟨((Below.refl _ _).alloc (Nat.le_refl _) _).alloc (by simp) _, by simp, by rw [Below.heap_alloc _ _ _ (by simp)]; exact heap_alloc_new w _, by have := heap_alloc_new (w.alloc (.cells #[.slice none 0 0] 24)) (.cells #[.int .i64 0] 26); simpa using this⟩
  have hz0 : ((w.alloc (.cells #[.slice none 0 0] 24)).alloc (.cells #[.int .i64 0] 26)).heap.size = w.heap.size + 1 + 1 := by simp
  generalize hW : ((w.alloc (.cells #[.slice none 0 0] 24)).alloc (.cells #[.int .i64 0] 26)) = w0 at *
  clear hW
  have hf : In kB (w0.alloc (.cells #[.bool (decide ((most : Int) ≤ 11))] 4)) (Lt (w0.alloc (.cells #[.bool (decide ((most : Int) ≤ 11))] 4)).heap.size) (some ⟨w.heap.size + 1 + 1, 0, none⟩) 1 [decide ((most : Int) ≤ 11)] := by
    rw [← hz0]
    exact (In.one_new (k := kB) (S := fun _ => False) (cs := [.bool (decide ((most : Int) ≤ 11))]) _ rfl (fun g hg => hg.elim)).sub (fun g hg => by
      rcases hg with hg | rfl
      · exact hg.elim
      · simp [Lt])
  have hs1 := hs0.below (((Below.refl _ _).alloc hs0.sz (.cells #[.bool (decide ((most : Int) ≤ 11))] 4)))
  refine (asked_ok A _ c 1 zs _ _ (h.below hs1.bel hs1.bel.size) hh hf (by simp) (by simp; omega) hu).mono ?_
  rintro e w1 ⟨rfl, hb1⟩
  have hs2 := hs1.below (hb1.mono hs1.sz)
  clear hs1 hb1 hf hs0 hz0
  go_wp2_with fail
  have hs3 := hs2.below ((Below.refl _ _).alloc hs2.sz (.cells #[.slice A zs.length c] 65))
  refine (first HSO.out A c zs _ (h.below hs3.bel hs3.bel.size) hh hne).mono ?_
  rintro e w2 ⟨v, us, rfl, hown, hperm, hsrt, hb2⟩
  have hs4 := hs3.below (hb2.mono hs3.sz)
  clear hs2 hs3 hb2
  have hn : us.length = NormP.nUsed zs := by rw [hperm.length_eq]; exact hul.out
  have hdom : ∀ s ∈ us, ∃ j : Nat, s = j ∧ j < zs.length := fun s hs => by
    obtain ⟨j, hj, hjl, _⟩ := used_mem (hperm.mem_iff.1 hs)
    exact ⟨j, hj, hjl⟩
  have hgood := Lib.hid (packs_good hh hdom)
  have hpl := packs_len zs us
  obtain ⟨Av, cv, rfl, hin⟩ := hown.sl
  rw [hpl]
  have HN := Lib.hid hn
  have HD := Lib.hid hdom
  have HPL := Lib.hid hpl
  have HP := Lib.hid hperm
  have HSR := Lib.hid hsrt
  have hul2 : us.length ≤ 256 := by have h1 := usedTo_len zs zs.length; have h2 := hul.out; unfold used at h2; omega
  have hpw : 2 ^ most < us.length := by omega
  have hpc : ((2 ^ most : Nat) : Int) = (2 : Int) ^ most := by simp
  have hpw2 : 2 ^ most ≤ 2048 := Nat.pow_le_pow_right (n := 2) (by omega) h2
  have hpos : 0 < 2 ^ most := Nat.two_pow_pos most
  clear hdom hpl hperm hsrt hown
  go_wp2_with fail
  refine (must_else _ _ (by
    have hwm : wrap64 ((2 : Int) ^ most) = (2 : Int) ^ most := IntWalk.wrap64_in _ (by omega)
    rw [decide_eq_false_iff_not]
    first | (rw [hwm]; omega) | omega)).mono ?_
  rintro e w3 ⟨rfl, rfl⟩
  have c0 : w2.cell? ⟨w.heap.size, 0, none⟩ = some (.slice none 0 0) := by rw [cell_of_row w2 _ 0 _ _ (0, 0) hs4.o0]; rfl
  have f0 : w2.frozen? ⟨w.heap.size, 0, none⟩ = false := by simp [World.frozen?, hs4.o0]
  have c1 : w2.cell? ⟨w.heap.size + 1, 0, none⟩ = some (.int .i64 0) := by rw [cell_of_row w2 _ 0 _ _ (0, 0) hs4.e0]; rfl
  have f1 : w2.frozen? ⟨w.heap.size + 1, 0, none⟩ = false := by simp [World.frozen?, hs4.e0]
  have q0 : ((w2.setCell ⟨w.heap.size, 0, none⟩ (.slice none 0 0)).setCell ⟨w.heap.size + 1, 0, none⟩ (.int .i64 18)).cell? ⟨w.heap.size, 0, none⟩ = some (.slice none 0 0) := by
    rw [World.cell?_setCell_other _ _ _ _ (by simp)]; exact World.cell?_setCell_same _ _ _ c0
  have q1 : ((w2.setCell ⟨w.heap.size, 0, none⟩ (.slice none 0 0)).setCell ⟨w.heap.size + 1, 0, none⟩ (.int .i64 18)).cell? ⟨w.heap.size + 1, 0, none⟩ = some (.int .i64 18) :=
    World.cell?_setCell_same _ _ _ (by rw [World.cell?_setCell_other _ _ _ _ (by simp)]; exact c1)
  have hb5 : Below w.heap.size w ((w2.setCell ⟨w.heap.size, 0, none⟩ (.slice none 0 0)).setCell ⟨w.heap.size + 1, 0, none⟩ (.int .i64 18)) := (hs4.bel.setCell (Nat.le_refl _) _).setCell (by simp) _
  go_wp2
  refine leaves_cons (f := 29) (args := #[.pointer (some ⟨w.heap.size + 1, 0, none⟩), .func (.func 30) #[] #[.pointer (some ⟨w.heap.size, 0, none⟩)]]) (by simp) (by simp [go_sem]) ?_
  refine (caught_panics ⟨w.heap.size + 1, 0, none⟩ 30 _ 0 18 [] w2 _ (ent_of Try.func30 (by kernel_rfl) rfl) (clear_calls _ _ w2 c0 f0) (by rw [World.cell?_setCell_other _ _ _ _ (by simp)]; exact c1) (by rw [World.frozen?_setCell]; exact f1)).mono ?_
  rintro e u' w'' ⟨rfl, rfl, rfl⟩
  simp [Leaves, settle, results, Try.results24, go_sem, q0, q1]
  exact hb5
end Go.Proofs.Ytjmkkcbilpidnaa.Limit
