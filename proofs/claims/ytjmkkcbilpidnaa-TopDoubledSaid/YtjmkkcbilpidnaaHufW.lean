/- The walk of Unlimited. -/
import Derived.Test.YtjmkkcbilpidnaaHufP
import Derived.Test.YtjmkkcbilpidnaaPairA
import Derived.Test.YtjmkkcbilpidnaaLenE
namespace Go.Proofs.Ytjmkkcbilpidnaa.Limit
open Go Go.RowKit Go.Proofs.Ytjmkkcbilpidnaa.W Go.Proofs.Ytjmkkcbilpidnaa.Tally Go.Proofs.Ytjmkkcbilpidnaa.SortA Go.Proofs.Ytjmkkcbilpidnaa.SortP
set_option linter.unusedVariables false
set_option linter.unusedSimpArgs false

theorem clear_callsU (p : Addr) (v : Value) (w : World) (hc : w.cell? p = some v) (hf : w.frozen? p = false) :
    Calls Try.prog 41 #[.pointer (some p)] w fun e w' => e = .returned (.tuple #[]) ∧ w' = w.setCell p (.slice none 0 0) := by
  go_enter Try.func41, Try.ntmps41
  go_wp2
  go_end0
  exact ⟨rfl, rfl⟩
set_option maxRecDepth 100000 in
set_option maxHeartbeats 4000000 in
theorem unlimited_none (A : Option Addr) (c : Nat) (zs : List Int) (w : World) (h : In (kN .i64) w (Lt w.heap.size) A c zs) (hh : Hist zs) (h2 : ¬ 1 < NormP.nUsed zs) :
    Calls Try.prog 26 #[.slice A zs.length c] w fun e w' => e = .returned (.tuple #[.slice none 0 0, .int .i64 22]) ∧ Below w.heap.size w w' := by
  have hmf : ∀ (fn : Fn) (first cap : Array Value) (w : World), (Instr.makeFunc fn first cap).run Try.prog w = .ok (.func fn first cap) w := fun _ _ _ _ => rfl
  go_enter_defers Try.func26, Try.ntmps26
  go_wp2_with fail
  have hs0 : Lb w ((w.alloc (.cells #[.slice none 0 0] 24)).alloc (.cells #[.int .i64 0] 26)) :=
    ⟨((Below.refl _ _).alloc (Nat.le_refl _) _).alloc (by simp) _, by simp, by rw [Below.heap_alloc _ _ _ (by simp)]; exact heap_alloc_new w _, by have := heap_alloc_new (w.alloc (.cells #[.slice none 0 0] 24)) (.cells #[.int .i64 0] 26); simpa using this⟩
  have hz0 : ((w.alloc (.cells #[.slice none 0 0] 24)).alloc (.cells #[.int .i64 0] 26)).heap.size = w.heap.size + 1 + 1 := by simp
  generalize hW : ((w.alloc (.cells #[.slice none 0 0] 24)).alloc (.cells #[.int .i64 0] 26)) = w0 at *
  clear hW
  refine (asked_none A none c 0 zs [] _ (h.below hs0.bel hs0.bel.size) hh (In.nil _ _ _ _ _ (by unfold maxLen; omega)) (by simp) (by simp) h2).mono ?_
  rintro e w1 ⟨rfl, hb1⟩
  have hs2 := hs0.below (hb1.mono hs0.sz)
  clear hb1 hs0 hz0
  have c0 : w1.cell? ⟨w.heap.size, 0, none⟩ = some (.slice none 0 0) := by rw [cell_of_row w1 _ 0 _ _ (0, 0) hs2.o0]; rfl
  have f0 : w1.frozen? ⟨w.heap.size, 0, none⟩ = false := by simp [World.frozen?, hs2.o0]
  have c1 : w1.cell? ⟨w.heap.size + 1, 0, none⟩ = some (.int .i64 0) := by rw [cell_of_row w1 _ 0 _ _ (0, 0) hs2.e0]; rfl
  have f1 : w1.frozen? ⟨w.heap.size + 1, 0, none⟩ = false := by simp [World.frozen?, hs2.e0]
  have q0 : ((w1.setCell ⟨w.heap.size, 0, none⟩ (.slice none 0 0)).setCell ⟨w.heap.size + 1, 0, none⟩ (.int .i64 22)).cell? ⟨w.heap.size, 0, none⟩ = some (.slice none 0 0) := by
    rw [World.cell?_setCell_other _ _ _ _ (by simp)]; exact World.cell?_setCell_same _ _ _ c0
  have q1 : ((w1.setCell ⟨w.heap.size, 0, none⟩ (.slice none 0 0)).setCell ⟨w.heap.size + 1, 0, none⟩ (.int .i64 22)).cell? ⟨w.heap.size + 1, 0, none⟩ = some (.int .i64 22) :=
    World.cell?_setCell_same _ _ _ (by rw [World.cell?_setCell_other _ _ _ _ (by simp)]; exact c1)
  have hb5 : Below w.heap.size w ((w1.setCell ⟨w.heap.size, 0, none⟩ (.slice none 0 0)).setCell ⟨w.heap.size + 1, 0, none⟩ (.int .i64 22)) := (hs2.bel.setCell (Nat.le_refl _) _).setCell (by simp) _
  go_wp2
  refine leaves_cons (f := 29) (args := #[.pointer (some ⟨w.heap.size + 1, 0, none⟩), .func (.func 41) #[] #[.pointer (some ⟨w.heap.size, 0, none⟩)]]) (by simp) (by simp [go_sem]) ?_
  refine (caught_panics ⟨w.heap.size + 1, 0, none⟩ 41 _ 0 22 [] w1 _ (ent_of Try.func41 (by kernel_rfl) rfl) (clear_callsU _ _ w1 c0 f0) (by rw [World.cell?_setCell_other _ _ _ _ (by simp)]; exact c1) (by rw [World.frozen?_setCell]; exact f1)).mono ?_
  rintro e u' w'' ⟨rfl, rfl, rfl⟩
  simp [Leaves, settle, results, Try.results26, go_sem, q0, q1]
  exact hb5

theorem wsum_le : ∀ (l : List PK), (∀ q ∈ l, q.1 ≤ 2147483648) → (l.map fun q => q.1).sum ≤ 2147483648 * l.length
  | [], _ => by simp
  | q :: l, h => by
    have a1 := wsum_le l (fun r hr => h r (by simp [hr]))
    have a2 := h q (by simp)
    rw [List.map_cons, List.sum_cons, List.length_cons]; omega
/-- what the packages of the row of a round are like -/
theorem hrow_good {zs us : List Int} (hh : Hist zs) (h : Us zs us) (k : Nat) : ∀ p ∈ hrow (packs zs us) k, 0 ≤ p.1 ∧ p.1 ≤ 1152921504606846976 ∧ 0 < p.2.length ∧ p.2.length ≤ 256 ∧ ∀ s ∈ p.2, ∃ j : Nat, s = j ∧ j < zs.length := by
  have hg := packs_good hh (us := us) (fun s hs => by
    obtain ⟨j, hj, hjl, _⟩ := used_mem (h.1.mem_iff.1 hs)
    exact ⟨j, hj, hjl⟩)
  have hul : us.length ≤ 256 := by
    rw [h.1.length_eq]
    have := hh.1
    have := usedTo_len zs zs.length
    unfold used
    omega
  have key : ∀ k, ∀ p ∈ hrow (packs zs us) k, 0 ≤ p.1 ∧ 0 < p.2.length := by
    intro k
    induction k with
    | zero => intro p hp; have := hg p hp; exact ⟨this.1, this.2.2.1⟩
    | succ k ih =>
      intro p hp
      simp only [hrow] at hp
      match hr : hrow (packs zs us) k, hp with
      | [], hp => simp [hnext] at hp
      | [x], hp => rw [hr] at ih; exact ih p (by simpa [hnext] using hp)
      | x :: y :: l, hp =>
        rw [hr] at ih
        rcases mrg_mem.1 hp with hp | hp
        · exact ih p (by simp [hp])
        · simp only [List.mem_singleton] at hp
          subst hp
          have h1 := ih x (by simp)
          have h2 := ih y (by simp)
          exact ⟨by show 0 ≤ x.1 + y.1; omega, by show 0 < (x.2 ++ y.2).length; rw [List.length_append]; omega⟩
  intro p hp
  have h1 := key k p hp
  have hs := hrow_sum (packs zs us) k
  have hf := hrow_fl (packs zs us) k
  rw [fl_packs] at hf
  obtain ⟨l1, l2, e⟩ := List.append_of_mem hp
  have hn : ∀ l : List PK, (∀ q ∈ l, 0 ≤ q.1) → 0 ≤ (l.map fun q => q.1).sum := by
    intro l
    induction l with
    | nil => intro _; simp
    | cons q l ih =>
      intro hq
      have a1 := hq q (by simp)
      have a2 := ih (fun r hr => hq r (by simp [hr]))
      rw [List.map_cons, List.sum_cons]; omega
  have hk := key k
  rw [e] at hs hf hk
  refine ⟨h1.1, ?_, h1.2, ?_, fun s hs => ?_⟩
  · have a1 := hn l1 (fun q hq => (hk q (by simp [hq])).1)
    have a2 := hn l2 (fun q hq => (hk q (by simp [hq])).1)
    rw [List.map_append, List.sum_append, List.map_cons, List.sum_cons] at hs
    have hb := wsum_le (packs zs us) (fun q hq => (hg q hq).2.1)
    rw [packs_len] at hb
    omega
  · have := hf.length_eq
    unfold fl at this
    rw [List.flatMap_append, List.length_append, List.flatMap_cons, List.length_append] at this
    omega
  · have : s ∈ us := hf.mem_iff.1 (by unfold fl; rw [List.flatMap_append, List.flatMap_cons]; simp [hs])
    obtain ⟨j, hj, hjl, _⟩ := used_mem (h.1.mem_iff.1 this)
    exact ⟨j, hj, hjl⟩
theorem hcount_len {zs us : List Int} (hh : Hist zs) (h : Us zs us) : ∀ k, (hcount (packs zs us) k).length ≤ 512 * k
  | 0 => by simp [hcount]
  | k + 1 => by
    have ih := hcount_len hh h k
    have hg := hrow_good hh h k
    simp only [hcount, List.length_append]
    match hr : hrow (packs zs us) k with
    | [] => simp [hsyms]; omega
    | [x] => simp [hsyms]; omega
    | x :: y :: l =>
      rw [hr] at hg
      have h1 := (hg x (by simp)).2.2.2.1
      have h2 := (hg y (by simp)).2.2.2.1
      simp only [hsyms, List.length_append]; omega
def Avoid (z b : Nat) : Nat → Prop := fun g => g ≠ z ∧ g ≠ b

set_option maxRecDepth 100000 in
set_option maxHeartbeats 4000000 in
theorem unlimited_ok (hso : Sorts) (A : Option Addr) (c : Nat) (zs : List Int) (w : World) (h : In (kN .i64) w (Lt w.heap.size) A c zs) (hh : Hist zs) (hu : 1 < NormP.nUsed zs) :
    Calls Try.prog 26 #[.slice A zs.length c] w fun e w' => ∃ (us : List Int) (Ao : Option Addr) (co : Nat), Us zs us ∧
      e = .returned (.tuple #[.slice Ao zs.length co, .int .i64 0]) ∧ In (kN .i64) w' (Lt w'.heap.size) Ao co (hlens zs us) ∧ Below w.heap.size w w' := by
  have hl := hh.1
  have hul := Lib.hid (used_len zs)
  have hmf : ∀ (fn : Fn) (first cap : Array Value) (w : World), (Instr.makeFunc fn first cap).run Try.prog w = .ok (.func fn first cap) w := fun _ _ _ _ => rfl
  have hne : used zs ≠ [] := fun e => by have := hul.out; rw [e] at this; simp at this; omega
  have HSO := Lib.hid hso
  clear hso
  go_enter_defers Try.func26, Try.ntmps26
  go_wp2_with fail
  have hs0 : Lb w ((w.alloc (.cells #[.slice none 0 0] 24)).alloc (.cells #[.int .i64 0] 26)) :=
    ⟨((Below.refl _ _).alloc (Nat.le_refl _) _).alloc (by simp) _, by simp, by rw [Below.heap_alloc _ _ _ (by simp)]; exact heap_alloc_new w _, by have := heap_alloc_new (w.alloc (.cells #[.slice none 0 0] 24)) (.cells #[.int .i64 0] 26); simpa using this⟩
  have hz0 : ((w.alloc (.cells #[.slice none 0 0] 24)).alloc (.cells #[.int .i64 0] 26)).heap.size = w.heap.size + 1 + 1 := by simp
  generalize hW : ((w.alloc (.cells #[.slice none 0 0] 24)).alloc (.cells #[.int .i64 0] 26)) = w0 at *
  clear hW
  refine (asked_ok A none c 0 zs [] _ (h.below hs0.bel hs0.bel.size) hh (In.nil _ _ _ _ _ (by unfold maxLen; omega)) (by simp) (by simp) hu).mono ?_
  rintro e w1 ⟨rfl, hb1⟩
  have hs2 := hs0.below (hb1.mono hs0.sz)
  clear hb1 hs0 hz0
  go_wp2_with fail
  refine (first HSO.out A c zs _ (h.below hs2.bel hs2.bel.size) hh hne).mono ?_
  rintro e w2 ⟨v, us, rfl, hown, hperm, hsrt, hb2⟩
  have hs4 := hs2.below (hb2.mono hs2.sz)
  clear hs2 hb2
  have hn : us.length = NormP.nUsed zs := by rw [hperm.length_eq]; exact hul.out
  have hpl := packs_len zs us
  obtain ⟨Av, cv, rfl, hin⟩ := hown.sl
  rw [hpl]
  have HPL := Lib.hid hpl
  have HUS : Hid (Us zs us) := ⟨hperm, hsrt⟩
  have hun : 2 ≤ us.length := by omega
  have hul2 : us.length ≤ 256 := by have h1 := usedTo_len zs zs.length; have h2 := hul.out; unfold used at h2; omega
  have HGD := Lib.hid (hrow_good hh HUS.out)
  have HCL := Lib.hid (hcount_len hh HUS.out)
  clear hn hpl hperm hsrt hown hu hne hul
  obtain ⟨P, hP⟩ : ∃ P, P = packs zs us := ⟨_, rfl⟩
  rw [← hP] at hin HPL HGD HCL
  have HPD := Lib.hid hP
  clear hP
  have hmk := run_mk (P := Try.prog) .i64 3 8 zs.length 24 Try.underlying24 info_int (by omega) (by unfold maxLen; omega) .i64 .i64
  have g0 : w2.cell? ⟨w.heap.size, 0, none⟩ = some (.slice none 0 0) := by rw [cell_of_row w2 _ 0 _ _ (0, 0) hs4.o0]; rfl
  have f0 : w2.frozen? ⟨w.heap.size, 0, none⟩ = false := by simp [World.frozen?, hs4.o0]
  have hsz : w.heap.size < w2.heap.size := by have := hs4.sz; omega
  have hne1 := World.new_ne w2 _ g0
  go_wp2_with fail
  have hls := Ls.start hs4 zs.length (by unfold maxLen; omega)
  have hrow : In kK ((w2.setCell ⟨w.heap.size, 0, none⟩ (.slice (some ⟨w2.heap.size, 0, none⟩) zs.length zs.length)).alloc (.cells (zrow .i64 zs.length) 3)) (fun g => Lt w2.heap.size g ∧ g ≠ w.heap.size) Av cv P :=
    (in_avoid hs4.o0 hin).mono (fun g hg => by
      rw [Below.heap_alloc _ _ _ (by have := hg.1; unfold Lt at this; simpa using this)]
      exact Below.heap_setCell _ _ _ _ hg.2) (fun _ h => h)
  obtain ⟨z, hz⟩ : ∃ z, z = w2.heap.size := ⟨_, rfl⟩
  rw [← hz] at hls hrow ⊢
  generalize hW : (w2.setCell ⟨w.heap.size, 0, none⟩ (.slice (some ⟨z, 0, none⟩) zs.length zs.length)).alloc (.cells (zrow .i64 zs.length) 3) = w6 at *
  clear hW hz hne1 g0 f0 hsz hmk hin hs4
  have HLS := Lib.hid hls
  have hzl := hls.sz
  have HRW : Hid (In (kA (Avoid z w.heap.size)) w6 (fun g => g < w6.heap.size ∧ Avoid z w.heap.size g) Av cv P) :=
    (in_kA (S0 := Avoid z w.heap.size) hrow (fun g hg => ⟨by have := hg.1; unfold Lt at this; omega, hg.2⟩)).sub (fun g hg => ⟨by have := hg.1; unfold Lt at this; omega, by have := hg.1; unfold Lt at this; omega, hg.2⟩)
  clear hls hrow hzl
  go_loopw [4, 5, 7, 26] (fun vr _ _ _ wr => ∃ (k : Nat) (Ar : Option Addr) (nr cr : Nat), k + nr = us.length ∧ 1 ≤ nr ∧ vr = .slice Ar nr cr ∧ Hid ((hrow P k).length = nr) ∧ Hid (In (kA (Avoid z w.heap.size)) wr (fun g => g < wr.heap.size ∧ Avoid z w.heap.size g) Ar cr (hrow P k)) ∧ Hid (Ls w wr z zs.length (incs (List.replicate zs.length 0) (hcount P k)))) (fun vr _ _ _ _ => lenOf vr)
  case atStart => exact ⟨0, Av, us.length, cv, by omega, by omega, rfl, HPL.out, HRW, HLS⟩
  case round =>
    clear HLS HRW
    obtain ⟨wo, rfl⟩ : ∃ wo : World, wo = wr := ⟨_, rfl⟩
    obtain ⟨k, Ar, nr, cr, hkn, hnr, rfl, HNR, HR, HL⟩ := hrel
    by_cases hlt : 1 < nr
    · obtain ⟨x, y, l, hxy⟩ : ∃ x y l, hrow P k = x :: y :: l := by
        match hr : hrow P k with
        | [] => have := HNR.out; rw [hr] at this; simp at this; omega
        | [x] => have := HNR.out; rw [hr] at this; simp at this; omega
        | x :: y :: l => exact ⟨x, y, l, rfl⟩
      have HGK := Lib.hid (HGD.out k)
      have HCK := Lib.hid (HCL.out k)
      have HNX : Hid (hrow P (k + 1) = mrg l [(x.1 + y.1, x.2 ++ y.2)]) := by show hnext (hrow P k) = _; rw [hxy]; rfl
      have HCX : Hid (hcount P (k + 1) = hcount P k ++ (x.2 ++ y.2)) := by show hcount P k ++ hsyms (hrow P k) = _; rw [hxy]; rfl
      rw [hxy] at HNR HR HGK
      clear hxy
      obtain ⟨b, off, xA, xc, rfl, hbS, _, _, _⟩ := packA HR.out (j := 0) (by simp)
      have hcr : (nr : Int) ≤ (cr : Int) := by have := HR.out.1; rw [HNR.out] at this; omega
      have hlt2 : (1 : Int) < (nr : Int) := by omega
      have hc2 : (2 : Int) ≤ (cr : Int) := by omega
      have hn2 : (2 : Int) ≤ (nr : Int) := by omega
      have hp2 : Hid (In (kA (Avoid z w.heap.size)) wo (Lt wo.heap.size) (some ⟨b, off, none⟩) 2 [x, y]) := in_cap ((in_take HR.out 2).sub (fun g hg => hg.1)) (by simp) (by omega)
      clear hbS
      have hzw := HL.out.sz
      have hzb := HL.out.big
      go_wp2_with fail
      refine (calls_args (pairedA (Avoid z w.heap.size) _ bothUnlimited _ 2 [x, y] _ hp2.out (by simp) (fun g hg => ⟨by omega, by omega⟩) (fun p hp => by
        have h1 := HGK.out p (by
          rcases List.mem_cons.1 hp with rfl | hp
          · simp
          · simp only [List.mem_singleton] at hp; subst hp; simp)
        exact ⟨h1.1, h1.2.1, h1.2.2.1, by omega⟩)) (by rfl)).mono ?_
      rintro e w4 ⟨v1, rfl, ho1, hb1⟩
      have ho2 : Own (kA (Avoid z w.heap.size)) 74 w4 wo.heap.size v1 [(x.1 + y.1, x.2 ++ y.2)] := ho1
      obtain ⟨A1, c1, rfl, hi1⟩ := Own.slA ho2 (fun g hg => ⟨by omega, by omega⟩)
      have HL1 : Hid (Ls w w4 z zs.length (incs (List.replicate zs.length 0) (hcount P k))) := HL.out.below (hb1.mono (by omega))
      have HR1 : Hid (In (kA (Avoid z w.heap.size)) w4 (fun g => g < w4.heap.size ∧ Avoid z w.heap.size g) (some ⟨b, off, none⟩) cr (x :: y :: l)) := HR.out.mono (fun g hg => hb1.block g hg.1) (fun g hg => ⟨Nat.lt_of_lt_of_le hg.1 hb1.size, hg.2⟩)
      obtain ⟨b1, o1, A2, c2, rfl, hb1S, d1, d2, hi2⟩ := packA hi1 (j := 0) (by simp)
      simp only [List.getElem_cons_zero, Nat.zero_mul, Nat.add_zero] at d1 d2 hi2
      have HP1 := Lib.hid hi1
      have HX1 : Hid (In (kN .i64) w4 (fun g => g < w4.heap.size ∧ Avoid z w.heap.size g) A2 c2 (x.2 ++ y.2)) := hi2.sub (fun g hg => hg.1)
      obtain ⟨X, hX⟩ : ∃ X, X = x.2 ++ y.2 := ⟨_, rfl⟩
      rw [← hX] at HX1 d2 HCX HNX HP1
      obtain ⟨pn, hpn⟩ : ∃ pn, pn = X.length := ⟨_, rfl⟩
      have HPN := Lib.hid hpn
      rw [← hpn] at d2
      have HXB : Hid (X.length ≤ 512 ∧ ∀ s ∈ X, ∃ j : Nat, s = j ∧ j < zs.length) := by
        have h1 := HGK.out x (by simp)
        have h2 := HGK.out y (by simp)
        refine ⟨by rw [hX, List.length_append]; omega, fun s hs => ?_⟩
        rw [hX] at hs
        rcases List.mem_append.1 hs with hs | hs
        · exact h1.2.2.2.2 s hs
        · exact h2.2.2.2.2 s hs
      clear hX hpn hi1 hi2 ho1 ho2 hb1 hb1S hzw hp2 HR HL
      simp only [List.length_cons, List.length_nil]
      go_wp2_with fail
      go_loopw [7, 26] (fun _ vj wr => ∃ j : Nat, j ≤ pn ∧ vj = .int .i64 j ∧ Hid (Ls w wr z zs.length (incs (List.replicate zs.length 0) (hcount P k ++ X.take j))) ∧ Hid (In (kA (Avoid z w.heap.size)) wr (fun g => g < wr.heap.size ∧ Avoid z w.heap.size g) (some ⟨b, off, none⟩) cr (x :: y :: l)) ∧ Hid (In (kA (Avoid z w.heap.size)) wr (fun g => g < wr.heap.size ∧ Avoid z w.heap.size g) (some ⟨b1, o1, none⟩) c1 [(x.1 + y.1, X)]) ∧ Hid (In (kN .i64) wr (fun g => g < wr.heap.size ∧ Avoid z w.heap.size g) A2 c2 X)) (fun _ vj _ => pn - (intOf vj).toNat)
      case atStart => exact ⟨0, by omega, rfl, by rw [List.take_zero, List.append_nil]; exact HL1, HR1, HP1, HX1⟩
      case round =>
        clear HL1 HR1 HP1 HX1 d1 d2
        obtain ⟨j, hj, rfl, HL, HR, HP, HI⟩ := hrel
        have hpn5 : pn ≤ 512 := by rw [HPN.out]; exact HXB.out.1
        by_cases hlt3 : j < pn
        · have hjl : j < X.length := by rw [← HPN.out]; exact hlt3
          obtain ⟨b2, o2, rfl, hb2, hc2⟩ := HI.out.num hjl
          obtain ⟨q, hq, hqn⟩ := HXB.out.2 X[j] (List.getElem_mem _)
          rw [hq] at hc2
          obtain ⟨out, ho⟩ : ∃ out, out = incs (List.replicate zs.length 0) (hcount P k ++ X.take j) := ⟨_, rfl⟩
          have hbd : 0 ≤ out.getD q 0 ∧ out.getD q 0 ≤ 10000000 := by
            have h1 := incs_bd (n := zs.length) (ss := hcount P k ++ X.take j) (fun s hs => by
              rcases List.mem_append.1 hs with h | h
              · have := hcount_sub P k s h
                rw [HPD.out, fl_packs] at this
                obtain ⟨j, hj, hjl, _⟩ := used_mem (HUS.out.1.mem_iff.1 this)
                exact ⟨j, hj, hjl⟩
              · exact HXB.out.2 s (List.mem_of_mem_take h)) q
            have h4 := HCK.out
            have h7 := List.length_take_le' j X
            have h8 := HXB.out.1
            rw [List.length_append] at h1
            rw [ho]
            omega
          have hsn2 : Hid (incs (List.replicate zs.length 0) (hcount P k ++ X.take (j + 1)) = out.set q (out.getD q 0 + 1)) := by
            show _ = _
            rw [List.take_succ_eq_append_getElem hjl, ← List.append_assoc, incs_app, ← ho, hq]
            show inc out (q : Int) = _
            unfold inc
            rw [Int.toNat_natCast]
          rw [← ho] at HL
          have hol := HL.out.len
          have hrc := HL.out.row.cell (i := q) (by omega)
          have hrf := HL.out.row.free q
          rw [← getD_lt out 0 (by omega)] at hrc
          obtain ⟨yv, hy⟩ : ∃ yv, yv = out.getD q 0 := ⟨_, rfl⟩
          rw [← hy] at hrc hbd
          have HY := Lib.hid hy
          have h0 := HL.out.o0
          have hwy : IntKind.i64.wrap (yv + 1) = yv + 1 := IntWalk.i64_in _ (by omega)
          have hq0 : (0 : Int) ≤ (q : Int) := by omega
          have hqn2 : (q : Int) < (zs.length : Int) := by omega
          have hj0 : (0 : Int) ≤ (j : Int) := by omega
          have hzz := HL.out.big
          have hsm : Hid (∀ g, (g < wr.heap.size ∧ Avoid z w.heap.size g) → (wr.setCell ⟨z, q, none⟩ (.int .i64 (yv + 1))).heap[g]? = wr.heap[g]?) := fun g hg => Below.heap_setCell _ _ _ _ (by have := hg.2.1; show g ≠ z; omega)
          have hsz2 : Hid (∀ g, (g < wr.heap.size ∧ Avoid z w.heap.size g) → g < (wr.setCell ⟨z, q, none⟩ (.int .i64 (yv + 1))).heap.size ∧ Avoid z w.heap.size g) := fun g hg => ⟨by simpa using hg.1, hg.2⟩
          have HR8 : Hid (In (kA (Avoid z w.heap.size)) (wr.setCell ⟨z, q, none⟩ (.int .i64 (yv + 1))) (fun g => g < (wr.setCell ⟨z, q, none⟩ (.int .i64 (yv + 1))).heap.size ∧ Avoid z w.heap.size g) (some ⟨b, off, none⟩) cr (x :: y :: l)) := HR.out.mono hsm.out hsz2.out
          have HP8 : Hid (In (kA (Avoid z w.heap.size)) (wr.setCell ⟨z, q, none⟩ (.int .i64 (yv + 1))) (fun g => g < (wr.setCell ⟨z, q, none⟩ (.int .i64 (yv + 1))).heap.size ∧ Avoid z w.heap.size g) (some ⟨b1, o1, none⟩) c1 [(x.1 + y.1, X)]) := HP.out.mono hsm.out hsz2.out
          have HI8 : Hid (In (kN .i64) (wr.setCell ⟨z, q, none⟩ (.int .i64 (yv + 1))) (fun g => g < (wr.setCell ⟨z, q, none⟩ (.int .i64 (yv + 1))).heap.size ∧ Avoid z w.heap.size g) (some ⟨b2, o2, none⟩) c2 X) := HI.out.mono hsm.out hsz2.out
          have HL8 : Hid (Ls w (wr.setCell ⟨z, q, none⟩ (.int .i64 (yv + 1))) z zs.length (incs (List.replicate zs.length 0) (hcount P k ++ X.take (j + 1)))) := by
            show Ls _ _ _ _ _
            rw [hsn2.out, ← HY.out]; exact HL.out.set q (yv + 1)
          clear hy ho hq HL HR HP HI hbd hsm hsz2
          go_wp2
          go_roundw
          case rel => exact ⟨j + 1, by omega, by go_num, HL8, HR8, HP8, HI8⟩
          case measure => simp [intOf]; omega
        · have hjx : j = pn := by omega
          subst hjx
          have HL9 : Hid (Ls w wr z zs.length (incs (List.replicate zs.length 0) (hcount P (k + 1)))) := by
            show Ls _ _ _ _ _
            rw [HCX.out]
            have := HL.out
            rwa [HPN.out, List.take_length] at this
          have hzw := HL9.out.sz
          have hzb := HL9.out.big
          have hdr := (HR.out.sub (S' := Lt wr.heap.size) (fun g hg => hg.1)).drop (l := 2) (by simp)
          have HLL : Hid (l.length = nr - 2) := by have := HNR.out; show l.length = nr - 2; simp at this; omega
          clear HL HI
          go_wp2_with fail
          all_goals
            refine (calls_args (mergedA (Avoid z w.heap.size) _ _ _ _ l [(x.1 + y.1, X)] _ hdr (HP.out.sub (fun g hg => hg.1)) (by have := HLL.out; simp; omega)) ?_).mono ?_
            · rw [HLL.out]
              by_cases hcc : cr = 2
              · first
                  | (exfalso; omega)
                  | (rw [if_pos hcc, hcc]; rfl)
              · first
                  | (exfalso; omega)
                  | (rw [if_neg hcc]; rfl)
            rintro e w5 ⟨v5, rfl, ho5, hb5⟩
            obtain ⟨A5, c5, rfl, hi5⟩ := Own.slA ho5 (fun g hg => ⟨by omega, by omega⟩)
            have HN5 : Hid ((hrow P (k + 1)).length = nr - 1) := by show _ = _; rw [HNX.out, mrg_len, HLL.out]; simp; omega
            rw [← HNX.out] at hi5
            have hln : (mrg l [(x.1 + y.1, X)]).length = nr - 1 := by rw [mrg_len, HLL.out]; simp; omega
            rw [hln]
            have HL5 : Hid (Ls w w5 z zs.length (incs (List.replicate zs.length 0) (hcount P (k + 1)))) := HL9.out.below (hb5.mono (by omega))
            have HI5 := Lib.hid hi5
            clear hi5 hb5 ho5 hln hdr
            go_wp2
            go_roundw
            case rel => exact ⟨k + 1, A5, nr - 1, c5, by omega, by omega, rfl, HN5, HI5, HL5⟩
            case measure => simp [lenOf]; omega
    · have hk1 : k = us.length - 1 := by omega
      have hnr1 : nr = 1 := by omega
      subst hnr1
      have HL9 : Hid (Ls w wo z zs.length (hlens zs us)) := by
        show Ls _ _ _ _ _
        unfold hlens hall
        rw [← HPD.out, ← hk1]; exact HL.out
      have g0 := HL9.out.o0
      have g1 := HL9.out.fo
      have g2 := HL9.out.e0
      have g3 := HL9.out.fe
      have hzz := HL9.out.big
      clear HL HR hk1 hkn
      go_wp2
      have q0 : ((wo.setCell ⟨w.heap.size, 0, none⟩ (.slice (some ⟨z, 0, none⟩) zs.length zs.length)).setCell ⟨w.heap.size + 1, 0, none⟩ (.int .i64 0)).cell? ⟨w.heap.size, 0, none⟩ = some (.slice (some ⟨z, 0, none⟩) zs.length zs.length) := by
        rw [World.cell?_setCell_other _ _ _ _ (by simp)]; exact World.cell?_setCell_same _ _ _ g0
      have q1 : ((wo.setCell ⟨w.heap.size, 0, none⟩ (.slice (some ⟨z, 0, none⟩) zs.length zs.length)).setCell ⟨w.heap.size + 1, 0, none⟩ (.int .i64 0)).cell? ⟨w.heap.size + 1, 0, none⟩ = some (.int .i64 0) :=
        World.cell?_setCell_same _ _ _ (by rw [World.cell?_setCell_other _ _ _ _ (by simp)]; exact g2)
      have hb5 : Below w.heap.size w ((wo.setCell ⟨w.heap.size, 0, none⟩ (.slice (some ⟨z, 0, none⟩) zs.length zs.length)).setCell ⟨w.heap.size + 1, 0, none⟩ (.int .i64 0)) := (HL9.out.bel.setCell (Nat.le_refl _) _).setCell (by simp) _
      have hrow9 : Row .i64 3 ((wo.setCell ⟨w.heap.size, 0, none⟩ (.slice (some ⟨z, 0, none⟩) zs.length zs.length)).setCell ⟨w.heap.size + 1, 0, none⟩ (.int .i64 0)) z (hlens zs us) := (HL9.out.row.far (by show z ≠ w.heap.size; omega) _).far (by show z ≠ w.heap.size + 1; omega) _
      have hlen9 := HL9.out.len
      have hin9 := hrow9.inn (c := zs.length) (by omega) (by unfold maxLen; omega)
      generalize hW : ((wo.setCell ⟨w.heap.size, 0, none⟩ (.slice (some ⟨z, 0, none⟩) zs.length zs.length)).setCell ⟨w.heap.size + 1, 0, none⟩ (.int .i64 0)) = w9 at *
      clear hW g0 g1 g2 g3 HL9
      refine leaves_cons (f := 29) (args := #[.pointer (some ⟨w.heap.size + 1, 0, none⟩), .func (.func 41) #[] #[.pointer (some ⟨w.heap.size, 0, none⟩)]]) (by simp) (by simp [go_sem]) ?_
      refine (caught_idle _ _ _).mono ?_
      rintro e u' w'' ⟨rfl, rfl, rfl⟩
      simp only [Leaves, settle, results, Try.results26]
      simp [go_sem, q0, q1]
      exact ⟨us, HUS.out, _, _, ⟨rfl, rfl⟩, hin9, hb5⟩
end Go.Proofs.Ytjmkkcbilpidnaa.Limit
