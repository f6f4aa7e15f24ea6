/- The walk of Lengths. -/
import Derived.Test.YtjmkkcbilpidnaaPm2
namespace Go.Proofs.Ytjmkkcbilpidnaa.Limit
open Go Go.RowKit Go.Proofs.Ytjmkkcbilpidnaa.W Go.Proofs.Ytjmkkcbilpidnaa.Tally Go.Proofs.Ytjmkkcbilpidnaa.SortA Go.Proofs.Ytjmkkcbilpidnaa.SortP
set_option linter.unusedVariables false
set_option linter.unusedSimpArgs false

/-- The memory of a call of 'Lengths': its two results' boxes. -/
structure Lb (w wr : World) : Prop where
  bel : Below w.heap.size w wr
  sz : w.heap.size + 2 ≤ wr.heap.size
  o0 : wr.heap[w.heap.size]? = some (.cells #[.slice none 0 0] 24 (0, 0))
  e0 : wr.heap[w.heap.size + 1]? = some (.cells #[.int .i64 0] 26 (0, 0))
theorem Lb.below {w wr w2 : World} (h : Lb w wr) (hb : Below (w.heap.size + 2) wr w2) : Lb w w2 :=
  ⟨h.bel.trans (hb.mono (by omega)), Nat.le_trans h.sz hb.size, by rw [hb.block _ (by omega)]; exact h.o0, by rw [hb.block _ (by omega)]; exact h.e0⟩

/-- .. while the lengths are counted: the row z holds them. -/
structure Ls (w wr : World) (z n : Nat) (out : List Int) : Prop where
  bel : Below w.heap.size w wr
  big : w.heap.size + 2 ≤ z
  sz : z < wr.heap.size
  len : out.length = n
  o0 : wr.cell? ⟨w.heap.size, 0, none⟩ = some (.slice (some ⟨z, 0, none⟩) n n)
  fo : wr.frozen? ⟨w.heap.size, 0, none⟩ = false
  e0 : wr.cell? ⟨w.heap.size + 1, 0, none⟩ = some (.int .i64 0)
  fe : wr.frozen? ⟨w.heap.size + 1, 0, none⟩ = false
  row : Row .i64 3 wr z out
section
variable {w wr : World} {z n : Nat} {out : List Int}
theorem Ls.below (h : Ls w wr z n out) {w2 : World} (hb : Below (z + 1) wr w2) : Ls w w2 z n out := by
  have := h.big
  refine ⟨h.bel.trans (hb.mono (by omega)), h.big, Nat.lt_of_lt_of_le h.sz hb.size, h.len, ?_, ?_, ?_, ?_, h.row.below hb (by omega)⟩
  · rw [hb.cell (by show w.heap.size < z + 1; omega)]; exact h.o0
  · rw [hb.frozen (by show w.heap.size < z + 1; omega)]; exact h.fo
  · rw [hb.cell (by show w.heap.size + 1 < z + 1; omega)]; exact h.e0
  · rw [hb.frozen (by show w.heap.size + 1 < z + 1; omega)]; exact h.fe
theorem Ls.set (h : Ls w wr z n out) (i : Nat) (x : Int) : Ls w (wr.setCell ⟨z, i, none⟩ (.int .i64 x)) z n (out.set i x) := by
  have hb := h.big
  have hc : ∀ b o, b ≠ z → (wr.setCell ⟨z, i, none⟩ (.int .i64 x)).cell? ⟨b, o, none⟩ = wr.cell? ⟨b, o, none⟩ := fun b o hb =>
    World.cell?_setCell_other _ _ _ _ (fun e => hb (congrArg Addr.block e).symm)
  refine ⟨h.bel.setCell (by show w.heap.size ≤ z; omega) _, h.big, by simpa using h.sz, by simpa using h.len, ?_, ?_, ?_, ?_, h.row.set i x⟩
  · rw [hc _ _ (by omega)]; exact h.o0
  · rw [World.frozen?_setCell]; exact h.fo
  · rw [hc _ _ (by omega)]; exact h.e0
  · rw [World.frozen?_setCell]; exact h.fe
end
theorem Ls.start {w wr : World} (h : Lb w wr) (n : Nat) (hn : n ≤ maxLen) : Ls w ((wr.setCell ⟨w.heap.size, 0, none⟩ (.slice (some ⟨wr.heap.size, 0, none⟩) n n)).alloc (.cells (zrow .i64 n) 3)) wr.heap.size n (List.replicate n 0) := by
  have hs := h.sz
  have c0 : wr.cell? ⟨w.heap.size, 0, none⟩ = some (.slice none 0 0) := by rw [cell_of_row wr _ 0 _ _ (0, 0) h.o0]; rfl
  have f0 : wr.frozen? ⟨w.heap.size, 0, none⟩ = false := by simp [World.frozen?, h.o0]
  have c1 : wr.cell? ⟨w.heap.size + 1, 0, none⟩ = some (.int .i64 0) := by rw [cell_of_row wr _ 0 _ _ (0, 0) h.e0]; rfl
  have f1 : wr.frozen? ⟨w.heap.size + 1, 0, none⟩ = false := by simp [World.frozen?, h.e0]
  have hz : (wr.setCell ⟨w.heap.size, 0, none⟩ (.slice (some ⟨wr.heap.size, 0, none⟩) n n)).heap.size = wr.heap.size := by simp
  have hb : Below wr.heap.size (wr.setCell ⟨w.heap.size, 0, none⟩ (.slice (some ⟨wr.heap.size, 0, none⟩) n n)) ((wr.setCell ⟨w.heap.size, 0, none⟩ (.slice (some ⟨wr.heap.size, 0, none⟩) n n)).alloc (.cells (zrow .i64 n) 3)) := (Below.refl _ _).alloc (by rw [hz]; exact Nat.le_refl _) _
  refine ⟨(h.bel.setCell (Nat.le_refl _) _).trans (hb.mono (by omega)), hs, by simp, by simp, ?_, ?_, ?_, ?_, ?_⟩
  · rw [hb.cell (by show w.heap.size < wr.heap.size; omega)]; exact World.cell?_setCell_same _ _ _ c0
  · rw [hb.frozen (by show w.heap.size < wr.heap.size; omega), World.frozen?_setCell]; exact f0
  · rw [hb.cell (by show w.heap.size + 1 < wr.heap.size; omega), World.cell?_setCell_other _ _ _ _ (by simp)]; exact c1
  · rw [hb.frozen (by show w.heap.size + 1 < wr.heap.size; omega), World.frozen?_setCell]; exact f1
  · have := Row.zrow .i64 3 (wr.setCell ⟨w.heap.size, 0, none⟩ (.slice (some ⟨wr.heap.size, 0, none⟩) n n)) n hn
    rwa [hz] at this
/-- a block that holds one slice holds no numbers -/
theorem in_avoidN {w : World} {q : Nat} {t : TypeId} {S : Nat → Prop} {A : Option Addr} {c : Nat} {xs : List Int} (hq : w.heap[q]? = some (.cells #[.slice none 0 0] t (0, 0))) (h : In (kN .i64) w S A c xs) : In (kN .i64) w (fun g => S g ∧ g ≠ q) A c xs := by
  refine ⟨h.1, h.2.1, fun j x hx => ?_⟩
  obtain ⟨b, off, cs, ha, hS, hk, hc⟩ := h.2.2 j x hx
  refine ⟨b, off, cs, ha, ⟨hS, fun e => ?_⟩, hk, hc⟩
  have hk' : cs = [.int .i64 x] := hk
  subst hk'; subst e
  have := hc 0 _ rfl
  rw [cell_of_row w b _ _ _ (0, 0) hq] at this
  generalize off + j * (kN .i64).n + 0 = i at this
  cases i with
  | zero => simp at this
  | succ i => simp at this
theorem in_avoid {w : World} {q : Nat} {t : TypeId} {S : Nat → Prop} {A : Option Addr} {c : Nat} {xs : List PK} (hq : w.heap[q]? = some (.cells #[.slice none 0 0] t (0, 0))) (h : In kK w S A c xs) : In kK w (fun g => S g ∧ g ≠ q) A c xs := by
  refine ⟨h.1, h.2.1, fun j x hx => ?_⟩
  obtain ⟨b, off, cs, ha, hS, ⟨a1, a2, hcs, h1, ⟨A', c', h2, hi⟩⟩, hc⟩ := h.2.2 j x hx
  have h1' : a1 = [.int .i64 x.1] := h1
  subst h1'; subst h2; subst hcs
  refine ⟨b, off, _, ha, ⟨hS, fun e => ?_⟩, ⟨[.int .i64 x.1], _, rfl, rfl, ⟨A', c', rfl, in_avoidN hq hi⟩⟩, hc⟩
  subst e
  have := hc 0 _ rfl
  rw [cell_of_row w b _ _ _ (0, 0) hq] at this
  generalize off + j * kK.n + 0 = i at this
  cases i with
  | zero => simp at this
  | succ i => simp at this
theorem in_take {α : Type} {k : Kd α} {w : World} {S : Nat → Prop} {A : Option Addr} {c : Nat} {xs : List α} (h : In k w S A c xs) (m : Nat) : In k w S A c (xs.take m) := by
  refine ⟨by have := h.1; have := List.length_take_le' m xs; omega, h.2.1, fun j x hx => ?_⟩
  rw [List.getElem?_take] at hx
  split at hx
  · exact h.2.2 j x hx
  · cases hx

theorem fl_len {n : Nat} {B : Int} {C : Nat} : ∀ {row : List PK}, Good n B C row → (fl row).length ≤ row.length * C
  | [], _ => by simp [fl]
  | p :: row, h => by
    have ih := fl_len (row := row) (fun q hq => h q (List.mem_cons_of_mem _ hq))
    have := (h p (List.mem_cons_self ..)).2.2.2.1
    unfold fl at ih ⊢
    rw [List.flatMap_cons, List.length_append, List.length_cons, Nat.succ_mul]
    omega
theorem fl_snoc {R : List PK} {i : Nat} (h : i < R.length) : fl (R.take (i + 1)) = fl (R.take i) ++ R[i].2 := by
  unfold fl
  rw [List.take_succ_eq_append_getElem h, List.flatMap_append]; simp
theorem fl_dom {n : Nat} {B : Int} {C : Nat} {row : List PK} (h : Good n B C row) : ∀ s ∈ fl row, ∃ j : Nat, s = j ∧ j < n := fun s hs => by
  obtain ⟨p, hp, hs⟩ := List.mem_flatMap.1 hs
  exact (h p hp).2.2.2.2 s hs
theorem incs_bd {n : Nat} {ss : List Int} (h : ∀ s ∈ ss, ∃ j : Nat, s = j ∧ j < n) (i : Nat) : 0 ≤ (incs (List.replicate n 0) ss).getD i 0 ∧ (incs (List.replicate n 0) ss).getD i 0 ≤ ss.length := by
  rw [incs_at _ _ _ (by simpa using h)]
  have := List.count_le_length (a := (i : Int)) (l := ss)
  have h0 : (List.replicate n (0 : Int)).getD i 0 = 0 := by
    rw [List.getD, List.getElem?_replicate]; split <;> rfl
  rw [h0]; omega

/-- What the sort is asked for. -/
def Sorts : Prop := ∀ (D : Int → Prop) (key : Int → Int) (g c N f : Nat) (lb : Array Value) (xs : List Int) (w0 w : World) (h : Sw D w0 g N xs w) (hf : FnC Try.prog f lb D key w0 g) (hN : N ≤ 65536),
    Calls Try.prog 47 #[.slice (some ⟨g, 0, none⟩) N c, .func (.func f) #[] lb] w fun e w' => e = .returned (.tuple #[]) ∧ ∃ zs, Sw D w0 g N zs w' ∧ Sorted key zs 0 N ∧ Shuf 0 N xs zs

theorem packs_good {zs us : List Int} (hh : Hist zs) (hu : ∀ s ∈ us, ∃ j : Nat, s = j ∧ j < zs.length) : Good zs.length 2147483648 1 (packs zs us) := fun p hp => by
  obtain ⟨s, hs, rfl⟩ := List.mem_map.1 hp
  obtain ⟨j, rfl, hj⟩ := hu s hs
  have := hh.getD j
  rw [Int.toNat_natCast]
  exact ⟨this.1, this.2, by simp, by simp, fun s hs => ⟨j, by simpa using hs, hj⟩⟩
theorem packs_len (zs us : List Int) : (packs zs us).length = us.length := List.length_map ..
theorem good_pre {n : Nat} {k : Nat} {row : List PK} (hk : k ≤ 10) (h : Good n (2147483648 * 2 ^ k) (2 ^ k) row) : ∀ p ∈ row, 0 ≤ p.1 ∧ p.1 ≤ 1152921504606846976 ∧ 0 < p.2.length ∧ p.2.length ≤ 32768 := fun p hp => by
  have := h p hp
  have h1 : (2 : Nat) ^ k ≤ 2 ^ 10 := Nat.pow_le_pow_right (by omega) hk
  have h2 : ((2 ^ k : Nat) : Int) = (2 : Int) ^ k := by simp
  have h3 : (2147483648 : Int) * 2 ^ k ≤ 2147483648 * 1024 := by omega
  exact ⟨this.1, by omega, this.2.2.1, by omega⟩

set_option maxRecDepth 100000 in
set_option maxHeartbeats 4000000 in
theorem lengths_ok (hso : Sorts) (A : Option Addr) (c : Nat) (zs : List Int) (most : Nat) (w : World) (h : In (kN .i64) w (Lt w.heap.size) A c zs) (hh : Hist zs) (hu : 1 < NormP.nUsed zs) (h1 : 1 ≤ most) (h2 : most ≤ 11) (h3 : NormP.nUsed zs ≤ 2 ^ most) :
    Calls Try.prog 24 #[.slice A zs.length c, .int .i64 most] w fun e w' => ∃ (us : List Int) (Ao : Option Addr) (co : Nat), us.Perm (used zs) ∧ Sorted (fun s => zs.getD s.toNat 0) us 0 us.length ∧
      e = .returned (.tuple #[.slice Ao zs.length co, .int .i64 0]) ∧ In (kN .i64) w' (Lt w'.heap.size) Ao co (incs (List.replicate zs.length 0) (fl ((rowOf (packs zs us) (most - 1)).take (2 * us.length - 2)))) ∧ Below w.heap.size w w' := by
  have hl := hh.1
  have hul := Lib.hid (used_len zs)
  have hmf : ∀ (fn : Fn) (first cap : Array Value) (w : World), (Instr.makeFunc fn first cap).run Try.prog w = .ok (.func fn first cap) w := fun _ _ _ _ => rfl
  have hne : used zs ≠ [] := fun e => by have := hul.out; rw [e] at this; simp at this; omega
  have HSO := Lib.hid hso
  clear hso
  go_enter_defers Try.func24, Try.ntmps24
  go_wp2_with fail
  have hs0 : Lb w ((w.alloc (.cells #[.slice none 0 0] 24)).alloc (.cells #[.int .i64 0] 26)) :=
    ⟨((Below.refl _ _).alloc (Nat.le_refl _) _).alloc (by simp) _, by simp, by rw [Below.heap_alloc _ _ _ (by simp)]; exact heap_alloc_new w _, by have := heap_alloc_new (w.alloc (.cells #[.slice none 0 0] 24)) (.cells #[.int .i64 0] 26); simpa using this⟩
  have hz0 : ((w.alloc (.cells #[.slice none 0 0] 24)).alloc (.cells #[.int .i64 0] 26)).heap.size = w.heap.size + 1 + 1 := by simp
  generalize hW : ((w.alloc (.cells #[.slice none 0 0] 24)).alloc (.cells #[.int .i64 0] 26)) = w0 at *
  clear hW
  have hf : In kB (w0.alloc (.cells #[.bool (decide ((most : Int) ≤ 11))] 4)) (Lt (w0.alloc (.cells #[.bool (decide ((most : Int) ≤ 11))] 4)).heap.size) (some ⟨w.heap.size + 1 + 1, 0, none⟩) 1 [decide ((most : Int) ≤ 11)] := by
    rw [← hz0]
    exact (In.one_new (k := kB) (S := fun _ => False) (cs := [.bool (decide ((most : Int) ≤ 11))]) _ rfl (fun g hg => hg.elim)).sub (fun g hg => by
      rcases hg with hg | rfl
      · exact hg.elim
      · simp [Lt])
  have hs1 := hs0.below (((Below.refl _ _).alloc hs0.sz (.cells #[.bool (decide ((most : Int) ≤ 11))] 4)))
  refine (asked_ok A _ c 1 zs _ _ (h.below hs1.bel hs1.bel.size) hh hf (by simp) (by simp; omega) hu).mono ?_
  rintro e w1 ⟨rfl, hb1⟩
  have hs2 := hs1.below (hb1.mono hs1.sz)
  clear hs1 hb1 hf hs0 hz0
  go_wp2_with fail
  have hs3 := hs2.below ((Below.refl _ _).alloc hs2.sz (.cells #[.slice A zs.length c] 65))
  refine (first HSO.out A c zs _ (h.below hs3.bel hs3.bel.size) hh hne).mono ?_
  rintro e w2 ⟨v, us, rfl, hown, hperm, hsrt, hb2⟩
  have hs4 := hs3.below (hb2.mono hs3.sz)
  clear hs2 hs3 hb2
  have hn : us.length = NormP.nUsed zs := by rw [hperm.length_eq]; exact hul.out
  have hdom : ∀ s ∈ us, ∃ j : Nat, s = j ∧ j < zs.length := fun s hs => by
    obtain ⟨j, hj, hjl, _⟩ := used_mem (hperm.mem_iff.1 hs)
    exact ⟨j, hj, hjl⟩
  have hgood := Lib.hid (packs_good hh hdom)
  have hpl := packs_len zs us
  obtain ⟨Av, cv, rfl, hin⟩ := hown.sl
  rw [hpl]
  have HN := Lib.hid hn
  have HD := Lib.hid hdom
  have HPL := Lib.hid hpl
  have HP := Lib.hid hperm
  have HSR := Lib.hid hsrt
  have hul2 : us.length ≤ 256 := by have h1 := usedTo_len zs zs.length; have h2 := hul.out; unfold used at h2; omega
  have hpw : us.length ≤ 2 ^ most := by omega
  have hpw2 : 2 ^ most ≤ 2048 := Nat.pow_le_pow_right (n := 2) (by omega) h2
  have hun : 2 ≤ us.length := by omega
  clear hn hdom hpl hperm hsrt hown h3 hu hne hul
  obtain ⟨P, hP⟩ : ∃ P, P = packs zs us := ⟨_, rfl⟩
  rw [← hP] at hin hgood HPL
  have HPD := Lib.hid hP
  clear hP
  go_wp2_with fail
  have hpc : ((2 ^ most : Nat) : Int) = (2 : Int) ^ most := by simp
  refine (must_if _ _ (by
    have hwm : wrap64 ((2 : Int) ^ most) = (2 : Int) ^ most := IntWalk.wrap64_in _ (by omega)
    rw [decide_eq_true_eq, hwm]
    omega)).mono ?_
  rintro e w3 ⟨rfl, rfl⟩
  clear hpc hpw2
  go_wp2_with fail
  go_loopw [8, 34] (fun vr vi wr => ∃ (k : Nat) (Ar : Option Addr) (nr cr : Nat), k ≤ most - 1 ∧ vi = .int .i64 k ∧ vr = .slice Ar nr cr ∧ Hid ((rowOf P k).length = nr) ∧ Hid (In kK wr (Lt wr.heap.size) Ar cr (rowOf P k)) ∧ Hid (In kK wr (Lt wr.heap.size) Av cv P) ∧ Hid (Lb w wr)) (fun _ vi _ => most - 1 - (intOf vi).toNat)
  case atStart => exact ⟨0, Av, us.length, cv, by omega, rfl, rfl, HPL.out, hin, hin, hs4⟩
  case round =>
    clear hin hs4
    obtain ⟨k, Ar, nr, cr, hk, rfl, rfl, HNR, HR, HV, HB⟩ := hrel
    by_cases hlt : k < most - 1
    · have hg := rowOf_good (by omega) hgood.out k
      have hrl := rowOf_len P k
      go_wp2_with fail
      refine (calls_args (paired _ bothLengths Ar cr (rowOf P k) _ HR.out (by rw [HPL.out] at hrl; omega) (good_pre (by omega) hg)) (by rw [HNR.out])).mono ?_
      rintro e w4 ⟨v1, rfl, ho1, hb1⟩
      obtain ⟨A1, c1, rfl, hi1⟩ := ho1.sl
      have HV1 : Hid (In kK w4 (Lt w4.heap.size) Av cv P) := HV.out.below hb1 hb1.size
      have HB1 : Hid (Lb w w4) := HB.out.below (hb1.mono HB.out.sz)
      have hlen1 := Lib.hid (prs_length (rowOf P k))
      obtain ⟨n1, hn1⟩ : ∃ q, q = (prs (rowOf P k)).length := ⟨_, rfl⟩
      rw [← hn1]
      clear ho1 hb1
      go_wp2_with fail
      refine (calls_args (merged Av A1 cv c1 P (prs (rowOf P k)) _ HV1.out hi1 (by have := hlen1.out; rw [HPL.out] at hrl ⊢; omega)) (by rw [HPL.out])).mono ?_
      rintro e w5 ⟨v2, rfl, ho2, hb2⟩
      obtain ⟨A2, c2, rfl, hi2⟩ := ho2.sl
      have HV2 : Hid (In kK w5 (Lt w5.heap.size) Av cv P) := HV1.out.below hb2 hb2.size
      have HB2 : Hid (Lb w w5) := HB1.out.below (hb2.mono HB1.out.sz)
      have HI2 : Hid (In kK w5 (Lt w5.heap.size) A2 c2 (rowOf P (k + 1))) := hi2
      obtain ⟨n2, hn2⟩ : ∃ q, q = (mrg P (prs (rowOf P k))).length := ⟨_, rfl⟩
      rw [← hn2]
      have HN2 : Hid ((rowOf P (k + 1)).length = n2) := hn2.symm
      clear ho2 hb2 hi1 hi2 hn1 hn2 hg hrl hlen1
      go_wp2
      go_roundw
      case rel => exact ⟨k + 1, A2, n2, c2, by omega, by go_num, rfl, HN2, HI2, HV2, HB2⟩
      case measure => simp [intOf]; omega
    · have hkm : k = most - 1 := by omega
      subst hkm
      have hge := rowOf_ge P (most - 1) 2 (by rw [HPL.out, show (2 : Nat) * 2 ^ (most - 1) = 2 ^ most by rw [show most = (most - 1) + 1 by omega, Nat.pow_succ, Nat.add_sub_cancel]; omega]; exact hpw)
      have hmk := run_mk (P := Try.prog) .i64 3 8 zs.length 24 Try.underlying24 info_int (by omega) (by unfold maxLen; omega) .i64 .i64
      rw [HPL.out, HNR.out] at hge
      have hcr := HR.out.1
      rw [HNR.out] at hcr
      obtain ⟨m, hm⟩ : ∃ m : Nat, m + 2 = 2 * us.length := ⟨2 * us.length - 2, by omega⟩
      have hmz : 2 * (us.length : Int) - 2 = (m : Int) := by omega
      have hmc : m ≤ cr := by omega
      have g0 : wr.cell? ⟨w.heap.size, 0, none⟩ = some (.slice none 0 0) := by rw [cell_of_row wr _ 0 _ _ (0, 0) HB.out.o0]; rfl
      have f0 : wr.frozen? ⟨w.heap.size, 0, none⟩ = false := by simp [World.frozen?, HB.out.o0]
      have hsz : w.heap.size < wr.heap.size := by have := HB.out.sz; omega
      have hne1 := World.new_ne wr _ g0
      go_upto_region 11 with (fail)
      have hls := Ls.start HB.out zs.length (by unfold maxLen; omega)
      have hrow : Hid (In kK ((wr.setCell ⟨w.heap.size, 0, none⟩ (.slice (some ⟨wr.heap.size, 0, none⟩) zs.length zs.length)).alloc (.cells (zrow .i64 zs.length) 3)) (fun g => Lt wr.heap.size g ∧ g ≠ w.heap.size) Ar cr ((rowOf P (most - 1)).take m)) :=
        (in_take (in_avoid HB.out.o0 HR.out) m).mono (fun g hg => by
          rw [Below.heap_alloc _ _ _ (by have := hg.1; unfold Lt at this; simpa using this)]
          exact Below.heap_setCell _ _ _ _ hg.2) (fun _ h => h)
      have hlen : Hid (((rowOf P (most - 1)).take m).length = m) := by
        show ((rowOf P (most - 1)).take m).length = m
        rw [List.length_take, HNR.out]; omega
      have hgd := rowOf_good (by omega) hgood.out (most - 1)
      have hgood2 : Hid (Good zs.length (2147483648 * 2 ^ (most - 1)) (2 ^ (most - 1)) ((rowOf P (most - 1)).take m)) := fun p hp => hgd p (List.mem_of_mem_take hp)
      obtain ⟨R, hR⟩ : ∃ R, R = (rowOf P (most - 1)).take m := ⟨_, rfl⟩
      rw [← hR] at hrow hlen hgood2
      have HRD := Lib.hid hR
      obtain ⟨z, hz⟩ : ∃ z, z = wr.heap.size := ⟨_, rfl⟩
      rw [← hz] at hls hrow ⊢
      generalize hW : (wr.setCell ⟨w.heap.size, 0, none⟩ (.slice (some ⟨z, 0, none⟩) zs.length zs.length)).alloc (.cells (zrow .i64 zs.length) 3) = w6 at *
      clear hW hz hR hgd hne1 g0 f0 hsz hmk HR HV HB hge
      have HLS := Lib.hid hls
      have hm510 : m ≤ 510 := by omega
      clear hls
      have hC : Hid ((2 : Nat) ^ (most - 1) ≤ 1024) := by
        show (2 : Nat) ^ (most - 1) ≤ 1024
        exact Nat.pow_le_pow_right (n := 2) (by omega) (show most - 1 ≤ 10 by omega)
      go_wp2_with fail
      go_loopw [10, 12, 51] (fun _ _ vi wr => ∃ i : Nat, i ≤ m ∧ vi = .int .i64 i ∧ Hid (Ls w wr z zs.length (incs (List.replicate zs.length 0) (fl (R.take i)))) ∧ Hid (In kK wr (fun g => Lt z g ∧ g ≠ w.heap.size) Ar cr R)) (fun _ _ vi _ => m - (intOf vi).toNat)
      case atStart => exact ⟨0, by omega, rfl, HLS, hrow⟩
      case round =>
        clear HLS hrow
        obtain ⟨i, him, rfl, HL, HR⟩ := hrel
        by_cases hlt2 : i < m
        · obtain ⟨b, off, xA, xc, rfl, xlt, xc1, xc2, xi⟩ := In.pack HR.out (j := i) (by rw [hlen.out]; exact hlt2)
          obtain ⟨x, hx⟩ : ∃ q, q = R[i]'(by rw [hlen.out]; exact hlt2) := ⟨_, rfl⟩
          have hxg := Lib.hid (hgood2.out x (by rw [hx]; exact List.getElem_mem _))
          have hsn : Hid (fl (R.take (i + 1)) = fl (R.take i) ++ x.2) := by rw [hx]; exact fl_snoc (by rw [hlen.out]; exact hlt2)
          rw [← hx] at xc1 xc2 xi
          clear hx
          obtain ⟨xw, hxw⟩ : ∃ q, q = x.1 := ⟨_, rfl⟩
          obtain ⟨xn, hxn⟩ : ∃ q, q = x.2.length := ⟨_, rfl⟩
          rw [← hxw] at xc1
          rw [← hxn] at xc2
          have HXN := Lib.hid hxn
          have XI := Lib.hid xi
          have hx10 : xn ≤ 1024 := by have h1 := hxg.out.2.2.2.1; have h2 := hC.out; omega
          clear hxw hxn xi xlt
          have hi0 : (0 : Int) ≤ (i : Int) := by omega
          go_wp2_with fail
          have hal : Below (z + 1) wr (wr.alloc (.cells #[.int .i64 xw, .slice xA xn xc] 74)) := (Below.refl _ _).alloc HL.out.sz _
          have HL7 : Hid (Ls w (wr.alloc (.cells #[.int .i64 xw, .slice xA xn xc] 74)) z zs.length (incs (List.replicate zs.length 0) (fl (R.take i)))) := HL.out.below hal
          have HR7 : Hid (In kK (wr.alloc (.cells #[.int .i64 xw, .slice xA xn xc] 74)) (fun g => Lt z g ∧ g ≠ w.heap.size) (some ⟨b, off, none⟩) cr R) := HR.out.mono (fun g hg => hal.block g (Nat.lt_succ_of_lt hg.1)) (fun _ h => h)
          have XI7 : Hid (In (kN .i64) (wr.alloc (.cells #[.int .i64 xw, .slice xA xn xc] 74)) (fun g => Lt z g ∧ g ≠ w.heap.size) xA xc x.2) := XI.out.mono (fun g hg => hal.block g (Nat.lt_succ_of_lt hg.1)) (fun _ h => h)
          generalize hW : wr.alloc (.cells #[.int .i64 xw, .slice xA xn xc] 74) = w7 at *
          clear hW hal HL HR XI xc1 xc2
          go_loopw [12, 58] (fun _ vj wr => ∃ j : Nat, j ≤ xn ∧ vj = .int .i64 j ∧ Hid (Ls w wr z zs.length (incs (List.replicate zs.length 0) (fl (R.take i) ++ x.2.take j))) ∧ Hid (In kK wr (fun g => Lt z g ∧ g ≠ w.heap.size) (some ⟨b, off, none⟩) cr R) ∧ Hid (In (kN .i64) wr (fun g => Lt z g ∧ g ≠ w.heap.size) xA xc x.2)) (fun _ vj _ => xn - (intOf vj).toNat)
          case atStart => exact ⟨0, by omega, rfl, by rw [List.take_zero, List.append_nil]; exact HL7, HR7, XI7⟩
          case round =>
            clear HL7 HR7 XI7
            obtain ⟨j, hj, rfl, HL, HR, HI⟩ := hrel
            by_cases hlt3 : j < xn
            · have hjl : j < x.2.length := by rw [← HXN.out]; exact hlt3
              obtain ⟨b2, o2, rfl, hb2, hc2⟩ := HI.out.num hjl
              obtain ⟨q, hq, hqn⟩ := hxg.out.2.2.2.2 x.2[j] (List.getElem_mem _)
              rw [hq] at hc2
              obtain ⟨out, ho⟩ : ∃ out, out = incs (List.replicate zs.length 0) (fl (R.take i) ++ x.2.take j) := ⟨_, rfl⟩
              have hbd : 0 ≤ out.getD q 0 ∧ out.getD q 0 ≤ 10000000 := by
                have h1 := incs_bd (n := zs.length) (ss := fl (R.take i) ++ x.2.take j) (fun s hs => by
                  rcases List.mem_append.1 hs with h | h
                  · exact fl_dom hgood2.out s (by
                      obtain ⟨p, hp, hs⟩ := List.mem_flatMap.1 h
                      exact List.mem_flatMap.2 ⟨p, List.mem_of_mem_take hp, hs⟩)
                  · exact hxg.out.2.2.2.2 s (List.mem_of_mem_take h)) q
                have h2 := fl_len (row := R.take i) (fun p hp => hgood2.out p (List.mem_of_mem_take hp))
                have h3 := hxg.out.2.2.2.1
                have h4 := hC.out
                have h5 := List.length_take_le i R
                have h6 : (R.take i).length * 2 ^ (most - 1) ≤ 510 * 1024 := Nat.mul_le_mul (by omega) h4
                have h7 := List.length_take_le' j x.2
                rw [List.length_append] at h1
                rw [ho]
                omega
              have hsn2 : Hid (incs (List.replicate zs.length 0) (fl (R.take i) ++ x.2.take (j + 1)) = out.set q (out.getD q 0 + 1)) := by
                show _ = _
                rw [List.take_succ_eq_append_getElem hjl, ← List.append_assoc, incs_app, ← ho, hq]
                show inc out (q : Int) = _
                unfold inc
                rw [Int.toNat_natCast]
              rw [← ho] at HL
              have hol := HL.out.len
              have hrc := HL.out.row.cell (i := q) (by omega)
              have hrf := HL.out.row.free q
              rw [← getD_lt out 0 (by omega)] at hrc
              obtain ⟨y, hy⟩ : ∃ y, y = out.getD q 0 := ⟨_, rfl⟩
              rw [← hy] at hrc hbd
              have HY := Lib.hid hy
              have h0 := HL.out.o0
              have hwy : IntKind.i64.wrap (y + 1) = y + 1 := IntWalk.i64_in _ (by omega)
              have hq0 : (0 : Int) ≤ (q : Int) := by omega
              have hqn2 : (q : Int) < (zs.length : Int) := by omega
              have hj0 : (0 : Int) ≤ (j : Int) := by omega
              have hzz := HL.out.big
              have HR8 : Hid (In kK (wr.setCell ⟨z, q, none⟩ (.int .i64 (y + 1))) (fun g => Lt z g ∧ g ≠ w.heap.size) (some ⟨b, off, none⟩) cr R) := HR.out.mono (fun g hg => Below.heap_setCell _ _ _ _ (by have := hg.1; unfold Lt at this; show g ≠ z; omega)) (fun _ h => h)
              have HI8 : Hid (In (kN .i64) (wr.setCell ⟨z, q, none⟩ (.int .i64 (y + 1))) (fun g => Lt z g ∧ g ≠ w.heap.size) (some ⟨b2, o2, none⟩) xc x.2) := HI.out.mono (fun g hg => Below.heap_setCell _ _ _ _ (by have := hg.1; unfold Lt at this; show g ≠ z; omega)) (fun _ h => h)
              have HL8 : Hid (Ls w (wr.setCell ⟨z, q, none⟩ (.int .i64 (y + 1))) z zs.length (incs (List.replicate zs.length 0) (fl (R.take i) ++ x.2.take (j + 1)))) := by
                show Ls _ _ _ _ _
                rw [hsn2.out, ← HY.out]; exact HL.out.set q (y + 1)
              clear hy ho hq HL HR HI hbd
              go_wp2
              go_roundw
              case rel => exact ⟨j + 1, by omega, by go_num, HL8, HR8, HI8⟩
              case measure => simp [intOf]; omega
            · have hjx : j = xn := by omega
              subst hjx
              have HL9 : Hid (Ls w wr z zs.length (incs (List.replicate zs.length 0) (fl (R.take (i + 1))))) := by
                show Ls _ _ _ _ _
                rw [hsn.out]
                have := HL.out
                rwa [HXN.out, List.take_length] at this
              clear HL HI
              go_wp2
              go_roundw
              case rel => exact ⟨i + 1, by omega, by go_num, HL9, HR⟩
              case measure => simp [intOf]; omega
        · have him2 : i = m := by omega
          obtain ⟨m', hm'⟩ : ∃ m', m' = m := ⟨m, rfl⟩
          rw [← hm'] at HRD
          have hmm : m' + 2 = 2 * us.length := by omega
          clear hm'
          subst him2
          have HL9 : Hid (Ls w wr z zs.length (incs (List.replicate zs.length 0) (fl R))) := by
            show Ls _ _ _ _ _
            have := HL.out
            rwa [← hlen.out, List.take_length] at this
          have g0 := HL9.out.o0
          have g1 := HL9.out.fo
          have g2 := HL9.out.e0
          have g3 := HL9.out.fe
          have hzz := HL9.out.big
          clear HL HR
          go_wp2
          have hne1 : (⟨w.heap.size + 1, 0, none⟩ : Addr) ≠ ⟨w.heap.size, 0, none⟩ := by simp
          have q0 : ((wr.setCell ⟨w.heap.size, 0, none⟩ (.slice (some ⟨z, 0, none⟩) zs.length zs.length)).setCell ⟨w.heap.size + 1, 0, none⟩ (.int .i64 0)).cell? ⟨w.heap.size, 0, none⟩ = some (.slice (some ⟨z, 0, none⟩) zs.length zs.length) := by
            rw [World.cell?_setCell_other _ _ _ _ (by simp)]; exact World.cell?_setCell_same _ _ _ g0
          have q1 : ((wr.setCell ⟨w.heap.size, 0, none⟩ (.slice (some ⟨z, 0, none⟩) zs.length zs.length)).setCell ⟨w.heap.size + 1, 0, none⟩ (.int .i64 0)).cell? ⟨w.heap.size + 1, 0, none⟩ = some (.int .i64 0) :=
            World.cell?_setCell_same _ _ _ (by rw [World.cell?_setCell_other _ _ _ _ (by simp)]; exact g2)
          have hb5 : Below w.heap.size w ((wr.setCell ⟨w.heap.size, 0, none⟩ (.slice (some ⟨z, 0, none⟩) zs.length zs.length)).setCell ⟨w.heap.size + 1, 0, none⟩ (.int .i64 0)) := (HL9.out.bel.setCell (Nat.le_refl _) _).setCell (by simp) _
          have hrow9 : Row .i64 3 ((wr.setCell ⟨w.heap.size, 0, none⟩ (.slice (some ⟨z, 0, none⟩) zs.length zs.length)).setCell ⟨w.heap.size + 1, 0, none⟩ (.int .i64 0)) z (incs (List.replicate zs.length 0) (fl R)) := (HL9.out.row.far (by show z ≠ w.heap.size; omega) _).far (by show z ≠ w.heap.size + 1; omega) _
          have hlen9 := HL9.out.len
          have hin9 := hrow9.inn (c := zs.length) (by omega) (by unfold maxLen; omega)
          generalize hW : ((wr.setCell ⟨w.heap.size, 0, none⟩ (.slice (some ⟨z, 0, none⟩) zs.length zs.length)).setCell ⟨w.heap.size + 1, 0, none⟩ (.int .i64 0)) = w9 at *
          clear hW g0 g1 g2 g3 HL9
          refine leaves_cons (f := 29) (args := #[.pointer (some ⟨w.heap.size + 1, 0, none⟩), .func (.func 30) #[] #[.pointer (some ⟨w.heap.size, 0, none⟩)]]) (by simp) (by simp [go_sem]) ?_
          refine (caught_idle _ _ _).mono ?_
          rintro e u' w'' ⟨rfl, rfl, rfl⟩
          simp only [Leaves, settle, results, Try.results24]
          simp [go_sem, q0, q1]
          refine ⟨us, HP.out, HSR.out, _, _, ⟨rfl, rfl⟩, ?_, hb5⟩
          rw [show 2 * us.length - 2 = m' by omega, ← HPD.out, ← HRD.out]
          exact hin9
end Go.Proofs.Ytjmkkcbilpidnaa.Limit
