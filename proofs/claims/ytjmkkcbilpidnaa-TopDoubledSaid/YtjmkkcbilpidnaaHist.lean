/- The walk of tally.Histogram. -/
import Derived.Test.YtjmkkcbilpidnaaWords
import Derived.Test.YtjmkkcbilpidnaaProg
namespace Go.Proofs.Ytjmkkcbilpidnaa.Hist
open Go Go.RowKit Go.Proofs.Ytjmkkcbilpidnaa.W
set_option linter.unusedVariables false
set_option linter.unusedSimpArgs false

def cnt (bs : List UInt8) (i : Nat) : Nat := bs.countP fun b => b.toNat == i
def hist (bs : List UInt8) : List Int := (List.range 256).map fun i => (cnt bs i : Int)
/-- Block g holds the counts of bs. -/
def Cnt (w : World) (g : Nat) (bs : List UInt8) : Prop := ∃ cur : Array Value, w.heap[g]? = some (.cells cur 38 (0, 0)) ∧ cur.size = 256 ∧ ∀ i, i < 256 → cur[i]? = some (.int .i64 (cnt bs i : Int))
theorem Cnt.cell {w : World} {g : Nat} {bs : List UInt8} (h : Cnt w g bs) {i : Nat} (hi : i < 256) : w.cell? ⟨g, i, none⟩ = some (.int .i64 (cnt bs i : Int)) := by
  obtain ⟨cur, hg, hs, hc⟩ := h
  rw [cell_of_row w g i cur _ (0, 0) hg]; exact hc i hi
theorem Cnt.free {w : World} {g : Nat} {bs : List UInt8} (h : Cnt w g bs) (i : Nat) : w.frozen? ⟨g, i, none⟩ = false := by
  obtain ⟨cur, hg, hs, hc⟩ := h
  simp [World.frozen?, hg]
theorem cnt_snoc (bs : List UInt8) (b : UInt8) (i : Nat) : cnt (bs ++ [b]) i = cnt bs i + if b.toNat = i then 1 else 0 := by
  simp [cnt, List.countP_append, List.countP_cons]
theorem cnt_le (bs : List UInt8) (i : Nat) : cnt bs i ≤ bs.length := List.countP_le_length
theorem Cnt.set {w : World} {g : Nat} {bs : List UInt8} (h : Cnt w g bs) (b : UInt8) {x : Int} (hx : x = (cnt bs b.toNat : Int) + 1) : Cnt (w.setCell ⟨g, b.toNat, none⟩ (.int .i64 x)) g (bs ++ [b]) := by
  obtain ⟨cur, hg, hs, hc⟩ := h
  refine ⟨cur.setIfInBounds b.toNat (.int .i64 x), by simp [World.setCell, Array.getElem?_modify, hg], by simpa using hs, fun i hi => ?_⟩
  have hb := b.toNat_lt
  rw [Array.getElem?_setIfInBounds]
  by_cases e : b.toNat = i
  · subst e
    rw [if_pos rfl, if_pos (by omega), cnt_snoc, if_pos rfl, hx]; rfl
  · rw [if_neg e, hc i hi, cnt_snoc, if_neg e]; rfl

theorem flat_snoc (ps : List (List UInt8)) (k : Nat) (h : k < ps.length) : (ps.take (k + 1)).flatten = (ps.take k).flatten ++ ps[k] := by
  rw [List.take_succ_eq_append_getElem h, List.flatten_append, List.flatten_singleton]
theorem flat_le (ps : List (List UInt8)) (k m : Nat) (h : k < ps.length) : ((ps.take k).flatten ++ ps[k].take m).length ≤ ps.flatten.length := by
  have h1 := flat_snoc ps k h
  have h2 : ps.flatten = (ps.take (k + 1)).flatten ++ (ps.drop (k + 1)).flatten := by rw [← List.flatten_append, List.take_append_drop]
  rw [h2, h1]
  simp only [List.length_append, List.length_take]
  omega
def Z : Array Value := Array.replicate 256 (.int .i64 0)
theorem zero_arr (w : World) : (zeroValue 38).run Try.prog w = .ok (.agg Z) w := by kernel_rfl
theorem Cnt.new (w : World) : Cnt (w.alloc (.cells Z 38)) w.heap.size [] :=
  ⟨Z, heap_alloc_new w _, by simp [Z], fun i hi => by simp [Z, hi, cnt]⟩
set_option maxRecDepth 100000 in
set_option maxHeartbeats 1000000 in
theorem histogram (A : Option Addr) (c : Nat) (ps : List (List UInt8)) (w : World) (h : In (kS kY) w (Lt w.heap.size) A c ps) (hl : ps.flatten.length ≤ 1000000) (hl2 : ps.length ≤ 1000) :
    Calls Try.prog 5 #[.slice A ps.length c] w fun e w' => ∃ v, e = .returned v ∧ Sl (kN .i64) w' (Lt w'.heap.size) v (hist ps.flatten) ∧ Below w.heap.size w w' := by
  go_enter Try.func5, Try.ntmps5
  have hal := zero_arr
  have hcn := Cnt.new w
  have hb0 : Below w.heap.size w (w.alloc (.cells Z 38)) := (Below.refl _ _).alloc (Nat.le_refl _) _
  have hsz : w.heap.size < (w.alloc (.cells Z 38)).heap.size := by simp
  go_wp2_with fail
  generalize hw1 : w.alloc (.cells Z 38) = w1 at *
  have HW := Lib.hid hw1
  clear hw1
  go_loopw [10] (fun i wr => ∃ k : Nat, k ≤ ps.length ∧ i = .int .i64 k ∧ Cnt wr w.heap.size (ps.take k).flatten ∧ Below w.heap.size w wr) (fun i _ => ps.length - (intOf i).toNat)
  case atStart => exact ⟨0, Nat.zero_le _, rfl, hcn, hb0⟩
  case round =>
    obtain ⟨k, hk, rfl, hcr, hbr⟩ := hrel
    by_cases hlt : k < ps.length
    · obtain ⟨b, off, A', c', rfl, hS, hc, hin⟩ := (h.below hbr (Nat.le_refl _)).slice hlt
      clear hcn hb0
      obtain ⟨wo, rfl⟩ : ∃ wo : World, wo = wr := ⟨_, rfl⟩
      go_wp2_with fail
      go_loopw [16] (fun i wr => ∃ m : Nat, m ≤ ps[k].length ∧ i = .int .i64 m ∧ Cnt wr w.heap.size ((ps.take k).flatten ++ ps[k].take m) ∧ Below w.heap.size wo wr) (fun i _ => ps[k].length - (intOf i).toNat)
      case atStart => exact ⟨0, Nat.zero_le _, rfl, by simpa using hcr, Below.refl _ _⟩
      case round =>
        obtain ⟨m, hm, rfl, hci, hbi⟩ := hrel
        by_cases hmt : m < ps[k].length
        · obtain ⟨b2, off2, rfl, hS2, hc2⟩ := (hin.below hbi (Nat.le_refl _)).byte hmt
          have hcc := hci.cell (i := ps[k][m].toNat) ps[k][m].toNat_lt
          have hcf := hci.free ps[k][m].toNat
          have hu := ps[k][m].toNat_lt
          have hcl := cnt_le ((ps.take k).flatten ++ ps[k].take m) ps[k][m].toNat
          have hcl2 := flat_le ps k m hlt
          have hmin : (2147483648 ≤ (cnt ((ps.take k).flatten ++ ps[k].take m) ps[k][m].toNat : Int) + 1) = False := eq_false (by omega)
          have hmb : m ≤ 1000000 := by
            have := hcl2
            simp only [List.length_append, List.length_take] at this
            omega
          have hset := Lib.hid (hci.set ps[k][m] rfl)
          have hnx := Lib.hid (show (ps.take k).flatten ++ ps[k].take m ++ [ps[k][m]] = (ps.take k).flatten ++ ps[k].take (m + 1) by rw [List.take_succ_eq_append_getElem hmt, List.append_assoc])
          go_wp2_with fail
          go_roundw
          case rel => exact ⟨m + 1, by omega, by go_num, by rw [← hnx.out]; exact hset.out, hbi.setCell (Nat.le_refl _) _⟩
          case measure => simp [intOf]; omega
        · have hmm : m = ps[k].length := by omega
          subst hmm
          have hfs := Lib.hid (flat_snoc ps k hlt)
          rw [List.take_length] at hci
          go_wp2
          go_roundw
          case rel => exact ⟨k + 1, by omega, by go_num, by rw [hfs.out]; exact hci, hbr.trans hbi⟩
          case measure => simp [intOf]; omega
    · have hkk : k = ps.length := by omega
      subst hkk
      rw [List.take_length] at hcr
      have hw2 : w.heap.size < wr.heap.size := by obtain ⟨cur, hg, _⟩ := hcr; exact (Array.getElem?_eq_some_iff.1 hg).1
      go_wp2
      go_ret
      refine ⟨_, rfl, ⟨some ⟨w.heap.size, 0, none⟩, 256, by simp [hist], by simp [hist], by unfold maxLen; omega, fun j x hx => ?_⟩, hbr⟩
      have hj : j < 256 := by have := (List.getElem?_eq_some_iff.1 hx).1; simpa [hist] using this
      have hx' : x = (cnt ps.flatten j : Int) := by simp [hist, hj] at hx; exact hx.symm
      refine ⟨w.heap.size, 0, [.int .i64 x], rfl, hw2, rfl, fun t u hu => ?_⟩
      have ht : t = 0 := by have := (List.getElem?_eq_some_iff.1 hu).1; simpa using this
      subst ht
      simp at hu; subst hu
      simp only [kN, Nat.mul_one, Nat.zero_add, Nat.add_zero]
      rw [hx']
      exact hcr.cell hj
end Go.Proofs.Ytjmkkcbilpidnaa.Hist
