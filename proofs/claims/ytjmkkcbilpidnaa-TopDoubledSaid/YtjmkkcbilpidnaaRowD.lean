/- What a law is told of its arguments, as the walks' vocabulary has it. -/
import Derived.Test.YtjmkkcbilpidnaaTopD
import Derived.Test.YtjmkkcbilpidnaaRows
import Derived.WalkKit
import Derived.ProofKit
import Derived.OpenShut
import Derived.ShutString
import Derived.ChangeOld
import Derived.Below
namespace Go.Proofs.Ytjmkkcbilpidnaa.Args
open Go Go.RowKit Go.Proofs.Ytjmkkcbilpidnaa.W
set_option linter.unusedVariables false
set_option linter.unusedSimpArgs false

theorem i64_bd {n : Int} (h : (Lit.int .i64 n).wf = true) : -9223372036854775808 ≤ n ∧ n ≤ 9223372036854775807 := by
  simp [Lit.wf, IntKind.min, IntKind.max, IntKind.signed, IntKind.bits] at h
  omega
theorem u8_bd {n : Int} (h : (Lit.int .u8 n).wf = true) : 0 ≤ n ∧ n < 256 := by
  simp [Lit.wf, IntKind.min, IntKind.max, IntKind.signed, IntKind.bits] at h
  omega
/-- A slice of bytes that came in. -/
def IsRow (k : IntKind) (w : World) (a : Option Addr) (len cap : Nat) (zs : List Int) : Prop :=
  (a = none ∧ len = 0 ∧ cap = 0 ∧ zs = []) ∨
  ∃ x, a = some x ∧ len ≤ cap ∧ cap ≤ maxLen ∧ zs.length = cap ∧ (∀ i, i < zs.length → w.cell? (x.add i) = some (.int k (zs.getD i 0))) ∧ ∀ n ∈ zs, (Lit.int k n).wf = true
theorem bytes_of {w : World} {a : Option Addr} {len cap : Nat} {zs : List Int} (h : IsRow .u8 w a len cap zs) : ∃ bs : List UInt8, bs.length = len ∧ In kY w (Lt w.heap.size) a cap bs := by
  rcases h with ⟨rfl, rfl, rfl, rfl⟩ | ⟨x, rfl, hl, hm, hz, hc, hw⟩
  · exact ⟨[], rfl, In.nil _ _ _ _ _ (by unfold maxLen; omega)⟩
  · refine ⟨(zs.take len).map fun z => UInt8.ofNat z.toNat, by simp; omega, by simp; omega, hm, fun j y hy => ?_⟩
    have hj : j < len := by have := (List.getElem?_eq_some_iff.1 hy).1; simp at this; omega
    have hcj := hc j (by omega)
    obtain ⟨b, off, spot⟩ := x
    have hspot : spot = none := by simpa [Addr.add] using World.cell?_spot (hc 0 (by omega))
    subst hspot
    rw [Addr.add_lit] at hcj
    have hb : b < w.heap.size := World.block_lt_of_cell? w _ hcj
    have hwj := u8_bd (hw (zs.getD j 0) (by rw [getD_lt _ _ (by omega)]; exact List.getElem_mem _))
    rw [List.getElem?_map, List.getElem?_take, if_pos hj, List.getElem?_eq_getElem (by omega)] at hy
    simp at hy
    refine ⟨b, off, [.int .u8 (y.toNat : Int)], rfl, hb, rfl, fun t u hu => ?_⟩
    have ht : t = 0 := by have := (List.getElem?_eq_some_iff.1 hu).1; simpa using this
    subst ht
    simp at hu; subst hu
    simp only [kY, Nat.mul_one, Nat.add_zero]
    rw [hcj, ← hy, getD_lt _ _ (by omega)]
    rw [getD_lt _ _ (by omega)] at hwj
    congr 2
    simp
    omega
end Go.Proofs.Ytjmkkcbilpidnaa.Args
