/- The walks of the closures that put two lists of symbols together. -/
import Derived.Test.YtjmkkcbilpidnaaFirst
import Derived.ArgAppend
namespace Go.Proofs.Ytjmkkcbilpidnaa.Limit
open Go Go.RowKit Go.Proofs.Ytjmkkcbilpidnaa.W Go.Proofs.Ytjmkkcbilpidnaa.Tally
set_option linter.unusedVariables false
set_option linter.unusedSimpArgs false

theorem in_cells {w : World} {S : Nat → Prop} {b : Addr} {c : Nat} {xs : List Int} (h : In (kN .i64) w S (some b) c xs) : ∀ j u, (xs.map (Value.int .i64))[j]? = some u → w.cell? (b.add j) = some u := by
  intro j u hu
  have hj : j < xs.length := by have := (List.getElem?_eq_some_iff.1 hu).1; simpa using this
  obtain ⟨b', off, e, _, hc⟩ := h.num hj
  injection e with e
  subst e
  rw [Addr.add_lit, hc]
  simpa [List.getElem?_eq_getElem hj] using hu
theorem own_of_map {e : TypeId} {w : World} {base : Nat} {v : Value} {zs : List Int} (h : w.ownsRow base e 1 v zs.length (zs.map (Value.int .i64))) : Own (kN .i64) e w base v zs := by
  have hf : (zs.map fun z => [Value.int .i64 z]).flatten = zs.map (Value.int .i64) := by
    clear h
    induction zs with
    | nil => rfl
    | cons z zs ih => rw [List.map_cons, List.flatten_cons, ih]; rfl
  refine ⟨zs.map fun z => [Value.int .i64 z], by rw [hf]; exact h, by simp, fun j x cs hx hc => ?_⟩
  rw [List.getElem?_map, hx] at hc
  simp at hc
  exact hc.symm
/-- A function that puts two lists together. -/
def Both (P : Program) (g : Nat) : Prop := Ent P g ∧ ∀ (A B : Option Addr) (cA cB : Nat) (xs ys : List Int) (w : World), In (kN .i64) w (Lt w.heap.size) A cA xs → In (kN .i64) w (Lt w.heap.size) B cB ys → 0 < xs.length → 0 < ys.length → xs.length + ys.length ≤ 65536 →
    Calls P g #[.slice A xs.length cA, .slice B ys.length cB] w fun e w' => ∃ A' c', e = .returned (.slice A' (xs ++ ys).length c') ∧ In (kN .i64) w' (fun g => w.heap.size ≤ g ∧ g < w'.heap.size) A' c' (xs ++ ys) ∧ Below w.heap.size w w'

set_option maxHeartbeats 400000 in
theorem bothLengths : Both Try.prog 36 := by
  refine ⟨ent_of Try.func36 (by kernel_rfl) rfl, fun A B cA cB xs ys w hA hB h1 h2 hl => ?_⟩
  obtain ⟨b1, o1, rfl, _, _⟩ := hA.num h1
  obtain ⟨b2, o2, rfl, _, _⟩ := hB.num h2
  obtain ⟨i, hi, hz0, hz1, hz2⟩ := info_parts info_int
  have hcap := hA.1
  have hpos : ¬ xs.length = 0 := by omega
  have hne : xs ≠ [] := by intro h; rw [h] at h1; simp at h1
  go_enter Try.func36, Try.ntmps36
  go_wp2_with (at_builtin; go_must (refine wpList_append_grows _ rfl _ _ 24 rfl 3 i (.int .i64 0) 1 8 Try.underlying24 hi hz0 hz1 hz2 rfl (by decide) (some ⟨b1, o1, none⟩) xs.length xs.length (xs.map (Value.int .i64)) rfl (fun h => by cases h) (by simp) (fun b hb => by injection hb with hb; subst hb; exact in_cells hA) ⟨b2, o2, none⟩ ys.length cB (ys.map (Value.int .i64)) rfl (by simp) (in_cells hB) (by simp [Value.oneCell']) (by omega) (by unfold maxLen; omega) (by omega) ?_))
  intro v' w' hown hg
  have ho : Own (kN .i64) 3 w' w.heap.size v' (xs ++ ys) := own_of_map (by rw [List.length_append, List.map_append]; exact hown)
  obtain ⟨A', c', rfl, hin⟩ := ho.slGe
  have hb : Below w.heap.size w w' := (Below.refl _ _).grown hg (Nat.le_refl _) (fun g hg => by cases hg)
  clear hown ho hA hB
  go_wp2
  go_ret
  exact ⟨A', c', rfl, hin, hb⟩
set_option maxHeartbeats 400000 in
theorem bothUnlimited : Both Try.prog 42 := by
  refine ⟨ent_of Try.func42 (by kernel_rfl) rfl, fun A B cA cB xs ys w hA hB h1 h2 hl => ?_⟩
  obtain ⟨b1, o1, rfl, _, _⟩ := hA.num h1
  obtain ⟨b2, o2, rfl, _, _⟩ := hB.num h2
  obtain ⟨i, hi, hz0, hz1, hz2⟩ := info_parts info_int
  have hcap := hA.1
  have hpos : ¬ xs.length = 0 := by omega
  have hne : xs ≠ [] := by intro h; rw [h] at h1; simp at h1
  go_enter Try.func42, Try.ntmps42
  go_wp2_with (at_builtin; go_must (refine wpList_append_grows _ rfl _ _ 24 rfl 3 i (.int .i64 0) 1 8 Try.underlying24 hi hz0 hz1 hz2 rfl (by decide) (some ⟨b1, o1, none⟩) xs.length xs.length (xs.map (Value.int .i64)) rfl (fun h => by cases h) (by simp) (fun b hb => by injection hb with hb; subst hb; exact in_cells hA) ⟨b2, o2, none⟩ ys.length cB (ys.map (Value.int .i64)) rfl (by simp) (in_cells hB) (by simp [Value.oneCell']) (by omega) (by unfold maxLen; omega) (by omega) ?_))
  intro v' w' hown hg
  have ho : Own (kN .i64) 3 w' w.heap.size v' (xs ++ ys) := own_of_map (by rw [List.length_append, List.map_append]; exact hown)
  obtain ⟨A', c', rfl, hin⟩ := ho.slGe
  have hb : Below w.heap.size w w' := (Below.refl _ _).grown hg (Nat.le_refl _) (fun g hg => by cases hg)
  clear hown ho hA hB
  go_wp2
  go_ret
  exact ⟨A', c', rfl, hin, hb⟩
end Go.Proofs.Ytjmkkcbilpidnaa.Limit
