/- What the lengths of Lengths are like, and what they cost. -/
import Derived.Test.YtjmkkcbilpidnaaLen
namespace Go.Proofs.Ytjmkkcbilpidnaa.Limit
open Go.Proofs.Ytjmkkcbilpidnaa.W Go.Proofs.Ytjmkkcbilpidnaa.Tally
set_option linter.unusedVariables false
set_option linter.unusedSimpArgs false

theorem used_nodup (zs : List Int) : (used zs).Nodup := by
  unfold used usedTo
  have h : ((List.range zs.length).filter fun i => decide (0 < zs.getD i 0)).Nodup := List.nodup_range.filter _
  exact List.Pairwise.map Int.ofNat (fun a b hab e => hab (by injection e)) h
theorem fl_packs (zs us : List Int) : fl (packs zs us) = us := by
  unfold fl packs
  induction us with
  | nil => rfl
  | cons u us ih => rw [List.map_cons, List.flatMap_cons, ih]; rfl
theorem packs_wt (zs us : List Int) : Wt (fun s => zs.getD s.toNat 0) (packs zs us) := fun p hp => by
  obtain ⟨s, hs, rfl⟩ := List.mem_map.1 hp
  simp
theorem fl_take_count (s : Int) (row : List PK) (m : Nat) : (fl (row.take m)).count s ≤ (fl row).count s := by
  conv => rhs; rw [← List.take_append_drop m row]
  unfold fl
  rw [List.flatMap_append, List.count_append]
  omega
/-- the symbols counted -/
def syms (zs us : List Int) (most : Nat) : List Int := fl ((rowOf (packs zs us) (most - 1)).take (2 * us.length - 2))
def lens (zs us : List Int) (most : Nat) : List Int := incs (List.replicate zs.length 0) (syms zs us most)
section
variable {zs us : List Int} {most : Nat}
theorem fl_mem_of {row : List PK} {s : Int} {p : PK} (hp : p ∈ row) (hs : s ∈ p.2) : s ∈ fl row := List.mem_flatMap.2 ⟨p, hp, hs⟩
theorem fl_sub {U : List Int} {single : List PK} (h : ∀ s ∈ fl single, s ∈ U) : ∀ k, ∀ s ∈ fl (rowOf single k), s ∈ U
  | 0 => h
  | k + 1 => fun s hs => by
    have := (fl_mrg single (prs (rowOf single k))).mem_iff.1 hs
    rcases List.mem_append.1 this with h1 | h1
    · exact h s h1
    · have h2 : 0 < (fl (rowOf single k)).count s := Nat.lt_of_lt_of_le (List.count_pos_iff.2 h1) (fl_prs s _)
      exact fl_sub h k s (List.count_pos_iff.1 h2)
theorem syms_used (hp : us.Perm (used zs)) : ∀ s ∈ syms zs us most, s ∈ used zs := fun s hs => by
  obtain ⟨p, hp', hs'⟩ := List.mem_flatMap.1 hs
  refine fl_sub (single := packs zs us) (U := used zs) (fun s hs => ?_) (most - 1) s (fl_mem_of (List.mem_of_mem_take hp') hs')
  rw [fl_packs] at hs
  exact hp.mem_iff.1 hs
theorem syms_dom (hp : us.Perm (used zs)) : ∀ s ∈ syms zs us most, ∃ j : Nat, s = j ∧ j < zs.length := fun s hs => by
  obtain ⟨j, hj, hjl, _⟩ := used_mem (syms_used hp s hs)
  exact ⟨j, hj, hjl⟩
theorem lens_at (hp : us.Perm (used zs)) (i : Nat) : (lens zs us most).getD i 0 = ((syms zs us most).count (i : Int) : Int) := by
  unfold lens
  rw [incs_at _ _ _ (by simpa using syms_dom hp)]
  have h0 : (List.replicate zs.length (0 : Int)).getD i 0 = 0 := by
    rw [List.getD, List.getElem?_replicate]; split <;> rfl
  rw [h0]; omega
theorem lens_len : (lens zs us most).length = zs.length := by unfold lens; rw [incs_len]; simp
theorem syms_count (hp : us.Perm (used zs)) (h1 : 1 ≤ most) (s : Int) : (syms zs us most).count s ≤ most := by
  have h2 := fl_take_count s (rowOf (packs zs us) (most - 1)) (2 * us.length - 2)
  have h3 := rowOf_count s (single := packs zs us) (by
    rw [fl_packs, hp.count_eq]
    exact List.nodup_iff_count.1 (used_nodup zs) s) (most - 1)
  unfold syms
  omega
theorem lens_bd (hp : us.Perm (used zs)) (h1 : 1 ≤ most) (h2 : most ≤ 11) : ∀ z ∈ lens zs us most, 0 ≤ z ∧ z ≤ 60 := fun z hz => by
  obtain ⟨i, hi, rfl⟩ := List.getElem_of_mem hz
  have := lens_at (most := most) hp i
  rw [getD_lt _ _ hi] at this
  have h3 := syms_count (most := most) hp h1 (i : Int)
  omega
theorem lens_pos (hh : Hist zs) (hp : us.Perm (used zs)) (hu : 2 ≤ us.length) (i : Nat) (hi : (i : Int) ∈ used zs) : ∃ h : i < (lens zs us most).length, 0 < (lens zs us most)[i] := by
  obtain ⟨j, hj, hjl, _⟩ := used_mem hi
  have hij : i = j := by omega
  subst hij
  have hl : i < (lens zs us most).length := by rw [lens_len]; exact hjl
  refine ⟨hl, ?_⟩
  have h1 := lens_at (most := most) hp i
  rw [getD_lt _ _ hl] at h1
  have hg := packs_good hh (us := us) (fun s hs => by
    obtain ⟨j, hj, hjl, _⟩ := used_mem (hp.mem_iff.1 hs)
    exact ⟨j, hj, hjl⟩)
  have hx : (zs.getD ((i : Int)).toNat 0, [(i : Int)]) ∈ packs zs us := List.mem_map.2 ⟨_, hp.mem_iff.2 hi, rfl⟩
  have ht := single_taken (fun p hp => (hg p hp).1) (by rw [packs_len]; exact hu) (most - 1) hx
  rw [packs_len] at ht
  have : 0 < (syms zs us most).count (i : Int) := List.count_pos_iff.2 (fl_mem_of ht (by simp))
  omega
theorem lens_cost (hp : us.Perm (used zs)) : lcost zs (lens zs us most) = wcost (us.map fun s => zs.getD s.toNat 0) (most - 1) := by
  unfold lcost lcTo
  rw [List.take_length]
  have e : ((used zs).map fun s => zs.getD s.toNat 0 * (lens zs us most).getD s.toNat 0) = (used zs).map fun s => zs.getD s.toNat 0 * ((syms zs us most).count s : Int) := by
    apply List.map_congr_left
    intro s hs
    obtain ⟨j, rfl, _, _⟩ := used_mem hs
    rw [Int.toNat_natCast, lens_at hp]
  rw [e, sum_count (fun s => zs.getD s.toNat 0) (used zs) (used_nodup zs) _ (syms_used hp)]
  unfold syms
  rw [fl_sum (fun p hp => rowOf_wt (packs_wt zs us) _ p (List.mem_of_mem_take hp)), List.map_take, rowOf_w]
  unfold wcost
  have hm : (packs zs us).map (fun p => p.1) = us.map fun s => zs.getD s.toNat 0 := by unfold packs; rw [List.map_map]; rfl
  rw [hm, List.length_map]
end
end Go.Proofs.Ytjmkkcbilpidnaa.Limit
