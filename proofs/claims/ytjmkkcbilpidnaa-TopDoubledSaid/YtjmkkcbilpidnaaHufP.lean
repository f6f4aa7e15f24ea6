/- Codes without a limit, in plain Lean: each used symbol is counted at least once, and seldom (Fibonacci's numbers). -/
import Derived.Test.YtjmkkcbilpidnaaHuf
namespace Go.Proofs.Ytjmkkcbilpidnaa.Limit
open Go.Proofs.Ytjmkkcbilpidnaa.W Go.Proofs.Ytjmkkcbilpidnaa.Tally
set_option linter.unusedVariables false
set_option linter.unusedSimpArgs false

def fib : Nat → Int
  | 0 => 1
  | 1 => 1
  | n + 2 => fib (n + 1) + fib n
theorem fib_pos : ∀ n, 1 ≤ fib n
  | 0 => by simp [fib]
  | 1 => by simp [fib]
  | n + 2 => by have h1 := fib_pos (n + 1); have h2 := fib_pos n; simp only [fib]; omega
theorem fib_step : ∀ n, fib n ≤ fib (n + 1)
  | 0 => by simp [fib]
  | n + 1 => by have h2 := fib_pos n; simp only [fib]; omega
theorem fib_le {a : Nat} : ∀ {b : Nat}, a ≤ b → fib a ≤ fib b
  | 0, h => by rw [show a = 0 by omega]; exact Int.le_refl _
  | b + 1, h => by
    by_cases e : a = b + 1
    · subst e; exact Int.le_refl _
    · have h1 := fib_le (a := a) (b := b) (by omega)
      have h2 := fib_step b
      omega
theorem fib_sum : ∀ n, fib (n + 1) ≤ fib n + fib (n - 1)
  | 0 => by simp [fib]
  | n + 1 => by simp only [fib, Nat.add_sub_cancel]; omega

/-- what holds of the row, and of the symbols C counted so far -/
structure HI (row : List PK) (C : List Int) : Prop where
  srt : row.Pairwise fun a b => a.1 ≤ b.1
  nd : (fl row).Nodup
  pos : ∀ p ∈ row, 1 ≤ p.1
  one : ∀ p ∈ row, ∀ s ∈ p.2, fib (C.count s) ≤ p.1
  all : ∀ p ∈ row, ∀ s ∈ p.2, ∀ q ∈ row, fib (C.count s - 1) ≤ q.1
  low : ∀ p ∈ row, ∀ s ∈ p.2, 1 ≤ C.count s ∨ p.2.length = 1
theorem fl_cons (p : PK) (l : List PK) : fl (p :: l) = p.2 ++ fl l := by unfold fl; rw [List.flatMap_cons]
theorem hnext_fl : ∀ (row : List PK), (fl (hnext row)).Perm (fl row)
  | [] => List.Perm.refl _
  | [x] => List.Perm.refl _
  | x :: y :: l => by
    refine (fl_mrg _ _).trans ?_
    have e1 : fl (x :: y :: l) = (x.2 ++ y.2) ++ fl l := by rw [fl_cons, fl_cons, List.append_assoc]
    have e2 : fl [(x.1 + y.1, x.2 ++ y.2)] = x.2 ++ y.2 := by rw [fl_cons, show fl ([] : List PK) = [] from rfl, List.append_nil]
    rw [e1, e2]
    exact List.perm_append_comm
theorem mrg_srt {a b : List PK} (ha : a.Pairwise fun x y => x.1 ≤ y.1) (hb : b.Pairwise fun x y => x.1 ≤ y.1) : (mrg a b).Pairwise fun x y => x.1 ≤ y.1 := by
  have := List.pairwise_merge (le := fun x y : PK => decide (x.1 ≤ y.1)) (fun x y z h1 h2 => by simp at h1 h2 ⊢; omega) (fun x y => by simp; omega) a b (ha.imp (fun h => by simpa using h)) (hb.imp (fun h => by simpa using h))
  exact this.imp (fun h => by simpa using h)
theorem HI.step : ∀ {row : List PK} {C : List Int}, HI row C → HI (hnext row) (C ++ hsyms row)
  | [], C, h => by show HI [] (C ++ []); rw [List.append_nil]; exact h
  | [x], C, h => by show HI [x] (C ++ []); rw [List.append_nil]; exact h
  | x :: y :: l, C, h => by
    have hs := h.srt
    rw [List.pairwise_cons, List.pairwise_cons] at hs
    obtain ⟨hx, hy, hl⟩ := hs
    have hxy : x.1 ≤ y.1 := hx y (by simp)
    have hnd := h.nd
    rw [fl_cons, fl_cons, ← List.append_assoc, List.nodup_append] at hnd
    obtain ⟨hn1, hn2, hn3⟩ := hnd
    have px := h.pos x (by simp)
    have py := h.pos y (by simp)
    have hmem : ∀ p, p ∈ hnext (x :: y :: l) → p ∈ l ∨ p = (x.1 + y.1, x.2 ++ y.2) := fun p hp => by
      rcases mrg_mem.1 hp with hp | hp
      · exact .inl hp
      · exact .inr (by simpa using hp)
    have hc0 : ∀ p ∈ l, ∀ s ∈ p.2, (C ++ (x.2 ++ y.2)).count s = C.count s := fun p hp s hs => by
      have : (x.2 ++ y.2).count s = 0 := List.count_eq_zero.2 (fun hm => hn3 s hm s (fl_mem_of hp hs) rfl)
      rw [List.count_append]; omega
    have hc1 : ∀ s ∈ x.2 ++ y.2, (C ++ (x.2 ++ y.2)).count s = C.count s + 1 := fun s hs => by
      have h1 := List.nodup_iff_count.1 hn1 s
      have h2 := List.count_pos_iff.2 hs
      rw [List.count_append]; omega
    -- what each of the symbols of the two says
    have hxs : ∀ s ∈ x.2 ++ y.2, fib (C.count s) ≤ y.1 ∧ fib (C.count s) + fib (C.count s - 1) ≤ x.1 + y.1 := fun s hs => by
      rcases List.mem_append.1 hs with hs | hs
      · have h1 := h.one x (by simp) s hs
        have h2 := h.all x (by simp) s hs y (by simp)
        omega
      · have h1 := h.one y (by simp) s hs
        have h2 := h.all y (by simp) s hs x (by simp)
        omega
    show HI (hnext (x :: y :: l)) (C ++ (x.2 ++ y.2))
    refine ⟨mrg_srt hl (List.pairwise_singleton ..), (hnext_fl _).nodup_iff.2 h.nd, fun p hp => ?_, fun p hp s hs => ?_, fun p hp s hs q hq => ?_, fun p hp s hs => ?_⟩
    · rcases hmem p hp with hp | rfl
      · exact h.pos p (by simp [hp])
      · show 1 ≤ x.1 + y.1; omega
    · rcases hmem p hp with hp | rfl
      · rw [hc0 p hp s hs]; exact h.one p (by simp [hp]) s hs
      · rw [hc1 s hs]
        have := (hxs s hs).2
        have := fib_sum (C.count s)
        show _ ≤ x.1 + y.1
        omega
    · rcases hmem p hp with hp | rfl
      · rw [hc0 p hp s hs]
        rcases hmem q hq with hq | rfl
        · exact h.all p (by simp [hp]) s hs q (by simp [hq])
        · have := h.all p (by simp [hp]) s hs x (by simp)
          show _ ≤ x.1 + y.1
          omega
      · rw [hc1 s hs, Nat.add_sub_cancel]
        have h1 := (hxs s hs).1
        rcases hmem q hq with hq | rfl
        · have := hy q hq; omega
        · show _ ≤ x.1 + y.1; omega
    · rcases hmem p hp with hp | rfl
      · rw [hc0 p hp s hs]; exact h.low p (by simp [hp]) s hs
      · rw [hc1 s hs]; left; omega
theorem HI.rounds {row : List PK} (h : HI row []) : ∀ k, HI (hrow row k) (hcount row k)
  | 0 => h
  | k + 1 => (HI.rounds h k).step
theorem hrow_fl (row : List PK) : ∀ k, (fl (hrow row k)).Perm (fl row)
  | 0 => List.Perm.refl _
  | k + 1 => (hnext_fl _).trans (hrow_fl row k)
theorem hsyms_sub : ∀ (row : List PK), ∀ s ∈ hsyms row, s ∈ fl row
  | [], s, h => by simp [hsyms] at h
  | [x], s, h => by simp [hsyms] at h
  | x :: y :: l, s, h => by
    rw [fl_cons, fl_cons, ← List.append_assoc]
    exact List.mem_append_left _ h
theorem hcount_sub (row : List PK) : ∀ k, ∀ s ∈ hcount row k, s ∈ fl row
  | 0, s, h => by simp [hcount] at h
  | k + 1, s, h => by
    simp only [hcount] at h
    rcases List.mem_append.1 h with h | h
    · exact hcount_sub row k s h
    · exact (hrow_fl row k).mem_iff.1 (hsyms_sub _ s h)
theorem perm_sum2 {a b : List Int} (h : a.Perm b) : a.sum = b.sum := by
  induction h with
  | nil => rfl
  | cons x _ ih => rw [List.sum_cons, List.sum_cons, ih]
  | swap x y l => simp only [List.sum_cons]; omega
  | trans _ _ h1 h2 => exact h1.trans h2
theorem mrg_sum (a b : List PK) : ((mrg a b).map fun p => p.1).sum = (a.map fun p => p.1).sum + (b.map fun p => p.1).sum := by
  rw [perm_sum2 ((mrg_perm a b).map _), List.map_append, List.sum_append]
theorem hnext_sum : ∀ (row : List PK), ((hnext row).map fun p => p.1).sum = (row.map fun p => p.1).sum
  | [] => rfl
  | [x] => rfl
  | x :: y :: l => by
    unfold hnext
    rw [mrg_sum]
    simp only [List.map_cons, List.map_nil, List.sum_cons, List.sum_nil]
    omega
theorem hrow_sum (row : List PK) : ∀ k, ((hrow row k).map fun p => p.1).sum = (row.map fun p => p.1).sum
  | 0 => rfl
  | k + 1 => (hnext_sum _).trans (hrow_sum row k)

section
variable {zs us : List Int}
/-- the symbols counted -/
def hall (zs us : List Int) : List Int := hcount (packs zs us) (us.length - 1)
def hlens (zs us : List Int) : List Int := incs (List.replicate zs.length 0) (hall zs us)
theorem HI.start (h : Us zs us) : HI (packs zs us) [] := by
  have hpos : ∀ p ∈ packs zs us, 1 ≤ p.1 := fun p hp => by
    obtain ⟨s, hs, rfl⟩ := List.mem_map.1 hp
    obtain ⟨j, rfl, hj, hp⟩ := used_mem (h.1.mem_iff.1 hs)
    show 1 ≤ zs.getD _ 0
    rw [Int.toNat_natCast, getD_lt _ _ hj]; omega
  refine ⟨?_, ?_, hpos, fun p hp s _ => ?_, fun p hp s _ q hq => ?_, fun p hp s _ => ?_⟩
  · have := sorted_pair h.2
    unfold packs
    rw [List.pairwise_map] at this ⊢
    exact this
  · rw [fl_packs, h.1.nodup_iff]; exact used_nodup zs
  · exact hpos p hp
  · exact hpos q hq
  · right
    obtain ⟨s, hs, rfl⟩ := List.mem_map.1 hp
    rfl
theorem hall_used (h : Us zs us) : ∀ s ∈ hall zs us, s ∈ used zs := fun s hs => by
  have := hcount_sub _ _ s hs
  rw [fl_packs] at this
  exact h.1.mem_iff.1 this
theorem hall_dom (h : Us zs us) : ∀ s ∈ hall zs us, ∃ j : Nat, s = j ∧ j < zs.length := fun s hs => by
  obtain ⟨j, hj, hjl, _⟩ := used_mem (hall_used h s hs)
  exact ⟨j, hj, hjl⟩
theorem hlens_at (h : Us zs us) (i : Nat) : (hlens zs us).getD i 0 = ((hall zs us).count (i : Int) : Int) := by
  unfold hlens
  rw [incs_at _ _ _ (by simpa using hall_dom h)]
  have h0 : (List.replicate zs.length (0 : Int)).getD i 0 = 0 := by
    rw [List.getD, List.getElem?_replicate]; split <;> rfl
  rw [h0]; omega
theorem hlens_len : (hlens zs us).length = zs.length := by unfold hlens; rw [incs_len]; simp
/-- the last row is one package of all -/
theorem hlast (h : Us zs us) (hu : 2 ≤ us.length) : ∃ p : PK, hrow (packs zs us) (us.length - 1) = [p] ∧ p.2.Perm us ∧ p.1 = (wsOf zs us).sum := by
  have hl := hrow_len (packs zs us) (us.length - 1) (by rw [packs_len]; omega)
  rw [packs_len] at hl
  match hr : hrow (packs zs us) (us.length - 1), hl with
  | [p], _ =>
    refine ⟨p, rfl, ?_, ?_⟩
    · have := hrow_fl (packs zs us) (us.length - 1)
      rw [hr, fl_packs, fl_cons, show fl ([] : List PK) = [] from rfl, List.append_nil] at this
      exact this
    · have := hrow_sum (packs zs us) (us.length - 1)
      rw [hr] at this
      simp only [List.map_cons, List.map_nil, List.sum_cons, List.sum_nil, Int.add_zero] at this
      rw [this]
      unfold packs wsOf
      rw [List.map_map]; rfl
  | [], hl => simp at hl; omega
  | _ :: _ :: _, hl => simp at hl; omega
theorem hall_count (h : Us zs us) (hu : 2 ≤ us.length) (s : Int) (hs : s ∈ us) : 1 ≤ (hall zs us).count s ∧ fib ((hall zs us).count s) ≤ (wsOf zs us).sum := by
  obtain ⟨p, hp, h1, h2⟩ := hlast h hu
  have hi := (HI.start h).rounds (us.length - 1)
  rw [hp] at hi
  have hsp := h1.mem_iff.2 hs
  have h3 := hi.one p (by simp) s hsp
  have h4 := hi.low p (by simp) s hsp
  have h5 := h1.length_eq
  rw [h2] at h3
  refine ⟨?_, h3⟩
  rcases h4 with h4 | h4
  · exact h4
  · omega
theorem fib57 : fib 57 = 591286729879 := by decide +kernel
theorem hlens_bd (hh : Hist zs) (h : Us zs us) (hu : 2 ≤ us.length) : ∀ z ∈ hlens zs us, 0 ≤ z ∧ z ≤ 60 := fun z hz => by
  obtain ⟨i, hi, rfl⟩ := List.getElem_of_mem hz
  have hat := hlens_at h i
  rw [getD_lt _ _ hi] at hat
  rw [hat]
  refine ⟨by omega, ?_⟩
  by_cases hm : (i : Int) ∈ us
  · have h1 := (hall_count h hu _ hm).2
    have hsum : (wsOf zs us).sum ≤ 2147483648 * us.length := by
      have hb : ∀ x ∈ wsOf zs us, x ≤ 2147483648 := fun x hx => by
        obtain ⟨s, hs, rfl⟩ := List.mem_map.1 hx
        exact (hh.getD _).2
      have hl : (wsOf zs us).length = us.length := List.length_map ..
      rw [← hl]
      generalize wsOf zs us = l at hb
      clear h1 hl
      induction l with
      | nil => simp
      | cons x l ih =>
        have h1 := ih (fun y hy => hb y (by simp [hy]))
        have h2 := hb x (by simp)
        rw [List.sum_cons, List.length_cons]
        omega
    have hul : us.length ≤ 256 := by
      rw [h.1.length_eq]
      have := hh.1
      have := usedTo_len zs zs.length
      unfold used
      omega
    have h57 := fib57
    have : (hall zs us).count (i : Int) ≤ 57 := by
      refine Nat.le_of_not_lt (fun hc => ?_)
      have := fib_le (a := 57) (Nat.le_of_lt hc)
      omega
    omega
  · have : (hall zs us).count (i : Int) = 0 := List.count_eq_zero.2 (fun hc => hm (h.1.mem_iff.2 (hall_used h _ hc)))
    omega
theorem hlens_pos (hh : Hist zs) (h : Us zs us) (hu : 2 ≤ us.length) (i : Nat) (hi : (i : Int) ∈ used zs) : ∃ h : i < (hlens zs us).length, 0 < (hlens zs us)[i] := by
  obtain ⟨j, hj, hjl, _⟩ := used_mem hi
  have hij : i = j := by omega
  subst hij
  have hl : i < (hlens zs us).length := by rw [hlens_len]; exact hjl
  refine ⟨hl, ?_⟩
  have h1 := hlens_at h i
  rw [getD_lt _ _ hl] at h1
  have := (hall_count h hu _ (h.1.mem_iff.2 hi)).1
  omega
theorem hlens_cost (h : Us zs us) : lcost zs (hlens zs us) = whcost (wsOf zs us) (us.length - 1) := by
  unfold lcost lcTo
  rw [List.take_length]
  have e : ((used zs).map fun s => zs.getD s.toNat 0 * (hlens zs us).getD s.toNat 0) = (used zs).map fun s => zs.getD s.toNat 0 * ((hall zs us).count s : Int) := by
    apply List.map_congr_left
    intro s hs
    obtain ⟨j, rfl, _, _⟩ := used_mem hs
    rw [Int.toNat_natCast, hlens_at h]
  rw [e, sum_count (fun s => zs.getD s.toNat 0) (used zs) (used_nodup zs) _ (hall_used h)]
  unfold hall
  rw [hcount_sum (packs_wt zs us)]
  congr 1
  unfold packs wsOf
  rw [List.map_map]; rfl
end
end Go.Proofs.Ytjmkkcbilpidnaa.Limit
