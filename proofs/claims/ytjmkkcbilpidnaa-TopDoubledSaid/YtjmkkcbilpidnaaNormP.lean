/- Normalization of counts, in plain Lean: what norm.Normalize computes. No program in sight. -/
import Derived.Lib.Hide
namespace Go.Proofs.Ytjmkkcbilpidnaa.NormP
set_option linter.unusedVariables false

/-- The first index below k, among those selected, at which 'of' is greatest; -1 if none is selected. -/
def far (among : Nat → Bool) (of : Nat → Int) : Nat → Int
  | 0 => -1
  | k + 1 => if among k = true ∧ (far among of k < 0 ∨ of (far among of k).toNat < of k) then (k : Int) else far among of k
theorem far_lt (among : Nat → Bool) (of : Nat → Int) : ∀ k, -1 ≤ far among of k ∧ far among of k < k
  | 0 => by simp [far]
  | k + 1 => by
    have := far_lt among of k
    simp only [far]
    split <;> omega
theorem far_among (among : Nat → Bool) (of : Nat → Int) : ∀ k, 0 ≤ far among of k → among (far among of k).toNat = true
  | 0 => by simp [far]
  | k + 1 => by
    have ih := far_among among of k
    simp only [far]
    split
    · rename_i h; intro _; simpa using h.1
    · exact ih
theorem far_some (among : Nat → Bool) (of : Nat → Int) : ∀ k i, i < k → among i = true → 0 ≤ far among of k
  | 0, i, h, _ => by omega
  | k + 1, i, h, ha => by
    simp only [far]
    split
    · omega
    · rename_i hn
      by_cases hi : i < k
      · exact far_some among of k i hi ha
      · have : i = k := by omega
        subst this
        have := far_lt among of i
        rcases Int.lt_or_le (far among of i) 0 with h0 | h0
        · exact absurd ⟨ha, .inl h0⟩ hn
        · exact h0
/-- Only the order of the values counts. -/
theorem far_congr (among among' : Nat → Bool) (of of' : Nat → Int) (n : Nat) (ha : ∀ i, i < n → among i = among' i) (ho : ∀ i j, i < n → j < n → (of i < of j ↔ of' i < of' j)) : ∀ k, k ≤ n → far among of k = far among' of' k
  | 0, _ => rfl
  | k + 1, hk => by
    have ih := far_congr among among' of of' n ha ho k (by omega)
    have hl := far_lt among' of' k
    simp only [far]
    rw [ih, ha k (by omega)]
    by_cases h0 : far among' of' k < 0
    · simp [h0]
    · have := ho (far among' of' k).toNat k (by omega) (by omega)
      simp only [h0, false_or, this]

def start (cs : List Int) (S T : Int) : List Int := cs.map fun c => if 0 < c then max (c * S / T) 1 else 0
def above (cs : List Int) (S T : Int) (nm : List Int) (i : Nat) : Int := cs.getD i 0 * S - nm.getD i 0 * T
def at_ (cs : List Int) (S T : Int) (up : Bool) (nm : List Int) : Int :=
  if up then far (fun i => decide (0 < cs.getD i 0)) (above cs S T nm) nm.length else far (fun i => decide (1 < nm.getD i 0)) (fun i => -above cs S T nm i) nm.length
def step (cs : List Int) (S T : Int) (up : Bool) (nm : List Int) : List Int :=
  nm.set (at_ cs S T up nm).toNat (nm.getD (at_ cs S T up nm).toNat 0 + if up then 1 else -1)
def steps (cs : List Int) (S T : Int) (up : Bool) : Nat → List Int → List Int
  | 0, nm => nm
  | q + 1, nm => step cs S T up (steps cs S T up q nm)
/-- 'few': the symbols whose share is below one state are marked -1 -/
def marked (cs : List Int) (S T : Int) (nm : List Int) (k : Nat) : List Int := (List.range nm.length).map fun i => if i < k ∧ 0 < cs.getD i 0 ∧ cs.getD i 0 * S < T then -1 else nm.getD i 0
/-- one more than the last used symbol below k, else d -/
def lastUsed (cs : List Int) (d : Nat) : Nat → Nat
  | 0 => d
  | k + 1 => if 0 < cs.getD k 0 then k + 1 else lastUsed cs d k
def nUsed (cs : List Int) : Nat := cs.countP fun c => decide (0 < c)

theorem sum_set (l : List Int) (i : Nat) (h : i < l.length) (x : Int) : (l.set i x).sum = l.sum - l.getD i 0 + x := by
  induction l generalizing i with
  | nil => simp at h
  | cons a l ih =>
    cases i with
    | zero => simp; omega
    | succ i =>
      have := ih i (by simpa using h)
      simp at this ⊢
      omega
theorem len_step (cs : List Int) (S T : Int) (up : Bool) (nm : List Int) : (step cs S T up nm).length = nm.length := by simp [step]
theorem len_steps (cs : List Int) (S T : Int) (up : Bool) (q : Nat) (nm : List Int) : (steps cs S T up q nm).length = nm.length := by
  induction q with
  | zero => rfl
  | succ q ih => simp only [steps]; rw [len_step, ih]

/-- Shape of a norm under way: used symbols have at least one state, the others none. -/
def Shape (cs nm : List Int) : Prop := nm.length = cs.length ∧ ∀ i, (0 < cs.getD i 0 → 1 ≤ nm.getD i 0) ∧ (¬ 0 < cs.getD i 0 → nm.getD i 0 = 0)
theorem getD_set (l : List Int) (i j : Nat) (x : Int) (hi : i < l.length) : (l.set i x).getD j 0 = if i = j then x else l.getD j 0 := by
  simp only [List.getD, List.getElem?_set, hi]
  by_cases h : i = j
  · subst h; simp
  · simp [h]
theorem getD_of_ge (l : List Int) (j : Nat) (h : l.length ≤ j) : l.getD j 0 = 0 := by simp [List.getD, List.getElem?_eq_none h]
theorem sum_le_used (cs nm : List Int) (h : nm.length = cs.length) (hn : ∀ i, nm.getD i 0 ≤ if 0 < cs.getD i 0 then 1 else 0) : nm.sum ≤ nUsed cs := by
  induction cs generalizing nm with
  | nil => cases nm with
    | nil => simp [nUsed]
    | cons a l => simp at h
  | cons c cs ih =>
    cases nm with
    | nil => simp at h
    | cons a l =>
      have h0 : a ≤ if 0 < c then 1 else 0 := hn 0
      have := ih l (by simpa using h) (fun i => by simpa using hn (i + 1))
      simp only [nUsed, List.countP_cons] at this ⊢
      simp only [List.sum_cons, decide_eq_true_eq]
      by_cases hc : 0 < c
      · rw [if_pos hc] at h0 ⊢; omega
      · rw [if_neg hc] at h0 ⊢; omega
theorem one_over (cs nm : List Int) (hs : Shape cs nm) (h : (nUsed cs : Int) < nm.sum) : ∃ i, i < nm.length ∧ 1 < nm.getD i 0 := by
  refine Classical.byContradiction fun hno => ?_
  have hle := sum_le_used cs nm hs.1 (fun i => by
    by_cases hc : 0 < cs.getD i 0
    · rw [if_pos hc]
      by_cases hi : i < nm.length
      · rcases Int.lt_or_le 1 (nm.getD i 0) with h1 | h1
        · exact absurd ⟨i, hi, h1⟩ hno
        · exact h1
      · rw [getD_of_ge nm i (by omega)]; omega
    · rw [if_neg hc, (hs.2 i).2 hc]; omega)
  omega

/-- A round up: it finds a place, the shape stays, and there is one state more. -/
theorem up_ok (cs : List Int) (S T : Int) (nm : List Int) (hs : Shape cs nm) (hu : 0 < nUsed cs) :
    0 ≤ at_ cs S T true nm ∧ at_ cs S T true nm < nm.length ∧ Shape cs (step cs S T true nm) ∧ (step cs S T true nm).sum = nm.sum + 1 := by
  obtain ⟨c, hc, hc2⟩ := List.countP_pos_iff.1 hu
  obtain ⟨i, hi, rfl⟩ := List.getElem_of_mem hc
  have hc3 : 0 < cs.getD i 0 := by simpa [List.getD, List.getElem?_eq_getElem hi] using hc2
  have h0 : 0 ≤ at_ cs S T true nm := by
    unfold at_; rw [if_pos rfl]
    exact far_some _ _ nm.length i (by rw [hs.1]; exact hi) (by simpa using hc3)
  have hl : at_ cs S T true nm < nm.length := by unfold at_; rw [if_pos rfl]; exact (far_lt _ _ _).2
  have ha : 0 < cs.getD (at_ cs S T true nm).toNat 0 := by
    have : at_ cs S T true nm = far (fun i => decide (0 < cs.getD i 0)) (above cs S T nm) nm.length := by unfold at_; rw [if_pos rfl]
    rw [this] at h0 ⊢
    have := far_among _ _ nm.length h0
    exact of_decide_eq_true this
  have hlt : (at_ cs S T true nm).toNat < nm.length := by omega
  refine ⟨h0, hl, ⟨by rw [len_step, hs.1], fun j => ?_⟩, ?_⟩
  · unfold step
    rw [getD_set _ _ _ _ hlt, if_pos rfl]
    have hj := hs.2 j
    have h1 := (hs.2 (at_ cs S T true nm).toNat).1 ha
    split
    · rename_i e; rw [← e]; exact ⟨fun _ => by omega, fun h => absurd ha h⟩
    · exact hj
  · unfold step
    rw [sum_set _ _ hlt, if_pos rfl]; omega
theorem down_ok (cs : List Int) (S T : Int) (nm : List Int) (hs : Shape cs nm) (hu : (nUsed cs : Int) < nm.sum) :
    0 ≤ at_ cs S T false nm ∧ at_ cs S T false nm < nm.length ∧ Shape cs (step cs S T false nm) ∧ (step cs S T false nm).sum = nm.sum - 1 := by
  obtain ⟨i, hi, hc3⟩ := one_over cs nm hs hu
  have e : at_ cs S T false nm = far (fun i => decide (1 < nm.getD i 0)) (fun i => -above cs S T nm i) nm.length := by unfold at_; rw [if_neg (by simp)]
  have h0 : 0 ≤ at_ cs S T false nm := by
    rw [e]; exact far_some _ _ nm.length i hi (by simpa using hc3)
  have hl : at_ cs S T false nm < nm.length := by rw [e]; exact (far_lt _ _ _).2
  have ha : 1 < nm.getD (at_ cs S T false nm).toNat 0 := by
    rw [e] at h0 ⊢
    exact of_decide_eq_true (far_among _ _ nm.length h0)
  have hlt : (at_ cs S T false nm).toNat < nm.length := by omega
  refine ⟨h0, hl, ⟨by rw [len_step, hs.1], fun j => ?_⟩, ?_⟩
  · unfold step
    rw [getD_set _ _ _ _ hlt]
    simp only [Bool.false_eq_true, ↓reduceIte]
    have hj := hs.2 j
    split
    · rename_i e; subst e
      refine ⟨fun _ => by omega, fun h => ?_⟩
      have := hj.2 h; omega
    · exact hj
  · unfold step
    rw [sum_set _ _ hlt]
    simp only [Bool.false_eq_true, ↓reduceIte]
    omega

theorem shape_start (cs : List Int) (S T : Int) : Shape cs (start cs S T) := by
  refine ⟨by simp [start], fun i => ?_⟩
  by_cases hi : i < cs.length
  · have : (start cs S T).getD i 0 = if 0 < cs.getD i 0 then max (cs.getD i 0 * S / T) 1 else 0 := by simp [start, List.getD, List.getElem?_eq_getElem hi]
    rw [this]
    constructor
    · intro h; rw [if_pos h]; omega
    · intro h; rw [if_neg h]
  · rw [getD_of_ge cs i (by omega), getD_of_ge _ i (by simp [start]; omega)]; simp

/-- How many states are left behind the first division. -/
def left0 (cs : List Int) (S T : Int) : Int := S - (start cs S T).sum
/-- after q rounds -/
theorem steps_up (cs : List Int) (S T : Int) (hu : 0 < nUsed cs) : ∀ q : Nat, Shape cs (steps cs S T true q (start cs S T)) ∧ (steps cs S T true q (start cs S T)).sum = (start cs S T).sum + q
  | 0 => ⟨shape_start cs S T, by simp [steps]⟩
  | q + 1 => by
    obtain ⟨h1, h2⟩ := steps_up cs S T hu q
    obtain ⟨_, _, h3, h4⟩ := up_ok cs S T _ h1 hu
    exact ⟨h3, by simp only [steps]; rw [h4, h2]; omega⟩
theorem steps_down (cs : List Int) (S T : Int) (hu : (nUsed cs : Int) ≤ S) : ∀ q : Nat, (q : Int) ≤ -left0 cs S T → Shape cs (steps cs S T false q (start cs S T)) ∧ (steps cs S T false q (start cs S T)).sum = (start cs S T).sum - q
  | 0, _ => ⟨shape_start cs S T, by simp [steps]⟩
  | q + 1, hq => by
    obtain ⟨h1, h2⟩ := steps_down cs S T hu q (by omega)
    obtain ⟨_, _, h3, h4⟩ := down_ok cs S T _ h1 (by unfold left0 at hq; omega)
    exact ⟨h3, by simp only [steps]; rw [h4, h2]; omega⟩

/-- The norm that 'Normalize' returns. -/
def full (cs : List Int) (S T : Int) : List Int := if left0 cs S T < 0 then steps cs S T false (-left0 cs S T).toNat (start cs S T) else steps cs S T true (left0 cs S T).toNat (start cs S T)
def norm (cs : List Int) (S T : Int) : List Int := (marked cs S T (full cs S T) cs.length).take (lastUsed cs (nUsed cs) cs.length)
theorem marked_len (cs : List Int) (S T : Int) (nm : List Int) (k : Nat) : (marked cs S T nm k).length = nm.length := by simp [marked]
theorem marked_at (cs : List Int) (S T : Int) (nm : List Int) (k i : Nat) (hi : i < nm.length) : (marked cs S T nm k)[i]? = some (if i < k ∧ 0 < cs.getD i 0 ∧ cs.getD i 0 * S < T then -1 else nm.getD i 0) := by
  unfold marked
  rw [List.getElem?_map, List.getElem?_range hi]; rfl
theorem marked_zero (cs : List Int) (S T : Int) (nm : List Int) : marked cs S T nm 0 = nm := by
  apply List.ext_getElem?
  intro i
  by_cases hi : i < nm.length
  · rw [marked_at _ _ _ _ _ _ hi, if_neg (by omega), List.getElem?_eq_getElem hi]
    simp [List.getD, List.getElem?_eq_getElem hi]
  · rw [List.getElem?_eq_none (by rw [marked_len]; omega), List.getElem?_eq_none (by omega)]
theorem marked_yes (cs : List Int) (S T : Int) (nm : List Int) (k : Nat) (hk : k < nm.length) (h1 : 0 < cs.getD k 0) (h2 : cs.getD k 0 * S < T) : marked cs S T nm (k + 1) = (marked cs S T nm k).set k (-1) := by
  apply List.ext_getElem?
  intro i
  rw [List.getElem?_set]
  by_cases hi : i < nm.length
  · rw [marked_at _ _ _ _ _ _ hi]
    by_cases e : k = i
    · subst e
      rw [if_pos ⟨by omega, h1, h2⟩, if_pos rfl, if_pos (by rw [marked_len]; exact hk)]
    · rw [if_neg e, marked_at _ _ _ _ _ _ hi]
      congr 1
      by_cases h3 : i < k
      · have h4 : i < k + 1 := by omega
        simp only [h3, h4]
      · have h4 : ¬ i < k + 1 := by omega
        simp only [h3, h4]
  · rw [if_neg (by omega), List.getElem?_eq_none (by rw [marked_len]; omega), List.getElem?_eq_none (by rw [marked_len]; omega)]
theorem marked_no (cs : List Int) (S T : Int) (nm : List Int) (k : Nat) (h : ¬ (0 < cs.getD k 0 ∧ cs.getD k 0 * S < T)) : marked cs S T nm (k + 1) = marked cs S T nm k := by
  unfold marked
  apply List.map_congr_left
  intro i _
  by_cases e : i = k
  · subst e
    rw [if_neg (by omega), if_neg (by omega)]
  · by_cases h3 : i < k
    · have h4 : i < k + 1 := by omega
      simp only [h3, h4]
    · have h4 : ¬ i < k + 1 := by omega
      simp only [h3, h4]
theorem lastUsed_le (cs : List Int) (d n : Nat) (hd : d ≤ n) : ∀ k, k ≤ n → lastUsed cs d k ≤ n
  | 0, _ => hd
  | k + 1, hk => by
    simp only [lastUsed]
    split
    · exact hk
    · exact lastUsed_le cs d n hd k (by omega)
theorem len_full (cs : List Int) (S T : Int) : (full cs S T).length = cs.length := by
  unfold full
  split <;> rw [len_steps] <;> simp [start]
end Go.Proofs.Ytjmkkcbilpidnaa.NormP
