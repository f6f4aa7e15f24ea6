/- The vocabulary of this seat's walks: how a list of data stands in memory (read: 'In', 'Sl'; owned: 'Own'), and how the readings are carried over what a call leaves ('Below', 'grownBy'). No program in sight. -/
import Derived.WalkKit
import Derived.Lib.Hide
import Derived.WalkSpells
import Derived.Maps.AppendAt
import Derived.WalkSmall
import Derived.BigQuiet
import Derived.Deep.CutRange
import Derived.Deep.LoopGhost
import Derived.Deep.DeepFit
import Derived.Laws.EntriesVeiled
import Derived.Deep.QuietTactic
set_option linter.unusedVariables false
set_option linter.unusedSimpArgs false
namespace Go.Proofs.Ytjmkkcbilpidnaa.W
open Go Go.RowKit

/-- 'w' holds the same as 'w'' in the blocks of S -/
def Same (S : Nat → Prop) (w w' : World) : Prop := ∀ g, S g → w'.heap[g]? = w.heap[g]?
def Lt (B : Nat) : Nat → Prop := fun g => g < B

/-- How a datum stands in a row of cells: 'n' cells; 'ok w S x cs': in the world w the cells cs are x's, and all that they lead to lies in blocks of S. -/
structure Kd (α : Type) where
  n : Nat
  ok : World → (Nat → Prop) → α → List Value → Prop
  len : ∀ {w S x cs}, ok w S x cs → cs.length = n
  one : ∀ {w S x cs}, ok w S x cs → ∀ u ∈ cs, u.oneCell' = true
  mono : ∀ {w w' S S' x cs}, ok w S x cs → Same S w w' → (∀ g, S g → S' g) → ok w' S' x cs

/-- 'A' leads to a row of cells that holds xs. -/
def In {α : Type} (k : Kd α) (w : World) (S : Nat → Prop) (A : Option Addr) (c : Nat) (xs : List α) : Prop :=
  xs.length ≤ c ∧ c ≤ maxLen ∧ ∀ j x, xs[j]? = some x → ∃ b off cs, A = some ⟨b, off, none⟩ ∧ S b ∧ k.ok w S x cs ∧ ∀ t u, cs[t]? = some u → w.cell? ⟨b, off + j * k.n + t, none⟩ = some u

/-- The value v is a slice that holds xs. -/
def Sl {α : Type} (k : Kd α) (w : World) (S : Nat → Prop) (v : Value) (xs : List α) : Prop := ∃ A c, v = .slice A xs.length c ∧ In k w S A c xs

def kN (k : IntKind) : Kd Int where
  n := 1
  ok _ _ x cs := cs = [.int k x]
  len h := by subst h; rfl
  one h u hu := by subst h; simp at hu; subst hu; rfl
  mono h _ _ := h
def kB : Kd Bool where
  n := 1
  ok _ _ x cs := cs = [.bool x]
  len h := by subst h; rfl
  one h u hu := by subst h; simp at hu; subst hu; rfl
  mono h _ _ := h

/-- bytes -/
def kY : Kd UInt8 where
  n := 1
  ok _ _ x cs := cs = [.int .u8 (x.toNat : Int)]
  len h := by subst h; rfl
  one h u hu := by subst h; simp at hu; subst hu; rfl
  mono h _ _ := h
theorem Same.refl (S : Nat → Prop) (w : World) : Same S w w := fun _ _ => rfl
theorem Same.of_below {B : Nat} {w w' : World} (h : Below B w w') : Same (Lt B) w w' := fun g hg => h.block g hg
theorem Same.sub {S S' : Nat → Prop} {w w' : World} (h : Same S w w') (hs : ∀ g, S' g → S g) : Same S' w w' := fun g hg => h g (hs g hg)
theorem Lt.le {B B' : Nat} (h : B ≤ B') : ∀ g, Lt B g → Lt B' g := fun g hg => Nat.lt_of_lt_of_le hg h

section
variable {α : Type} {k : Kd α} {w w' : World} {S S' : Nat → Prop} {B B' : Nat} {A : Option Addr} {c : Nat} {xs : List α}
theorem In.mono (h : In k w S A c xs) (hb : Same S w w') (hB : ∀ g, S g → S' g) : In k w' S' A c xs := by
  refine ⟨h.1, h.2.1, fun j x hx => ?_⟩
  obtain ⟨b, off, cs, ha, hlt, hk, hc⟩ := h.2.2 j x hx
  exact ⟨b, off, cs, ha, hB _ hlt, k.mono hk hb hB, fun t u hu => (World.cell?_of_block (w := w) (hb b hlt)).trans (hc t u hu)⟩
theorem In.sub (h : In k w S A c xs) (hB : ∀ g, S g → S' g) : In k w S' A c xs := h.mono (Same.refl _ _) hB
theorem In.below (h : In k w (Lt B) A c xs) (hb : Below B w w') (hB : B ≤ B') : In k w' (Lt B') A c xs := h.mono (Same.of_below hb) (Lt.le hB)
theorem In.nil (k : Kd α) (w : World) (S : Nat → Prop) (A : Option Addr) (c : Nat) (hc : c ≤ maxLen) : In k w S A c [] := ⟨Nat.zero_le _, hc, fun j x hx => by simp at hx⟩
theorem Sl.mono {v : Value} (h : Sl k w S v xs) (hb : Same S w w') (hB : ∀ g, S g → S' g) : Sl k w' S' v xs := by
  obtain ⟨A, c, rfl, hi⟩ := h
  exact ⟨A, c, rfl, hi.mono hb hB⟩
theorem Sl.below {v : Value} (h : Sl k w (Lt B) v xs) (hb : Below B w w') (hB : B ≤ B') : Sl k w' (Lt B') v xs := h.mono (Same.of_below hb) (Lt.le hB)
/-- Cut: 'x[l:h:m]'. -/
theorem In.cut (h : In k w S A c xs) {l r m : Nat} (hl : l ≤ r) (hr : r ≤ xs.length) (hm : r ≤ m) (hc : m ≤ c) :
    In k w S (if m = l then A else A.map (·.add (l * k.n))) (m - l) ((xs.take r).drop l) := by
  refine ⟨by simp; omega, by have := h.2.1; omega, fun j x hx => ?_⟩
  rw [List.getElem?_drop, List.getElem?_take] at hx
  split at hx
  · obtain ⟨b, off, cs, rfl, hlt, hk, hcell⟩ := h.2.2 (l + j) x hx
    rw [if_neg (by omega)]
    refine ⟨b, off + l * k.n, cs, ?_, hlt, hk, fun t u hu => ?_⟩
    · simp only [Option.map_some, Addr.add]
      split
      · rename_i h0; rw [h0]; rfl
      · rfl
    · rw [← hcell t u hu, Nat.add_mul]
      congr 2
      omega
  · cases hx
theorem In.drop (h : In k w S A c xs) {l : Nat} (hl : l ≤ xs.length) :
    In k w S (if c = l then A else A.map (·.add (l * k.n))) (c - l) (xs.drop l) := by
  have := h.cut (l := l) (r := xs.length) (m := c) hl (Nat.le_refl _) h.1 (Nat.le_refl _)
  rwa [List.take_length] at this
/-- The element at j of a slice of one-cell numbers. -/
theorem In.num {q : IntKind} {zs : List Int} (h : In (kN q) w S A c zs) {j : Nat} (hj : j < zs.length) :
    ∃ b off, A = some ⟨b, off, none⟩ ∧ S b ∧ w.cell? ⟨b, off + j, none⟩ = some (.int q zs[j]) := by
  obtain ⟨b, off, cs, ha, hlt, hk, hc⟩ := h.2.2 j zs[j] (List.getElem?_eq_getElem hj)
  have hk' : cs = [.int q zs[j]] := hk
  subst hk'
  have := hc 0 _ rfl
  simp only [kN, Nat.mul_one, Nat.add_zero] at this
  exact ⟨b, off, ha, hlt, this⟩
theorem In.byte {zs : List UInt8} (h : In kY w S A c zs) {j : Nat} (hj : j < zs.length) :
    ∃ b off, A = some ⟨b, off, none⟩ ∧ S b ∧ w.cell? ⟨b, off + j, none⟩ = some (.int .u8 (zs[j].toNat : Int)) := by
  obtain ⟨b, off, cs, ha, hlt, hk, hc⟩ := h.2.2 j zs[j] (List.getElem?_eq_getElem hj)
  have hk' : cs = [.int .u8 (zs[j].toNat : Int)] := hk
  subst hk'
  have := hc 0 _ rfl
  simp only [kY, Nat.mul_one, Nat.add_zero] at this
  exact ⟨b, off, ha, hlt, this⟩
theorem In.bool {zs : List Bool} (h : In kB w S A c zs) {j : Nat} (hj : j < zs.length) :
    ∃ b off, A = some ⟨b, off, none⟩ ∧ S b ∧ w.cell? ⟨b, off + j, none⟩ = some (.bool zs[j]) := by
  obtain ⟨b, off, cs, ha, hlt, hk, hc⟩ := h.2.2 j zs[j] (List.getElem?_eq_getElem hj)
  have hk' : cs = [.bool zs[j]] := hk
  subst hk'
  have := hc 0 _ rfl
  simp only [kB, Nat.mul_one, Nat.add_zero] at this
  exact ⟨b, off, ha, hlt, this⟩
end

/-- A slice as an element: one cell, which leads to its row. -/
def kS {α : Type} (k : Kd α) : Kd (List α) where
  n := 1
  ok w S xs cs := ∃ A c, cs = [.slice A xs.length c] ∧ In k w S A c xs
  len := by rintro w S x cs ⟨A, c, rfl, _⟩; rfl
  one := by rintro w S x cs ⟨A, c, rfl, _⟩ u hu; simp at hu; subst hu; rfl
  mono := by rintro w w' S S' x cs ⟨A, c, rfl, hi⟩ hb hB; exact ⟨A, c, rfl, hi.mono hb hB⟩
/-- A struct of two parts. -/
def kP {α β : Type} (k : Kd α) (l : Kd β) : Kd (α × β) where
  n := k.n + l.n
  ok w S x cs := ∃ a b, cs = a ++ b ∧ k.ok w S x.1 a ∧ l.ok w S x.2 b
  len := by rintro w S x cs ⟨a, b, rfl, ha, hb⟩; rw [List.length_append, k.len ha, l.len hb]
  one := by
    rintro w S x cs ⟨a, b, rfl, ha, hb⟩ u hu
    rcases List.mem_append.1 hu with hu | hu
    · exact k.one ha u hu
    · exact l.one hb u hu
  mono := by rintro w w' S S' x cs ⟨a, b, rfl, ha, hb⟩ hw hB; exact ⟨a, b, rfl, k.mono ha hw hB, l.mono hb hw hB⟩

theorem In.slice {α : Type} {k : Kd α} {w : World} {S : Nat → Prop} {A : Option Addr} {c : Nat} {xs : List (List α)} (h : In (kS k) w S A c xs) {j : Nat} (hj : j < xs.length) :
    ∃ b off A' c', A = some ⟨b, off, none⟩ ∧ S b ∧ w.cell? ⟨b, off + j, none⟩ = some (.slice A' xs[j].length c') ∧ In k w S A' c' xs[j] := by
  obtain ⟨b, off, cs, ha, hlt, ⟨A', c', hk, hi⟩, hc⟩ := h.2.2 j xs[j] (List.getElem?_eq_getElem hj)
  subst hk
  have := hc 0 _ rfl
  simp only [kS, Nat.mul_one, Nat.add_zero] at this
  exact ⟨b, off, A', c', ha, hlt, this, hi⟩

/-- the blocks of the world that are not v's own -/
def Off (w : World) (v : Value) : Nat → Prop := fun g => g < w.heap.size ∧ v.ownBlock ≠ some g

/-- The value v is a slice of the call's own (its row among the blocks from 'base' on, none of it frozen) that holds xs; what its elements lead to lies outside its row. -/
def Own {α : Type} (k : Kd α) (e : TypeId) (w : World) (base : Nat) (v : Value) (xs : List α) : Prop :=
  ∃ css : List (List Value), w.ownsRow base e k.n v xs.length css.flatten ∧ css.length = xs.length ∧ ∀ (j : Nat) x cs, xs[j]? = some x → css[j]? = some cs → k.ok w (Off w v) x cs

theorem flat_len {css : List (List Value)} {n : Nat} (h : ∀ cs ∈ css, cs.length = n) : css.flatten.length = css.length * n := by
  induction css with
  | nil => simp
  | cons a l ih =>
    rw [List.flatten_cons, List.length_append, ih (fun cs hc => h cs (List.mem_cons_of_mem _ hc)), h a (List.mem_cons_self ..), List.length_cons, Nat.add_mul, Nat.add_comm, Nat.one_mul]
theorem flat_at {css : List (List Value)} {n : Nat} (h : ∀ cs ∈ css, cs.length = n) : ∀ {j : Nat} {cs : List Value}, css[j]? = some cs → ∀ t, t < n → css.flatten[j * n + t]? = cs[t]? := by
  induction css with
  | nil => intro j cs hj; simp at hj
  | cons a l ih =>
    intro j cs hj t ht
    have ha : a.length = n := h a (List.mem_cons_self ..)
    cases j with
    | zero =>
      simp at hj; subst hj
      rw [List.flatten_cons, Nat.zero_mul, Nat.zero_add, List.getElem?_append_left (by omega)]
    | succ j =>
      simp at hj
      rw [List.flatten_cons, Nat.succ_mul, List.getElem?_append_right (by omega)]
      rw [show j * n + n + t - a.length = j * n + t from by omega]
      exact ih (fun cs hc => h cs (List.mem_cons_of_mem _ hc)) hj t ht

section
variable {α : Type} {k : Kd α} {e : TypeId} {w w' : World} {base base' : Nat} {v : Value} {xs : List α}
theorem Own.nil (k : Kd α) (e : TypeId) (w : World) (base : Nat) : Own k e w base (.slice none 0 0) [] :=
  ⟨[], World.ownsRow_nil w base e k.n, rfl, fun j x cs hx => by simp at hx⟩
theorem css_len {css : List (List Value)} {S : Nat → Prop} (hl : css.length = xs.length) (h : ∀ (j : Nat) x cs, xs[j]? = some x → css[j]? = some cs → k.ok w S x cs) : ∀ cs ∈ css, cs.length = k.n := by
  intro cs hcs
  obtain ⟨j, hj, rfl⟩ := List.getElem_of_mem hcs
  exact k.len (h j xs[j] _ (List.getElem?_eq_getElem (by omega)) (List.getElem?_eq_getElem hj))
theorem Own.lt (h : Own k e w base v xs) : ∀ g, v.ownBlock = some g → base ≤ g ∧ g < w.heap.size := by
  obtain ⟨css, ho, _⟩ := h
  exact ho.lt
/-- What is owned reads. -/
theorem Own.sl (h : Own k e w base v xs) : Sl k w (Lt w.heap.size) v xs := by
  obtain ⟨css, ho, hl, hk⟩ := h
  have hlen := css_len hl hk
  rcases ho.2 with ⟨rfl, h0⟩ | ⟨g, cap, cur, rfl, hg, hh, hn, hm, hs, ht⟩
  · refine ⟨none, 0, by rw [h0], by omega, by unfold maxLen; omega, fun j x hx => ?_⟩
    have : xs = [] := List.eq_nil_of_length_eq_zero h0
    subst this
    simp at hx
  · refine ⟨some ⟨g, 0, none⟩, cap, rfl, hn, hm, fun j x hx => ?_⟩
    have hj : j < xs.length := (List.getElem?_eq_some_iff.1 hx).1
    have hcs : css[j]? = some (css[j]'(by omega)) := List.getElem?_eq_getElem (by omega)
    refine ⟨g, 0, _, rfl, (Array.getElem?_eq_some_iff.1 hh).1, k.mono (hk j x _ hx hcs) (Same.refl _ _) (fun g hg => hg.1), fun t u hu => ?_⟩
    have htn : t < k.n := by rw [← hlen _ (List.mem_of_getElem? hcs)]; exact (List.getElem?_eq_some_iff.1 hu).1
    have := flat_at hlen hcs t htn
    rw [hu] at this
    have := ho.cells (g := g) rfl (j * k.n + t) u this
    rw [Addr.add_lit] at this
    rw [← this]
    congr 2
    omega
/-- .. of plain numbers, its block among the call's own. -/
theorem Own.slGe {q : IntKind} {zs : List Int} (h : Own (kN q) e w base v zs) : Sl (kN q) w (fun g => base ≤ g ∧ g < w.heap.size) v zs := by
  have hs := h.sl
  obtain ⟨A, c, rfl, hi⟩ := hs
  refine ⟨A, c, rfl, hi.1, hi.2.1, fun j x hx => ?_⟩
  obtain ⟨b, off, cs, rfl, hlt, hk, hc⟩ := hi.2.2 j x hx
  exact ⟨b, off, cs, rfl, h.lt b rfl, hk, hc⟩
/-- .. is kept by whatever leaves its row, and what its elements lead to, alone. -/
theorem Own.keep (h : Own k e w base v xs) (hz : w.heap.size ≤ w'.heap.size) (hs : Same (Lt w.heap.size) w w') : Own k e w' base v xs := by
  obtain ⟨css, ho, hl, hok⟩ := h
  refine ⟨css, ⟨ho.1, ?_⟩, hl, fun j x cs hx hc => k.mono (hok j x cs hx hc) (fun g hg => hs g hg.1) (fun g hg => ⟨Nat.lt_of_lt_of_le hg.1 hz, hg.2⟩)⟩
  rcases ho.2 with h2 | ⟨g, cap, cur, hv, hg, hh, r⟩
  · exact .inl h2
  · exact .inr ⟨g, cap, cur, hv, hg, by rw [hs g (Array.getElem?_eq_some_iff.1 hh).1]; exact hh, r⟩
theorem Own.below (h : Own k e w base v xs) (hb : Below w.heap.size w w') : Own k e w' base v xs := h.keep hb.size (Same.of_below hb)
theorem Own.alloc (h : Own k e w base v xs) (o : Obj) : Own k e (w.alloc o) base v xs := h.below ((Below.refl _ _).alloc (Nat.le_refl _) o)
theorem Own.drew (h : Own k e w base v xs) : Own k e w.drew base v xs := h.below ((Below.refl _ _).drew)
theorem Own.lower (h : Own k e w base v xs) (hb : base' ≤ base) : Own k e w base' v xs := by
  obtain ⟨css, ho, hl, hok⟩ := h
  refine ⟨css, ⟨ho.1, ?_⟩, hl, hok⟩
  rcases ho.2 with h2 | ⟨g, cap, cur, hv, hg, r⟩
  · exact .inl h2
  · exact .inr ⟨g, cap, cur, hv, by omega, r⟩
/-- One whose elements are plain cells: kept while other blocks are written. -/
theorem Own.grown {q : IntKind} {zs : List Int} {row : Option Nat} (h : Own (kN q) e w base v zs) (hg : w.grownBy w' row) (hne : v.ownBlock = none ∨ v.ownBlock ≠ row) : Own (kN q) e w' base v zs := by
  obtain ⟨css, ho, hl, hok⟩ := h
  exact ⟨css, ho.kept hg hne, hl, fun j x cs hx hc => hok j x cs hx hc⟩
end

/-- A new row of one element. -/
theorem In.one_new {α : Type} {k : Kd α} {w : World} {S : Nat → Prop} {x : α} {cs : List Value} (e : TypeId) (hk : k.ok w S x cs) (hS : ∀ g, S g → g < w.heap.size) :
    In k (w.alloc (.cells cs.toArray e)) (fun g => S g ∨ g = w.heap.size) (some ⟨w.heap.size, 0, none⟩) 1 [x] := by
  refine ⟨by simp, by unfold maxLen; omega, fun j y hy => ?_⟩
  have hj : j = 0 := by
    rcases Nat.eq_zero_or_pos j with h | h
    · exact h
    · rw [List.getElem?_eq_none (by simp; omega)] at hy; cases hy
  subst hj
  simp at hy; subst hy
  refine ⟨w.heap.size, 0, cs, rfl, .inr rfl, k.mono hk (fun g hg => Below.heap_alloc w _ g (hS g hg)) (fun g hg => .inl hg), fun t u hu => ?_⟩
  rw [World.cell?_alloc_at _ _ _ _ rfl]
  simpa using hu

/-- 'append(s, x...)' onto a row of the call's own. -/
theorem wl_append {α : Type} {P : Program} (w : World) {ops : Array Oper} {rest : List Oper} {o : Oper} {a : Act} {Q : Exit → Act → World → Prop} (k : Kd α) (base : Nat) (e : TypeId) (z : Value) (bytes : Nat) (hinf : (P.info? e).map (fun i => (i.zero, i.size, i.bytes)) = some (some z, k.n, bytes))
    (hzs : z.cells.size = k.n) (hsz : 0 < k.n)
    {v : Value} {xs : List α} (hown : Own k e w base v xs) (hgd : o.guard = none) (s x : Operand) (t : TypeId)
    (ho : o.op = .call { callee := .builtin .append, args := #[s, x], argTypes := #[t, t] }) (ht : P.underlying t = some (.slice e)) (hs : a.eval s = v)
    {A : Option Addr} {c : Nat} {ys : List α} (hx : a.eval x = .slice A ys.length c) (hin : In k w (Off w v) A c ys) (hpos : 0 < ys.length)
    (hbytes : (xs.length + ys.length) * bytes ≤ 140737488355328) (h63 : xs.length + ys.length ≤ maxLen) (hbase : base ≤ w.heap.size)
    (h : ∀ v' w', Own k e w' base v' (xs ++ ys) → w.grownBy w' v.ownBlock → (v'.ownBlock = v.ownBlock ∨ v'.ownBlock = some w.heap.size) → wpList P ops Q rest (a.put o.dst v') w') : wpList P ops Q (o :: rest) a w := by
  obtain ⟨i, hi, hz0, hz1, hz2⟩ := info_parts hinf
  obtain ⟨css, ho', hl, hk⟩ := hown
  -- the new cells
  have hnew : ∃ (ad : Addr) (cs2 : List (List Value)), A = some ad ∧ cs2.length = ys.length ∧ (∀ (j : Nat) y cs, ys[j]? = some y → cs2[j]? = some cs → k.ok w (Off w v) y cs) ∧ (∀ (j : Nat) u, cs2.flatten[j]? = some u → w.cell? (ad.add j) = some u) := by
    obtain ⟨b, off, cs0, ha, _, _, _⟩ := hin.2.2 0 ys[0] (List.getElem?_eq_getElem hpos)
    have hall : ∀ j, j < ys.length → ∃ cs, (∀ y, ys[j]? = some y → k.ok w (Off w v) y cs) ∧ ∀ t u, cs[t]? = some u → w.cell? ⟨b, off + j * k.n + t, none⟩ = some u := by
      intro j hj
      obtain ⟨b', off', cs, ha', _, hk', hc'⟩ := hin.2.2 j ys[j] (List.getElem?_eq_getElem hj)
      have e1 := ha.symm.trans ha'
      injection e1 with e1
      injection e1 with e2 e3
      subst e2; subst e3
      exact ⟨cs, fun y hy => by rw [List.getElem?_eq_getElem hj] at hy; injection hy with hy; subst hy; exact hk', hc'⟩
    have hf : ∃ f : Nat → List Value, ∀ j, j < ys.length → (∀ y, ys[j]? = some y → k.ok w (Off w v) y (f j)) ∧ ∀ t u, (f j)[t]? = some u → w.cell? ⟨b, off + j * k.n + t, none⟩ = some u :=
      ⟨fun j => if hj : j < ys.length then Classical.choose (hall j hj) else [], fun j hj => by simp only [dif_pos hj]; exact Classical.choose_spec (hall j hj)⟩
    obtain ⟨f, hf⟩ := hf
    have hget : ∀ j cs, ((List.range ys.length).map f)[j]? = some cs → j < ys.length ∧ cs = f j := by
      intro j cs hcs
      rw [List.getElem?_map] at hcs
      cases hr : (List.range ys.length)[j]? with
      | none => rw [hr] at hcs; cases hcs
      | some q =>
        obtain ⟨hq1, hq2⟩ := List.getElem?_eq_some_iff.1 hr
        simp at hq1 hq2
        subst hq2
        rw [hr] at hcs
        simp at hcs
        exact ⟨hq1, hcs.symm⟩
    refine ⟨⟨b, off, none⟩, (List.range ys.length).map f, ha, by simp, fun j y cs hy hcs => ?_, fun j u hu => ?_⟩
    · obtain ⟨hj, rfl⟩ := hget j cs hcs
      exact (hf j hj).1 y hy
    · have hfl : ∀ cs ∈ (List.range ys.length).map f, cs.length = k.n := by
        intro cs hcs
        obtain ⟨q, hq, rfl⟩ := List.mem_map.1 hcs
        simp at hq
        exact k.len ((hf q hq).1 ys[q] (List.getElem?_eq_getElem hq))
      have hjl : j < ys.length * k.n := by
        have := (List.getElem?_eq_some_iff.1 hu).1
        rw [flat_len hfl] at this
        simpa using this
      have hdm : j = (j / k.n) * k.n + j % k.n := by rw [Nat.mul_comm]; exact (Nat.div_add_mod j k.n).symm
      have hq : j / k.n < ys.length := (Nat.div_lt_iff_lt_mul hsz).2 hjl
      have hat := flat_at hfl (j := j / k.n) (cs := f (j / k.n)) (by simp [hq]) (j % k.n) (Nat.mod_lt _ hsz)
      rw [← hdm, hu] at hat
      have := (hf _ hq).2 (j % k.n) u hat.symm
      rw [Addr.add_lit, ← this]
      congr 2
      omega
  obtain ⟨ad, cs2, rfl, hl2, hk2, hc2⟩ := hnew
  have hlen2 := css_len hl2 hk2
  have h1 : ∀ u ∈ cs2.flatten, u.oneCell' = true := by
    intro u hu
    obtain ⟨cs, hcs, hu⟩ := List.mem_flatten.1 hu
    obtain ⟨j, hj, rfl⟩ := List.getElem_of_mem hcs
    exact k.one (hk2 j (ys[j]'(by omega)) _ (List.getElem?_eq_getElem (by omega)) (List.getElem?_eq_getElem hj)) u hu
  refine wpList_plain hgd fun K hK => ?_
  obtain ⟨v', w', hrun, r1, r2, _, r3⟩ := run_append_own_at (P := P) w base t o.type e i z k.n bytes ht hi hz0 hz1 hz2 hzs hsz v xs.length css.flatten ho' ad ys.length c cs2.flatten
    (by rw [flat_len hlen2, hl2]) hc2 h1 h63 hbytes hbase
  unfold Oper.wp execOp
  simp only [ho, resolve, invoke, builtin, Sem.run_bind, Sem.run_pure, Result.andThen_ok, List.map_toArray, List.map_cons, List.map_nil, hs, hx, hrun]
  refine hK _ _ (h v' w' ⟨css ++ cs2, by rw [List.flatten_append, List.length_append]; exact r1, by simp [hl, hl2], fun j x cs hx hcs => ?_⟩ r2 r3)
  have hcase : k.ok w (Off w v) x cs := by
    by_cases hj : j < xs.length
    · rw [List.getElem?_append_left hj] at hx
      rw [List.getElem?_append_left (by omega)] at hcs
      exact hk j x cs hx hcs
    · rw [List.getElem?_append_right (by omega)] at hx
      rw [List.getElem?_append_right (by omega)] at hcs
      rw [hl] at hcs
      exact hk2 _ x cs hx hcs
  refine k.mono hcase (fun g hg => r2.block g hg.1 (fun e => hg.2 e.symm)) (fun g hg => ⟨Nat.lt_of_lt_of_le hg.1 r2.size, fun e => ?_⟩)
  rcases r3 with r3 | r3
  · exact hg.2 (r3.symm.trans e)
  · rw [r3] at e
    injection e with e
    have := hg.1
    omega
/-- 'append(s, x)': x's cells have been laid in a new block. -/
theorem wl_append1 {α : Type} {P : Program} (wr : World) {ops : Array Oper} {rest : List Oper} {o : Oper} {a : Act} {Q : Exit → Act → World → Prop} (cs : List Value) (k : Kd α) (base : Nat) (e : TypeId) (z : Value) (bytes : Nat) (hinf : (P.info? e).map (fun i => (i.zero, i.size, i.bytes)) = some (some z, k.n, bytes))
    (hzs : z.cells.size = k.n) (hsz : 0 < k.n)
    {v : Value} {xs : List α} (hown : Own k e wr base v xs) (hgd : o.guard = none) (s x : Operand) (t : TypeId)
    (ho : o.op = .call { callee := .builtin .append, args := #[s, x], argTypes := #[t, t] }) (ht : P.underlying t = some (.slice e)) (hs : a.eval s = v)
    (y : α) (hx : a.eval x = .slice (some ⟨wr.heap.size, 0, none⟩) 1 1) (hok : k.ok wr (Off wr v) y cs)
    (hbytes : (xs.length + 1) * bytes ≤ 140737488355328) (h63 : xs.length + 1 ≤ maxLen) (hbase : base ≤ wr.heap.size)
    (h : ∀ v' w', Own k e w' base v' (xs ++ [y]) → Below base wr w' → wr.grownBy w' v.ownBlock → (v'.ownBlock = v.ownBlock ∨ v'.ownBlock = some (wr.heap.size + 1)) → wpList P ops Q rest (a.put o.dst v') w') :
    wpList P ops Q (o :: rest) a (wr.alloc (.cells cs.toArray e)) := by
  have hS : ∀ g, Off wr v g → g < wr.heap.size := fun g hg => hg.1
  refine wl_append (wr.alloc (.cells cs.toArray e)) k base e z bytes hinf hzs hsz (hown.alloc _) hgd s x t ho ht hs (ys := [y]) hx
    ((In.one_new (k := k) e hok hS).sub (fun g hg => ?_)) (by simp) hbytes h63 (by simp; omega) (fun v' w' ho' hg hb => ?_)
  · rcases hg with hg | rfl
    · exact ⟨by have := hg.1; simp; omega, hg.2⟩
    · refine ⟨by simp, fun hv => ?_⟩
      have := (hown.lt _ hv).2
      omega
  · have hgr : wr.grownBy w' v.ownBlock := ⟨hg.os, hg.tape, hg.output, by have := hg.size; simp at this; omega, fun g hlt hne => (hg.block g (by simp; omega) hne).trans (Below.heap_alloc wr _ g hlt)⟩
    refine h v' w' ho' ((Below.refl _ _).grown hgr hbase (fun g hg => (hown.lt g hg).1)) hgr ?_
    rcases hb with hb | hb
    · exact .inl hb
    · exact .inr (by simpa using hb)
/-- Block g is a row of one-cell numbers, none of it frozen, that begins with xs. -/
def Row (k : IntKind) (e : TypeId) (w : World) (g : Nat) (xs : List Int) : Prop :=
  ∃ cur : Array Value, w.heap[g]? = some (.cells cur e (0, 0)) ∧ xs.length ≤ cur.size ∧ cur.size ≤ maxLen ∧ ∀ (i : Nat) x, xs[i]? = some x → cur[i]? = some (.int k x)
section
variable {k : IntKind} {e : TypeId} {w w' : World} {g : Nat} {xs : List Int}
theorem Row.lt (h : Row k e w g xs) : g < w.heap.size := by obtain ⟨cur, hg, _⟩ := h; exact (Array.getElem?_eq_some_iff.1 hg).1
theorem Row.cell (h : Row k e w g xs) {i : Nat} (hi : i < xs.length) : w.cell? ⟨g, i, none⟩ = some (.int k xs[i]) := by
  obtain ⟨cur, hg, _, _, hc⟩ := h
  rw [cell_of_row w g i cur _ (0, 0) hg]; exact hc i _ (List.getElem?_eq_getElem hi)
theorem Row.free (h : Row k e w g xs) (i : Nat) : w.frozen? ⟨g, i, none⟩ = false := by
  obtain ⟨cur, hg, _⟩ := h
  simp [World.frozen?, hg]
theorem Row.same (h : Row k e w g xs) (hs : w'.heap[g]? = w.heap[g]?) : Row k e w' g xs := by
  obtain ⟨cur, hg, r⟩ := h
  exact ⟨cur, hs.trans hg, r⟩
theorem Row.below {B : Nat} (h : Row k e w g xs) (hb : Below B w w') (hg : g < B) : Row k e w' g xs := h.same (hb.block g hg)
theorem Row.alloc (h : Row k e w g xs) (o : Obj) : Row k e (w.alloc o) g xs := h.same (Below.heap_alloc w o g h.lt)
theorem Row.drewN (h : Row k e w g xs) (n : Nat) : Row k e (w.drewN n) g xs := h
theorem Row.far (h : Row k e w g xs) {p : Addr} (hp : g ≠ p.block) (u : Value) : Row k e (w.setCell p u) g xs := h.same (Below.heap_setCell w p u g hp)
theorem Row.set (h : Row k e w g xs) (i : Nat) (x : Int) : Row k e (w.setCell ⟨g, i, none⟩ (.int k x)) g (xs.set i x) := by
  obtain ⟨cur, hg, hs, hm, hc⟩ := h
  refine ⟨cur.setIfInBounds i (.int k x), by simp [World.setCell, Array.getElem?_modify, hg], by simpa using hs, by simpa using hm, fun j y hj => ?_⟩
  rw [List.getElem?_set] at hj
  rw [Array.getElem?_setIfInBounds]
  by_cases e : i = j
  · subst e
    rw [if_pos rfl] at hj
    split at hj
    · injection hj with hj; subst hj
      rw [if_pos rfl, if_pos (by omega)]
    · cases hj
  · rw [if_neg e] at hj
    rw [if_neg e]; exact hc j y hj
theorem Row.inn (h : Row k e w g xs) {c : Nat} (hc : xs.length ≤ c) (hm : c ≤ maxLen) : In (kN k) w (Lt w.heap.size) (some ⟨g, 0, none⟩) c xs := by
  refine ⟨hc, hm, fun j x hx => ⟨g, 0, [.int k x], rfl, h.lt, rfl, fun t u hu => ?_⟩⟩
  have ht : t = 0 := by have := (List.getElem?_eq_some_iff.1 hu).1; simpa using this
  subst ht
  simp at hu; subst hu
  simp only [kN, Nat.mul_one, Nat.zero_add, Nat.add_zero]
  obtain ⟨hj, rfl⟩ := List.getElem?_eq_some_iff.1 hx
  exact h.cell hj
theorem Row.take (h : Row k e w g xs) (r : Nat) : Row k e w g (xs.take r) := by
  obtain ⟨cur, hg, hs, hm, hc⟩ := h
  refine ⟨cur, hg, by rw [List.length_take]; omega, hm, fun i x hx => ?_⟩
  rw [List.getElem?_take] at hx
  split at hx
  · exact hc i x hx
  · cases hx
theorem Row.of_own {base n : Nat} (h : w.ownsRow base e 1 (.slice (some ⟨g, 0, none⟩) n n) n (xs.map (Value.int k))) (hn : n = xs.length) : Row k e w g xs := by
  rcases h.2 with ⟨h1, _⟩ | ⟨g', cap, cur, hv, hb, hg, hc, hm, hs, ht⟩
  · cases h1
  · injection hv with e1 e2 e3
    injection e1 with e1
    injection e1 with e1
    subst e1; subst e3
    refine ⟨cur, hg, by omega, by rw [hs]; omega, fun i x hx => ?_⟩
    have hi := (List.getElem?_eq_some_iff.1 hx).1
    have h2 : (xs.map (Value.int k))[i]? = some (.int k x) := by simp [hx]
    rw [← ht, List.getElem?_take] at h2
    split at h2
    · simpa using h2
    · cases h2
end
/-! 'max', 'min' of whole numbers, in the walk as Lean's own: 'attribute [local go_sem] mx2 mn2 mx_two mn_two mn_three' -/
theorem mx2 (k k' : IntKind) (x y : Int) : Builtin.max2 (.int k x) (.int k' y) = pure (.int k (max x y)) := by
  simp only [Builtin.max2, gt_iff_lt]; congr 2; split <;> omega
theorem mn2 (k k' : IntKind) (x y : Int) : Builtin.min2 (.int k x) (.int k' y) = pure (.int k (min x y)) := by
  simp only [Builtin.min2]; congr 2; split <;> omega
theorem mx_two (ats : Array TypeId) (ty : TypeId) (a b : Value) : Builtin.max_ ats ty #[a, b] = (Builtin.max2 a b >>= fun s => pure s) := by simp only [Builtin.max_, List.foldlM_cons, List.foldlM_nil]
theorem mn_two (ats : Array TypeId) (ty : TypeId) (a b : Value) : Builtin.min_ ats ty #[a, b] = (Builtin.min2 a b >>= fun s => pure s) := by simp only [Builtin.min_, List.foldlM_cons, List.foldlM_nil]
theorem mn_three (ats : Array TypeId) (ty : TypeId) (a b c : Value) : Builtin.min_ ats ty #[a, b, c] = (Builtin.min2 a b >>= fun s => Builtin.min2 s c >>= fun s => pure s) := by simp only [Builtin.min_, List.foldlM_cons, List.foldlM_nil]
/-- n zeros -/
def zrow (k : IntKind) (n : Nat) : Array Value := Array.replicate n (.int k 0)
/-- 'make([]T, n)' of one-cell numbers. -/
theorem run_mk {P : Program} (k : IntKind) (e : TypeId) (bytes n : Nat) (t : TypeId) (ht : P.underlying t = some (.slice e)) (hinf : (P.info? e).map (fun i => (i.zero, i.size, i.bytes)) = some (some (.int k 0), 1, bytes))
    (hb : bytes * n ≤ 281474976710656) (hn : n ≤ maxLen) (kl kc : IntKind) (w : World) :
    (Instr.makeSlice t (.int kl (n : Int)) (.int kc (n : Int))).run P w = .ok (.slice (some ⟨w.heap.size, 0, none⟩) n n) (w.alloc (.cells (zrow k n) e)) := by
  obtain ⟨i, hi, hz0, hz1, hz2⟩ := info_parts hinf
  subst hz2
  have h63' : (n : Int) ≤ 9223372036854775807 := by
    have h := hn
    simp [maxLen] at h
    omega
  have hb' : (i.bytes : Int) * (n : Int) ≤ 281474976710656 := by
    have h : ((i.bytes * n : Nat) : Int) ≤ 281474976710656 := by omega
    rwa [Int.natCast_mul] at h
  have hr := run_make (P := P) w t e i _ ht hi hz0 kl kc n n (by omega) (Int.le_refl _) hb' h63'
  simp only [Int.toNat_natCast] at hr
  rw [hr, hz1, Nat.mul_one]
  have : madeCells (Value.int k 0).cells n = zrow k n := by
    apply Array.toList_inj.1
    show (madeCells #[.int k 0] n).toList = _
    rw [toList_madeCells_one]; simp [zrow]
  rw [this]
theorem Row.zrow (k : IntKind) (e : TypeId) (w : World) (n : Nat) (hn : n ≤ maxLen) : Row k e (w.alloc (.cells (zrow k n) e)) w.heap.size (List.replicate n 0) :=
  ⟨W.zrow k n, heap_alloc_new w _, by simp [W.zrow], by simpa [W.zrow] using hn, fun i x hx => by
    rw [List.getElem?_replicate] at hx
    split at hx
    · injection hx with hx; subst hx
      simp [W.zrow, *]
    · cases hx⟩
theorem calls_args {P : Program} {f : FuncId} {args args' : Array Value} {w : World} {R : Ending → World → Prop} (h : Calls P f args' w R) (e : args = args') : Calls P f args w R := by subst e; exact h
/-- a call of function g enters it -/
def Ent (P : Program) (g : FuncId) : Prop := ∀ (args : Array Value) (w : World), (callFunc g args).run P w = .ok (.enter g args) w
theorem ent_of {P : Program} {f : FuncId} {fn : Func} {c : Code} (hf : P.funcs[f]? = some fn) (hname : (fn.name == "runtime.NumGoroutine") = false) (hb : fn.body = some c) : Ent P f := by
  intro args w
  have h1 : fn.name ≠ "runtime.NumGoroutine" := by simpa using hname
  simp [callFunc, hf, h1, hb, mark]
theorem getD_lt {α : Type} (l : List α) (d : α) {j : Nat} (h : j < l.length) : l.getD j d = l[j] := by simp [List.getD, List.getElem?_eq_getElem h]
theorem getD_ge {α : Type} (l : List α) (d : α) {j : Nat} (h : l.length ≤ j) : l.getD j d = d := by simp [List.getD, List.getElem?_eq_none h]
theorem bdrewN {B : Nat} {a w : World} (h : Below B a w) (n : Nat) : Below B a (w.drewN n) := h.trans ⟨rfl, rfl, rfl, Nat.le_refl _, fun _ _ => rfl⟩
theorem ret_int {k : IntKind} {a b : Int} (h : a = b) : Ending.returned (.int k a) = .returned (.int k b) := by rw [h]
theorem ret_bool {a b : Bool} (h : a = b) : Ending.returned (.bool a) = .returned (.bool b) := by rw [h]
end Go.Proofs.Ytjmkkcbilpidnaa.W
