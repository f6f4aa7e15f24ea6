/- 'append' at a step of a region that draws its order. No program in sight. -/
import Derived.Test.YtjmkkcbilpidnaaWords
import Derived.Deep.AppendLies
set_option linter.unusedVariables false
set_option linter.unusedSimpArgs false
namespace Go.Proofs.Ytjmkkcbilpidnaa.W
open Go Go.RowKit
/-- 'append(s, x...)' onto a row of the call's own. -/
theorem st_append {α : Type} {P : Program} (w : World) {ops : Array Oper} {o : Oper} {a : Act} {K : Act → World → Prop} {Q : Exit → Act → World → Prop} {E : Prop} (k : Kd α) (base : Nat) (e : TypeId) (z : Value) (bytes : Nat) (hinf : (P.info? e).map (fun i => (i.zero, i.size, i.bytes)) = some (some z, k.n, bytes))
    (hzs : z.cells.size = k.n) (hsz : 0 < k.n)
    {v : Value} {xs : List α} (hown : Own k e w base v xs) (hgd : o.guard = none) (s x : Operand) (t : TypeId)
    (ho : o.op = .call { callee := .builtin .append, args := #[s, x], argTypes := #[t, t] }) (ht : P.underlying t = some (.slice e)) (hs : a.eval s = v)
    {A : Option Addr} {c : Nat} {ys : List α} (hx : a.eval x = .slice A ys.length c) (hin : In k w (Off w v) A c ys) (hpos : 0 < ys.length)
    (hbytes : (xs.length + ys.length) * bytes ≤ 140737488355328) (h63 : xs.length + ys.length ≤ maxLen) (hbase : base ≤ w.heap.size)
    (h : ∀ v' w', Own k e w' base v' (xs ++ ys) → w.grownBy w' v.ownBlock → (v'.ownBlock = v.ownBlock ∨ v'.ownBlock = some w.heap.size) → K (a.put o.dst v') w') : if Region.wanted o (yielded ops a.tmps) = true then Oper.wp P o a w K Q else E := by
  obtain ⟨i, hi, hz0, hz1, hz2⟩ := info_parts hinf
  obtain ⟨css, ho', hl, hk⟩ := hown
  -- the new cells
  have hnew : ∃ (ad : Addr) (cs2 : List (List Value)), A = some ad ∧ cs2.length = ys.length ∧ (∀ (j : Nat) y cs, ys[j]? = some y → cs2[j]? = some cs → k.ok w (Off w v) y cs) ∧ (∀ (j : Nat) u, cs2.flatten[j]? = some u → w.cell? (ad.add j) = some u) := by
    obtain ⟨b, off, cs0, ha, _, _, _⟩ := hin.2.2 0 ys[0] (List.getElem?_eq_getElem hpos)
    have hall : ∀ j, j < ys.length → ∃ cs, (∀ y, ys[j]? = some y → k.ok w (Off w v) y cs) ∧ ∀ t u, cs[t]? = some u → w.cell? ⟨b, off + j * k.n + t, none⟩ = some u := by
      intro j hj
      obtain ⟨b', off', cs, ha', _, hk', hc'⟩ := hin.2.2 j ys[j] (List.getElem?_eq_getElem hj)
      have e1 := ha.symm.trans ha'
      injection e1 with e1
      injection e1 with e2 e3
      subst e2; subst e3
      exact ⟨cs, fun y hy => by rw [List.getElem?_eq_getElem hj] at hy; injection hy with hy; subst hy; exact hk', hc'⟩
    have hf : ∃ f : Nat → List Value, ∀ j, j < ys.length → (∀ y, ys[j]? = some y → k.ok w (Off w v) y (f j)) ∧ ∀ t u, (f j)[t]? = some u → w.cell? ⟨b, off + j * k.n + t, none⟩ = some u :=
      ⟨fun j => if hj : j < ys.length then Classical.choose (hall j hj) else [], fun j hj => by simp only [dif_pos hj]; exact Classical.choose_spec (hall j hj)⟩
    obtain ⟨f, hf⟩ := hf
    have hget : ∀ j cs, ((List.range ys.length).map f)[j]? = some cs → j < ys.length ∧ cs = f j := by
      intro j cs hcs
      rw [List.getElem?_map] at hcs
      cases hr : (List.range ys.length)[j]? with
      | none => rw [hr] at hcs; cases hcs
      | some q =>
        obtain ⟨hq1, hq2⟩ := List.getElem?_eq_some_iff.1 hr
        simp at hq1 hq2
        subst hq2
        rw [hr] at hcs
        simp at hcs
        exact ⟨hq1, hcs.symm⟩
    refine ⟨⟨b, off, none⟩, (List.range ys.length).map f, ha, by simp, fun j y cs hy hcs => ?_, fun j u hu => ?_⟩
    · obtain ⟨hj, rfl⟩ := hget j cs hcs
      exact (hf j hj).1 y hy
    · have hfl : ∀ cs ∈ (List.range ys.length).map f, cs.length = k.n := by
        intro cs hcs
        obtain ⟨q, hq, rfl⟩ := List.mem_map.1 hcs
        simp at hq
        exact k.len ((hf q hq).1 ys[q] (List.getElem?_eq_getElem hq))
      have hjl : j < ys.length * k.n := by
        have := (List.getElem?_eq_some_iff.1 hu).1
        rw [flat_len hfl] at this
        simpa using this
      have hdm : j = (j / k.n) * k.n + j % k.n := by rw [Nat.mul_comm]; exact (Nat.div_add_mod j k.n).symm
      have hq : j / k.n < ys.length := (Nat.div_lt_iff_lt_mul hsz).2 hjl
      have hat := flat_at hfl (j := j / k.n) (cs := f (j / k.n)) (by simp [hq]) (j % k.n) (Nat.mod_lt _ hsz)
      rw [← hdm, hu] at hat
      have := (hf _ hq).2 (j % k.n) u hat.symm
      rw [Addr.add_lit, ← this]
      congr 2
      omega
  obtain ⟨ad, cs2, rfl, hl2, hk2, hc2⟩ := hnew
  have hlen2 := css_len hl2 hk2
  have h1 : ∀ u ∈ cs2.flatten, u.oneCell' = true := by
    intro u hu
    obtain ⟨cs, hcs, hu⟩ := List.mem_flatten.1 hu
    obtain ⟨j, hj, rfl⟩ := List.getElem_of_mem hcs
    exact k.one (hk2 j (ys[j]'(by omega)) _ (List.getElem?_eq_getElem (by omega)) (List.getElem?_eq_getElem hj)) u hu
  rw [if_pos (by simp [Region.wanted, hgd])]
  obtain ⟨v', w', hrun, r1, r2, _, r3⟩ := run_append_own_at (P := P) w base t o.type e i z k.n bytes ht hi hz0 hz1 hz2 hzs hsz v xs.length css.flatten ho' ad ys.length c cs2.flatten
    (by rw [flat_len hlen2, hl2]) hc2 h1 h63 hbytes hbase
  unfold Oper.wp execOp
  simp only [ho, resolve, invoke, builtin, Sem.run_bind, Sem.run_pure, Result.andThen_ok, List.map_toArray, List.map_cons, List.map_nil, hs, hx, hrun]
  refine h v' w' ⟨css ++ cs2, by rw [List.flatten_append, List.length_append]; exact r1, by simp [hl, hl2], fun j x cs hx hcs => ?_⟩ r2 r3
  have hcase : k.ok w (Off w v) x cs := by
    by_cases hj : j < xs.length
    · rw [List.getElem?_append_left hj] at hx
      rw [List.getElem?_append_left (by omega)] at hcs
      exact hk j x cs hx hcs
    · rw [List.getElem?_append_right (by omega)] at hx
      rw [List.getElem?_append_right (by omega)] at hcs
      rw [hl] at hcs
      exact hk2 _ x cs hx hcs
  refine k.mono hcase (fun g hg => r2.block g hg.1 (fun e => hg.2 e.symm)) (fun g hg => ⟨Nat.lt_of_lt_of_le hg.1 r2.size, fun e => ?_⟩)
  rcases r3 with r3 | r3
  · exact hg.2 (r3.symm.trans e)
  · rw [r3] at e
    injection e with e
    have := hg.1
    omega
/-- 'append(s, x)': x's cells have been laid in a new block. -/
theorem st_append1 {α : Type} {P : Program} (wr : World) {ops : Array Oper} {o : Oper} {a : Act} {K : Act → World → Prop} {Q : Exit → Act → World → Prop} {E : Prop} (cs : List Value) (k : Kd α) (base : Nat) (e : TypeId) (z : Value) (bytes : Nat) (hinf : (P.info? e).map (fun i => (i.zero, i.size, i.bytes)) = some (some z, k.n, bytes))
    (hzs : z.cells.size = k.n) (hsz : 0 < k.n)
    {v : Value} {xs : List α} (hown : Own k e wr base v xs) (hgd : o.guard = none) (s x : Operand) (t : TypeId)
    (ho : o.op = .call { callee := .builtin .append, args := #[s, x], argTypes := #[t, t] }) (ht : P.underlying t = some (.slice e)) (hs : a.eval s = v)
    (y : α) (hx : a.eval x = .slice (some ⟨wr.heap.size, 0, none⟩) 1 1) (hok : k.ok wr (Off wr v) y cs)
    (hbytes : (xs.length + 1) * bytes ≤ 140737488355328) (h63 : xs.length + 1 ≤ maxLen) (hbase : base ≤ wr.heap.size)
    (h : ∀ v' w', Own k e w' base v' (xs ++ [y]) → Below base wr w' → wr.grownBy w' v.ownBlock → (v'.ownBlock = v.ownBlock ∨ v'.ownBlock = some (wr.heap.size + 1)) → K (a.put o.dst v') w') :
    if Region.wanted o (yielded ops a.tmps) = true then Oper.wp P o a (wr.alloc (.cells cs.toArray e)) K Q else E := by
  have hS : ∀ g, Off wr v g → g < wr.heap.size := fun g hg => hg.1
  refine st_append (wr.alloc (.cells cs.toArray e)) k base e z bytes hinf hzs hsz (hown.alloc _) hgd s x t ho ht hs (ys := [y]) hx
    ((In.one_new (k := k) e hok hS).sub (fun g hg => ?_)) (by simp) hbytes h63 (by simp; omega) (fun v' w' ho' hg hb => ?_)
  · rcases hg with hg | rfl
    · exact ⟨by have := hg.1; simp; omega, hg.2⟩
    · refine ⟨by simp, fun hv => ?_⟩
      have := (hown.lt _ hv).2
      omega
  · have hgr : wr.grownBy w' v.ownBlock := ⟨hg.os, hg.tape, hg.output, by have := hg.size; simp at this; omega, fun g hlt hne => (hg.block g (by simp; omega) hne).trans (Below.heap_alloc wr _ g hlt)⟩
    refine h v' w' ho' ((Below.refl _ _).grown hgr hbase (fun g hg => (hown.lt g hg).1)) hgr ?_
    rcases hb with hb | hb
    · exact .inl hb
    · exact .inr (by simpa using hb)
end Go.Proofs.Ytjmkkcbilpidnaa.W
