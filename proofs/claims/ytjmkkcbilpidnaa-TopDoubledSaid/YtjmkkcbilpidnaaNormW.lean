/- The walk of norm.Normalize. -/
import Derived.Test.YtjmkkcbilpidnaaNorm
import Derived.Test.YtjmkkcbilpidnaaQTail
import Derived.Laws.EntriesVeiled
namespace Go.Proofs.Ytjmkkcbilpidnaa.Norm
open Go Go.RowKit Go.Proofs.Ytjmkkcbilpidnaa.W Go.Proofs.Ytjmkkcbilpidnaa.NormP Go.Proofs.Ytjmkkcbilpidnaa.Tally
set_option linter.unusedVariables false
set_option linter.unusedSimpArgs false
attribute [local go_sem] mx2 mx_two

/-- The memory of a call of 'Normalize' while it is under way. -/
structure St (w wr : World) (A : Option Addr) (n c : Nat) (S T : Int) (nm : List Int) : Prop where
  bel : Below w.heap.size w wr
  sz : w.heap.size + 6 ≤ wr.heap.size
  len : nm.length = n
  cs : wr.cell? ⟨w.heap.size, 0, none⟩ = some (.slice A n c)
  r0 : wr.cell? ⟨w.heap.size + 1, 0, none⟩ = some (.int .i64 0)
  r1 : wr.cell? ⟨w.heap.size + 1, 1, none⟩ = some (.slice none 0 0)
  f0 : wr.frozen? ⟨w.heap.size + 1, 0, none⟩ = false
  f1 : wr.frozen? ⟨w.heap.size + 1, 1, none⟩ = false
  tot : wr.cell? ⟨w.heap.size + 1 + 1, 0, none⟩ = some (.int .i64 T)
  siz : wr.cell? ⟨w.heap.size + 1 + 1 + 1, 0, none⟩ = some (.int .i64 S)
  row : Row .i64 3 wr (w.heap.size + 1 + 1 + 1 + 1) nm
  nv : wr.cell? ⟨w.heap.size + 1 + 1 + 1 + 1 + 1, 0, none⟩ = some (.slice (some ⟨w.heap.size + 1 + 1 + 1 + 1, 0, none⟩) n n)
section
variable {w wr : World} {A : Option Addr} {n c : Nat} {S T : Int} {nm : List Int}
theorem St.below (h : St w wr A n c S T nm) {w2 : World} (hb : Below (w.heap.size + 6) wr w2) : St w w2 A n c S T nm := by
  refine ⟨h.bel.trans (hb.mono (by omega)), Nat.le_trans h.sz hb.size, h.len, ?_, ?_, ?_, ?_, ?_, ?_, ?_, h.row.below hb (by omega), ?_⟩
  · rw [hb.cell (by simp)]; exact h.cs
  · rw [hb.cell (by simp)]; exact h.r0
  · rw [hb.cell (by simp)]; exact h.r1
  · rw [hb.frozen (by simp)]; exact h.f0
  · rw [hb.frozen (by simp)]; exact h.f1
  · rw [hb.cell (by simp)]; exact h.tot
  · rw [hb.cell (by simp)]; exact h.siz
  · rw [hb.cell (by simp)]; exact h.nv
theorem St.set (h : St w wr A n c S T nm) (i : Nat) (x : Int) : St w (wr.setCell ⟨w.heap.size + 1 + 1 + 1 + 1, i, none⟩ (.int .i64 x)) A n c S T (nm.set i x) := by
  have hc : ∀ b o, b ≠ w.heap.size + 1 + 1 + 1 + 1 → (wr.setCell ⟨w.heap.size + 1 + 1 + 1 + 1, i, none⟩ (.int .i64 x)).cell? ⟨b, o, none⟩ = wr.cell? ⟨b, o, none⟩ := fun b o hb =>
    World.cell?_setCell_other _ _ _ _ (fun e => hb (congrArg Addr.block e).symm)
  refine ⟨h.bel.setCell (by show w.heap.size ≤ w.heap.size + 1 + 1 + 1 + 1; omega) _, by simpa using h.sz, by simpa using h.len, ?_, ?_, ?_, ?_, ?_, ?_, ?_, h.row.set i x, ?_⟩
  · rw [hc _ _ (by omega)]; exact h.cs
  · rw [hc _ _ (by omega)]; exact h.r0
  · rw [hc _ _ (by omega)]; exact h.r1
  · rw [World.frozen?_setCell]; exact h.f0
  · rw [World.frozen?_setCell]; exact h.f1
  · rw [hc _ _ (by omega)]; exact h.tot
  · rw [hc _ _ (by omega)]; exact h.siz
  · rw [hc _ _ (by omega)]; exact h.nv
theorem St.drewN (h : St w wr A n c S T nm) (q : Nat) : St w (wr.drewN q) A n c S T nm := h.below (bdrewN (Below.refl _ _) q)
end
/-- .. with the two function values that choose the places. -/
structure St2 (w wr : World) (A : Option Addr) (n c : Nat) (S T : Int) (f ga : Nat) (la : Array Value) (gb : Nat) (lb : Array Value) (b : Int) (nm : List Int) : Prop where
  st : St w wr A n c S T nm
  big : w.heap.size + 6 ≤ f
  sz : f + 2 ≤ wr.heap.size
  fa : wr.cell? ⟨f, 0, none⟩ = some (.func (.func 18) #[] #[.pointer (some ⟨w.heap.size, 0, none⟩), .pointer (some ⟨w.heap.size + 1 + 1 + 1, 0, none⟩), .pointer (some ⟨w.heap.size + 1 + 1 + 1 + 1 + 1, 0, none⟩), .pointer (some ⟨w.heap.size + 1 + 1, 0, none⟩)])
  y0 : wr.cell? ⟨f + 1, 0, none⟩ = some (.func (.func ga) #[] la)
  y1 : wr.cell? ⟨f + 1, 1, none⟩ = some (.func (.func gb) #[] lb)
  y2 : wr.cell? ⟨f + 1, 2, none⟩ = some (.int .i64 b)
section
variable {w wr : World} {A : Option Addr} {n c : Nat} {S T : Int} {f ga gb : Nat} {la lb : Array Value} {b : Int} {nm : List Int}
theorem St2.below (h : St2 w wr A n c S T f ga la gb lb b nm) {w2 : World} (hb : Below (f + 2) wr w2) : St2 w w2 A n c S T f ga la gb lb b nm := by
  have := h.big
  refine ⟨h.st.below (hb.mono (by omega)), h.big, Nat.le_trans h.sz hb.size, ?_, ?_, ?_, ?_⟩
  · rw [hb.cell (by simp)]; exact h.fa
  · rw [hb.cell (by simp)]; exact h.y0
  · rw [hb.cell (by simp)]; exact h.y1
  · rw [hb.cell (by simp)]; exact h.y2
theorem St2.set (h : St2 w wr A n c S T f ga la gb lb b nm) (i : Nat) (x : Int) : St2 w (wr.setCell ⟨w.heap.size + 1 + 1 + 1 + 1, i, none⟩ (.int .i64 x)) A n c S T f ga la gb lb b (nm.set i x) := by
  have hc : ∀ b o, b ≠ w.heap.size + 1 + 1 + 1 + 1 → (wr.setCell ⟨w.heap.size + 1 + 1 + 1 + 1, i, none⟩ (.int .i64 x)).cell? ⟨b, o, none⟩ = wr.cell? ⟨b, o, none⟩ := fun b o hb =>
    World.cell?_setCell_other _ _ _ _ (fun e => hb (congrArg Addr.block e).symm)
  have := h.big
  refine ⟨h.st.set i x, h.big, by simpa using h.sz, ?_, ?_, ?_, ?_⟩
  · rw [hc _ _ (by omega)]; exact h.fa
  · rw [hc _ _ (by omega)]; exact h.y0
  · rw [hc _ _ (by omega)]; exact h.y1
  · rw [hc _ _ (by omega)]; exact h.y2
theorem St2.drewN (h : St2 w wr A n c S T f ga la gb lb b nm) (q : Nat) : St2 w (wr.drewN q) A n c S T f ga la gb lb b nm := h.below (bdrewN (Below.refl _ _) q)
end
theorem sum_nonneg (l : List Int) (h : ∀ i, 0 ≤ l.getD i 0) : ∀ i, l.getD i 0 ≤ l.sum ∧ 0 ≤ l.sum := by
  induction l with
  | nil => intro i; simp [List.getD]
  | cons a l ih =>
    have h0 : 0 ≤ a := h 0
    have ih' := ih (fun i => h (i + 1))
    intro i
    cases i with
    | zero =>
      have := ih' 0
      show a ≤ (a :: l).sum ∧ _
      rw [List.sum_cons]; omega
    | succ i =>
      have := ih' i
      show l.getD i 0 ≤ (a :: l).sum ∧ _
      rw [List.sum_cons]; omega
theorem shape_bd {cs nm : List Int} (hs : Shape cs nm) (i : Nat) : 0 ≤ nm.getD i 0 ∧ nm.getD i 0 ≤ nm.sum := by
  have h0 : ∀ j, 0 ≤ nm.getD j 0 := fun j => by
    have := hs.2 j
    by_cases hc : 0 < cs.getD j 0
    · have := this.1 hc; omega
    · have := this.2 hc; omega
  exact ⟨h0 i, (sum_nonneg nm h0 i).1⟩
/-- The choice of a place, in both directions. -/
theorem choice (up : Bool) {w wr : World} {A : Option Addr} {c : Nat} {S : Int} {f ga gb : Nat} {la lb : Array Value} {zs nm : List Int} (h : In (kN .i64) w (Lt w.heap.size) A c zs) (hh : Hist zs)
    (hup : up = true → ga = 19 ∧ la = #[.pointer (some ⟨w.heap.size, 0, none⟩)] ∧ gb = 18 ∧ lb = #[.pointer (some ⟨w.heap.size, 0, none⟩), .pointer (some ⟨w.heap.size + 1 + 1 + 1, 0, none⟩), .pointer (some ⟨w.heap.size + 1 + 1 + 1 + 1 + 1, 0, none⟩), .pointer (some ⟨w.heap.size + 1 + 1, 0, none⟩)])
    (hdn : up = false → ga = 20 ∧ la = #[.pointer (some ⟨w.heap.size + 1 + 1 + 1 + 1 + 1, 0, none⟩)] ∧ gb = 21 ∧ lb = #[.pointer (some ⟨f, 0, none⟩)])
    (hS : 1 ≤ S) (hS2 : S ≤ 512) {b : Int} (hst : St2 w wr A zs.length c S zs.sum f ga la gb lb b nm) (hsh : Shape zs nm) (hsm : nm.sum ≤ 1000000) (q : Nat) :
    Calls Try.prog 22 #[.slice (some ⟨w.heap.size + 1 + 1 + 1 + 1, 0, none⟩) zs.length zs.length, .func (.func ga) #[] la, .func (.func gb) #[] lb] (wr.drewN q) fun e w' => e = .returned (.int .i64 (at_ zs S zs.sum up nm)) ∧ ∃ q, w' = wr.drewN q := by
  have hl := hh.1
  have hT := Hist.sum zs hh zs.length (Nat.le_refl _)
  rw [List.take_length] at hT
  have hnl := hst.st.len
  have b1 : Box wr ⟨w.heap.size, 0, none⟩ zs := ⟨A, c, hst.st.cs, h.below hst.st.bel hst.st.bel.size⟩
  have b3 : Box wr ⟨w.heap.size + 1 + 1 + 1 + 1 + 1, 0, none⟩ nm := ⟨_, _, by rw [hnl]; exact hst.st.nv, hst.st.row.inn (by omega) (by unfold maxLen; omega)⟩
  have hb1 : ∀ i, -4611686018427387904 ≤ zs.getD i 0 * S ∧ zs.getD i 0 * S ≤ 4611686018427387903 := fun i => by
    have h1 := hh.getD i
    have h2 : zs.getD i 0 * S ≤ 2147483648 * 512 := Int.le_trans (Int.mul_le_mul_of_nonneg_left hS2 h1.1) (by omega)
    have h3 : 0 ≤ zs.getD i 0 * S := Int.mul_nonneg h1.1 (by omega)
    omega
  have hb2 : ∀ i, -4611686018427387904 ≤ nm.getD i 0 * zs.sum ∧ nm.getD i 0 * zs.sum ≤ 4611686018427387903 := fun i => by
    have h1 := shape_bd hsh i
    have h2 : nm.getD i 0 * zs.sum ≤ 1000000 * zs.sum := Int.mul_le_mul_of_nonneg_right (by omega) hT.1
    have h3 : 0 ≤ nm.getD i 0 * zs.sum := Int.mul_nonneg h1.1 hT.1
    omega
  cases up with
  | true =>
    obtain ⟨rfl, rfl, rfl, rfl⟩ := hup rfl
    have := furthest 19 18 #[.pointer (some ⟨w.heap.size, 0, none⟩)] #[.pointer (some ⟨w.heap.size, 0, none⟩), .pointer (some ⟨w.heap.size + 1 + 1 + 1, 0, none⟩), .pointer (some ⟨w.heap.size + 1 + 1 + 1 + 1 + 1, 0, none⟩), .pointer (some ⟨w.heap.size + 1 + 1, 0, none⟩)] (fun i => decide (0 < zs.getD i 0)) (above zs S zs.sum nm) (some ⟨w.heap.size + 1 + 1 + 1 + 1, 0, none⟩) zs.length zs.length wr q (by omega)
      ⟨ent_of Try.func19 (by kernel_rfl) rfl, fun i q hi => calls_args (pos_calls _ zs wr q i b1 hi) rfl⟩
      ⟨ent_of Try.func18 (by kernel_rfl) rfl, fun i q hi => calls_args (above_calls _ _ _ _ zs nm S zs.sum wr q i b1 hst.st.siz b3 hst.st.tot hi hnl.symm (hb1 i) (hb2 i)) rfl⟩
    have e : at_ zs S zs.sum true nm = far (fun i => decide (0 < zs.getD i 0)) (above zs S zs.sum nm) zs.length := by unfold at_; rw [if_pos rfl, hnl]
    rw [e]; exact this
  | false =>
    obtain ⟨rfl, rfl, rfl, rfl⟩ := hdn rfl
    have := furthest 20 21 #[.pointer (some ⟨w.heap.size + 1 + 1 + 1 + 1 + 1, 0, none⟩)] #[.pointer (some ⟨f, 0, none⟩)] (fun i => decide (1 < nm.getD i 0)) (fun i => -above zs S zs.sum nm i) (some ⟨w.heap.size + 1 + 1 + 1 + 1, 0, none⟩) zs.length zs.length wr q (by omega)
      ⟨ent_of Try.func20 (by kernel_rfl) rfl, fun i q hi => calls_args (over_calls _ nm wr q i b3 (by omega)) rfl⟩
      ⟨ent_of Try.func21 (by kernel_rfl) rfl, fun i q hi => calls_args (neg_calls _ _ _ _ _ zs nm S zs.sum wr q i hst.fa b1 hst.st.siz b3 hst.st.tot hi hnl.symm (hb1 i) (hb2 i)) rfl⟩
    have e : at_ zs S zs.sum false nm = far (fun i => decide (1 < nm.getD i 0)) (fun i => -above zs S zs.sum nm i) zs.length := by unfold at_; rw [if_neg (by simp), hnl]
    rw [e]; exact this
theorem start_snoc (zs : List Int) (S T : Int) (k : Nat) (h : k < zs.length) : NormP.start (zs.take (k + 1)) S T = NormP.start (zs.take k) S T ++ [if 0 < zs[k] then max (zs[k] * S / T) 1 else 0] := by
  unfold NormP.start
  rw [List.take_succ_eq_append_getElem h, List.map_append]; rfl
def part (zs : List Int) (S T : Int) (k : Nat) : List Int := NormP.start (zs.take k) S T ++ List.replicate (zs.length - k) 0
theorem part_len (zs : List Int) (S T : Int) (k : Nat) (h : k ≤ zs.length) : (part zs S T k).length = zs.length := by simp [part, NormP.start]; omega
theorem part_set (zs : List Int) (S T : Int) (k : Nat) (h : k < zs.length) : (part zs S T k).set k (if 0 < zs[k] then max (zs[k] * S / T) 1 else 0) = part zs S T (k + 1) := by
  unfold part
  have hl : (NormP.start (zs.take k) S T).length = k := by simp [NormP.start]; omega
  rw [List.set_append_right _ _ (by omega), hl, Nat.sub_self, start_snoc zs S T k h, List.append_assoc]
  congr 1
  rw [show zs.length - k = (zs.length - (k + 1)) + 1 from by omega, List.replicate_succ]
  rfl
theorem part_at (zs : List Int) (S T : Int) (k : Nat) (h : k < zs.length) : (part zs S T k)[k]? = some 0 := by
  unfold part
  have hl : (NormP.start (zs.take k) S T).length = k := by simp [NormP.start]; omega
  rw [List.getElem?_append_right (by omega), hl, Nat.sub_self, List.getElem?_replicate, if_pos (by omega)]

theorem set_same (l : List Int) (k : Nat) (x : Int) (h : l[k]? = some x) : l.set k x = l := by
  apply List.ext_getElem?
  intro i
  rw [List.getElem?_set]
  by_cases e : k = i
  · subst e
    rw [if_pos rfl, if_pos (List.getElem?_eq_some_iff.1 h).1, h]
  · rw [if_neg e]
theorem quo_bd (z S T : Int) (h0 : 0 < z) (h1 : z ≤ T) (hS : 1 ≤ S) (hS2 : S ≤ 512) : 1 ≤ max (z * S / T) 1 ∧ max (z * S / T) 1 ≤ 512 := by
  have hd : z * S / T ≤ 512 := by
    apply Int.ediv_le_of_le_mul (by omega)
    have h2 : z * S ≤ z * 512 := Int.mul_le_mul_of_nonneg_left hS2 (by omega)
    have h3 : 512 * T = T * 512 := Int.mul_comm ..
    omega
  omega
theorem part_bd (zs : List Int) (S T : Int) (hh : Hist zs) (hS : 1 ≤ S) (hS2 : S ≤ 512) : ∀ k, k ≤ zs.length → 0 ≤ (NormP.start (zs.take k) S zs.sum).sum ∧ (NormP.start (zs.take k) S zs.sum).sum ≤ 512 * k := by
  intro k
  induction k with
  | zero => intro _; simp [NormP.start]
  | succ k ih =>
    intro hk
    have := ih (by omega)
    rw [start_snoc zs S zs.sum k (by omega), List.sum_append]
    have h1 := total_pos hh (j := k) (by omega)
    simp only [List.sum_cons, List.sum_nil, Int.add_zero]
    split
    · rename_i hp
      have := quo_bd zs[k] S zs.sum hp h1 hS hS2
      omega
    · omega
set_option maxRecDepth 100000 in
set_option maxHeartbeats 2000000 in
theorem normalize (A : Option Addr) (c : Nat) (zs : List Int) (lg : Nat) (w : World) (h : In (kN .i64) w (Lt w.heap.size) A c zs) (hh : Hist zs) (hlg : lg ≤ 9) (hu0 : 0 < nUsed zs) (hu : nUsed zs ≤ 2 ^ lg) :
    Calls Try.prog 7 #[.slice A zs.length c, .int .i64 lg] w fun e w' => ∃ v, e = .returned (.tuple #[.agg #[.int .i64 lg, v], .int .i64 0]) ∧ Sl (kN .i64) w' (Lt w'.heap.size) v (norm zs (2 ^ lg) zs.sum) ∧ Below w.heap.size w w' := by
  have hl := hh.1
  have hmf : ∀ (fn : Fn) (first cap : Array Value) (w : World), (Instr.makeFunc fn first cap).run Try.prog w = .ok (.func fn first cap) w := fun _ _ _ _ => rfl
  have hmk := run_mk (P := Try.prog) .i64 3 8 zs.length 24 Try.underlying24 info_int (by omega) (by unfold maxLen; omega) .i64 .i64
  go_enter Try.func7, Try.ntmps7
  go_wp2_with fail
  refine (all A c zs (Lt w.heap.size) _ (h.below (((Below.refl _ _).alloc (Nat.le_refl _) _).alloc (by simp) _) (Nat.le_refl _)) hh).mono ?_
  rintro e w' ⟨rfl, rfl⟩
  have hp : (2 : Int) ^ lg ≤ 512 := by
    have : 2 ^ lg ≤ 2 ^ 9 := Nat.pow_le_pow_right (by omega) hlg
    have h4 : ((2 ^ lg : Nat) : Int) = (2 : Int) ^ lg := by simp
    omega
  have hp1 : (1 : Int) ≤ 2 ^ lg := by
    have : 1 ≤ 2 ^ lg := Nat.two_pow_pos lg
    have h4 : ((2 ^ lg : Nat) : Int) = (2 : Int) ^ lg := by simp
    omega
  have hup : (nUsed zs : Int) ≤ 2 ^ lg := by
    have h4 : ((2 ^ lg : Nat) : Int) = (2 : Int) ^ lg := by simp
    omega
  go_upto_region 7 with (fail)
  have hst : St w ((((((w.alloc (.cells #[.slice A zs.length c] 24)).alloc (.cells #[.int .i64 0, .slice none 0 0] 30)).alloc (.cells #[.int .i64 zs.sum] 3)).alloc (.cells #[.int .i64 (2 ^ lg)] 3)).alloc (.cells (zrow .i64 zs.length) 3)).alloc
      (.cells #[.slice (some ⟨w.heap.size + 1 + 1 + 1 + 1, 0, none⟩) zs.length zs.length] 24)) A zs.length c (2 ^ lg) zs.sum (part zs (2 ^ lg) zs.sum 0) := by
    refine ⟨((((((Below.refl _ _).alloc (Nat.le_refl _) _).alloc (by simp) _).alloc (by simp; omega) _).alloc (by simp; omega) _).alloc (by simp; omega) _).alloc (by simp; omega) _, by simp, part_len _ _ _ _ (Nat.zero_le _), ?_, ?_, ?_, ?_, ?_, ?_, ?_, ?_, ?_⟩
    · simp [go_sem]
    · simp [go_sem]
    · simp [go_sem]
    · simp [go_sem]
    · simp [go_sem]
    · simp [go_sem]
    · simp [go_sem]
    · have := (Row.zrow .i64 3 ((((w.alloc (.cells #[.slice A zs.length c] 24)).alloc (.cells #[.int .i64 0, .slice none 0 0] 30)).alloc (.cells #[.int .i64 zs.sum] 3)).alloc (.cells #[.int .i64 (2 ^ lg)] 3)) zs.length (by unfold maxLen; omega)).alloc (.cells #[.slice (some ⟨w.heap.size + 1 + 1 + 1 + 1, 0, none⟩) zs.length zs.length] 24)
      simpa [part, NormP.start] using this
    · simp [go_sem]
  clear hmk
  generalize hW : ((((((w.alloc (.cells #[.slice A zs.length c] 24)).alloc (.cells #[.int .i64 0, .slice none 0 0] 30)).alloc (.cells #[.int .i64 zs.sum] 3)).alloc (.cells #[.int .i64 (2 ^ lg)] 3)).alloc (.cells (zrow .i64 zs.length) 3)).alloc
      (.cells #[.slice (some ⟨w.heap.size + 1 + 1 + 1 + 1, 0, none⟩) zs.length zs.length] 24)) = w1 at *
  clear hW
  have s1 := hst.cs
  go_wp2_with fail
  generalize hS : (2 : Int) ^ lg = S at *
  have HS := Lib.hid hS
  clear hS
  have hT := Hist.sum zs hh zs.length (Nat.le_refl _)
  rw [List.take_length] at hT
  have hT1 := hT.1
  have hT2 := hT.2
  clear hT
  go_loopw [11, 49] (fun l i wr => ∃ k : Nat, k ≤ zs.length ∧ i = .int .i64 k ∧ l = .int .i64 (S - (NormP.start (zs.take k) S zs.sum).sum) ∧ St w wr A zs.length c S zs.sum (part zs S zs.sum k)) (fun _ i _ => zs.length - (intOf i).toNat)
  case atStart => exact ⟨0, Nat.zero_le _, rfl, by simp [NormP.start], hst⟩
  case round =>
    obtain ⟨k, hk, rfl, rfl, hsr⟩ := hrel
    by_cases hlt : k < zs.length
    · obtain ⟨b, off, rfl, hSb, hc⟩ := (h.below hsr.bel (Nat.le_refl _)).num hlt
      have hzb := hh.2 zs[k] (List.getElem_mem _)
      have hz0 := hzb.1
      have hz1 := hzb.2
      have htp := total_pos hh hlt
      clear hst s1 hzb
      have sl := hsr.len
      have s1 := hsr.siz
      have s2 := hsr.tot
      have s3 := hsr.nv
      have s5 := hsr.row.free k
      have hss := start_snoc zs S zs.sum k hlt
      have hps := part_set zs S zs.sum k hlt
      have hst1 := part_bd zs S zs.sum hh (by omega) (by omega) k hk
      have hb1 := hst1.1
      have hb2 := hst1.2
      clear hst1
      by_cases hp : 0 < zs[k]
      · have s4 := hsr.row.cell (i := k) (by rw [sl]; exact hlt)
        rw [if_pos hp] at hss hps
        have hq := quo_bd zs[k] S zs.sum (by omega) (by omega) (by omega) (by omega)
        generalize hx : max (zs[k] * S / zs.sum) 1 = x at *
        have hsum : (NormP.start (zs.take (k + 1)) S zs.sum).sum = (NormP.start (zs.take k) S zs.sum).sum + x := by rw [hss]; simp
        have HX := Lib.hid hx
        have HSUM := Lib.hid hsum
        have HPS := Lib.hid hps
        clear hx hss hsum hps
        have hk0 : 0 ≤ (k : Int) := by omega
        have hT0 : ¬ zs.sum = 0 := by omega
        have hzS : zs[k] * S ≤ 2147483648 * 512 := Int.le_trans (Int.mul_le_mul_of_nonneg_left (show S ≤ 512 by omega) hz0) (by omega)
        have hzS0 : 0 ≤ zs[k] * S := Int.mul_nonneg hz0 (by omega)
        have hw1 : IntKind.i64.wrap (zs[k] * S) = zs[k] * S := IntWalk.i64_in _ (by omega)
        have hw2 : IntKind.i64.wrap ((zs[k] * S).tdiv zs.sum) = zs[k] * S / zs.sum := IntWalk.i64_quo _ _ (by omega)
        go_upto_region 11 with (fail)
        refine QTail.wp_region_quiet_tail 9 (by kernel_rfl) (by kernel_rfl) ?_
        simp only [List.take_succ_cons, List.take_zero, List.drop_succ_cons, List.drop_zero]
        have HXo := HX.out
        clear HX
        repeat (quiet_step (fail))
        refine wpQuiet_nil ?_
        rintro w' ⟨nq, rfl⟩
        have HX := Lib.hid HXo
        clear HXo
        go_upto_region 12 with (fail)
        have hsn := (hsr.drewN nq).set k x
        rw [HPS.out] at hsn
        have sn4 : ((wr.drewN nq).setCell ⟨w.heap.size + 1 + 1 + 1 + 1, k, none⟩ (.int .i64 x)).cell? ⟨w.heap.size + 1 + 1 + 1 + 1, k, none⟩ = some (.int .i64 x) := World.cell?_setCell_same _ _ _ s4
        have sn3 := hsn.nv
        generalize hW : (wr.drewN nq).setCell ⟨w.heap.size + 1 + 1 + 1 + 1, k, none⟩ (.int .i64 x) = w2 at *
        clear hW s1 s2 s3 s4 s5 hc hw1 hw2
        go_wp2
        go_roundw
        case rel => exact ⟨k + 1, by omega, by go_num, by rw [HSUM.out]; go_num, hsn⟩
        case measure => simp [intOf]; omega
      · have hsum : (NormP.start (zs.take (k + 1)) S zs.sum).sum = (NormP.start (zs.take k) S zs.sum).sum := by rw [hss, if_neg hp]; simp
        have hpart : part zs S zs.sum (k + 1) = part zs S zs.sum k := by
          rw [if_neg hp] at hps
          rw [← hps]
          exact set_same _ _ _ (part_at zs S zs.sum k hlt)
        have HSUM := Lib.hid hsum
        have HPS := Lib.hid hpart
        clear hsum hpart hps hss
        go_wp2
        go_roundw
        case rel => exact ⟨k + 1, by omega, by go_num, by rw [HSUM.out], by rw [HPS.out]; exact hsr⟩
        case measure => simp [intOf]; omega
    · have hkk : k = zs.length := by omega
      subst hkk
      have hpt : part zs S zs.sum zs.length = NormP.start zs S zs.sum := by simp [part]
      rw [List.take_length] at *
      rw [hpt] at hsr
      clear hst s1 hpt
      have s3 := hsr.nv
      have hz6 := hsr.sz
      have hst1 := part_bd zs S zs.sum hh (by omega) (by omega) zs.length (Nat.le_refl _)
      rw [List.take_length] at hst1
      have hsb1 := hst1.1
      have hsb2 := hst1.2
      clear hst1
      have hmf1 := fun (a b c d : Value) (w : World) => hmf (.func 18) #[] #[a, b, c, d] w
      by_cases hneg : S - (NormP.start zs S zs.sum).sum < 0
      · skip
        go_upto_region 18 with (fail)
        have hst2 : St2 w ((wr.alloc (.cells #[.func (.func 18) #[] #[.pointer (some ⟨w.heap.size, 0, none⟩), .pointer (some ⟨w.heap.size + 1 + 1 + 1, 0, none⟩), .pointer (some ⟨w.heap.size + 1 + 1 + 1 + 1 + 1, 0, none⟩), .pointer (some ⟨w.heap.size + 1 + 1, 0, none⟩)]] 45)).alloc (.cells #[.func (.func 20) #[] #[.pointer (some ⟨w.heap.size + 1 + 1 + 1 + 1 + 1, 0, none⟩)], .func (.func 21) #[] #[.pointer (some ⟨wr.heap.size, 0, none⟩)], .int .i64 (-1)] 51)) A zs.length c S zs.sum wr.heap.size 20 #[.pointer (some ⟨w.heap.size + 1 + 1 + 1 + 1 + 1, 0, none⟩)] 21 #[.pointer (some ⟨wr.heap.size, 0, none⟩)] (-1) (NormP.start zs S zs.sum) :=
          ⟨(hsr.below (((Below.refl _ _).alloc hz6 _).alloc (by simp; omega) _)), hz6, by simp, by simp [go_sem], by simp [go_sem], by simp [go_sem], by simp [go_sem]⟩
        generalize hWW : ((wr.alloc (.cells #[.func (.func 18) #[] #[.pointer (some ⟨w.heap.size, 0, none⟩), .pointer (some ⟨w.heap.size + 1 + 1 + 1, 0, none⟩), .pointer (some ⟨w.heap.size + 1 + 1 + 1 + 1 + 1, 0, none⟩), .pointer (some ⟨w.heap.size + 1 + 1, 0, none⟩)]] 45)).alloc (.cells #[.func (.func 20) #[] #[.pointer (some ⟨w.heap.size + 1 + 1 + 1 + 1 + 1, 0, none⟩)], .func (.func 21) #[] #[.pointer (some ⟨wr.heap.size, 0, none⟩)], .int .i64 (-1)] 51)) = w2 at *
        clear hWW hsr s3 hmf1
        generalize hf : wr.heap.size = f at *
        clear hf
        have hok := fun (q : Nat) (hq : (q : Int) ≤ (-(S - (NormP.start zs S zs.sum).sum))) => steps_down zs S zs.sum hup q (by unfold left0; exact hq)
        have hfin : Hid ((q : Nat) → (q : Int) = (-(S - (NormP.start zs S zs.sum).sum)) → steps zs S zs.sum false q (NormP.start zs S zs.sum) = full zs S zs.sum) := by
          intro q hq
          unfold full left0
          rw [if_pos hneg]
          congr 1
          omega
        have HOK := Lib.hid hok
        clear hok
        go_loopw [11] (fun l wr2 => ∃ q : Nat, (q : Int) ≤ (-(S - (NormP.start zs S zs.sum).sum)) ∧ l = .int .i64 (S - (NormP.start zs S zs.sum).sum + q) ∧ St2 w wr2 A zs.length c S zs.sum f 20 #[.pointer (some ⟨w.heap.size + 1 + 1 + 1 + 1 + 1, 0, none⟩)] 21 #[.pointer (some ⟨f, 0, none⟩)] (-1) (steps zs S zs.sum false q (NormP.start zs S zs.sum))) (fun l _ => (intOf l).natAbs)
        case atStart => exact ⟨0, by omega, by simp, hst2⟩
        case round =>
          obtain ⟨q, hq, rfl, hs2⟩ := hrel
          clear hst2
          by_cases hqd : (q : Int) < (-(S - (NormP.start zs S zs.sum).sum))
          · have hk1 := HOK.out q hq
            have hk2 := down_ok zs S zs.sum _ hk1.1 (by rw [hk1.2]; omega)
            have hcall := choice false h hh (fun e => by cases e) (fun _ => ⟨rfl, rfl, rfl, rfl⟩) (by omega) (by omega) hs2 hk1.1 (by rw [hk1.2]; omega)
            have hbd := shape_bd hk1.1
            have hln := hs2.st.len
            have hne : (S - (NormP.start zs S zs.sum).sum + (q : Int) != 0) = true := by rw [bne_iff_ne]; omega
            obtain ⟨m, hm⟩ := Int.eq_ofNat_of_zero_le hk2.1
            have hml : m < zs.length := by have := hk2.2.1; omega
            have hstep : steps zs S zs.sum false (q + 1) (NormP.start zs S zs.sum) = (steps zs S zs.sum false q (NormP.start zs S zs.sum)).set m ((steps zs S zs.sum false q (NormP.start zs S zs.sum)).getD m 0 + (-1)) := by
              show NormP.step zs S zs.sum false _ = _
              unfold NormP.step
              rw [hm]; rfl
            have hsum := hk1.2
            generalize hnm : steps zs S zs.sum false q (NormP.start zs S zs.sum) = nm at *
            have hbm := hbd m
            rw [hm] at hcall
            have hmn : m < nm.length := by rw [hln]; exact hml
            have hcm := hs2.st.row.cell (i := m) hmn
            have hfm := hs2.st.row.free m
            have hgm := getD_lt nm 0 (j := m) hmn
            rw [hgm] at hstep hbm
            have t1 := hs2.st.nv
            have t2 := hs2.y0
            have t3 := hs2.y1
            have t4 := hs2.y2
            have hm0 : 0 ≤ (m : Int) := by omega
            have hmi : (m : Int) < zs.length := by omega
            have hw1 : IntKind.i64.wrap (nm[m] + (-1)) = nm[m] + (-1) := IntWalk.i64_in _ (by omega)
            have HC := Lib.hid hcall
            have HST := Lib.hid hstep
            have HSET := Lib.hid (fun nq => (hs2.drewN nq).set m (nm[m] + (-1)))
            have HSZ := Lib.hid hs2.sz
            clear hk1 hk2 hcall hbd hm hstep hsum hgm hnm HOK hs2 hbm hln
            have HNE := hne
            go_upto_region 20 with (fail)
            refine QTail.wp_region_quiet_tail 13 (by kernel_rfl) (by kernel_rfl) ?_
            simp only [List.take_succ_cons, List.take_zero, List.drop_succ_cons, List.drop_zero]
            repeat (quiet_step ((go_at_call 22; exact HC.out _)))
            refine wpQuiet_nil ?_
            rintro w' ⟨nq, rfl⟩
            go_upto_region 19 with (fail)
            have hsn := HSET.out nq
            rw [← HST.out] at hsn
            have t5 := hsn.y2
            generalize hW : (wr.drewN nq).setCell ⟨w.heap.size + 1 + 1 + 1 + 1, m, none⟩ (.int .i64 (nm[m] + (-1))) = w3 at *
            clear hW t1 t2 t3 t4 hw1 HC HST HSET hcm hfm
            go_wp2
            go_roundw
            case rel => exact ⟨q + 1, by omega, by go_num, hsn⟩
            case measure => simp [intOf]; omega
          · have hqe : (q : Int) = (-(S - (NormP.start zs S zs.sum).sum)) := by omega
            have hnm := hfin.out q hqe
            rw [hnm] at hs2
            have hs := hs2.st
            have hl0 : S - (NormP.start zs S zs.sum).sum + (q : Int) = 0 := by omega
            rw [hl0]
            clear hs2 hnm hfin HOK
            have hfl := len_full zs S zs.sum
            generalize hFL : full zs S zs.sum = fl at *
            have HFL := Lib.hid hFL
            have HFLN := Lib.hid hfl
            clear hFL hfl
            have hs0 := hs
            rw [← marked_zero zs S zs.sum fl] at hs0
            have s3 := hs.cs
            clear hs
            go_upto_region 21 with (fail)
            go_wp2_with fail
            clear s3
            go_loopw [7, 102] (fun u i wr2 => ∃ k : Nat, k ≤ zs.length ∧ i = .int .i64 k ∧ u = .int .i64 (lastUsed zs (nUsed zs) k) ∧ St w wr2 A zs.length c S zs.sum (marked zs S zs.sum fl k)) (fun _ i _ => zs.length - (intOf i).toNat)
            case atStart => exact ⟨0, Nat.zero_le _, rfl, rfl, hs0⟩
            case round =>
              obtain ⟨k, hk, rfl, rfl, hsr⟩ := hrel
              clear hs0
              have hlu := lastUsed_le zs (nUsed zs) zs.length (by have := nUsed_le zs zs.length; rwa [List.take_length] at this) k hk
              by_cases hlt : k < zs.length
              · obtain ⟨b, off, rfl, hSb, hc⟩ := (h.below hsr.bel (Nat.le_refl _)).num hlt
                have hz0 := (hh.2 zs[k] (List.getElem_mem _)).1
                have hz1 := (hh.2 zs[k] (List.getElem_mem _)).2
                have hgd := getD_lt zs 0 hlt
                have hkf : k < fl.length := by rw [HFLN.out]; exact hlt
                have s1 := hsr.siz
                have s2 := hsr.tot
                have s3 := hsr.nv
                have s4 := hsr.row.cell (i := k) (by rw [marked_len]; exact hkf)
                have s5 := hsr.row.free k
                have hzS : zs[k] * S ≤ 2147483648 * 512 := Int.le_trans (Int.mul_le_mul_of_nonneg_left (show S ≤ 512 by omega) hz0) (by omega)
                have hzS0 : 0 ≤ zs[k] * S := Int.mul_nonneg hz0 (by omega)
                have hk0 : 0 ≤ (k : Int) := by omega
                by_cases hp : 0 < zs[k]
                · have hl1 : Hid (lastUsed zs (nUsed zs) (k + 1) = k + 1) := by
                    show lastUsed zs (nUsed zs) (k + 1) = k + 1
                    simp only [lastUsed]; rw [hgd, if_pos hp]
                  by_cases hfew : zs[k] * S < zs.sum
                  · have hmk := marked_yes zs S zs.sum fl k hkf (by rw [hgd]; exact hp) (by rw [hgd]; exact hfew)
                    have HSN := Lib.hid (hsr.set k (-1))
                    rw [← hmk] at HSN
                    clear hsr hmk hgd
                    go_upto_region 26 with (fail)
                    have hsn := HSN.out
                    generalize hW : World.setCell _ ⟨w.heap.size + 1 + 1 + 1 + 1, k, none⟩ (.int .i64 (-1)) = w3 at *
                    clear hW s1 s2 s3 s4 s5 hc HSN
                    go_wp2
                    go_roundw
                    case rel => exact ⟨k + 1, by omega, by go_num, by rw [hl1.out]; go_num, hsn⟩
                    case measure => simp [intOf]; omega
                  · have hmk := Lib.hid (marked_no zs S zs.sum fl k (by rw [hgd]; omega))
                    clear hgd
                    go_wp2
                    go_roundw
                    case rel => exact ⟨k + 1, by omega, by go_num, by rw [hl1.out]; go_num, by rw [hmk.out]; exact hsr⟩
                    case measure => simp [intOf]; omega
                · have hl1 : Hid (lastUsed zs (nUsed zs) (k + 1) = lastUsed zs (nUsed zs) k) := by
                    show lastUsed zs (nUsed zs) (k + 1) = _
                    rw [lastUsed]; rw [hgd, if_neg hp]
                  have hmk := Lib.hid (marked_no zs S zs.sum fl k (by rw [hgd]; omega))
                  clear hgd
                  go_wp2
                  go_roundw
                  case rel => exact ⟨k + 1, by omega, by go_num, by rw [hl1.out], by rw [hmk.out]; exact hsr⟩
                  case measure => simp [intOf]; omega
              · have hkk : k = zs.length := by omega
                subst hkk
                have s3 := hsr.nv
                have r0 := hsr.r0
                have r1 := hsr.r1
                have f0 := hsr.f0
                have f1 := hsr.f1
                have hnrm : Hid ((marked zs S zs.sum fl zs.length).take (lastUsed zs (nUsed zs) zs.length) = norm zs (2 ^ lg) zs.sum) := by
                  show _ = _
                  unfold norm
                  rw [HS.out, HFL.out]
                have hlen : (norm zs (2 ^ lg) zs.sum).length = lastUsed zs (nUsed zs) zs.length := by rw [← hnrm.out, List.length_take, marked_len, HFLN.out]; omega
                have HROW := Lib.hid (hsr.row.take (lastUsed zs (nUsed zs) zs.length))
                rw [hnrm.out] at HROW
                have HLEN := Lib.hid hlen
                clear hlen
                have hbel := hsr.bel
                have hszr := hsr.sz
                clear hsr
                generalize lastUsed zs (nUsed zs) zs.length = lu at *
                go_wp2
                have hrow := ((HROW.out.far (p := ⟨w.heap.size + 1, 0, none⟩) (by simp; omega) (.int .i64 lg)).far (p := ⟨w.heap.size + 1, 1, none⟩) (by simp; omega) (.slice (some ⟨w.heap.size + 1 + 1 + 1 + 1, 0, none⟩) lu zs.length))
                have q0 : ((wr.setCell ⟨w.heap.size + 1, 0, none⟩ (.int .i64 lg)).setCell ⟨w.heap.size + 1, 1, none⟩ (.slice (some ⟨w.heap.size + 1 + 1 + 1 + 1, 0, none⟩) lu zs.length)).cell? ⟨w.heap.size + 1, 0, none⟩ = some (.int .i64 lg) := by
                  rw [World.cell?_setCell_other _ _ _ _ (by simp)]; exact World.cell?_setCell_same _ _ _ r0
                have q1 : ((wr.setCell ⟨w.heap.size + 1, 0, none⟩ (.int .i64 lg)).setCell ⟨w.heap.size + 1, 1, none⟩ (.slice (some ⟨w.heap.size + 1 + 1 + 1 + 1, 0, none⟩) lu zs.length)).cell? ⟨w.heap.size + 1, 1, none⟩ = some (.slice (some ⟨w.heap.size + 1 + 1 + 1 + 1, 0, none⟩) lu zs.length) :=
                  World.cell?_setCell_same (u := .slice none 0 0) _ _ _ (by rw [World.cell?_setCell_other _ _ _ _ (by simp)]; exact r1)
                refine bodyPost_ret (v := .tuple #[.agg #[.int .i64 lg, .slice (some ⟨w.heap.size + 1 + 1 + 1 + 1, 0, none⟩) lu zs.length], .int .i64 0]) (by simp [results, Try.results7, go_sem, q0, q1]) rfl ⟨_, rfl, ⟨some ⟨w.heap.size + 1 + 1 + 1 + 1, 0, none⟩, zs.length, by rw [HLEN.out], hrow.inn (by rw [HLEN.out]; exact hlu) (by unfold maxLen; omega)⟩, (hbel.setCell (by simp) _).setCell (by simp) _⟩
      · skip
        go_upto_region 18 with (fail)
        have hst2 : St2 w ((wr.alloc (.cells #[.func (.func 18) #[] #[.pointer (some ⟨w.heap.size, 0, none⟩), .pointer (some ⟨w.heap.size + 1 + 1 + 1, 0, none⟩), .pointer (some ⟨w.heap.size + 1 + 1 + 1 + 1 + 1, 0, none⟩), .pointer (some ⟨w.heap.size + 1 + 1, 0, none⟩)]] 45)).alloc (.cells #[.func (.func 19) #[] #[.pointer (some ⟨w.heap.size, 0, none⟩)], .func (.func 18) #[] #[.pointer (some ⟨w.heap.size, 0, none⟩), .pointer (some ⟨w.heap.size + 1 + 1 + 1, 0, none⟩), .pointer (some ⟨w.heap.size + 1 + 1 + 1 + 1 + 1, 0, none⟩), .pointer (some ⟨w.heap.size + 1 + 1, 0, none⟩)], .int .i64 1] 51)) A zs.length c S zs.sum wr.heap.size 19 #[.pointer (some ⟨w.heap.size, 0, none⟩)] 18 #[.pointer (some ⟨w.heap.size, 0, none⟩), .pointer (some ⟨w.heap.size + 1 + 1 + 1, 0, none⟩), .pointer (some ⟨w.heap.size + 1 + 1 + 1 + 1 + 1, 0, none⟩), .pointer (some ⟨w.heap.size + 1 + 1, 0, none⟩)] 1 (NormP.start zs S zs.sum) :=
          ⟨(hsr.below (((Below.refl _ _).alloc hz6 _).alloc (by simp; omega) _)), hz6, by simp, by simp [go_sem], by simp [go_sem], by simp [go_sem], by simp [go_sem]⟩
        generalize hWW : ((wr.alloc (.cells #[.func (.func 18) #[] #[.pointer (some ⟨w.heap.size, 0, none⟩), .pointer (some ⟨w.heap.size + 1 + 1 + 1, 0, none⟩), .pointer (some ⟨w.heap.size + 1 + 1 + 1 + 1 + 1, 0, none⟩), .pointer (some ⟨w.heap.size + 1 + 1, 0, none⟩)]] 45)).alloc (.cells #[.func (.func 19) #[] #[.pointer (some ⟨w.heap.size, 0, none⟩)], .func (.func 18) #[] #[.pointer (some ⟨w.heap.size, 0, none⟩), .pointer (some ⟨w.heap.size + 1 + 1 + 1, 0, none⟩), .pointer (some ⟨w.heap.size + 1 + 1 + 1 + 1 + 1, 0, none⟩), .pointer (some ⟨w.heap.size + 1 + 1, 0, none⟩)], .int .i64 1] 51)) = w2 at *
        clear hWW hsr s3 hmf1
        generalize hf : wr.heap.size = f at *
        clear hf
        have hok := fun (q : Nat) (hq : (q : Int) ≤ (S - (NormP.start zs S zs.sum).sum)) => steps_up zs S zs.sum hu0 q
        have hfin : Hid ((q : Nat) → (q : Int) = (S - (NormP.start zs S zs.sum).sum) → steps zs S zs.sum true q (NormP.start zs S zs.sum) = full zs S zs.sum) := by
          intro q hq
          unfold full left0
          rw [if_neg (by omega)]
          congr 1
          omega
        have HOK := Lib.hid hok
        clear hok
        go_loopw [11] (fun l wr2 => ∃ q : Nat, (q : Int) ≤ (S - (NormP.start zs S zs.sum).sum) ∧ l = .int .i64 (S - (NormP.start zs S zs.sum).sum - q) ∧ St2 w wr2 A zs.length c S zs.sum f 19 #[.pointer (some ⟨w.heap.size, 0, none⟩)] 18 #[.pointer (some ⟨w.heap.size, 0, none⟩), .pointer (some ⟨w.heap.size + 1 + 1 + 1, 0, none⟩), .pointer (some ⟨w.heap.size + 1 + 1 + 1 + 1 + 1, 0, none⟩), .pointer (some ⟨w.heap.size + 1 + 1, 0, none⟩)] 1 (steps zs S zs.sum true q (NormP.start zs S zs.sum))) (fun l _ => (intOf l).natAbs)
        case atStart => exact ⟨0, by omega, by simp, hst2⟩
        case round =>
          obtain ⟨q, hq, rfl, hs2⟩ := hrel
          clear hst2
          by_cases hqd : (q : Int) < (S - (NormP.start zs S zs.sum).sum)
          · have hk1 := HOK.out q hq
            have hk2 := up_ok zs S zs.sum _ hk1.1 hu0
            have hcall := choice true h hh (fun _ => ⟨rfl, rfl, rfl, rfl⟩) (fun e => by cases e) (by omega) (by omega) hs2 hk1.1 (by rw [hk1.2]; omega)
            have hbd := shape_bd hk1.1
            have hln := hs2.st.len
            have hne : (S - (NormP.start zs S zs.sum).sum - (q : Int) != 0) = true := by rw [bne_iff_ne]; omega
            obtain ⟨m, hm⟩ := Int.eq_ofNat_of_zero_le hk2.1
            have hml : m < zs.length := by have := hk2.2.1; omega
            have hstep : steps zs S zs.sum true (q + 1) (NormP.start zs S zs.sum) = (steps zs S zs.sum true q (NormP.start zs S zs.sum)).set m ((steps zs S zs.sum true q (NormP.start zs S zs.sum)).getD m 0 + 1) := by
              show NormP.step zs S zs.sum true _ = _
              unfold NormP.step
              rw [hm]; rfl
            have hsum := hk1.2
            generalize hnm : steps zs S zs.sum true q (NormP.start zs S zs.sum) = nm at *
            have hbm := hbd m
            rw [hm] at hcall
            have hmn : m < nm.length := by rw [hln]; exact hml
            have hcm := hs2.st.row.cell (i := m) hmn
            have hfm := hs2.st.row.free m
            have hgm := getD_lt nm 0 (j := m) hmn
            rw [hgm] at hstep hbm
            have t1 := hs2.st.nv
            have t2 := hs2.y0
            have t3 := hs2.y1
            have t4 := hs2.y2
            have hm0 : 0 ≤ (m : Int) := by omega
            have hmi : (m : Int) < zs.length := by omega
            have hw1 : IntKind.i64.wrap (nm[m] + 1) = nm[m] + 1 := IntWalk.i64_in _ (by omega)
            have HC := Lib.hid hcall
            have HST := Lib.hid hstep
            have HSET := Lib.hid (fun nq => (hs2.drewN nq).set m (nm[m] + 1))
            have HSZ := Lib.hid hs2.sz
            clear hk1 hk2 hcall hbd hm hstep hsum hgm hnm HOK hs2 hbm hln
            have HNE := hne
            go_upto_region 20 with (fail)
            refine QTail.wp_region_quiet_tail 13 (by kernel_rfl) (by kernel_rfl) ?_
            simp only [List.take_succ_cons, List.take_zero, List.drop_succ_cons, List.drop_zero]
            repeat (quiet_step ((go_at_call 22; exact HC.out _)))
            refine wpQuiet_nil ?_
            rintro w' ⟨nq, rfl⟩
            go_upto_region 19 with (fail)
            have hsn := HSET.out nq
            rw [← HST.out] at hsn
            have t5 := hsn.y2
            generalize hW : (wr.drewN nq).setCell ⟨w.heap.size + 1 + 1 + 1 + 1, m, none⟩ (.int .i64 (nm[m] + 1)) = w3 at *
            clear hW t1 t2 t3 t4 hw1 HC HST HSET hcm hfm
            go_wp2
            go_roundw
            case rel => exact ⟨q + 1, by omega, by go_num, hsn⟩
            case measure => simp [intOf]; omega
          · have hqe : (q : Int) = (S - (NormP.start zs S zs.sum).sum) := by omega
            have hnm := hfin.out q hqe
            rw [hnm] at hs2
            have hs := hs2.st
            have hl0 : S - (NormP.start zs S zs.sum).sum - (q : Int) = 0 := by omega
            rw [hl0]
            clear hs2 hnm hfin HOK
            have hfl := len_full zs S zs.sum
            generalize hFL : full zs S zs.sum = fl at *
            have HFL := Lib.hid hFL
            have HFLN := Lib.hid hfl
            clear hFL hfl
            have hs0 := hs
            rw [← marked_zero zs S zs.sum fl] at hs0
            have s3 := hs.cs
            clear hs
            go_upto_region 21 with (fail)
            go_wp2_with fail
            clear s3
            go_loopw [7, 102] (fun u i wr2 => ∃ k : Nat, k ≤ zs.length ∧ i = .int .i64 k ∧ u = .int .i64 (lastUsed zs (nUsed zs) k) ∧ St w wr2 A zs.length c S zs.sum (marked zs S zs.sum fl k)) (fun _ i _ => zs.length - (intOf i).toNat)
            case atStart => exact ⟨0, Nat.zero_le _, rfl, rfl, hs0⟩
            case round =>
              obtain ⟨k, hk, rfl, rfl, hsr⟩ := hrel
              clear hs0
              have hlu := lastUsed_le zs (nUsed zs) zs.length (by have := nUsed_le zs zs.length; rwa [List.take_length] at this) k hk
              by_cases hlt : k < zs.length
              · obtain ⟨b, off, rfl, hSb, hc⟩ := (h.below hsr.bel (Nat.le_refl _)).num hlt
                have hz0 := (hh.2 zs[k] (List.getElem_mem _)).1
                have hz1 := (hh.2 zs[k] (List.getElem_mem _)).2
                have hgd := getD_lt zs 0 hlt
                have hkf : k < fl.length := by rw [HFLN.out]; exact hlt
                have s1 := hsr.siz
                have s2 := hsr.tot
                have s3 := hsr.nv
                have s4 := hsr.row.cell (i := k) (by rw [marked_len]; exact hkf)
                have s5 := hsr.row.free k
                have hzS : zs[k] * S ≤ 2147483648 * 512 := Int.le_trans (Int.mul_le_mul_of_nonneg_left (show S ≤ 512 by omega) hz0) (by omega)
                have hzS0 : 0 ≤ zs[k] * S := Int.mul_nonneg hz0 (by omega)
                have hk0 : 0 ≤ (k : Int) := by omega
                by_cases hp : 0 < zs[k]
                · have hl1 : Hid (lastUsed zs (nUsed zs) (k + 1) = k + 1) := by
                    show lastUsed zs (nUsed zs) (k + 1) = k + 1
                    simp only [lastUsed]; rw [hgd, if_pos hp]
                  by_cases hfew : zs[k] * S < zs.sum
                  · have hmk := marked_yes zs S zs.sum fl k hkf (by rw [hgd]; exact hp) (by rw [hgd]; exact hfew)
                    have HSN := Lib.hid (hsr.set k (-1))
                    rw [← hmk] at HSN
                    clear hsr hmk hgd
                    go_upto_region 26 with (fail)
                    have hsn := HSN.out
                    generalize hW : World.setCell _ ⟨w.heap.size + 1 + 1 + 1 + 1, k, none⟩ (.int .i64 (-1)) = w3 at *
                    clear hW s1 s2 s3 s4 s5 hc HSN
                    go_wp2
                    go_roundw
                    case rel => exact ⟨k + 1, by omega, by go_num, by rw [hl1.out]; go_num, hsn⟩
                    case measure => simp [intOf]; omega
                  · have hmk := Lib.hid (marked_no zs S zs.sum fl k (by rw [hgd]; omega))
                    clear hgd
                    go_wp2
                    go_roundw
                    case rel => exact ⟨k + 1, by omega, by go_num, by rw [hl1.out]; go_num, by rw [hmk.out]; exact hsr⟩
                    case measure => simp [intOf]; omega
                · have hl1 : Hid (lastUsed zs (nUsed zs) (k + 1) = lastUsed zs (nUsed zs) k) := by
                    show lastUsed zs (nUsed zs) (k + 1) = _
                    rw [lastUsed]; rw [hgd, if_neg hp]
                  have hmk := Lib.hid (marked_no zs S zs.sum fl k (by rw [hgd]; omega))
                  clear hgd
                  go_wp2
                  go_roundw
                  case rel => exact ⟨k + 1, by omega, by go_num, by rw [hl1.out], by rw [hmk.out]; exact hsr⟩
                  case measure => simp [intOf]; omega
              · have hkk : k = zs.length := by omega
                subst hkk
                have s3 := hsr.nv
                have r0 := hsr.r0
                have r1 := hsr.r1
                have f0 := hsr.f0
                have f1 := hsr.f1
                have hnrm : Hid ((marked zs S zs.sum fl zs.length).take (lastUsed zs (nUsed zs) zs.length) = norm zs (2 ^ lg) zs.sum) := by
                  show _ = _
                  unfold norm
                  rw [HS.out, HFL.out]
                have hlen : (norm zs (2 ^ lg) zs.sum).length = lastUsed zs (nUsed zs) zs.length := by rw [← hnrm.out, List.length_take, marked_len, HFLN.out]; omega
                have HROW := Lib.hid (hsr.row.take (lastUsed zs (nUsed zs) zs.length))
                rw [hnrm.out] at HROW
                have HLEN := Lib.hid hlen
                clear hlen
                have hbel := hsr.bel
                have hszr := hsr.sz
                clear hsr
                generalize lastUsed zs (nUsed zs) zs.length = lu at *
                go_wp2
                have hrow := ((HROW.out.far (p := ⟨w.heap.size + 1, 0, none⟩) (by simp; omega) (.int .i64 lg)).far (p := ⟨w.heap.size + 1, 1, none⟩) (by simp; omega) (.slice (some ⟨w.heap.size + 1 + 1 + 1 + 1, 0, none⟩) lu zs.length))
                have q0 : ((wr.setCell ⟨w.heap.size + 1, 0, none⟩ (.int .i64 lg)).setCell ⟨w.heap.size + 1, 1, none⟩ (.slice (some ⟨w.heap.size + 1 + 1 + 1 + 1, 0, none⟩) lu zs.length)).cell? ⟨w.heap.size + 1, 0, none⟩ = some (.int .i64 lg) := by
                  rw [World.cell?_setCell_other _ _ _ _ (by simp)]; exact World.cell?_setCell_same _ _ _ r0
                have q1 : ((wr.setCell ⟨w.heap.size + 1, 0, none⟩ (.int .i64 lg)).setCell ⟨w.heap.size + 1, 1, none⟩ (.slice (some ⟨w.heap.size + 1 + 1 + 1 + 1, 0, none⟩) lu zs.length)).cell? ⟨w.heap.size + 1, 1, none⟩ = some (.slice (some ⟨w.heap.size + 1 + 1 + 1 + 1, 0, none⟩) lu zs.length) :=
                  World.cell?_setCell_same (u := .slice none 0 0) _ _ _ (by rw [World.cell?_setCell_other _ _ _ _ (by simp)]; exact r1)
                refine bodyPost_ret (v := .tuple #[.agg #[.int .i64 lg, .slice (some ⟨w.heap.size + 1 + 1 + 1 + 1, 0, none⟩) lu zs.length], .int .i64 0]) (by simp [results, Try.results7, go_sem, q0, q1]) rfl ⟨_, rfl, ⟨some ⟨w.heap.size + 1 + 1 + 1 + 1, 0, none⟩, zs.length, by rw [HLEN.out], hrow.inn (by rw [HLEN.out]; exact hlu) (by unfold maxLen; omega)⟩, (hbel.setCell (by simp) _).setCell (by simp) _⟩
end Go.Proofs.Ytjmkkcbilpidnaa.Norm
