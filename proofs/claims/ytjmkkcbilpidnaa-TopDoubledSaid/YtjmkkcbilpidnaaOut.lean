/- One outcome for all inputs: Normalize, MinCost, lengths46; the examples. -/
import Derived.Test.YtjmkkcbilpidnaaMin
import Derived.Test.YtjmkkcbilpidnaaHufW
import Derived.Test.YtjmkkcbilpidnaaNormE
import Derived.Test.YtjmkkcbilpidnaaNormW
import Derived.Test.YtjmkkcbilpidnaaCostD
import Derived.Test.YtjmkkcbilpidnaaNormD
import Derived.Test.YtjmkkcbilpidnaaHist
namespace Go.Proofs.Ytjmkkcbilpidnaa.Limit
open Go Go.RowKit Go.Proofs.Ytjmkkcbilpidnaa.W Go.Proofs.Ytjmkkcbilpidnaa.Tally Go.Proofs.Ytjmkkcbilpidnaa.SortA Go.Proofs.Ytjmkkcbilpidnaa.SortP
set_option linter.unusedVariables false
set_option linter.unusedSimpArgs false

/-- the positive counts, sorted -/
def wsort (zs : List Int) : List Int := (zs.filter fun c => decide (0 < c)).mergeSort fun x y => decide (x ≤ y)
theorem wsort_srt (zs : List Int) : (wsort zs).Pairwise (· ≤ ·) := by
  have := List.pairwise_mergeSort (le := fun x y : Int => decide (x ≤ y)) (fun x y z h1 h2 => by simp at h1 h2 ⊢; omega) (fun x y => by simp; omega) (zs.filter fun c => decide (0 < c))
  exact this.imp (fun h => by simpa using h)
theorem wsort_prm (zs : List Int) : (wsort zs).Perm (zs.filter fun c => decide (0 < c)) := List.mergeSort_perm _ _
theorem wsOf_sort {zs us : List Int} (h : Us zs us) : wsOf zs us = wsort zs :=
  sorted_unique ((wsOf_perm h).trans (wsort_prm zs).symm) (sorted_pair h.2) (wsort_srt zs)
theorem wsort_perm {zs zs' : List Int} (hp : zs'.Perm zs) : wsort zs' = wsort zs :=
  sorted_unique ((wsort_prm zs').trans ((hp.filter _).trans (wsort_prm zs).symm)) (wsort_srt _) (wsort_srt _)
theorem wsort_dbl (zs : List Int) : wsort (dbl zs) = dbl (wsort zs) := by
  refine sorted_unique ((wsort_prm (dbl zs)).trans ?_) (wsort_srt _) ?_
  · rw [filter_dbl]; exact ((wsort_prm zs).symm).map _
  · unfold dbl
    rw [List.pairwise_map]
    exact (wsort_srt zs).imp (fun h => by omega)
theorem nUsed_perm {zs zs' : List Int} (hp : zs'.Perm zs) : NormP.nUsed zs' = NormP.nUsed zs := hp.countP_eq _

/-! ### MinCost -/
def minE (zs : List Int) (most : Int) : Int := if most < 1 ∨ 11 < most then 2 else if NormP.nUsed zs ≤ 1 then 22 else if 2 ^ most.toNat < NormP.nUsed zs then 18 else 0
def minK (zs : List Int) (most : Int) : Int := if minE zs most = 0 then wcost (wsort zs) (most.toNat - 1) else 0
theorem minE_dbl (zs : List Int) (most : Int) : minE (dbl zs) most = minE zs most := by unfold minE; rw [NormP.nUsed_dbl]
theorem minE_perm {zs zs' : List Int} (hp : zs'.Perm zs) (most : Int) : minE zs' most = minE zs most := by unfold minE; rw [nUsed_perm hp]
theorem minK_dbl (zs : List Int) (most : Int) : minK (dbl zs) most = 2 * minK zs most := by
  unfold minK; rw [minE_dbl]
  split
  · rw [wsort_dbl, wcost_dbl]
  · rfl
theorem minK_perm {zs zs' : List Int} (hp : zs'.Perm zs) (most : Int) : minK zs' most = minK zs most := by unfold minK; rw [minE_perm hp, wsort_perm hp]
def Bd (x : Int) : Prop := 0 ≤ x ∧ x ≤ 1000000000000000
theorem lcost_bd {zs ls : List Int} (hh : Hist zs) (hl : ∀ z ∈ ls, 0 ≤ z ∧ z ≤ 60) : Bd (lcost zs ls) := by
  have hl2 : ∀ i, 0 ≤ ls.getD i 0 ∧ ls.getD i 0 ≤ 60 := fun i => by
    by_cases h : i < ls.length
    · rw [getD_lt _ _ h]; exact hl _ (List.getElem_mem _)
    · rw [getD_ge _ _ (by omega)]; omega
  have h1 := lcTo_bd (used zs) hh hl2 (used zs).length (Nat.le_refl _)
  have h2 := usedTo_len zs zs.length
  have h3 := hh.1
  unfold lcost Bd
  unfold used at *
  omega
theorem minCost_any (hso : Sorts) (A : Option Addr) (c : Nat) (zs : List Int) (most : Int) (w : World) (h : In (kN .i64) w (Lt w.heap.size) A c zs) (hh : Hist zs) (hm1 : -9223372036854775808 ≤ most) (hm2 : most ≤ 9223372036854775807) :
    Calls Try.prog 9 #[.slice A zs.length c, .int .i64 most] w fun e w' => e = .returned (.tuple #[.int .i64 (minK zs most), .int .i64 (minE zs most)]) ∧ Bd (minK zs most) ∧ Below w.heap.size w w' := by
  have no : ∀ x : Int, x ≠ 0 → minE zs most = x → Calls Try.prog 24 #[.slice A zs.length c, .int .i64 most] w (fun e w' => e = .returned (.tuple #[.slice none 0 0, .int .i64 x]) ∧ Below w.heap.size w w') →
      Calls Try.prog 9 #[.slice A zs.length c, .int .i64 most] w fun e w' => e = .returned (.tuple #[.int .i64 (minK zs most), .int .i64 (minE zs most)]) ∧ Bd (minK zs most) ∧ Below w.heap.size w w' := by
    intro x hx he hc
    have hk : minK zs most = 0 := by unfold minK; rw [if_neg (by rw [he]; exact hx)]
    rw [hk, he]
    exact (minCost_no A c zs most x hx w hc).mono fun e w' ⟨h1, h2⟩ => ⟨h1, by unfold Bd; omega, h2⟩
  by_cases c1 : most < 1
  · exact no 2 (by decide) (by unfold minE; rw [if_pos (.inl c1)]) (lengths_arg0 A c zs most w h hh c1 hm1)
  by_cases c2 : 11 < most
  · exact no 2 (by decide) (by unfold minE; rw [if_pos (.inr c2)]) (lengths_arg A c zs most w h hh c2 hm2)
  have c3 : ¬ (most < 1 ∨ 11 < most) := by omega
  by_cases c4 : NormP.nUsed zs ≤ 1
  · exact no 22 (by decide) (by unfold minE; rw [if_neg c3, if_pos c4]) (lengths_none A c zs most w h hh (by omega) (by omega) (by omega))
  obtain ⟨m, rfl⟩ : ∃ m : Nat, most = m := ⟨most.toNat, by omega⟩
  by_cases c5 : 2 ^ m < NormP.nUsed zs
  · exact no 18 (by decide) (by unfold minE; rw [if_neg c3, if_neg c4, Int.toNat_natCast, if_pos c5]) (lengths_limit hso A c zs m w h hh (by omega) (by omega) (by omega) c5)
  have he : minE zs m = 0 := by unfold minE; rw [if_neg c3, if_neg c4, Int.toNat_natCast, if_neg c5]
  refine (minCost_ok hso A c zs m w h hh (by omega) (by omega) (by omega) (by omega)).mono ?_
  rintro e w' ⟨us, hp, hs, he2, hb⟩
  have hu : Us zs us := ⟨hp, hs⟩
  have hk : minK zs m = wcost (us.map fun s => zs.getD s.toNat 0) (m - 1) := by
    unfold minK; rw [if_pos he, Int.toNat_natCast, ← wsOf_sort hu]; rfl
  have hun : 2 ≤ us.length := by rw [hp.length_eq, used_len]; omega
  refine ⟨by rw [he2, hk, he], ?_, hb⟩
  rw [hk, ← lens_cost hp]
  exact lcost_bd hh (lens_bd hp (by omega) (by omega))

/-! ### lengths46 -/
def hufE (zs : List Int) : Int := if NormP.nUsed zs ≤ 1 then 22 else 0
def hufK (zs : List Int) : Int := if NormP.nUsed zs ≤ 1 then 0 else whcost (wsort zs) (NormP.nUsed zs - 1)
theorem hufE_dbl (zs : List Int) : hufE (dbl zs) = hufE zs := by unfold hufE; rw [NormP.nUsed_dbl]
theorem hufE_perm {zs zs' : List Int} (hp : zs'.Perm zs) : hufE zs' = hufE zs := by unfold hufE; rw [nUsed_perm hp]
theorem hufK_dbl (zs : List Int) : hufK (dbl zs) = 2 * hufK zs := by
  unfold hufK; rw [NormP.nUsed_dbl]
  split
  · rfl
  · rw [wsort_dbl, whcost_dbl]
theorem hufK_perm {zs zs' : List Int} (hp : zs'.Perm zs) : hufK zs' = hufK zs := by unfold hufK; rw [nUsed_perm hp, wsort_perm hp]
set_option maxHeartbeats 1000000 in
theorem lengths46 (hso : Sorts) (A : Option Addr) (c : Nat) (zs : List Int) (w : World) (h : In (kN .i64) w (Lt w.heap.size) A c zs) (hh : Hist zs) :
    Calls Try.prog 10 #[.slice A zs.length c] w fun e w' => e = .returned (.tuple #[.int .i64 (hufK zs), .int .i64 (hufE zs)]) ∧ Bd (hufK zs) ∧ Below w.heap.size w w' := by
  by_cases hn : NormP.nUsed zs ≤ 1
  · have hk : hufK zs = 0 := if_pos hn
    have he : hufE zs = 22 := if_pos hn
    rw [hk, he]
    clear hk he
    have H := Lib.hid (unlimited_none A c zs w h hh (by omega))
    go_enter Try.func10, Try.ntmps10
    go_wp2_with fail
    refine H.out.mono ?_
    rintro e w' ⟨rfl, hb⟩
    have HB := Lib.hid hb
    clear hb
    go_wp2
    go_ret2
    exact ⟨rfl, by unfold Bd; omega, HB.out⟩
  · have H := Lib.hid (unlimited_ok hso A c zs w h hh (by omega))
    have he : hufE zs = 0 := if_neg hn
    have hk : hufK zs = whcost (wsort zs) (NormP.nUsed zs - 1) := if_neg hn
    have HE := Lib.hid he
    have HK := Lib.hid hk
    have hl := hh.1
    clear he hk hso
    go_enter Try.func10, Try.ntmps10
    go_wp2_with fail
    refine H.out.mono ?_
    rintro e w1 ⟨us, Ao, co, hu, rfl, hin, hb⟩
    have hun : us.length = NormP.nUsed zs := by rw [hu.1.length_eq, used_len]
    have hll : (hlens zs us).length = zs.length := hlens_len
    have HC := Lib.hid (cost_ok A Ao c co zs (hlens zs us) w1 (h.below hb hb.size) hh hin (by rw [hll]; exact hl) (hlens_bd hh hu (by omega)) (hlens_pos hh hu (by omega)))
    have HD := Lib.hid (lcost_bd hh (hlens_bd hh hu (by omega)))
    rw [hlens_cost hu, wsOf_sort hu, hun, ← HK.out] at HD
    rw [hll, hlens_cost hu, wsOf_sort hu, hun, ← HK.out] at HC
    have HB := Lib.hid hb
    clear hb hin hun hll H
    go_wp2_with fail
    refine HC.out.mono ?_
    rintro e w2 ⟨rfl, hb2⟩
    have HB2 := Lib.hid (HB.out.trans (hb2.mono HB.out.size))
    clear hb2
    go_wp2
    go_ret2
    exact ⟨by rw [HE.out]; rfl, HD.out, HB2.out⟩

/-! ### Normalize -/
/-- what Normalize answers: the Log, the norm, the error -/
def NormIs (zs : List Int) (lg : Int) (L : Int) (xs : List Int) (E : Int) : Prop :=
  (Norm.Refused zs lg ∧ L = 0 ∧ xs = [] ∧ E = 2) ∨ (¬ Norm.Refused zs lg ∧ L = lg ∧ xs = NormP.norm zs (2 ^ lg.toNat) zs.sum ∧ E = 0)
theorem NormIs.dbl {zs : List Int} {lg L L' E E' : Int} {xs xs' : List Int} (h : NormIs zs lg L xs E) (h' : NormIs (dbl zs) lg L' xs' E') : L' = L ∧ xs' = xs ∧ E' = E := by
  have hr : Norm.Refused (Limit.dbl zs) lg ↔ Norm.Refused zs lg := by unfold Norm.Refused; rw [NormP.nUsed_dbl]
  unfold NormIs at h h'
  rw [hr, dbl_sum, NormP.norm_dbl] at h'
  rcases h with ⟨a, b, c, d⟩ | ⟨a, b, c, d⟩ <;> rcases h' with ⟨a', b', c', d'⟩ | ⟨a', b', c', d'⟩
  · exact ⟨by rw [b, b'], by rw [c, c'], by rw [d, d']⟩
  · exact absurd a a'
  · exact absurd a' a
  · exact ⟨by rw [b, b'], by rw [c, c'], by rw [d, d']⟩
theorem normalize_any (A : Option Addr) (c : Nat) (zs : List Int) (lg : Int) (w : World) (h : In (kN .i64) w (Lt w.heap.size) A c zs) (hh : Hist zs) :
    Calls Try.prog 7 #[.slice A zs.length c, .int .i64 lg] w fun e w' => ∃ (L : Int) (xs : List Int) (E : Int) (v : Value), e = .returned (.tuple #[.agg #[.int .i64 L, v], .int .i64 E]) ∧ NormIs zs lg L xs E ∧ Sl (kN .i64) w' (Lt w'.heap.size) v xs ∧ xs.length ≤ 65536 ∧ Below w.heap.size w w' := by
  by_cases hr : Norm.Refused zs lg
  · refine (Norm.normalize_no A c zs lg w h hh hr).mono ?_
    rintro e w' ⟨rfl, hb⟩
    exact ⟨0, [], 2, .slice none 0 0, rfl, .inl ⟨hr, rfl, rfl, rfl⟩, ⟨none, 0, rfl, In.nil _ _ _ _ _ (by unfold maxLen; omega)⟩, by simp, hb⟩
  · have hr' := hr
    unfold Norm.Refused at hr'
    obtain ⟨m, rfl⟩ : ∃ m : Nat, lg = m := ⟨lg.toNat, by omega⟩
    have h9 : m ≤ 9 := by omega
    have hp : NormP.nUsed zs ≤ 2 ^ m := by
      have h1 : ¬ (2 : Int) ^ m < NormP.nUsed zs := by rw [Int.toNat_natCast] at hr'; omega
      have h2 : ((2 ^ m : Nat) : Int) = (2 : Int) ^ m := by simp
      omega
    refine (Norm.normalize A c zs m w h hh h9 (by omega) hp).mono ?_
    rintro e w' ⟨v, rfl, hs, hb⟩
    refine ⟨m, _, 0, v, rfl, .inr ⟨hr, rfl, rfl, rfl⟩, by rw [Int.toNat_natCast]; exact hs, ?_, hb⟩
    have h1 := hh.1
    have h2 := List.length_take_le' (NormP.lastUsed zs (NormP.nUsed zs) zs.length) (NormP.marked zs (2 ^ ((m : Int)).toNat) zs.sum (NormP.full zs (2 ^ ((m : Int)).toNat) zs.sum) zs.length)
    unfold NormP.norm
    rw [NormP.marked_len, NormP.len_full] at h2
    omega
end Go.Proofs.Ytjmkkcbilpidnaa.Limit
