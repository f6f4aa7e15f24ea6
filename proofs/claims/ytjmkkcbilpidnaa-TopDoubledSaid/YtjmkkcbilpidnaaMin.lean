/- The walk of MinCost. -/
import Derived.Test.YtjmkkcbilpidnaaLenE
import Derived.Test.YtjmkkcbilpidnaaPm3
namespace Go.Proofs.Ytjmkkcbilpidnaa.Limit
open Go Go.RowKit Go.Proofs.Ytjmkkcbilpidnaa.W Go.Proofs.Ytjmkkcbilpidnaa.Tally Go.Proofs.Ytjmkkcbilpidnaa.SortA Go.Proofs.Ytjmkkcbilpidnaa.SortP
set_option linter.unusedVariables false
set_option linter.unusedSimpArgs false

/-- MinCost hands on a refusal. -/
theorem minCost_no (A : Option Addr) (c : Nat) (zs : List Int) (most : Int) (x : Int) (hx : x ≠ 0) (w : World)
    (h : Calls Try.prog 24 #[.slice A zs.length c, .int .i64 most] w fun e w' => e = .returned (.tuple #[.slice none 0 0, .int .i64 x]) ∧ Below w.heap.size w w') :
    Calls Try.prog 9 #[.slice A zs.length c, .int .i64 most] w fun e w' => e = .returned (.tuple #[.int .i64 0, .int .i64 x]) ∧ Below w.heap.size w w' := by
  have H := Lib.hid h
  clear h
  go_enter Try.func9, Try.ntmps9
  go_wp2_with fail
  refine H.out.mono ?_
  rintro e w' ⟨rfl, hb⟩
  have HB := Lib.hid hb
  clear hb
  go_wp2
  go_ret2
  exact ⟨rfl, HB.out⟩

set_option maxHeartbeats 1000000 in
theorem minCost_ok (hso : Sorts) (A : Option Addr) (c : Nat) (zs : List Int) (most : Nat) (w : World) (h : In (kN .i64) w (Lt w.heap.size) A c zs) (hh : Hist zs) (hu : 1 < NormP.nUsed zs) (h1 : 1 ≤ most) (h2 : most ≤ 11) (h3 : NormP.nUsed zs ≤ 2 ^ most) :
    Calls Try.prog 9 #[.slice A zs.length c, .int .i64 most] w fun e w' => ∃ us : List Int, us.Perm (used zs) ∧ Sorted (fun s => zs.getD s.toNat 0) us 0 us.length ∧ e = .returned (.tuple #[.int .i64 (wcost (us.map fun s => zs.getD s.toNat 0) (most - 1)), .int .i64 0]) ∧ Below w.heap.size w w' := by
  have H := Lib.hid (lengths_ok hso A c zs most w h hh hu h1 h2 h3)
  have hl := hh.1
  clear hso
  go_enter Try.func9, Try.ntmps9
  go_wp2_with fail
  refine H.out.mono ?_
  rintro e w1 ⟨us, Ao, co, hp, hs, rfl, hin, hb⟩
  have hun : 2 ≤ us.length := by rw [hp.length_eq, used_len]; omega
  have hin' : In (kN .i64) w1 (Lt w1.heap.size) Ao co (lens zs us most) := hin
  have hll : (lens zs us most).length = zs.length := lens_len
  have HC := Lib.hid (cost_ok A Ao c co zs (lens zs us most) w1 (h.below hb hb.size) hh hin' (by rw [hll]; exact hl) (lens_bd hp h1 h2) (lens_pos hh hp hun))
  have HP := Lib.hid hp
  have HS := Lib.hid hs
  have HB := Lib.hid hb
  clear hp hs hb hin hin' H
  rw [hll] at HC
  clear hll
  go_wp2_with fail
  refine HC.out.mono ?_
  rintro e w2 ⟨rfl, hb2⟩
  rw [lens_cost HP.out]
  have HB2 := Lib.hid (HB.out.trans (hb2.mono HB.out.size))
  clear hb2
  go_wp2
  go_ret2
  exact ⟨us, HP.out, HS.out, rfl, HB2.out⟩
end Go.Proofs.Ytjmkkcbilpidnaa.Limit
