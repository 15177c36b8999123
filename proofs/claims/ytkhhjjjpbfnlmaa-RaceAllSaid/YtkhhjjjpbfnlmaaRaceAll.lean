/- RaceAll: of any events the program tells what the reference tells: whether they may be, all clocks, the first two that race. -/
import Derived.Test.YtkhhjjjpbfnlmaaRaceQ
namespace Go.Proofs.Ytkhhjjjpbfnlmaa
set_option linter.unusedVariables false
set_option linter.unusedSimpArgs false
open Go.RowKit Go.Proofs.YtkhhjjjpbfnlmaaMem Go.Proofs.YtkhhjjjpbfnlmaaFlat Go.Proofs.YtkhhjjjpbfnlmaaMapK

set_option maxHeartbeats 2000000 in
theorem RaceAll_1 (ao at' : Option Addr) (n cap m capt : Nat) (l : List EvS) (ts : List Int) (w : World) (h : RdE w ao n cap l) (ht : RdI w at' m capt ts) :
    Calls Try.prog 3 #[.slice ao n cap, .slice at' m capt] w fun e w' => e = .returned (.bool true) ∧ Below w.heap.size w w' := by
  have hlen := longE_length l ts
  have hok := Lib.hid (longE_ok h.ok ts)
  have hfit := Lib.hid (allC_fits (longE l ts) (by omega))
  go_enter Try.func3, Try.ntmps3
  go_wp2_with fail
  refine (long_any ao at' n cap m capt l ts _ h ht).mono ?_
  rintro e w1 ⟨v, rfl, hown, hb1⟩
  obtain ⟨a, c, rfl⟩ := owns_slice hown
  have r1 := owns_rdE hown hok.out
  generalize longE l ts = L at *
  clear hown h ht
  obtain ⟨q, hq⟩ : ∃ q, L.length = q := ⟨_, rfl⟩
  rw [hq] at r1 hlen ⊢
  clear hq
  go_wp2_with fail
  refine (first_any a q c L _ r1 (by omega)).mono ?_
  rintro e w2 ⟨rfl, hb2⟩
  have r2 := r1.below hb2
  have B2 := below_step hb1 hb2
  clear r1 hb1 hb2
  obtain ⟨x, y, z, hxyz⟩ : ∃ (x y : Int) (z : Bool), resF (firstR L) = .tuple #[.int .i64 x, .int .i64 y, .bool z] := by
    cases firstR L with
    | none => exact ⟨_, _, _, rfl⟩
    | some r => exact ⟨_, _, _, rfl⟩
  rw [hxyz]
  go_wp2_with fail
  refine (refFirst_any a q c L _ r2 (by omega)).mono ?_
  rw [hxyz]
  rintro e w3 ⟨rfl, hb3⟩
  clear hxyz
  have r3 := r2.below hb3
  have B3 := below_step B2 hb3
  clear r2 B2 hb3
  go_wp2_with fail
  refine (awake_any _).mono ?_
  rintro e w4 ⟨rfl, hb4⟩
  have r4 := r3.below hb4
  have B4 := below_step B3 hb4
  clear r3 B3 hb4
  go_wp2_with fail
  refine (right_any a q c L _ r4).mono ?_
  rintro e w5 ⟨rfl, hb5⟩
  have r5 := r4.below hb5
  have B5 := below_step B4 hb5
  clear r4 B4 hb5
  go_wp2_with fail
  refine (refRight_any a q c L _ r5).mono ?_
  rintro e w6 ⟨rfl, hb6⟩
  have r6 := r5.below hb6
  have B6 := below_step B5 hb6
  clear r5 B5 hb6
  go_wp2_with fail
  refine (clocks_any a q c L _ r6 (by omega)).mono ?_
  rintro e w7 ⟨v7, rfl, hown7, hb7⟩
  obtain ⟨a7, c7, rfl⟩ := hown7.slice
  have d7 := hown7.rd hfit.out
  have r7 := r6.below hb7
  have B7 := below_step B6 hb7
  clear r6 B6 hb7 hown7
  go_wp2_with fail
  refine (refClocks_any a q c L _ r7 (by omega)).mono ?_
  rintro e w8 ⟨v8, rfl, hown8, hb8⟩
  obtain ⟨a8, c8, rfl⟩ := hown8.slice
  have d8 := hown8.rd hfit.out
  have d7' := d7.below hb8
  have B8 := below_step B7 hb8
  clear r7 B7 hb8 hown8 d7
  go_wp2_with fail
  refine (clocksEq_any a7 a8 _ c7 _ c8 _ _ _ d7' d8).mono ?_
  rw [eqC_same]
  rintro e w9 ⟨rfl, hb9⟩
  go_wp2
  go_ret
  exact ⟨rfl, below_step B8 hb9⟩

theorem RaceAll_any (w : World) (ao : Option Addr) (n cap : Nat) (L : List (List Value)) (h : IsRows w [.int .i64, .int .i64, .int .i64, .int .i64, .int .i64] ao n cap L) (a1 : Option Addr) (n1 c1 : Nat) (L1 : List (List Value)) (h1 : IsRows w [.int .i64] a1 n1 c1 L1) :
    Calls Try.prog 3 #[.slice ao n cap, .slice a1 n1 c1] w fun e w' => e = .returned (.bool true) ∧ Below w.heap.size w w' := by
  obtain ⟨l, r⟩ := isRows_rdE h
  obtain ⟨ts, r1⟩ := isRows_rdI h1
  exact RaceAll_1 ao a1 n cap n1 c1 l ts w r r1
end Go.Proofs.Ytkhhjjjpbfnlmaa
