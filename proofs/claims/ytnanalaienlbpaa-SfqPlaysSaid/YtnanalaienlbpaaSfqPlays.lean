/- SfqPlays. -/
import Derived.Test.YtnanalaienlbpaaSome10
import Derived.Test.YtnanalaienlbpaaLooks
import Derived.Deep.CutRange
namespace Go.Proofs.Ytnanalaienlbpaa
set_option linter.unusedVariables false
set_option linter.unusedSimpArgs false
set_option maxRecDepth 20000
open Go.RowKit Go.Proofs.YtnanalaienlbpaaMem Go.Proofs.YtnanalaienlbpaaFlat Go.Proofs.YtnanalaienlbpaaMapK

set_option maxHeartbeats 2000000 in
theorem plays_in (ao : Option Addr) (n cap : Nat) (l : List ActT) (begun : Bool) (w : World) (h : RdT w ao n cap l) :
    Calls Try.prog 8 #[.slice ao n cap, .bool begun] w fun e w' => e = .returned (.bool true) ∧ Below w.heap.size w w' := by
  have hs := h.small
  go_enter Try.func8, Try.ntmps8
  go_wp2_with fail
  refine (newO w w (Below.refl _ _)).mono ?_
  rintro e w1 ⟨b, rfl, H⟩
  have O := twoBegin H
  clear H
  go_upto_region 2 with fail
  generalize hc : w1.heap.size = c at *
  clear hc
  generalize (w1.alloc (.cells #[.slice none 0 0, .int .u64 0, .int .u64 0] 43)) = W1 at *
  go_wp2_with fail
  refine (awake10_any _).mono ?_
  rintro e w2 ⟨rfl, hb2⟩
  replace O := O.below hb2
  clear hb2
  go_upto_if 17 with fail
  go_cut [] from 18 to 20 (fun wx => ∃ s t, OwnT w wx b c s t ∧ Sim s t ∧ s.Ok ∧ s.fs.length ≤ 4)
  case first =>
    cases begun with
    | true =>
      obtain ⟨F, f1, f2, f3⟩ := O
      go_wp2_with fail
      refine (some_any b c F _ f1).mono ?_
      rintro e w3 ⟨rfl, hp⟩
      have O := OwnT.post f2 f3 hp
      go_wp2
      go_meet
      exact ⟨_, _, O, some_sim 4, some_ok 4 (Nat.le_refl _), some_len 4⟩
    | false =>
      go_wp2
      go_meet
      exact ⟨_, _, O, Sim.new, SfS.new_ok, Nat.zero_le _⟩
  case rest =>
  obtain ⟨s0, t0, O, hsim, hok, hln⟩ := hcut
  go_wp2_with fail
  go_loopw [7] (fun u7 wr => ∃ (k : Nat) (s t : SfS), k ≤ n ∧ k ≤ 80 ∧ u7 = .int .i64 k ∧ OwnT w wr b c s t ∧ Sim s t ∧ s.Ok ∧ s.fs.length ≤ 4 + k) (fun u7 _ => (80 - intOf u7).toNat)
  case atStart => exact ⟨0, s0, t0, Nat.zero_le _, Nat.zero_le _, rfl, O, hsim, hok, hln⟩
  case round =>
    obtain ⟨k, s, t, hk, hk8, rfl, O, hsim, hok, hln⟩ := hrel
    by_cases hlx : k < n ∧ k < 80
    · obtain ⟨hl, h8⟩ := hlx
      have i1 : (k : Int) < (n : Int) := by omega
      have i2 : (k : Int) < 80 := by omega
      have ha := h.nth_ok k
      obtain ⟨bl, off, rfl, hc⟩ := h.cells hl
      obtain ⟨F, f1, f2, f3⟩ := O
      obtain ⟨q0, q1, q2, q3, q4, q5, q6⟩ := hc _ f3
      have hsim2 := hsim.step (nthT l k).near
      have hok2 := stepS_ok hok (ActT.near_ok ha)
      have hln2 := stepS_length s (nthT l k).near
      have S2 := Lib.hid hsim2
      have K2 := Lib.hid hok2
      clear hc hsim2 hok2
      go_wp2_with fail
      refine (step_any b c s t F (nthT l k) wr f1 hsim hok ha (by omega)).mono ?_
      rintro e w4 ⟨rfl, hp⟩
      have O := OwnT.post f2 f3 hp
      clear f1 f2 f3 hp q0 q1 q2 q3 q4 q5 q6 hsim hok
      generalize stepS s (nthT l k).near = s2 at *
      generalize stepR t (nthT l k).near = t2 at *
      obtain ⟨F2, f1, f2, f3⟩ := O
      go_wp2_with fail
      refine (looks_any f1 S2.out K2.out (by omega)).mono ?_
      rintro e w5 ⟨rfl, hb5⟩
      have O : OwnT w w5 b c s2 t2 := OwnT.below ⟨F2, f1, f2, f3⟩ hb5
      clear f1 f2 f3 hb5
      go_wp2
      go_roundw
      case rel => exact ⟨k + 1, s2, t2, by omega, by omega, by go_num, O, S2.out, K2.out, by omega⟩
      case measure => simp [intOf]; omega
    · have i3 : (n : Int) ≤ (k : Int) ∨ (k : Int) < (n : Int) ∧ 80 ≤ (k : Int) := by omega
      rcases i3 with i1 | ⟨i1, i2⟩
      all_goals
        go_wp2
        go_ret
        exact ⟨rfl, O.bel⟩

theorem SfqPlays_any (w : World) (ao : Option Addr) (n cap : Nat) (L : List (List Value)) (w2 : IsRows w [.int .i64, .int .i64, .int .i64, .int .u64, .int .i64, .int .i64, .int .i64] ao n cap L) (begun : Bool) :
    Calls Try.prog 8 #[.slice ao n cap, .bool begun] w fun e w' => e = .returned (.bool true) ∧ Below w.heap.size w w' := by
  obtain ⟨l, h⟩ := isRows_rdT w2
  exact plays_in ao n cap l begun w h
end Go.Proofs.Ytnanalaienlbpaa
