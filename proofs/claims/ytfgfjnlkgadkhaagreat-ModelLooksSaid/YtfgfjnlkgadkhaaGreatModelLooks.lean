/- ModelLooks. -/
import Derived.Test.YtfgfjnlkgadkhaaGreatGp
import Derived.Deep.CutRange
import Derived.Deep.CutBlock
namespace Go.Proofs.YtfgfjnlkgadkhaaGreat
set_option linter.unusedVariables false
set_option linter.unusedSimpArgs false
set_option maxRecDepth 20000
open Go.RowKit Go.Proofs.YtfgfjnlkgadkhaaGreatMem Go.Proofs.YtfgfjnlkgadkhaaGreatFlat Go.Proofs.YtfgfjnlkgadkhaaGreatMapK

set_option maxHeartbeats 4000000 in
theorem looksL_in (c : Cfg) (hu : W64 c.unit) (ao : Option Addr) (n cap : Nat) (l : List CallS) (w : World) (h : RdC w ao n cap l) :
    Calls Tryz.prog 6 #[.agg #[.int .i64 c.shards, .int .i64 c.slots, .int .i64 c.workers, .int .i64 c.width, .int .u64 c.unit], .slice ao n cap] w fun e w' => e = .returned (.bool true) ∧ Below w.heap.size w w' := by
  have I := CfgIn.start w c
  have hcR := confP_r c hu
  have hle := h.rd.le
  have hsm := h.rd.small
  have HRD := Lib.hid h
  clear h
  go_enter Tryz.func6, Tryz.ntmps6
  go_upto_region 1 with fail
  generalize (w.alloc (.cells #[.int .i64 c.shards, .int .i64 c.slots, .int .i64 c.workers, .int .i64 c.width, .int .u64 c.unit] 24)) = W at *
  obtain ⟨x0, x1, x2, x3, x4, xl⟩ := I.cells
  have hb0 := I.bel
  clear I
  go_wp2_with fail
  refine (made_any c hu true _).mono ?_
  rintro e W1 ⟨b, x, rfl, T1⟩
  replace T1 := T1.base hb0
  generalize confP c = c' at *
  have S1 : Run11 w W1 b x c' 4 := ⟨_, _, T1, made_sim c' true, made_good c' hcR true⟩
  have HS1 := Lib.hid S1
  clear T1 S1 x0 x1 x2 x3 x4 xl hb0
  go_wp2_with fail
  refine (awake11_any _).mono ?_
  rintro e W2 ⟨rfl, hb2⟩
  have HS2 := Lib.hid (HS1.out.below hb2)
  clear hb2 HS1
  go_wp2_with fail
  go_loopw [7] (fun v7 wr => ∃ k : Nat, k ≤ n ∧ k ≤ 60 ∧ v7 = .int .i64 k ∧ Run11 w wr b x c' (4 + k)) (fun v7 _ => 60 - (intOf v7).toNat)
  case atStart => exact ⟨0, Nat.zero_le _, Nat.zero_le _, rfl, HS2.out⟩
  case round =>
    obtain ⟨k, hk, hk8, rfl, rn⟩ := hrel
    by_cases hlx : k < n ∧ k < 60
    · obtain ⟨hl, h8⟩ := hlx
      have i1 : (k : Int) < (n : Int) := by omega
      have i2 : (k : Int) < 60 := by omega
      obtain ⟨m, y, t, hs, hg⟩ := rn.ex
      obtain ⟨bl, o, rfl, hbl, q0, q1, q2, q3⟩ := HRD.out.at hl t.bel
      have hdo := callP_ok (HRD.out.nth_ok hl)
      have HT := Lib.hid t
      have HSM := Lib.hid hs
      have HG := Lib.hid hg
      clear t hs hg rn
      generalize hd : nthC l k = d at *
      replace hd := Lib.hid hd
      go_wp2_with fail
      refine (callP_any d _).mono ?_
      rintro e w3 ⟨rfl, hb3⟩
      have HT3 := Lib.hid (HT.out.below hb3)
      clear hb3 q0 q1 q2 q3
      generalize callP d = d' at *
      go_wp2_with fail
      refine (step11_any HT3.out.toK HSM.out HG.out (by omega) hcR d' hdo).mono ?_
      rintro e w4 ⟨rfl, t4⟩
      have S4 : Run11 w w4 b x c' (4 + (k + 1)) := ⟨_, _, t4.toM, (HSM.out.doo c' d').1, HG.out.doo hcR.ok.unit hdo⟩
      have HS4 := Lib.hid S4
      clear t4 S4
      go_wp2_with fail
      go_loopw [8] (fun v8 wq => ∃ j : Nat, j ≤ 7 ∧ v8 = .int .i64 ((j : Int) - 1) ∧ Run11 w wq b x c' (4 + (k + 1))) (fun v8 _ => (7 - (intOf v8 + 1)).toNat)
      case atStart => exact ⟨0, by omega, rfl, HS4.out⟩
      case round =>
        obtain ⟨j, hj, rfl, rj⟩ := hrel
        by_cases hj7 : j < 7
        · have j1 : (j : Int) - 1 < 6 := by omega
          have e1 : Value.int .i64 (IntKind.i64.wrap ((j : Int) - 1 + 1)) = .int .i64 (((j + 1 : Nat) : Int) - 1) := by
            rw [show (j : Int) - 1 + 1 = ((j + 1 : Nat) : Int) - 1 by omega]
            exact wr1 (by omega)
          obtain ⟨m5, y5, t5, hs5, hg5⟩ := rj.ex
          have HT5 := Lib.hid t5
          have HS5 := Lib.hid hs5
          have HG5 := Lib.hid hg5
          clear t5 hs5 hg5 rj
          go_wp2_with fail
          refine (looks11_any HT5.out HS5.out HG5.out (by omega) _).mono ?_
          rintro e w6 ⟨rfl, hb6⟩
          have S6 : Run11 w w6 b x c' (4 + (k + 1)) := ⟨_, _, HT5.out.below hb6, HS5.out, HG5.out⟩
          have HS6 := Lib.hid S6
          clear S6 hb6
          go_wp2
          go_roundw
          case rel => exact ⟨j + 1, by omega, by first | rfl | (congr 1; omega), HS6.out⟩
          case measure => simp [intOf]; omega
        · obtain rfl : j = 7 := by omega
          have HRJ := Lib.hid rj
          clear rj
          go_wp2
          go_roundw
          case rel => exact ⟨k + 1, by omega, by omega, by go_num, HRJ.out⟩
          case measure => simp [intOf]; omega
    · obtain ⟨m, y, t, hs, hg⟩ := rn.ex
      have HT := Lib.hid t
      clear t hs hg rn
      have i3 : (n : Int) ≤ (k : Int) ∨ (k : Int) < (n : Int) ∧ 60 ≤ (k : Int) := by omega
      rcases i3 with i1 | ⟨i1, i2⟩
      all_goals
        go_wp2
        go_ret
        exact ⟨rfl, HT.out.bel⟩
theorem ModelLooks_any (w : World) (c : List Value) (w0 : FlatOk [.int .i64, .int .i64, .int .i64, .int .i64, .int .u64] c) (ao : Option Addr) (n cap : Nat) (L : List (List Value)) (w1 : IsRows w [.int .i64, .int .i64, .int .i64, .int .i64] ao n cap L) :
    Calls Tryz.prog 6 #[.agg c.toArray, .slice ao n cap] w fun e w' => e = .returned (.bool true) ∧ Below w.heap.size w w' := by
  obtain ⟨d, rfl, hu⟩ := cfg_of w0
  obtain ⟨l, h⟩ := isRows_rdC w1
  exact looksL_in d hu ao n cap l w h
end Go.Proofs.YtfgfjnlkgadkhaaGreat
