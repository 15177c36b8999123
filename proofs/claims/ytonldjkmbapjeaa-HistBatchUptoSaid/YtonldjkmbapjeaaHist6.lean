/- The most calls that are under way in one step: the program. -/
import Derived.Test.YtonldjkmbapjeaaHist5
namespace Go.Proofs.Ytonldjkmbapjeaa
set_option linter.unusedVariables false
set_option linter.unusedSimpArgs false
open Go.RowKit Go.Proofs.YtonldjkmbapjeaaMem Go.Proofs.YtonldjkmbapjeaaFlat

set_option maxRecDepth 20000 in
set_option maxHeartbeats 2000000 in
theorem histMost_any (ao : Option Addr) (n cap : Nat) (l : List DoneS) (w : World) (h : RdD w ao n cap l) (hn : n ≤ 1000000) :
    Calls Try.prog 16 #[.slice ao n cap] w fun e w' => e = .returned (.int .i64 (mostD l : Int)) ∧ Below w.heap.size w w' := by
  have L0 := Lib.hid h.len
  have s0 := h.rd.small
  go_enter Try.func16, Try.ntmps16
  go_wp2
  go_loopw [3, 5, 6, 8, 11] (fun v3 _ _ _ v11 wr => ∃ i : Nat, i ≤ n ∧ v11 = .int .i64 i ∧ v3 = .int .i64 (mostL l i : Nat) ∧ Below w.heap.size w wr) (fun _ _ _ _ v11 _ => n - (intOf v11).toNat)
  case atStart => exact ⟨0, Nat.zero_le _, rfl, rfl, Below.refl _ _⟩
  case round =>
    obtain ⟨i, hi, rfl, rfl, hbr⟩ := hrel
    by_cases hl : i < n
    · obtain ⟨b, o, rfl, hlt, hc⟩ := h.cells hl
      obtain ⟨c0, c1, c2, c3, c4, c5, c6, c7, c8, c9, c10, c11⟩ := RdD.at12 (ao := none) (n := 0) (cap := 0) hc hbr
      have hml := mostL_le l i
      obtain ⟨M, hM⟩ : ∃ M, mostL l i = M := ⟨_, rfl⟩
      rw [hM] at hml ⊢
      have HM := Lib.hid hM
      clear hM
      go_upto_region 5 with fail
      have hA := one_boxD wr (nthD l i) 31
      have hbW := below1 wr (.cells #[.int .i64 (nthD l i).who, .int .i64 (nthD l i).place, .int .i64 (nthD l i).op, .int .i64 (nthD l i).fl, .int .i64 (nthD l i).a, .int .i64 (nthD l i).b, .int .i64 (nthD l i).e, .slice (nthD l i).ao (nthD l i).len (nthD l i).cap, .int .i64 (nthD l i).n, .int .u64 (nthD l i).v, .int .i64 (nthD l i).fr, .int .i64 (nthD l i).to] 31)
      have hb1 := hbr.trans (hbW.mono hbr.size)
      generalize wr.alloc (.cells #[.int .i64 (nthD l i).who, .int .i64 (nthD l i).place, .int .i64 (nthD l i).op, .int .i64 (nthD l i).fl, .int .i64 (nthD l i).a, .int .i64 (nthD l i).b, .int .i64 (nthD l i).e, .slice (nthD l i).ao (nthD l i).len (nthD l i).cap, .int .i64 (nthD l i).n, .int .u64 (nthD l i).v, .int .i64 (nthD l i).fr, .int .i64 (nthD l i).to] 31) = W at *
      generalize hnA : wr.heap.size = A at *
      have HA := Lib.hid hA
      clear c0 c1 c2 c3 c4 c5 c6 c7 c8 c9 c10 c11 hc hbW hbr hA
      go_wp2_with fail
      go_loopw [6, 8, 17] (fun v6 _ v17 wr => ∃ k : Nat, k ≤ n ∧ v17 = .int .i64 k ∧ v6 = .int .i64 (cntU l i k : Nat) ∧ Below W.heap.size W wr) (fun _ _ v17 _ => n - (intOf v17).toNat)
      case atStart => exact ⟨0, Nat.zero_le _, rfl, rfl, Below.refl _ _⟩
      case round =>
        obtain ⟨k, hk, rfl, rfl, hbr⟩ := hrel
        have hcl := cntU_le l i k
        have HCS : Hid (cntU l i (k + 1) = cntU l i k + if underB (nthD l k) (nthD l i) = true then 1 else 0) := rfl
        by_cases hl2 : k < n
        · obtain ⟨b', o', e', _, hck⟩ := h.cells hl2
          simp only [Option.some.injEq, Addr.mk.injEq, and_true] at e'
          obtain ⟨rfl, rfl⟩ := e'
          have hbw := hb1.trans (hbr.mono hb1.size)
          obtain ⟨c0, c1, c2, c3, c4, c5, c6, c7, c8, c9, c10, c11⟩ := RdD.at12 (ao := none) (n := 0) (cap := 0) hck hbw
          clear hck
          have F : Hid (underB (nthD l k) (nthD l i) = (decide ((nthD l k).fr ≤ (nthD l i).fr) && (!endedB (nthD l k) || decide ((nthD l i).fr ≤ (nthD l k).to)))) := rfl
          generalize hC : cntU l i k = C at *
          have hw1 : wrap64 ((C : Int) + 1) = (C : Int) + 1 := (show ∀ q : Nat, q ≤ 1000000 → wrap64 ((q : Int) + 1) = (q : Int) + 1 by intro q hq; unfold RowKit.wrap64; omega) C (by omega)
          have HW := Lib.hid hw1
          clear hw1
          have hA2 := HA.out.below hbr
          go_upto_region 9 with fail
          have hB := one_boxD wr (nthD l k) 31
          have hbX := below1 wr (.cells #[.int .i64 (nthD l k).who, .int .i64 (nthD l k).place, .int .i64 (nthD l k).op, .int .i64 (nthD l k).fl, .int .i64 (nthD l k).a, .int .i64 (nthD l k).b, .int .i64 (nthD l k).e, .slice (nthD l k).ao (nthD l k).len (nthD l k).cap, .int .i64 (nthD l k).n, .int .u64 (nthD l k).v, .int .i64 (nthD l k).fr, .int .i64 (nthD l k).to] 31)
          have hA3 := hA2.below hbX
          have hb2 := hbr.trans (hbX.mono hbr.size)
          generalize wr.alloc (.cells #[.int .i64 (nthD l k).who, .int .i64 (nthD l k).place, .int .i64 (nthD l k).op, .int .i64 (nthD l k).fl, .int .i64 (nthD l k).a, .int .i64 (nthD l k).b, .int .i64 (nthD l k).e, .slice (nthD l k).ao (nthD l k).len (nthD l k).cap, .int .i64 (nthD l k).n, .int .u64 (nthD l k).v, .int .i64 (nthD l k).fr, .int .i64 (nthD l k).to] 31) = X at *
          generalize hnB : wr.heap.size = B at *
          clear c0 c1 c2 c3 c4 c5 c6 c7 c8 c9 c10 c11 hA2 hbX hbr hbw
          obtain ⟨_, _, _, _, _, _, _, _, _, _, a10, _⟩ := hA3.cells
          obtain ⟨b0, b1, b2, b3, b4, b5, b6, b7, b8, b9, b10, b11⟩ := hB.cells
          have HA3 := Lib.hid hA3
          have HB := Lib.hid hB
          clear hA3 hB
          by_cases t1 : (nthD l k).fr ≤ (nthD l i).fr
          · go_wp2_with fail
            refine (ended_any (nthD l k) _).mono ?_
            cases he : endedB (nthD l k)
            · have U : Hid (underB (nthD l k) (nthD l i) = true) := by unfold Hid; rw [F.out, he]; simp [t1]
              rintro e w1 ⟨rfl, hb3⟩
              have hb4 := hb2.trans (hb3.mono hb2.size)
              go_wp2
              go_roundw
              case rel => exact ⟨k + 1, by omega, by go_num, by rw [HCS.out, U.out]; simp only [if_true]; go_num, hb4⟩
              case measure => simp [intOf]; omega
            · rintro e w1 ⟨rfl, hb3⟩
              have hb4 := hb2.trans (hb3.mono hb2.size)
              clear a10 b0 b1 b2 b3 b4 b5 b6 b7 b8 b9 b10 b11
              obtain ⟨_, _, _, _, _, _, _, _, _, _, a10, _⟩ := (HA3.out.below hb3).cells
              obtain ⟨_, _, _, _, _, _, _, _, _, _, b10, b11⟩ := (HB.out.below hb3).cells
              by_cases t2 : (nthD l i).fr ≤ (nthD l k).to
              · have U : Hid (underB (nthD l k) (nthD l i) = true) := by unfold Hid; rw [F.out, he]; simp [t1, t2]
                go_wp2
                go_roundw
                case rel => exact ⟨k + 1, by omega, by go_num, by rw [HCS.out, U.out]; simp only [if_true]; go_num, hb4⟩
                case measure => simp [intOf]; omega
              · have U : Hid (underB (nthD l k) (nthD l i) = false) := by unfold Hid; rw [F.out, he]; simp; intro _; omega
                go_wp2
                go_roundw
                case rel => exact ⟨k + 1, by omega, by go_num, by rw [HCS.out, U.out]; rfl, hb4⟩
                case measure => simp [intOf]; omega
          · have U : Hid (underB (nthD l k) (nthD l i) = false) := by unfold Hid; rw [F.out]; simp; intro q; exact absurd q t1
            go_wp2
            go_roundw
            case rel => exact ⟨k + 1, by omega, by go_num, by rw [HCS.out, U.out]; rfl, hb2⟩
            case measure => simp [intOf]; omega
        · obtain rfl : k = n := by omega
          have HMS : Hid (mostL l (i + 1) = max M (cntU l i k)) := by unfold Hid mostL; rw [HM.out, L0.out]
          have hb4 := hb1.trans (hbr.mono hb1.size)
          clear HCS
          generalize cntU l i k = C at *
          by_cases hmx : M < C
          · have hmi : (M : Int) < (C : Int) := by omega
            have E : Hid (mostL l (i + 1) = C) := by unfold Hid; rw [HMS.out]; omega
            go_wp2
            go_roundw
            case rel => exact ⟨i + 1, by omega, by go_num, by rw [E.out], hb4⟩
            case measure => simp [intOf]; omega
          · have hmi : ¬ (M : Int) < (C : Int) := by omega
            have E : Hid (mostL l (i + 1) = M) := by unfold Hid; rw [HMS.out]; omega
            go_wp2
            go_roundw
            case rel => exact ⟨i + 1, by omega, by go_num, by rw [E.out], hb4⟩
            case measure => simp [intOf]; omega
    · obtain rfl : i = n := by omega
      have E : Hid (mostD l = mostL l i) := by unfold Hid mostD; rw [L0.out]
      go_wp2
      go_ret
      exact ⟨by rw [E.out]; rfl, hbr⟩
end Go.Proofs.Ytonldjkmbapjeaa
