/- The reference's clocks of events. -/
import Derived.Test.YtkhhjjjpbfnlmaaRaceR2
import Derived.Test.YtkhhjjjpbfnlmaaRaceO
import Derived.Deep.CutRange
namespace Go.Proofs.Ytkhhjjjpbfnlmaa
set_option linter.unusedVariables false
set_option linter.unusedSimpArgs false
open Go.RowKit Go.Proofs.YtkhhjjjpbfnlmaaMem Go.Proofs.YtkhhjjjpbfnlmaaFlat

theorem clks_fits (l : List EvS) {k : Nat} (hk : k ≤ 1000000) : ∀ c ∈ clks l k, ∀ z ∈ c, I64 z := fun c hc => (clks_bd l k hk c hc).fits (by omega)
theorem ownC_fits (l : List EvS) {k : Nat} (hk : k ≤ 1000000) : ∀ z ∈ ownC l (clks l k) k, I64 z := (Bd.atO (clks_bd l k hk) _).fits (by omega)
theorem heardC_fits (l : List EvS) {k : Nat} (hk : k ≤ 1000000) : ∀ z ∈ heardC l (clks l k) k, I64 z := (Bd.heard (l := l) (clks_bd l k hk) (by omega) k).fits (by omega)
theorem clkE_fits (l : List EvS) {k : Nat} (hk : k ≤ 1000000) : ∀ z ∈ clkE l (clks l k) k, I64 z := by
  intro z hz
  have := Bd.tick (Bd.heard (l := l) (clks_bd l k hk) (by omega) k) (by omega) (by omega) (nthE l k).who z hz
  unfold I64; omega
theorem clkE_length (l : List EvS) (k : Nat) : (clkE l (clks l k) k).length = tickN (heardC l (clks l k) k).length (nthE l k).who := tickC_length _ _

set_option maxHeartbeats 2000000 in
theorem refClocks_right (ao : Option Addr) (n cap : Nat) (l : List EvS) (w : World) (h : RdE w ao n cap l) (hr : rightB l = true) (hn : n ≤ 1000) :
    Calls Try.prog 19 #[.slice ao n cap] w (RetCs w (clks l n)) := by
  have s0 := h.rd.small
  go_enter Try.func19, Try.ntmps19
  go_wp2_with fail
  refine (refRight_any ao n cap l _ h).mono ?_
  rw [hr]
  rintro e w0 ⟨rfl, hb0⟩
  go_wp2_with fail
  go_loopw [3, 4] (fun v i wr => ∃ k : Nat, k ≤ n ∧ i = .int .i64 k ∧ OwnCs wr w.heap.size wr.heap.size v (clks l k) ∧ Below w.heap.size w wr) (fun _ i _ => n - (intOf i).toNat)
  case atStart => exact ⟨0, Nat.zero_le _, rfl, OwnCs.nil _ _ _, hb0⟩
  case round =>
    obtain ⟨k, hk, rfl, hown, hbr⟩ := hrel
    by_cases hl : k < n
    · obtain ⟨b, o, rfl, hlt, hc⟩ := h.cells hl
      obtain ⟨ao', cap', rfl⟩ := hown.slice
      rw [clks_length] at hown ⊢
      have CL := Lib.hid (clks_length l k)
      have hf := Lib.hid (clks_fits l (show k ≤ 1000000 by omega))
      have h64 := Lib.hid (clks_64 l k)
      go_wp2_with fail
      refine (refOwn_any _ n cap l k _ (h.below hbr) hl).mono ?_
      rintro e w1 ⟨rfl, hb1⟩
      have hbr1 := hbr.trans (hb1.mono hbr.size)
      have hown1 := (hown.below hb1).mono hb1.size
      clear hown hbr hc
      obtain ⟨q, hq⟩ : ∃ q, optI (lastP (ownP l (nthE l k).who) k) = q := ⟨_, rfl⟩
      rw [hq]
      go_upto_if 21 with fail
      go_cut [5, 6] from 11 to 68 (fun s5 s6 wx => wx = w1 ∧ ∃ a c, s5 = .slice a (ownC l (clks l k) k).length c ∧ RdI w1 a (ownC l (clks l k) k).length c (ownC l (clks l k) k))
      case first =>
        cases hO : lastP (ownP l (nthE l k).who) k with
        | none =>
          have E : Hid (ownC l (clks l k) k = []) := by unfold Hid ownC; rw [hO]; rfl
          rw [hO] at hq
          obtain rfl : q = -1 := hq.symm
          clear hq hO
          go_wp2
          go_meet
          exact ⟨rfl, none, 0, by rw [E.out]; rfl, by rw [E.out]; exact nil_rdI _⟩
        | some j =>
          obtain ⟨hj, _, _⟩ := lastP_some hO
          have E : Hid (ownC l (clks l k) k = nthC (clks l k) j) := by unfold Hid ownC; rw [hO]; rfl
          rw [hO] at hq
          obtain rfl : q = j := hq.symm
          clear hq hO
          obtain ⟨g, cap2, a, c, hv, hlt2, hcell, hrd⟩ := hown1.at_ hf.out (show j < (clks l k).length by rw [CL.out]; exact hj)
          simp only [Value.slice.injEq] at hv
          obtain ⟨rfl, hv1, hv2⟩ := hv
          clear hv1 hv2
          go_wp2
          go_meet
          exact ⟨rfl, a, c, by rw [E.out], by rw [E.out]; exact hrd⟩
      case rest =>
        obtain ⟨rfl, a, c, rfl, hrd⟩ := hcut
        obtain ⟨b', o', e', _, hc⟩ := h.cells hl
        simp only [Option.some.injEq, Addr.mk.injEq, and_true] at e'
        obtain ⟨rfl, rfl⟩ := e'
        obtain ⟨d0, d1, _, _, _⟩ := hc _ hbr1
        have hl64 : (ownC l (clks l k) k).length ≤ 64 := atO_length h64.out (lastP (ownP l (nthE l k).who) k)
        go_upto_region 11 with fail
        go_cut [47] from 11 to 68 (fun s47 wx => wc = wx ∧ s47 = .bool (hearsB (nthE l k).kind))
        case first =>
          rcases (show (nthE l k).kind = 1 ∨ (nthE l k).kind = 3 ∨ (nthE l k).kind = 4 ∨ ((nthE l k).kind ≠ 1 ∧ (nthE l k).kind ≠ 3 ∧ (nthE l k).kind ≠ 4) by omega) with t | t | t | ⟨t1, t2, t3⟩
          · have E : Hid (hearsB (nthE l k).kind = true) := by unfold Hid hearsB; simp [t]
            have e1 : ((nthE l k).kind == 1) = true := by simp [t]
            clear t
            go_wp2
            go_meet
            exact ⟨rfl, by rw [E.out]⟩
          · have E : Hid (hearsB (nthE l k).kind = true) := by unfold Hid hearsB; simp [t]
            have e1 : ((nthE l k).kind == 1) = false := by simp [t]
            have e2 : ((nthE l k).kind == 3) = true := by simp [t]
            clear t
            go_wp2
            go_meet
            exact ⟨rfl, by rw [E.out]⟩
          · have E : Hid (hearsB (nthE l k).kind = true) := by unfold Hid hearsB; simp [t]
            have e1 : ((nthE l k).kind == 1) = false := by simp [t]
            have e2 : ((nthE l k).kind == 3) = false := by simp [t]
            have e3 : ((nthE l k).kind == 4) = true := by simp [t]
            clear t
            go_wp2
            go_meet
            exact ⟨rfl, by rw [E.out]⟩
          · have E : Hid (hearsB (nthE l k).kind = false) := by unfold Hid hearsB; simp [t1, t2, t3]
            have e1 : ((nthE l k).kind == 1) = false := by simp [t1]
            have e2 : ((nthE l k).kind == 3) = false := by simp [t2]
            have e3 : ((nthE l k).kind == 4) = false := by simp [t3]
            clear t1 t2 t3
            go_wp2
            go_meet
            exact ⟨rfl, by rw [E.out]⟩
        case rest =>
          obtain ⟨rfl, rfl⟩ := hcut
          go_upto_if 47 with fail
          go_cut [5, 7] from 11 to 68 (fun s5 s7 wx => Below w.heap.size w wx ∧ OwnCs wx w.heap.size wx.heap.size (.slice ao' k cap') (clks l k) ∧ ∃ a c, s5 = .slice a (heardC l (clks l k) k).length c ∧ RdI wx a (heardC l (clks l k) k).length c (heardC l (clks l k) k))
          case first =>
            cases hh : hearsB (nthE l k).kind
            · have E : Hid (heardC l (clks l k) k = ownC l (clks l k) k) := by unfold Hid heardC foundC; rw [if_neg (by rw [hh]; simp)]
              go_wp2
              go_meet
              exact ⟨hbr1, hown1, a, c, by rw [E.out], by rw [E.out]; exact hrd⟩
            · have hfo : foundC l k = lastP (tellP l (nthE l k).loc) k := by unfold foundC; rw [if_pos hh]
              have F := Lib.hid hfo
              clear hfo
              go_wp2_with fail
              refine (refFound_any _ n cap l k _ (h.below hbr1) hl).mono ?_
              rintro e w2 ⟨rfl, hb2⟩
              have hbr2 := hbr1.trans (hb2.mono hbr1.size)
              have hown2 := (hown1.below hb2).mono hb2.size
              cases hO : lastP (tellP l (nthE l k).loc) k with
              | none =>
                have E : Hid (heardC l (clks l k) k = ownC l (clks l k) k) := by unfold Hid heardC; rw [F.out, hO]
                have hrd2 := RdI.below (B := 0) hrd hb2
                simp only [optI]
                go_wp2
                go_meet
                exact ⟨hbr2, hown2, a, c, by rw [E.out], by rw [E.out]; exact hrd2⟩
              | some j =>
                obtain ⟨hj, _, _⟩ := lastP_some hO
                have E : Hid (heardC l (clks l k) k = joinC (ownC l (clks l k) k) (nthC (clks l k) j)) := by unfold Hid heardC; rw [F.out, hO]
                have hrd2 := RdI.below (B := 0) hrd hb2
                obtain ⟨g, cap2, a2, c2, hv, hlt2, hcell, hrdj⟩ := hown2.at_ hf.out (show j < (clks l k).length by rw [CL.out]; exact hj)
                simp only [Value.slice.injEq] at hv
                obtain ⟨rfl, hv1, hv2⟩ := hv
                clear hv1 hv2
                have hj64 := nthC_length h64.out j
                clear F hO
                simp only [optI]
                go_wp2_with fail
                refine (refJoin_any _ _ _ _ _ _ _ _ _ hrd2 hrdj (by omega) (by omega)).mono ?_
                rintro e w3 ⟨v3, rfl, hown3, hb3⟩
                obtain ⟨a3, c3, rfl⟩ := owns_slice hown3
                have hbr3 := hbr2.trans (hb3.mono hbr2.size)
                have hownw := (hown2.below hb3).mono hb3.size
                go_wp2_with fail
                go_meet
                have LL : (heardC l (clks l k) k).length = maxN (ownC l (clks l k) k).length (nthC (clks l k) j).length := by rw [E.out, join_length]
                refine ⟨hbr3, hownw, a3, c3, by rw [LL], ?_⟩
                rw [LL, E.out]
                exact owns_rdI hown3 (by rw [← E.out]; exact heardC_fits l (by omega))
          case rest =>
            obtain ⟨hbr2, hown2, a2, c2, rfl, hrd2⟩ := hcut
            obtain ⟨d0, d1, _, _, _⟩ := hc _ hbr2
            have hl64' := heard_length (l := l) h64.out k
            go_wp2_with fail
            refine (refTick_any _ _ _ _ (nthE l k).who _ hrd2 (by omega)).mono ?_
            rintro e w4 ⟨v4, rfl, hown4, hb4⟩
            obtain ⟨a4, c4, rfl⟩ := owns_slice hown4
            have hbr4 := hbr2.trans (hb4.mono hbr2.size)
            obtain ⟨vs, o1, o2, o3, o4⟩ := hown2.below hb4
            rw [CL.out] at o1
            have hbase : w.heap.size ≤ w4.heap.size := hbr4.size
            have hn2 : k + 1 ≤ 1099511627776 := by omega
            go_wp2_with ((at_builtin; refine ap_new w4 _ EC rfl _ _ rfl w.heap.size _ k _ rfl o1 hbase 1 rfl rfl (one1 rfl) hn2 ?_; intro v' w5 hown5 hg5 hb5 hfr5))
            go_roundw
            case rel =>
              refine ⟨k + 1, by omega, by go_num, ?_, hbr4.trans hb5⟩
              exact OwnCs.push (vs := vs) (M := wc.heap.size) CL.out (clkE_length l k) o1 o2 o3 o4 hown4 hbr2.size hown5 hg5
            case measure => simp [intOf]; omega
    · obtain rfl : k = n := by omega
      go_wp2
      go_ret
      exact ⟨_, rfl, hown, hbr⟩
end Go.Proofs.Ytkhhjjjpbfnlmaa
