/- The most calls that are under way in one step. -/
import Derived.Test.YtonldjkmbapjeaaHist4
namespace Go.Proofs.Ytonldjkmbapjeaa
set_option linter.unusedVariables false
set_option linter.unusedSimpArgs false
open Go.RowKit Go.Proofs.YtonldjkmbapjeaaMem Go.Proofs.YtonldjkmbapjeaaFlat

/-- Is b under way when d begins? -/
def underB (b d : DoneS) : Bool := decide (b.fr ≤ d.fr) && (!endedB b || decide (d.fr ≤ b.to))
def cntU (l : List DoneS) (i : Nat) : Nat → Nat
  | 0 => 0
  | k + 1 => cntU l i k + if underB (nthD l k) (nthD l i) = true then 1 else 0
theorem cntU_le (l : List DoneS) (i : Nat) : ∀ k, cntU l i k ≤ k := by
  intro k; induction k with
  | zero => exact Nat.le_refl _
  | succ k ih => unfold cntU; split <;> omega
def mostL (l : List DoneS) : Nat → Nat
  | 0 => 0
  | i + 1 => max (mostL l i) (cntU l i l.length)
theorem mostL_le (l : List DoneS) : ∀ i, mostL l i ≤ l.length := by
  intro i; induction i with
  | zero => exact Nat.zero_le _
  | succ i ih => unfold mostL; have := cntU_le l i l.length; omega
def mostD (l : List DoneS) : Nat := mostL l l.length

set_option maxRecDepth 20000 in
set_option maxHeartbeats 2000000 in
theorem refMost_any (ao : Option Addr) (n cap : Nat) (l : List DoneS) (w : World) (h : RdD w ao n cap l) (hn : n ≤ 1000000) :
    Calls Try.prog 17 #[.slice ao n cap] w fun e w' => e = .returned (.int .i64 (mostD l : Int)) ∧ Below w.heap.size w w' := by
  have L0 := Lib.hid h.len
  have s0 := h.rd.small
  go_enter Try.func17, Try.ntmps17
  go_wp2
  go_loopw [3, 4, 5, 6, 7] (fun v3 v4 _ _ _ wr => ∃ i : Nat, i ≤ n ∧ v4 = .int .i64 i ∧ v3 = .int .i64 (mostL l i : Nat) ∧ wr = w) (fun _ v4 _ _ _ _ => n - (intOf v4).toNat)
  case atStart => exact ⟨0, Nat.zero_le _, rfl, rfl, rfl⟩
  case round =>
    obtain ⟨i, hi, rfl, rfl, hw⟩ := hrel
    subst hw
    by_cases hl : i < n
    · obtain ⟨b, o, rfl, hlt, hc⟩ := h.cells hl
      obtain ⟨_, _, _, _, _, _, _, _, _, _, c10, c11⟩ := RdD.at12 (ao := none) (n := 0) (cap := 0) hc (Below.refl _ _)
      clear hc
      have hml := mostL_le l i
      obtain ⟨M, hM⟩ : ∃ M, mostL l i = M := ⟨_, rfl⟩
      rw [hM] at hml ⊢
      have HM := Lib.hid hM
      clear hM
      generalize wr = X at *
      go_wp2_with fail
      go_loopw [6, 7] (fun v6 v7 wr => ∃ k : Nat, k ≤ n ∧ v7 = .int .i64 k ∧ v6 = .int .i64 (cntU l i k : Nat) ∧ wr = X) (fun _ v7 _ => n - (intOf v7).toNat)
      case atStart => exact ⟨0, Nat.zero_le _, rfl, rfl, rfl⟩
      case round =>
        obtain ⟨k, hk, rfl, rfl, hw⟩ := hrel
        subst hw
        have hcl := cntU_le l i k
        have HCS : Hid (cntU l i (k + 1) = cntU l i k + if underB (nthD l k) (nthD l i) = true then 1 else 0) := rfl
        by_cases hl2 : k < n
        · obtain ⟨b', o', e', _, hck⟩ := h.cells hl2
          simp only [Option.some.injEq, Addr.mk.injEq, and_true] at e'
          obtain ⟨rfl, rfl⟩ := e'
          obtain ⟨_, _, _, _, _, _, _, _, _, _, d10, d11⟩ := RdD.at12 (ao := none) (n := 0) (cap := 0) hck (Below.refl _ _)
          clear hck
          have F : Hid (underB (nthD l k) (nthD l i) = (decide ((nthD l k).fr ≤ (nthD l i).fr) && (!decide ((nthD l k).to ≠ -1) || decide ((nthD l i).fr ≤ (nthD l k).to)))) := rfl
          generalize hC : cntU l i k = C at *
          have hw1 : wrap64 ((C : Int) + 1) = (C : Int) + 1 := (show ∀ q : Nat, q ≤ 1000000 → wrap64 ((q : Int) + 1) = (q : Int) + 1 by intro q hq; unfold RowKit.wrap64; omega) C (by omega)
          have HW := Lib.hid hw1
          clear hw1
          rcases (show ¬ (nthD l k).fr ≤ (nthD l i).fr ∨ ((nthD l k).fr ≤ (nthD l i).fr ∧ (nthD l k).to = -1) ∨ ((nthD l k).fr ≤ (nthD l i).fr ∧ (nthD l k).to ≠ -1 ∧ (nthD l i).fr ≤ (nthD l k).to) ∨ ((nthD l k).fr ≤ (nthD l i).fr ∧ (nthD l k).to ≠ -1 ∧ ¬ (nthD l i).fr ≤ (nthD l k).to) by omega) with t1 | ⟨t1, t2⟩ | ⟨t1, t2, t3⟩ | ⟨t1, t2, t3⟩
          · have U : Hid (underB (nthD l k) (nthD l i) = false) := by unfold Hid; rw [F.out]; simp; intro q; exact absurd q t1
            go_wp2
            go_roundw
            case rel => exact ⟨k + 1, by omega, by go_num, by rw [HCS.out, U.out]; rfl, trivial⟩
            case measure => simp [intOf]; omega
          · have U : Hid (underB (nthD l k) (nthD l i) = true) := by unfold Hid; rw [F.out]; simp [t1, t2]
            have e1 : ((nthD l k).to == -1) = true := by simp [t2]
            clear t2
            go_wp2
            go_roundw
            case rel => exact ⟨k + 1, by omega, by go_num, by rw [HCS.out, U.out]; simp only [if_true]; go_num, trivial⟩
            case measure => simp [intOf]; omega
          · have U : Hid (underB (nthD l k) (nthD l i) = true) := by unfold Hid; rw [F.out]; simp [t1, t2, t3]
            have e1 : ((nthD l k).to == -1) = false := by simpa using t2
            clear t2
            go_wp2
            go_roundw
            case rel => exact ⟨k + 1, by omega, by go_num, by rw [HCS.out, U.out]; simp only [if_true]; go_num, trivial⟩
            case measure => simp [intOf]; omega
          · have U : Hid (underB (nthD l k) (nthD l i) = false) := by unfold Hid; rw [F.out]; simp [t2]; intro _; omega
            have e1 : ((nthD l k).to == -1) = false := by simpa using t2
            clear t2
            go_wp2
            go_roundw
            case rel => exact ⟨k + 1, by omega, by go_num, by rw [HCS.out, U.out]; rfl, trivial⟩
            case measure => simp [intOf]; omega
        · obtain rfl : k = n := by omega
          have HMS : Hid (mostL l (i + 1) = max M (cntU l i k)) := by unfold Hid mostL; rw [HM.out, L0.out]
          clear HCS
          generalize cntU l i k = C at *
          by_cases hmx : M < C
          · have hmi : (M : Int) < (C : Int) := by omega
            have E : Hid (mostL l (i + 1) = C) := by unfold Hid; rw [HMS.out]; omega
            go_wp2
            go_roundw
            case rel => exact ⟨i + 1, by omega, by go_num, by rw [E.out], trivial⟩
            case measure => simp [intOf]; omega
          · have hmi : ¬ (M : Int) < (C : Int) := by omega
            have E : Hid (mostL l (i + 1) = M) := by unfold Hid; rw [HMS.out]; omega
            go_wp2
            go_roundw
            case rel => exact ⟨i + 1, by omega, by go_num, by rw [E.out], trivial⟩
            case measure => simp [intOf]; omega
    · obtain rfl : i = n := by omega
      have E : Hid (mostD l = mostL l i) := by unfold Hid mostD; rw [L0.out]
      go_wp2
      go_ret
      exact ⟨by rw [E.out]; rfl, Below.refl _ _⟩
end Go.Proofs.Ytonldjkmbapjeaa
