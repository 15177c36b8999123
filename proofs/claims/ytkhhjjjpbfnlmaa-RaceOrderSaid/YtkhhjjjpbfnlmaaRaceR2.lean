/- The program on events: whether they may be; the reference's last one told. -/
import Derived.Test.YtkhhjjjpbfnlmaaRaceR
namespace Go.Proofs.Ytkhhjjjpbfnlmaa
set_option linter.unusedVariables false
set_option linter.unusedSimpArgs false
open Go.RowKit Go.Proofs.YtkhhjjjpbfnlmaaMem Go.Proofs.YtkhhjjjpbfnlmaaFlat

theorem rightE_parts (e : EvS) (h1 : ¬ e.who < 0) (h2 : ¬ 63 < e.who) : rightE e = (atomicB e.kind || plainB e.kind) := by
  unfold rightE atomicB plainB
  rw [Bool.eq_iff_iff]
  simp only [Bool.or_eq_true, decide_eq_true_eq]
  omega

set_option maxHeartbeats 1000000 in
theorem right1_any (x : EvS) (w : World) :
    Calls Try.prog 33 #[.agg #[.int .i64 x.who, .int .i64 x.kind, .int .i64 x.loc.kind, .int .i64 x.loc.a, .int .i64 x.loc.b]] w fun e w' => e = .returned (.bool (!rightE x)) ∧ Below w.heap.size w w' := by
  by_cases h1 : x.who < 0
  · have E : Hid (rightE x = false) := by unfold Hid rightE; simp; omega
    go_enter Try.func33, Try.ntmps33
    go_wp2
    go_ret
    exact ⟨by rw [E.out]; rfl, below1 _ _⟩
  · by_cases h2 : 63 < x.who
    · have E : Hid (rightE x = false) := by unfold Hid rightE; simp; omega
      go_enter Try.func33, Try.ntmps33
      go_wp2
      go_ret
      exact ⟨by rw [E.out]; rfl, below1 _ _⟩
    · have E := Lib.hid (rightE_parts x h1 h2)
      cases p : atomicB x.kind
      · cases q : plainB x.kind
        all_goals
          go_enter Try.func33, Try.ntmps33
          go_wp2_with fail
          refine (atomic_any x.kind _).mono ?_
          rw [p]
          rintro e w' ⟨rfl, rfl⟩
          go_wp2_with fail
          refine (plain_any x.kind _).mono ?_
          rw [q]
          rintro e w' ⟨rfl, rfl⟩
          go_wp2
          go_ret
          exact ⟨by rw [E.out, p, q]; rfl, below1 _ _⟩
      · go_enter Try.func33, Try.ntmps33
        go_wp2_with fail
        refine (atomic_any x.kind _).mono ?_
        rw [p]
        rintro e w' ⟨rfl, rfl⟩
        go_wp2
        go_ret
        exact ⟨by rw [E.out, p]; rfl, below1 _ _⟩

set_option maxHeartbeats 1000000 in
theorem rightIx_any (ao : Option Addr) (n cap : Nat) (l : List EvS) (w : World) (h : RdE w ao n cap l) :
    Calls Try.prog 55 #[.slice ao n cap, .func (.func 33) #[] #[]] w fun e w' => (∃ r : Int, e = .returned (.int .i64 r) ∧ (0 ≤ r ↔ rightB l = false)) ∧ Below w.heap.size w w' := by
  have L0 := Lib.hid h.len
  have s0 := h.rd.small
  go_enter Try.func55, Try.ntmps55
  go_wp2
  go_loopw [8] (fun i wr => ∃ k : Nat, k ≤ n ∧ i = .int .i64 k ∧ (∀ j : Nat, j < k → rightE (nthE l j) = true) ∧ Below w.heap.size w wr) (fun i _ => n - (intOf i).toNat)
  case atStart => exact ⟨0, Nat.zero_le _, rfl, fun j hj => absurd hj (Nat.not_lt_zero _), Below.refl _ _⟩
  case round =>
    obtain ⟨k, hk, rfl, heq, hbr⟩ := hrel
    have HQ := Lib.hid heq
    clear heq
    by_cases hl : k < n
    · obtain ⟨b, o, rfl, hlt, hc⟩ := h.cells hl
      obtain ⟨c0, c1, c2, c3, c4⟩ := hc wr hbr
      go_wp2_with fail
      refine (right1_any (nthE l k) _).mono ?_
      rintro e w' ⟨rfl, hb'⟩
      cases r : rightE (nthE l k)
      · have E : Hid (rightB l = false) := right_fail (k := k) (by rw [L0.out]; exact hl) r
        go_wp2
        go_ret
        exact ⟨⟨k, rfl, by simp [E.out]⟩, hbr.trans (hb'.mono hbr.size)⟩
      · have R := Lib.hid r
        clear r
        go_wp2
        go_roundw
        case rel => exact ⟨k + 1, by omega, by go_num, fun j hj => by
          by_cases hjk : j = k
          · subst hjk; exact R.out
          · exact HQ.out j (by omega), hbr.trans (hb'.mono hbr.size)⟩
        case measure => simp [intOf]; omega
    · have E : Hid (rightB l = true) := all_front l fun j hj => HQ.out j (by rw [L0.out] at hj; omega)
      go_wp2
      go_ret
      exact ⟨⟨-1, rfl, by simp [E.out]⟩, hbr⟩

set_option maxHeartbeats 1000000 in
theorem right_any (ao : Option Addr) (n cap : Nat) (l : List EvS) (w : World) (h : RdE w ao n cap l) :
    Calls Try.prog 15 #[.slice ao n cap] w fun e w' => e = .returned (.bool (rightB l)) ∧ Below w.heap.size w w' := by
  have hx : Calls Try.prog 32 #[.slice ao n cap, .func (.func 33) #[] #[]] w fun e w' => e = .returned (.bool (!rightB l)) ∧ Below w.heap.size w w' := by
    go_enter Try.func32, Try.ntmps32
    go_wp2_with fail
    refine (rightIx_any ao n cap l _ h).mono ?_
    rintro e w' ⟨⟨r, rfl, hr⟩, hb⟩
    cases hv : rightB l
    · have h0 : (0 : Int) ≤ r := hr.2 hv
      go_wp2
      go_ret
      exact ⟨by rw [hv]; rfl, hb⟩
    · have h0 : ¬ (0 : Int) ≤ r := fun h => by rw [hr.1 h] at hv; cases hv
      have h1 : r < 0 := by omega
      go_wp2
      go_ret
      exact ⟨by rw [hv]; rfl, hb⟩
  go_enter Try.func15, Try.ntmps15
  go_wp2_with fail
  refine hx.mono ?_
  rintro e w' ⟨rfl, hb⟩
  cases hv : rightB l
  all_goals
    go_wp2
    go_ret
    exact ⟨by rw [hv]; rfl, hb⟩

set_option maxHeartbeats 1000000 in
theorem refFound_any (ao : Option Addr) (n cap : Nat) (l : List EvS) (i : Nat) (w : World) (h : RdE w ao n cap l) (hi : i < n) :
    Calls Try.prog 43 #[.slice ao n cap, .int .i64 i] w fun e w' => e = .returned (.int .i64 (optI (lastP (tellP l (nthE l i).loc) i))) ∧ Below w.heap.size w w' := by
  have s0 := h.rd.small
  obtain ⟨b, o, rfl, hlt, hc⟩ := h.cells hi
  go_enter Try.func43, Try.ntmps43
  go_wp2
  go_loopw [5] (fun v wr => ∃ m : Nat, m ≤ i ∧ v = .int .i64 ((m : Int) - 1) ∧ (∀ j : Nat, m ≤ j → j < i → tellP l (nthE l i).loc j = false) ∧ Below w.heap.size w wr) (fun v _ => (intOf v + 1).toNat)
  case atStart => exact ⟨i, Nat.le_refl _, by go_num, fun j h1 h2 => by omega, Below.refl _ _⟩
  case round =>
    obtain ⟨m, hm, rfl, heq, hbr⟩ := hrel
    have HQ := Lib.hid heq
    clear heq
    cases m with
    | zero =>
      have E : Hid (lastP (tellP l (nthE l i).loc) i = none) := lastP_none fun j hj => HQ.out j (Nat.zero_le _) hj
      go_wp2
      go_ret
      exact ⟨by rw [E.out]; rfl, hbr⟩
    | succ k =>
      obtain ⟨b', o', e', _, hc'⟩ := h.cells (show k < n by omega)
      simp only [Option.some.injEq, Addr.mk.injEq, and_true] at e'
      obtain ⟨rfl, rfl⟩ := e'
      have ek : ((k + 1 : Nat) : Int) - 1 = k := by omega
      rw [ek]
      obtain ⟨_, _, c2, c3, c4⟩ := hc wr hbr
      obtain ⟨_, d1, d2, d3, d4⟩ := hc' wr hbr
      have hmiss : ∀ (E : Hid (tellP l (nthE l i).loc k = false)) (j : Nat), k ≤ j → j < i → tellP l (nthE l i).loc j = false := fun E j h1 h2 => by
        by_cases hjk : j = k
        · subst hjk; exact E.out
        · exact HQ.out j (by omega) h2
      have HM := Lib.hid hmiss
      clear hmiss
      by_cases hv : (nthE l k).loc = (nthE l i).loc
      · obtain ⟨g1, g2, g3⟩ := (LocS.ext_iff' _ _).1 hv
        rcases (show (nthE l k).kind = 2 ∨ (nthE l k).kind = 3 ∨ ((nthE l k).kind ≠ 2 ∧ (nthE l k).kind ≠ 3) by omega) with t | t | ⟨t, t'⟩
        · have E : Hid (lastP (tellP l (nthE l i).loc) i = some k) := lastP_eq (by omega) (by simp [tellP, hv, t, tellsB]) fun j h1 h2 => HQ.out j (by omega) h2
          have e2 : ((nthE l k).kind == 2) = true := by simp [t]
          clear hv t
          go_wp2
          go_region
          go_wp2
          go_ret
          exact ⟨by rw [E.out]; rfl, hbr.drew⟩
        · have E : Hid (lastP (tellP l (nthE l i).loc) i = some k) := lastP_eq (by omega) (by simp [tellP, hv, t, tellsB]) fun j h1 h2 => HQ.out j (by omega) h2
          have e2 : ((nthE l k).kind == 2) = false := by simp [t]
          have e3 : ((nthE l k).kind == 3) = true := by simp [t]
          clear hv t
          go_wp2
          go_region
          go_wp2
          go_ret
          exact ⟨by rw [E.out]; rfl, hbr.drew⟩
        · have E : Hid (tellP l (nthE l i).loc k = false) := by unfold Hid tellP; simp [tellsB, t, t']
          have e2 : ((nthE l k).kind == 2) = false := by simp [t]
          have e3 : ((nthE l k).kind == 3) = false := by simp [t']
          clear hv t t'
          go_wp2
          go_region
          go_wp2
          go_roundw
          case rel => exact ⟨k, by omega, by go_num, HM.out E, hbr.drew⟩
          case measure => simp [intOf]
      · have E : Hid (tellP l (nthE l i).loc k = false) := by unfold Hid tellP; simp [hv]
        rcases (show ¬ (nthE l k).loc.kind = (nthE l i).loc.kind ∨ ((nthE l k).loc.kind = (nthE l i).loc.kind ∧ ¬ (nthE l k).loc.a = (nthE l i).loc.a) ∨ ((nthE l k).loc.kind = (nthE l i).loc.kind ∧ (nthE l k).loc.a = (nthE l i).loc.a ∧ ¬ (nthE l k).loc.b = (nthE l i).loc.b) by
          rw [LocS.ext_iff'] at hv; omega) with g1 | ⟨g1, g2⟩ | ⟨g1, g2, g3⟩
        all_goals
          clear hv
          go_wp2
          go_region
          go_wp2
          go_roundw
          case rel => exact ⟨k, by omega, by go_num, HM.out E, hbr.drew⟩
          case measure => simp [intOf]
end Go.Proofs.Ytkhhjjjpbfnlmaa
