/- All clocks of any events; the reference's conflict, and its first two that race. -/
import Derived.Test.YtkhhjjjpbfnlmaaRaceP
namespace Go.Proofs.Ytkhhjjjpbfnlmaa
set_option linter.unusedVariables false
set_option linter.unusedSimpArgs false
open Go.RowKit Go.Proofs.YtkhhjjjpbfnlmaaMem Go.Proofs.YtkhhjjjpbfnlmaaFlat Go.Proofs.YtkhhjjjpbfnlmaaMapK

/-- The clocks of events; none, where they may not be. -/
def allC (l : List EvS) : List (List Int) := if rightB l = true then clks l l.length else []

set_option maxHeartbeats 1000000 in
theorem refClocks_any (ao : Option Addr) (n cap : Nat) (l : List EvS) (w : World) (h : RdE w ao n cap l) (hn : n ≤ 1000) :
    Calls Try.prog 19 #[.slice ao n cap] w (RetCs w (allC l)) := by
  cases hr : rightB l
  · have E : Hid (allC l = []) := by unfold Hid allC; rw [if_neg (by rw [hr]; simp)]
    go_enter Try.func19, Try.ntmps19
    go_wp2_with fail
    refine (refRight_any ao n cap l _ h).mono ?_
    rw [hr]
    rintro e w0 ⟨rfl, hb0⟩
    go_wp2
    go_ret
    exact ⟨_, rfl, by rw [E.out]; exact OwnCs.nil _ _ _, hb0⟩
  · have E : allC l = clks l n := by unfold allC; rw [if_pos hr, h.len]
    rw [E]
    exact refClocks_right ao n cap l w h hr hn
set_option maxHeartbeats 1000000 in
theorem clocks_any (ao : Option Addr) (n cap : Nat) (l : List EvS) (w : World) (h : RdE w ao n cap l) (hn : n ≤ 1000) :
    Calls Try.prog 18 #[.slice ao n cap] w (RetCs w (allC l)) := by
  cases hr : rightB l
  · have E : Hid (allC l = []) := by unfold Hid allC; rw [if_neg (by rw [hr]; simp)]
    go_enter Try.func18, Try.ntmps18
    go_wp2_with fail
    refine (right_any ao n cap l _ h).mono ?_
    rw [hr]
    rintro e w0 ⟨rfl, hb0⟩
    go_wp2
    go_ret
    exact ⟨_, rfl, by rw [E.out]; exact OwnCs.nil _ _ _, hb0⟩
  · have E : allC l = clks l n := by unfold allC; rw [if_pos hr, h.len]
    rw [E]
    exact clocks_right ao n cap l w h hr hn
theorem allC_fits (l : List EvS) (hn : l.length ≤ 1000) : ∀ c ∈ allC l, ∀ z ∈ c, I64 z := by
  unfold allC; split
  · exact clks_fits l (by omega)
  · intro c hc; cases hc
theorem allC_64 (l : List EvS) : ∀ c ∈ allC l, c.length ≤ 64 := by
  unfold allC; split
  · exact clks_64 l _
  · intro c hc; cases hc
theorem allC_length (l : List EvS) : (allC l).length = if rightB l = true then l.length else 0 := by
  unfold allC; split
  · exact clks_length l _
  · rfl

/-! ### In conflict -/
def conf2B (a b : EvS) : Bool := decide (a.who ≠ b.who) && (decide (a.loc = b.loc) && ((decide (5 ≤ a.kind) || decide (5 ≤ b.kind)) && (writesB a.kind || writesB b.kind)))
theorem conf2_eq {a b : EvS} (ha : a.kind ≤ 6) (hb : b.kind ≤ 6) : conf2B a b = conflictB a b := by
  unfold conf2B conflictB
  have h1 : decide (5 ≤ a.kind) = plainB a.kind := by unfold plainB; congr 1; simp only [eq_iff_iff]; omega
  have h2 : decide (5 ≤ b.kind) = plainB b.kind := by unfold plainB; congr 1; simp only [eq_iff_iff]; omega
  rw [h1, h2]

set_option maxHeartbeats 400000 in
theorem refWrites_any (x : EvS) (w : World) : Calls Try.prog 47 #[.agg #[.int .i64 x.who, .int .i64 x.kind, .int .i64 x.loc.kind, .int .i64 x.loc.a, .int .i64 x.loc.b]] w fun e w' => e = .returned (.bool (writesB x.kind)) ∧ Below w.heap.size w w' := by
  rcases (show x.kind = 2 ∨ x.kind = 3 ∨ x.kind = 6 ∨ (x.kind ≠ 2 ∧ x.kind ≠ 3 ∧ x.kind ≠ 6) by omega) with h | h | h | ⟨h1, h2, h3⟩
  · have E : Hid (writesB x.kind = true) := by unfold Hid writesB; simp [h]
    have e1 : (x.kind == 2) = true := by simp [h]
    clear h
    go_enter Try.func47, Try.ntmps47
    go_wp2
    go_ret
    exact ⟨by rw [E.out]; rfl, below1 _ _⟩
  · have E : Hid (writesB x.kind = true) := by unfold Hid writesB; simp [h]
    have e1 : (x.kind == 2) = false := by simp [h]
    have e2 : (x.kind == 3) = true := by simp [h]
    clear h
    go_enter Try.func47, Try.ntmps47
    go_wp2
    go_ret
    exact ⟨by rw [E.out]; rfl, below1 _ _⟩
  · have E : Hid (writesB x.kind = true) := by unfold Hid writesB; simp [h]
    have e1 : (x.kind == 2) = false := by simp [h]
    have e2 : (x.kind == 3) = false := by simp [h]
    have e3 : (x.kind == 6) = true := by simp [h]
    clear h
    go_enter Try.func47, Try.ntmps47
    go_wp2
    go_ret
    exact ⟨by rw [E.out]; rfl, below1 _ _⟩
  · have E : Hid (writesB x.kind = false) := by unfold Hid writesB; simp [h1, h2, h3]
    have e1 : (x.kind == 2) = false := by simp [h1]
    have e2 : (x.kind == 3) = false := by simp [h2]
    have e3 : (x.kind == 6) = false := by simp [h3]
    clear h1 h2 h3
    go_enter Try.func47, Try.ntmps47
    go_wp2
    go_ret
    exact ⟨by rw [E.out]; rfl, below1 _ _⟩

theorem two_boxes (w : World) (c0 c1 c2 c3 c4 d0 d1 d2 d3 d4 : Value) (t : TypeId) (w' : World) (hb : Below ((w.alloc (.cells #[c0, c1, c2, c3, c4] t)).alloc (.cells #[d0, d1, d2, d3, d4] t)).heap.size ((w.alloc (.cells #[c0, c1, c2, c3, c4] t)).alloc (.cells #[d0, d1, d2, d3, d4] t)) w') :
    w'.cell? ⟨w.heap.size, 0, none⟩ = some c0 ∧ w'.cell? ⟨w.heap.size, 1, none⟩ = some c1 ∧ w'.cell? ⟨w.heap.size, 2, none⟩ = some c2 ∧ w'.cell? ⟨w.heap.size, 3, none⟩ = some c3 ∧ w'.cell? ⟨w.heap.size, 4, none⟩ = some c4 ∧ w'.cell? ⟨w.heap.size + 1, 0, none⟩ = some d0 ∧ w'.cell? ⟨w.heap.size + 1, 1, none⟩ = some d1 ∧ w'.cell? ⟨w.heap.size + 1, 2, none⟩ = some d2 ∧ w'.cell? ⟨w.heap.size + 1, 3, none⟩ = some d3 ∧ w'.cell? ⟨w.heap.size + 1, 4, none⟩ = some d4 := by
  have h1 : w'.heap[w.heap.size]? = some (.cells #[c0, c1, c2, c3, c4] t) := (hb.block _ (by simp; omega)).trans ((heap_alloc_old _ _ (by simp)).trans (heap_alloc_new w _))
  have h2 : w'.heap[w.heap.size + 1]? = some (.cells #[d0, d1, d2, d3, d4] t) := by
    have e : (w.alloc (.cells #[c0, c1, c2, c3, c4] t)).heap.size = w.heap.size + 1 := by simp
    have := heap_alloc_new (w.alloc (.cells #[c0, c1, c2, c3, c4] t)) (.cells #[d0, d1, d2, d3, d4] t)
    rw [e] at this
    exact (hb.block _ (by simp)).trans this
  simp only [World.cell?, h1, h2]
  exact ⟨rfl, rfl, rfl, rfl, rfl, rfl, rfl, rfl, rfl, rfl⟩

set_option maxHeartbeats 1000000 in
theorem refConflict_any (a b : EvS) (w : World) :
    Calls Try.prog 23 #[.agg #[.int .i64 a.who, .int .i64 a.kind, .int .i64 a.loc.kind, .int .i64 a.loc.a, .int .i64 a.loc.b], .agg #[.int .i64 b.who, .int .i64 b.kind, .int .i64 b.loc.kind, .int .i64 b.loc.a, .int .i64 b.loc.b]] w
      fun e w' => e = .returned (.bool (conf2B a b)) ∧ Below w.heap.size w w' := by
  have E0 : Hid (conf2B a b = (decide (a.who ≠ b.who) && (decide (a.loc = b.loc) && ((decide (5 ≤ a.kind) || decide (5 ≤ b.kind)) && (writesB a.kind || writesB b.kind))))) := rfl
  obtain ⟨pl, hpl⟩ : ∃ pl, (decide (5 ≤ a.kind) || decide (5 ≤ b.kind)) = pl := ⟨_, rfl⟩
  have HPL := Lib.hid hpl
  go_enter Try.func23, Try.ntmps23
  go_upto_region 1 with fail
  go_cut [5] from 6 to 13 (fun s5 wx => s5 = .bool pl ∧ wx = ((w.alloc (.cells #[.int .i64 a.who, .int .i64 a.kind, .int .i64 a.loc.kind, .int .i64 a.loc.a, .int .i64 a.loc.b] 36)).alloc (.cells #[.int .i64 b.who, .int .i64 b.kind, .int .i64 b.loc.kind, .int .i64 b.loc.a, .int .i64 b.loc.b] 36)))
  case first =>
    rcases (show (5 ≤ a.kind) ∨ (¬ 5 ≤ a.kind ∧ 5 ≤ b.kind) ∨ (¬ 5 ≤ a.kind ∧ ¬ 5 ≤ b.kind) by omega) with t | ⟨t, t2⟩ | ⟨t, t2⟩
    all_goals
      clear hpl
      go_wp2
      go_meet
      exact ⟨by rw [← HPL.out]; simp [*], rfl⟩
  case rest =>
    obtain ⟨rfl, rfl⟩ := hcut
    obtain ⟨W, hW⟩ : ∃ W, W = ((w.alloc (.cells #[.int .i64 a.who, .int .i64 a.kind, .int .i64 a.loc.kind, .int .i64 a.loc.a, .int .i64 a.loc.b] 36)).alloc (.cells #[.int .i64 b.who, .int .i64 b.kind, .int .i64 b.loc.kind, .int .i64 b.loc.a, .int .i64 b.loc.b] 36)) := ⟨_, rfl⟩
    have hbW : Below w.heap.size w W := by rw [hW]; exact below2 _ _ _
    have hE : ∀ w' : World, Below W.heap.size W w' → w'.cell? ⟨w.heap.size, 0, none⟩ = some (.int .i64 a.who) ∧ w'.cell? ⟨w.heap.size, 1, none⟩ = some (.int .i64 a.kind) ∧ w'.cell? ⟨w.heap.size, 2, none⟩ = some (.int .i64 a.loc.kind) ∧ w'.cell? ⟨w.heap.size, 3, none⟩ = some (.int .i64 a.loc.a) ∧ w'.cell? ⟨w.heap.size, 4, none⟩ = some (.int .i64 a.loc.b) ∧ w'.cell? ⟨w.heap.size + 1, 0, none⟩ = some (.int .i64 b.who) ∧ w'.cell? ⟨w.heap.size + 1, 1, none⟩ = some (.int .i64 b.kind) ∧ w'.cell? ⟨w.heap.size + 1, 2, none⟩ = some (.int .i64 b.loc.kind) ∧ w'.cell? ⟨w.heap.size + 1, 3, none⟩ = some (.int .i64 b.loc.a) ∧ w'.cell? ⟨w.heap.size + 1, 4, none⟩ = some (.int .i64 b.loc.b) := by
      intro w' hw'
      rw [hW] at hw'
      exact two_boxes w _ _ _ _ _ _ _ _ _ _ _ w' hw'
    rw [← hW]
    clear hW
    have HE := Lib.hid hE
    clear hE
    obtain ⟨a0, a1, a2, a3, a4, b0, b1, b2, b3, b4⟩ := HE.out W (Below.refl _ _)
    by_cases h1 : a.who = b.who
    · have e1 : (a.who != b.who) = false := by simp [h1]
      have E : Hid (conf2B a b = false) := by unfold Hid conf2B; simp [h1]
      clear h1
      go_wp2
      go_ret
      exact ⟨by rw [E.out]; rfl, hbW⟩
    · have e1 : (a.who != b.who) = true := by simpa using h1
      by_cases hl : a.loc = b.loc
      · have E0 : Hid (conf2B a b = (pl && (writesB a.kind || writesB b.kind))) := by unfold Hid; rw [E0.out, HPL.out]; simp [h1, hl]
        obtain ⟨g1, g2, g3⟩ := (LocS.ext_iff' _ _).1 hl
        clear h1 hl hpl HPL
        cases pl
        · have E : Hid (conf2B a b = false) := by unfold Hid; rw [E0.out]; rfl
          go_wp2
          go_ret
          exact ⟨by rw [E.out]; rfl, hbW⟩
        · cases q1 : writesB a.kind
          · have HQ := Lib.hid q1
            go_wp2_with fail
            refine (refWrites_any ⟨a.who, a.kind, b.loc⟩ _).mono ?_
            rw [q1]
            clear q1
            rintro e w1 ⟨rfl, hb1⟩
            obtain ⟨_, _, _, _, _, c0, c1, c2, c3, c4⟩ := HE.out w1 hb1
            cases q2 : writesB b.kind
            all_goals
              go_wp2_with fail
              refine (refWrites_any b _).mono ?_
              rw [q2]
              rintro e w2 ⟨rfl, hb2⟩
              go_wp2
              go_ret
              exact ⟨by rw [E0.out, HQ.out, q2]; rfl, below_step (below_step hbW hb1) hb2⟩
          · have E : Hid (conf2B a b = true) := by unfold Hid; rw [E0.out, q1]; simp
            go_wp2_with fail
            refine (refWrites_any ⟨a.who, a.kind, b.loc⟩ _).mono ?_
            rw [q1]
            rintro e w1 ⟨rfl, hb1⟩
            go_wp2
            go_ret
            exact ⟨by rw [E.out]; rfl, below_step hbW hb1⟩
      · have E : Hid (conf2B a b = false) := by unfold Hid conf2B; simp [hl]
        rcases (show ¬ a.loc.kind = b.loc.kind ∨ (a.loc.kind = b.loc.kind ∧ ¬ a.loc.a = b.loc.a) ∨ (a.loc.kind = b.loc.kind ∧ a.loc.a = b.loc.a ∧ ¬ a.loc.b = b.loc.b) by
          rw [LocS.ext_iff'] at hl; omega) with g1 | ⟨g1, g2⟩ | ⟨g1, g2, g3⟩
        all_goals
          clear h1 hl
          go_wp2
          go_ret
          exact ⟨by rw [E.out]; rfl, hbW⟩
end Go.Proofs.Ytkhhjjjpbfnlmaa
