/- Two events in conflict; whether events may be. -/
import Derived.Test.YtkhhjjjpbfnlmaaEv
import Derived.WalkLawsBesides
namespace Go.Proofs.Ytkhhjjjpbfnlmaa
set_option linter.unusedVariables false
set_option linter.unusedSimpArgs false
open Go.RowKit Go.Proofs.YtkhhjjjpbfnlmaaMem Go.Proofs.YtkhhjjjpbfnlmaaFlat

theorem below1 (w : World) (o : Obj) : Below w.heap.size w (w.alloc o) := (Below.refl _ _).alloc (Nat.le_refl _) _
theorem below2 (w : World) (o o' : Obj) : Below w.heap.size w ((w.alloc o).alloc o') := ((Below.refl _ _).alloc (Nat.le_refl _) o).alloc (by simp) o'
def conflictB (a b : EvS) : Bool := decide (a.who ≠ b.who) && (decide (a.loc = b.loc) && ((plainB a.kind || plainB b.kind) && (writesB a.kind || writesB b.kind)))

set_option maxHeartbeats 1000000 in
theorem conflict_any (a b : EvS) (w : World) :
    Calls Try.prog 22 #[.agg #[.int .i64 a.who, .int .i64 a.kind, .int .i64 a.loc.kind, .int .i64 a.loc.a, .int .i64 a.loc.b], .agg #[.int .i64 b.who, .int .i64 b.kind, .int .i64 b.loc.kind, .int .i64 b.loc.a, .int .i64 b.loc.b]] w
      fun e w' => e = .returned (.bool (conflictB a b)) ∧ Below w.heap.size w w' := by
  by_cases h1 : a.who = b.who
  · have e1 : (a.who != b.who) = false := by simp [h1]
    have E : Hid (conflictB a b = false) := by unfold Hid conflictB; simp [h1]
    clear h1
    go_enter Try.func22, Try.ntmps22
    go_wp2
    go_ret
    exact ⟨by rw [E.out]; rfl, below2 _ _ _⟩
  · have e1 : (a.who != b.who) = true := by simpa using h1
    by_cases hl : a.loc = b.loc
    · have E0 : conflictB a b = ((plainB a.kind || plainB b.kind) && (writesB a.kind || writesB b.kind)) := by unfold conflictB; simp [h1, hl]
      obtain ⟨g1, g2, g3⟩ := (LocS.ext_iff' _ _).1 hl
      clear h1 hl
      rcases (show (plainB a.kind = true) ∨ (plainB a.kind = false ∧ plainB b.kind = true) ∨ (plainB a.kind = false ∧ plainB b.kind = false) by cases plainB a.kind <;> cases plainB b.kind <;> simp) with p1 | ⟨p1, p2⟩ | ⟨p1, p2⟩
      · rcases (show (writesB a.kind = true) ∨ (writesB a.kind = false ∧ writesB b.kind = true) ∨ (writesB a.kind = false ∧ writesB b.kind = false) by cases writesB a.kind <;> cases writesB b.kind <;> simp) with q1 | ⟨q1, q2⟩ | ⟨q1, q2⟩
        · have E : Hid (conflictB a b = true) := by unfold Hid; rw [E0, p1, q1]; simp
          go_enter Try.func22, Try.ntmps22
          go_wp2_with fail
          refine (plain_any a.kind _).mono ?_
          rw [p1]
          rintro e w' ⟨rfl, rfl⟩
          go_wp2_with fail
          refine (writes_any a.kind _).mono ?_
          rw [q1]
          rintro e w' ⟨rfl, rfl⟩
          go_wp2
          go_ret
          exact ⟨by rw [E.out]; rfl, below2 _ _ _⟩
        · have E : Hid (conflictB a b = true) := by unfold Hid; rw [E0, p1, q1, q2]; simp
          go_enter Try.func22, Try.ntmps22
          go_wp2_with fail
          refine (plain_any a.kind _).mono ?_
          rw [p1]
          rintro e w' ⟨rfl, rfl⟩
          go_wp2_with fail
          refine (writes_any a.kind _).mono ?_
          rw [q1]
          rintro e w' ⟨rfl, rfl⟩
          go_wp2_with fail
          refine (writes_any b.kind _).mono ?_
          rw [q2]
          rintro e w' ⟨rfl, rfl⟩
          go_wp2
          go_ret
          exact ⟨by rw [E.out]; rfl, below2 _ _ _⟩
        · have E : Hid (conflictB a b = false) := by unfold Hid; rw [E0, p1, q1, q2]; simp
          go_enter Try.func22, Try.ntmps22
          go_wp2_with fail
          refine (plain_any a.kind _).mono ?_
          rw [p1]
          rintro e w' ⟨rfl, rfl⟩
          go_wp2_with fail
          refine (writes_any a.kind _).mono ?_
          rw [q1]
          rintro e w' ⟨rfl, rfl⟩
          go_wp2_with fail
          refine (writes_any b.kind _).mono ?_
          rw [q2]
          rintro e w' ⟨rfl, rfl⟩
          go_wp2
          go_ret
          exact ⟨by rw [E.out]; rfl, below2 _ _ _⟩
      · rcases (show (writesB a.kind = true) ∨ (writesB a.kind = false ∧ writesB b.kind = true) ∨ (writesB a.kind = false ∧ writesB b.kind = false) by cases writesB a.kind <;> cases writesB b.kind <;> simp) with q1 | ⟨q1, q2⟩ | ⟨q1, q2⟩
        · have E : Hid (conflictB a b = true) := by unfold Hid; rw [E0, p1, p2, q1]; simp
          go_enter Try.func22, Try.ntmps22
          go_wp2_with fail
          refine (plain_any a.kind _).mono ?_
          rw [p1]
          rintro e w' ⟨rfl, rfl⟩
          go_wp2_with fail
          refine (plain_any b.kind _).mono ?_
          rw [p2]
          rintro e w' ⟨rfl, rfl⟩
          go_wp2_with fail
          refine (writes_any a.kind _).mono ?_
          rw [q1]
          rintro e w' ⟨rfl, rfl⟩
          go_wp2
          go_ret
          exact ⟨by rw [E.out]; rfl, below2 _ _ _⟩
        · have E : Hid (conflictB a b = true) := by unfold Hid; rw [E0, p1, p2, q1, q2]; simp
          go_enter Try.func22, Try.ntmps22
          go_wp2_with fail
          refine (plain_any a.kind _).mono ?_
          rw [p1]
          rintro e w' ⟨rfl, rfl⟩
          go_wp2_with fail
          refine (plain_any b.kind _).mono ?_
          rw [p2]
          rintro e w' ⟨rfl, rfl⟩
          go_wp2_with fail
          refine (writes_any a.kind _).mono ?_
          rw [q1]
          rintro e w' ⟨rfl, rfl⟩
          go_wp2_with fail
          refine (writes_any b.kind _).mono ?_
          rw [q2]
          rintro e w' ⟨rfl, rfl⟩
          go_wp2
          go_ret
          exact ⟨by rw [E.out]; rfl, below2 _ _ _⟩
        · have E : Hid (conflictB a b = false) := by unfold Hid; rw [E0, p1, p2, q1, q2]; simp
          go_enter Try.func22, Try.ntmps22
          go_wp2_with fail
          refine (plain_any a.kind _).mono ?_
          rw [p1]
          rintro e w' ⟨rfl, rfl⟩
          go_wp2_with fail
          refine (plain_any b.kind _).mono ?_
          rw [p2]
          rintro e w' ⟨rfl, rfl⟩
          go_wp2_with fail
          refine (writes_any a.kind _).mono ?_
          rw [q1]
          rintro e w' ⟨rfl, rfl⟩
          go_wp2_with fail
          refine (writes_any b.kind _).mono ?_
          rw [q2]
          rintro e w' ⟨rfl, rfl⟩
          go_wp2
          go_ret
          exact ⟨by rw [E.out]; rfl, below2 _ _ _⟩
      · have E : Hid (conflictB a b = false) := by unfold Hid; rw [E0, p1, p2]; simp
        go_enter Try.func22, Try.ntmps22
        go_wp2_with fail
        refine (plain_any a.kind _).mono ?_
        rw [p1]
        rintro e w' ⟨rfl, rfl⟩
        go_wp2_with fail
        refine (plain_any b.kind _).mono ?_
        rw [p2]
        rintro e w' ⟨rfl, rfl⟩
        go_wp2
        go_ret
        exact ⟨by rw [E.out]; rfl, below2 _ _ _⟩
    · have E : Hid (conflictB a b = false) := by unfold Hid conflictB; simp [hl]
      rcases (show ¬ a.loc.kind = b.loc.kind ∨ (a.loc.kind = b.loc.kind ∧ ¬ a.loc.a = b.loc.a) ∨ (a.loc.kind = b.loc.kind ∧ a.loc.a = b.loc.a ∧ ¬ a.loc.b = b.loc.b) by
        rw [LocS.ext_iff'] at hl; omega) with g1 | ⟨g1, g2⟩ | ⟨g1, g2, g3⟩
      all_goals
        clear h1 hl
        go_enter Try.func22, Try.ntmps22
        go_wp2
        go_ret
        exact ⟨by rw [E.out]; rfl, below2 _ _ _⟩
end Go.Proofs.Ytkhhjjjpbfnlmaa
