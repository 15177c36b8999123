/- Calls of a history: whether one has ended, whether one is ahead of another one, whether two may be beside one another. -/
import Derived.Test.YtonldjkmbapjeaaDoneD
import Derived.WalkKit
import Derived.WalkSpells
import Derived.WalkLawsBesides
import Derived.Lib.Hide
import Derived.Deep.CutRange
namespace Go.Proofs.Ytonldjkmbapjeaa
set_option linter.unusedVariables false
set_option linter.unusedSimpArgs false
open Go.RowKit Go.Proofs.YtonldjkmbapjeaaMem Go.Proofs.YtonldjkmbapjeaaFlat

theorem below1 (w : World) (o : Obj) : Below w.heap.size w (w.alloc o) := (Below.refl _ _).alloc (Nat.le_refl _) _
theorem below2 (w : World) (o o' : Obj) : Below w.heap.size w ((w.alloc o).alloc o') := ((Below.refl _ _).alloc (Nat.le_refl _) o).alloc (by simp) o'
def endedB (d : DoneS) : Bool := decide (d.to ≠ -1)
def aheadB (a b : DoneS) : Bool := endedB a && decide (a.to < b.fr)
def rightD (d : DoneS) : Bool := decide (0 ≤ d.who ∧ 0 ≤ d.place ∧ 0 ≤ d.fr ∧ (d.to = -1 ∨ d.fr ≤ d.to))
def apartB (a b : DoneS) : Bool := if a.who ≠ b.who then true else if a.place < b.place then aheadB a b else if b.place < a.place then aheadB b a else false

/-- A call in a block of its own. -/
def BoxD (w : World) (b : Nat) (x : DoneS) (t : TypeId) : Prop := w.heap[b]? = some (.cells #[.int .i64 x.who, .int .i64 x.place, .int .i64 x.op, .int .i64 x.fl, .int .i64 x.a, .int .i64 x.b, .int .i64 x.e, .slice x.ao x.len x.cap, .int .i64 x.n, .int .u64 x.v, .int .i64 x.fr, .int .i64 x.to] t (0, 0))
theorem BoxD.cells {w : World} {b : Nat} {x : DoneS} {t : TypeId} (h : BoxD w b x t) : w.cell? ⟨b, 0, none⟩ = some (.int .i64 x.who) ∧ w.cell? ⟨b, 1, none⟩ = some (.int .i64 x.place) ∧ w.cell? ⟨b, 2, none⟩ = some (.int .i64 x.op) ∧ w.cell? ⟨b, 3, none⟩ = some (.int .i64 x.fl) ∧ w.cell? ⟨b, 4, none⟩ = some (.int .i64 x.a) ∧ w.cell? ⟨b, 5, none⟩ = some (.int .i64 x.b) ∧ w.cell? ⟨b, 6, none⟩ = some (.int .i64 x.e) ∧ w.cell? ⟨b, 7, none⟩ = some (.slice x.ao x.len x.cap) ∧ w.cell? ⟨b, 8, none⟩ = some (.int .i64 x.n) ∧ w.cell? ⟨b, 9, none⟩ = some (.int .u64 x.v) ∧ w.cell? ⟨b, 10, none⟩ = some (.int .i64 x.fr) ∧ w.cell? ⟨b, 11, none⟩ = some (.int .i64 x.to) := by
  have h := h
  unfold BoxD at h
  simp only [World.cell?, h]
  exact ⟨rfl, rfl, rfl, rfl, rfl, rfl, rfl, rfl, rfl, rfl, rfl, rfl⟩
theorem BoxD.frozen {w : World} {b : Nat} {x : DoneS} {t : TypeId} (h : BoxD w b x t) (o : Nat) : w.frozen? ⟨b, o, none⟩ = false := by
  unfold BoxD at h
  simp [World.frozen?, h]
theorem BoxD.lt {w : World} {b : Nat} {x : DoneS} {t : TypeId} (h : BoxD w b x t) : b < w.heap.size := (Array.getElem?_eq_some_iff.1 h).1
theorem BoxD.below {w w' : World} {b : Nat} {x : DoneS} {t : TypeId} (h : BoxD w b x t) (hb : Below w.heap.size w w') : BoxD w' b x t := (hb.block b h.lt).trans h
theorem one_boxD (w : World) (x : DoneS) (t : TypeId) : BoxD (w.alloc (.cells #[.int .i64 x.who, .int .i64 x.place, .int .i64 x.op, .int .i64 x.fl, .int .i64 x.a, .int .i64 x.b, .int .i64 x.e, .slice x.ao x.len x.cap, .int .i64 x.n, .int .u64 x.v, .int .i64 x.fr, .int .i64 x.to] t)) w.heap.size x t := heap_alloc_new _ _
theorem two_boxesD (w : World) (x y : DoneS) (t : TypeId) : BoxD ((w.alloc (.cells #[.int .i64 x.who, .int .i64 x.place, .int .i64 x.op, .int .i64 x.fl, .int .i64 x.a, .int .i64 x.b, .int .i64 x.e, .slice x.ao x.len x.cap, .int .i64 x.n, .int .u64 x.v, .int .i64 x.fr, .int .i64 x.to] t)).alloc (.cells #[.int .i64 y.who, .int .i64 y.place, .int .i64 y.op, .int .i64 y.fl, .int .i64 y.a, .int .i64 y.b, .int .i64 y.e, .slice y.ao y.len y.cap, .int .i64 y.n, .int .u64 y.v, .int .i64 y.fr, .int .i64 y.to] t)) w.heap.size x t ∧ BoxD ((w.alloc (.cells #[.int .i64 x.who, .int .i64 x.place, .int .i64 x.op, .int .i64 x.fl, .int .i64 x.a, .int .i64 x.b, .int .i64 x.e, .slice x.ao x.len x.cap, .int .i64 x.n, .int .u64 x.v, .int .i64 x.fr, .int .i64 x.to] t)).alloc (.cells #[.int .i64 y.who, .int .i64 y.place, .int .i64 y.op, .int .i64 y.fl, .int .i64 y.a, .int .i64 y.b, .int .i64 y.e, .slice y.ao y.len y.cap, .int .i64 y.n, .int .u64 y.v, .int .i64 y.fr, .int .i64 y.to] t)) (w.heap.size + 1) y t := by
  refine ⟨(heap_alloc_old _ _ (by simp)).trans (heap_alloc_new w _), ?_⟩
  have e : (w.alloc (.cells #[.int .i64 x.who, .int .i64 x.place, .int .i64 x.op, .int .i64 x.fl, .int .i64 x.a, .int .i64 x.b, .int .i64 x.e, .slice x.ao x.len x.cap, .int .i64 x.n, .int .u64 x.v, .int .i64 x.fr, .int .i64 x.to] t)).heap.size = w.heap.size + 1 := by simp
  have := heap_alloc_new (w.alloc (.cells #[.int .i64 x.who, .int .i64 x.place, .int .i64 x.op, .int .i64 x.fl, .int .i64 x.a, .int .i64 x.b, .int .i64 x.e, .slice x.ao x.len x.cap, .int .i64 x.n, .int .u64 x.v, .int .i64 x.fr, .int .i64 x.to] t)) (.cells #[.int .i64 y.who, .int .i64 y.place, .int .i64 y.op, .int .i64 y.fl, .int .i64 y.a, .int .i64 y.b, .int .i64 y.e, .slice y.ao y.len y.cap, .int .i64 y.n, .int .u64 y.v, .int .i64 y.fr, .int .i64 y.to] t)
  rw [e] at this
  exact this

set_option maxHeartbeats 1000000 in
theorem ended_any (d : DoneS) (w : World) : Calls Try.prog 36 #[(.agg #[.int .i64 d.who, .int .i64 d.place, .int .i64 d.op, .int .i64 d.fl, .int .i64 d.a, .int .i64 d.b, .int .i64 d.e, .slice d.ao d.len d.cap, .int .i64 d.n, .int .u64 d.v, .int .i64 d.fr, .int .i64 d.to])] w fun e w' => e = .returned (.bool (endedB d)) ∧ Below w.heap.size w w' := by
  by_cases h : d.to = -1
  · have E : Hid (endedB d = false) := by unfold Hid endedB; simp [h]
    have e1 : (d.to != -1) = false := by simp [h]
    clear h
    go_enter Try.func36, Try.ntmps36
    go_wp2
    go_ret
    exact ⟨by rw [E.out]; rfl, below1 _ _⟩
  · have E : Hid (endedB d = true) := by unfold Hid endedB; simp [h]
    have e1 : (d.to != -1) = true := by simpa using h
    clear h
    go_enter Try.func36, Try.ntmps36
    go_wp2
    go_ret
    exact ⟨by rw [E.out]; rfl, below1 _ _⟩

set_option maxHeartbeats 1000000 in
theorem ahead_any (a b : DoneS) (w : World) : Calls Try.prog 37 #[(.agg #[.int .i64 a.who, .int .i64 a.place, .int .i64 a.op, .int .i64 a.fl, .int .i64 a.a, .int .i64 a.b, .int .i64 a.e, .slice a.ao a.len a.cap, .int .i64 a.n, .int .u64 a.v, .int .i64 a.fr, .int .i64 a.to]), (.agg #[.int .i64 b.who, .int .i64 b.place, .int .i64 b.op, .int .i64 b.fl, .int .i64 b.a, .int .i64 b.b, .int .i64 b.e, .slice b.ao b.len b.cap, .int .i64 b.n, .int .u64 b.v, .int .i64 b.fr, .int .i64 b.to])] w fun e w' => e = .returned (.bool (aheadB a b)) ∧ Below w.heap.size w w' := by
  have hq : Hid (aheadB a b = (endedB a && decide (a.to < b.fr))) := rfl
  go_enter Try.func37, Try.ntmps37
  go_upto_region 1 with fail
  have hh := two_boxesD w a b 55
  have hbW := below2 w (.cells #[.int .i64 a.who, .int .i64 a.place, .int .i64 a.op, .int .i64 a.fl, .int .i64 a.a, .int .i64 a.b, .int .i64 a.e, .slice a.ao a.len a.cap, .int .i64 a.n, .int .u64 a.v, .int .i64 a.fr, .int .i64 a.to] 55) (.cells #[.int .i64 b.who, .int .i64 b.place, .int .i64 b.op, .int .i64 b.fl, .int .i64 b.a, .int .i64 b.b, .int .i64 b.e, .slice b.ao b.len b.cap, .int .i64 b.n, .int .u64 b.v, .int .i64 b.fr, .int .i64 b.to] 55)
  generalize (w.alloc (.cells #[.int .i64 a.who, .int .i64 a.place, .int .i64 a.op, .int .i64 a.fl, .int .i64 a.a, .int .i64 a.b, .int .i64 a.e, .slice a.ao a.len a.cap, .int .i64 a.n, .int .u64 a.v, .int .i64 a.fr, .int .i64 a.to] 55)).alloc (.cells #[.int .i64 b.who, .int .i64 b.place, .int .i64 b.op, .int .i64 b.fl, .int .i64 b.a, .int .i64 b.b, .int .i64 b.e, .slice b.ao b.len b.cap, .int .i64 b.n, .int .u64 b.v, .int .i64 b.fr, .int .i64 b.to] 55) = W at *
  obtain ⟨hA, hB⟩ := hh
  generalize hn : w.heap.size = A at *
  generalize A + 1 = A1 at *
  obtain ⟨a0, a1, a2, a3, a4, a5, a6, a7, a8, a9, a10, a11⟩ := hA.cells
  have HA := Lib.hid hA
  have HB := Lib.hid hB
  clear hA hB
  go_wp2_with fail
  refine (ended_any a _).mono ?_
  cases he : endedB a
  · rintro e w1 ⟨rfl, hb1⟩
    go_wp2
    go_ret
    exact ⟨by rw [hq.out, he]; rfl, below_step (by rw [hn]; exact hbW) hb1⟩
  · rintro e w1 ⟨rfl, hb1⟩
    clear a0 a1 a2 a3 a4 a5 a6 a7 a8 a9 a10 a11
    obtain ⟨a0, a1, a2, a3, a4, a5, a6, a7, a8, a9, a10, a11⟩ := (HA.out.below hb1).cells
    obtain ⟨b0, b1, b2, b3, b4, b5, b6, b7, b8, b9, b10, b11⟩ := (HB.out.below hb1).cells
    go_wp2
    go_ret
    exact ⟨by rw [hq.out, he]; rfl, below_step (by rw [hn]; exact hbW) hb1⟩

set_option maxHeartbeats 1000000 in
theorem histAhead_any (a b : DoneS) (w : World) : Calls Try.prog 18 #[(.agg #[.int .i64 a.who, .int .i64 a.place, .int .i64 a.op, .int .i64 a.fl, .int .i64 a.a, .int .i64 a.b, .int .i64 a.e, .slice a.ao a.len a.cap, .int .i64 a.n, .int .u64 a.v, .int .i64 a.fr, .int .i64 a.to]), (.agg #[.int .i64 b.who, .int .i64 b.place, .int .i64 b.op, .int .i64 b.fl, .int .i64 b.a, .int .i64 b.b, .int .i64 b.e, .slice b.ao b.len b.cap, .int .i64 b.n, .int .u64 b.v, .int .i64 b.fr, .int .i64 b.to])] w fun e w' => e = .returned (.bool (aheadB a b)) ∧ Below w.heap.size w w' := by
  go_enter Try.func18, Try.ntmps18
  go_wp2_with fail
  refine (ahead_any a b _).mono ?_
  rintro e w1 ⟨rfl, hb1⟩
  go_wp2
  go_ret
  exact ⟨rfl, below_step (below2 _ _ _) hb1⟩

set_option maxHeartbeats 1000000 in
theorem refAhead_any (a b : DoneS) (w : World) : Calls Try.prog 19 #[(.agg #[.int .i64 a.who, .int .i64 a.place, .int .i64 a.op, .int .i64 a.fl, .int .i64 a.a, .int .i64 a.b, .int .i64 a.e, .slice a.ao a.len a.cap, .int .i64 a.n, .int .u64 a.v, .int .i64 a.fr, .int .i64 a.to]), (.agg #[.int .i64 b.who, .int .i64 b.place, .int .i64 b.op, .int .i64 b.fl, .int .i64 b.a, .int .i64 b.b, .int .i64 b.e, .slice b.ao b.len b.cap, .int .i64 b.n, .int .u64 b.v, .int .i64 b.fr, .int .i64 b.to])] w fun e w' => e = .returned (.bool (aheadB a b)) ∧ Below w.heap.size w w' := by
  by_cases h : a.to = -1
  · have E : Hid (aheadB a b = false) := by unfold Hid aheadB endedB; simp [h]
    have e1 : (a.to != -1) = false := by simp [h]
    clear h
    go_enter Try.func19, Try.ntmps19
    go_wp2
    go_ret
    exact ⟨by rw [E.out]; rfl, below2 _ _ _⟩
  · have e1 : (a.to != -1) = true := by simpa using h
    have E : Hid (aheadB a b = decide (a.to < b.fr)) := by unfold Hid aheadB endedB; simp [h]
    clear h
    go_enter Try.func19, Try.ntmps19
    go_wp2
    go_ret
    exact ⟨by rw [E.out]; rfl, below2 _ _ _⟩

set_option maxHeartbeats 1000000 in
theorem right_any (d : DoneS) (w : World) : Calls Try.prog 33 #[(.agg #[.int .i64 d.who, .int .i64 d.place, .int .i64 d.op, .int .i64 d.fl, .int .i64 d.a, .int .i64 d.b, .int .i64 d.e, .slice d.ao d.len d.cap, .int .i64 d.n, .int .u64 d.v, .int .i64 d.fr, .int .i64 d.to])] w fun e w' => e = .returned (.bool (rightD d)) ∧ Below w.heap.size w w' := by
  rcases (show ¬ 0 ≤ d.who ∨ (0 ≤ d.who ∧ ¬ 0 ≤ d.place) ∨ (0 ≤ d.who ∧ 0 ≤ d.place ∧ ¬ 0 ≤ d.fr) ∨ (0 ≤ d.who ∧ 0 ≤ d.place ∧ 0 ≤ d.fr) by omega) with t | ⟨t, t2⟩ | ⟨t, t2, t3⟩ | ⟨t, t2, t3⟩
  iterate 3
    · have E : Hid (rightD d = false) := by unfold Hid rightD; simp; omega
      go_enter Try.func33, Try.ntmps33
      go_wp2
      go_ret
      exact ⟨by rw [E.out]; rfl, below1 _ _⟩
  · have E0 : Hid (rightD d = (!endedB d || decide (d.fr ≤ d.to))) := by
      unfold Hid rightD endedB
      rw [Bool.eq_iff_iff]
      simp [t, t2, t3]
    go_enter Try.func33, Try.ntmps33
    go_upto_region 1 with fail
    have hA := one_boxD w d 55
    have hbW := below1 w (.cells #[.int .i64 d.who, .int .i64 d.place, .int .i64 d.op, .int .i64 d.fl, .int .i64 d.a, .int .i64 d.b, .int .i64 d.e, .slice d.ao d.len d.cap, .int .i64 d.n, .int .u64 d.v, .int .i64 d.fr, .int .i64 d.to] 55)
    generalize w.alloc (.cells #[.int .i64 d.who, .int .i64 d.place, .int .i64 d.op, .int .i64 d.fl, .int .i64 d.a, .int .i64 d.b, .int .i64 d.e, .slice d.ao d.len d.cap, .int .i64 d.n, .int .u64 d.v, .int .i64 d.fr, .int .i64 d.to] 55) = W at *
    generalize hn : w.heap.size = A at *
    obtain ⟨a0, a1, a2, a3, a4, a5, a6, a7, a8, a9, a10, a11⟩ := hA.cells
    have HA := Lib.hid hA
    clear hA
    go_wp2_with fail
    refine (ended_any d _).mono ?_
    cases he : endedB d
    · rintro e w1 ⟨rfl, hb1⟩
      go_wp2
      go_ret
      exact ⟨by rw [E0.out, he]; rfl, below_step (by rw [hn]; exact hbW) hb1⟩
    · rintro e w1 ⟨rfl, hb1⟩
      clear a0 a1 a2 a3 a4 a5 a6 a7 a8 a9 a10 a11
      obtain ⟨a0, a1, a2, a3, a4, a5, a6, a7, a8, a9, a10, a11⟩ := (HA.out.below hb1).cells
      go_wp2
      go_ret
      exact ⟨by rw [E0.out, he]; rfl, below_step (by rw [hn]; exact hbW) hb1⟩

set_option maxHeartbeats 1000000 in
theorem apart_any (a b : DoneS) (w : World) : Calls Try.prog 35 #[(.agg #[.int .i64 a.who, .int .i64 a.place, .int .i64 a.op, .int .i64 a.fl, .int .i64 a.a, .int .i64 a.b, .int .i64 a.e, .slice a.ao a.len a.cap, .int .i64 a.n, .int .u64 a.v, .int .i64 a.fr, .int .i64 a.to]), (.agg #[.int .i64 b.who, .int .i64 b.place, .int .i64 b.op, .int .i64 b.fl, .int .i64 b.a, .int .i64 b.b, .int .i64 b.e, .slice b.ao b.len b.cap, .int .i64 b.n, .int .u64 b.v, .int .i64 b.fr, .int .i64 b.to])] w fun e w' => e = .returned (.bool (apartB a b)) ∧ Below w.heap.size w w' := by
  rcases (show a.who ≠ b.who ∨ (a.who = b.who ∧ a.place < b.place) ∨ (a.who = b.who ∧ ¬ a.place < b.place ∧ b.place < a.place) ∨ (a.who = b.who ∧ ¬ a.place < b.place ∧ ¬ b.place < a.place) by omega) with t | ⟨t, t2⟩ | ⟨t, t2, t3⟩ | ⟨t, t2, t3⟩
  · have E : Hid (apartB a b = true) := by unfold Hid apartB; simp [t]
    have e1 : (a.who != b.who) = true := by simpa using t
    clear t
    go_enter Try.func35, Try.ntmps35
    go_wp2
    go_ret
    exact ⟨by rw [E.out]; rfl, below2 _ _ _⟩
  · have E : Hid (apartB a b = aheadB a b) := by unfold Hid apartB; simp [t, t2]
    have e1 : (a.who != b.who) = false := by simp [t]
    clear t
    go_enter Try.func35, Try.ntmps35
    go_wp2_with fail
    refine (ahead_any a b _).mono ?_
    rintro e w1 ⟨rfl, hb1⟩
    go_wp2
    go_ret
    exact ⟨by rw [E.out]; rfl, below_step (below2 _ _ _) hb1⟩
  · have E : Hid (apartB a b = aheadB b a) := by unfold Hid apartB; simp [t, t2, t3]
    have e1 : (a.who != b.who) = false := by simp [t]
    clear t
    go_enter Try.func35, Try.ntmps35
    go_wp2_with fail
    refine (ahead_any b a _).mono ?_
    rintro e w1 ⟨rfl, hb1⟩
    go_wp2
    go_ret
    exact ⟨by rw [E.out]; rfl, below_step (below2 _ _ _) hb1⟩
  · have E : Hid (apartB a b = false) := by unfold Hid apartB; simp [t, t2, t3]
    have e1 : (a.who != b.who) = false := by simp [t]
    clear t
    go_enter Try.func35, Try.ntmps35
    go_wp2
    go_ret
    exact ⟨by rw [E.out]; rfl, below2 _ _ _⟩
end Go.Proofs.Ytonldjkmbapjeaa
