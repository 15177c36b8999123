/- The model: which configs are right; a refusal. -/
import Derived.Test.YtfgfjnlkgadkhaaSfq3
namespace Go.Proofs.Ytfgfjnlkgadkhaa
set_option linter.unusedVariables false
set_option linter.unusedSimpArgs false
set_option maxRecDepth 20000
open Go.RowKit Go.Proofs.YtfgfjnlkgadkhaaMem Go.Proofs.YtfgfjnlkgadkhaaMapK

def inB (n a c : Int) : Bool := decide (a ≤ n) && decide (n ≤ c)
set_option maxHeartbeats 400000 in
theorem within_any (n a c : Int) (w : World) : Calls Try.prog 27 #[.int .i64 n, .int .i64 a, .int .i64 c] w fun e w' => e = .returned (.bool (inB n a c)) ∧ w = w' := by
  unfold inB
  by_cases h : a ≤ n
  · have d1 : decide (a ≤ n) = true := decide_eq_true h
    go_enter Try.func27, Try.ntmps27
    go_wp2
    go_ret
    exact ⟨by simp [h], rfl⟩
  · have d1 : decide (a ≤ n) = false := decide_eq_false h
    go_enter Try.func27, Try.ntmps27
    go_wp2
    go_ret
    exact ⟨by simp [h], rfl⟩
set_option maxHeartbeats 400000 in
theorem refused_any (k : Int) (w : World) : Calls Try.prog 28 #[.int .i64 k] w fun e w' => e = .returned (.agg #[.int .i64 k, .slice none 0 0, .int .i64 0, .int .u64 0]) ∧ Below w.heap.size w w' := by
  go_enter Try.func28, Try.ntmps28
  go_wp2
  exact bodyPost_ret (v := .agg #[.int .i64 k, .slice none 0 0, .int .i64 0, .int .u64 0]) (by simp [results, Try.results28, go_sem]) rfl ⟨rfl, below1 _ _⟩

structure Cfg where
  shards : Int
  slots : Int
  workers : Int
  width : Int
  unit : Int
def Cfg.cells (c : Cfg) : List Value := [.int .i64 c.shards, .int .i64 c.slots, .int .i64 c.workers, .int .i64 c.width, .int .u64 c.unit]
def Cfg.right (c : Cfg) : Bool := inB c.shards 1 4 && inB c.slots 1 4 && inB c.workers 1 6 && inB c.width 0 40 && decide (1 ≤ c.unit) && decide (c.unit ≤ 4611686018427387904)
set_option maxHeartbeats 2000000 in
theorem right_any (c : Cfg) (w : World) : Calls Try.prog 12 #[.agg #[.int .i64 c.shards, .int .i64 c.slots, .int .i64 c.workers, .int .i64 c.width, .int .u64 c.unit]] w fun e w' => e = .returned (.bool c.right) ∧ Below w.heap.size w w' := by
  have W0 := within_any c.shards 1 4
  have W1 := within_any c.slots 1 4
  have W2 := within_any c.workers 1 6
  have W3 := within_any c.width 0 40
  have hb := below1 w (.cells #[.int .i64 c.shards, .int .i64 c.slots, .int .i64 c.workers, .int .i64 c.width, .int .u64 c.unit] 24)
  have B := Blk.new w c.cells 24
  have b0 := B.cell 0
  have b1 := B.cell 1
  have b2 := B.cell 2
  have b3 := B.cell 3
  have b4 := B.cell 4
  unfold Cfg.cells at B b0 b1 b2 b3 b4
  simp only [List.getElem?_cons_succ, List.getElem?_cons_zero] at b0 b1 b2 b3 b4
  have hr : c.right = (inB c.shards 1 4 && inB c.slots 1 4 && inB c.workers 1 6 && inB c.width 0 40 && decide (1 ≤ c.unit) && decide (c.unit ≤ 4611686018427387904)) := rfl
  have HR := Lib.hid hr
  clear hr B
  generalize c.right = R at *
  go_enter Try.func12, Try.ntmps12
  go_upto_region 1 with fail
  generalize (w.alloc (.cells #[.int .i64 c.shards, .int .i64 c.slots, .int .i64 c.workers, .int .i64 c.width, .int .u64 c.unit] 24)) = W at *
  generalize h0 : inB c.shards 1 4 = x0 at *
  generalize h1 : inB c.slots 1 4 = x1 at *
  generalize h2 : inB c.workers 1 6 = x2 at *
  generalize h3 : inB c.width 0 40 = x3 at *
  generalize h4 : decide (1 ≤ c.unit) = x4 at *
  generalize h5 : decide (c.unit ≤ 4611686018427387904) = x5 at *
  clear h0 h1 h2 h3
  go_wp2_with fail
  refine (W0 _).mono ?_
  rintro e w' ⟨rfl, rfl⟩
  cases x0 with
  | false => go_wp2; go_ret; exact ⟨by rw [HR.out]; rfl, hb⟩
  | true =>
  go_wp2_with fail
  refine (W1 _).mono ?_
  rintro e w' ⟨rfl, rfl⟩
  cases x1 with
  | false => go_wp2; go_ret; exact ⟨by rw [HR.out]; rfl, hb⟩
  | true =>
  go_wp2_with fail
  refine (W2 _).mono ?_
  rintro e w' ⟨rfl, rfl⟩
  cases x2 with
  | false => go_wp2; go_ret; exact ⟨by rw [HR.out]; rfl, hb⟩
  | true =>
  go_wp2_with fail
  refine (W3 _).mono ?_
  rintro e w' ⟨rfl, rfl⟩
  cases x3 with
  | false => go_wp2; go_ret; exact ⟨by rw [HR.out]; rfl, hb⟩
  | true =>
  cases x4 with
  | false => go_wp2; go_ret; exact ⟨by rw [HR.out]; rfl, hb⟩
  | true =>
  cases x5 with
  | false => go_wp2; go_ret; exact ⟨by rw [HR.out]; rfl, hb⟩
  | true => go_wp2; go_ret; exact ⟨by rw [HR.out]; rfl, hb⟩
end Go.Proofs.Ytfgfjnlkgadkhaa
