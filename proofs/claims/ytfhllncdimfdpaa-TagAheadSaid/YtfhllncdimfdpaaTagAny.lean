/- The seven laws on tags, as their rows want them. -/
import Derived.Test.YtfhllncdimfdpaaTagC
import Derived.Test.YtfhllncdimfdpaaFlat
import Derived.OpenShut
namespace Go.Proofs.Ytfhllncdimfdpaa
set_option linter.unusedVariables false
set_option linter.unusedSimpArgs false
open Go.RowKit Go.Proofs.YtfhllncdimfdpaaFlat

theorem W64_wf {a : Int} (h : (Lit.int .u64 a).wf = true) : W64 a := by
  have := bounds_u64 h
  unfold W64
  omega
theorem TagAll_any (w : World) (a0 : Int) (w0 : (Lit.int .u64 a0).wf = true) (a1 : Int) (w1 : (Lit.int .u64 a1).wf = true) :
    Calls Try.prog 3 #[.int .u64 a0, .int .u64 a1] w fun e w' => e = .returned (.bool true) ∧ Below w.heap.size w w' :=
  TagAll_walk a0 a1 (W64_wf w0) (W64_wf w1) w
theorem TagEdges_any (w : World) (a0 : Int) (w0 : (Lit.int .u64 a0).wf = true) (a1 : Int) (w1 : (Lit.int .u64 a1).wf = true) :
    Calls Try.prog 4 #[.int .u64 a0, .int .u64 a1] w fun e w' => e = .returned (.bool true) ∧ Below w.heap.size w w' :=
  TagEdges_walk a0 a1 (W64_wf w0) (W64_wf w1) w
theorem TagOrders_any (w : World) (a0 : Int) (w0 : (Lit.int .u64 a0).wf = true) (a1 : Int) (w1 : (Lit.int .u64 a1).wf = true) (a2 : Int) (w2 : (Lit.int .u64 a2).wf = true) :
    Calls Try.prog 5 #[.int .u64 a0, .int .u64 a1, .int .u64 a2] w fun e w' => e = .returned (.bool true) ∧ Below w.heap.size w w' :=
  TagOrders_walk a0 a1 a2 (W64_wf w0) (W64_wf w1) (W64_wf w2) w
theorem TagInverse_any (w : World) (a0 : Int) (w0 : (Lit.int .u64 a0).wf = true) (a1 : Int) (w1 : (Lit.int .i64 a1).wf = true) :
    Calls Try.prog 6 #[.int .u64 a0, .int .i64 a1] w fun e w' => e = .returned (.bool true) ∧ Below w.heap.size w w' :=
  TagInverse_walk a0 a1 (W64_wf w0) w
theorem TagWeights_any (w : World) (a0 : Int) (w0 : (Lit.int .u64 a0).wf = true) (a1 : Int) (w1 : (Lit.int .i64 a1).wf = true) (a2 : Int) (w2 : (Lit.int .i64 a2).wf = true) :
    Calls Try.prog 7 #[.int .u64 a0, .int .i64 a1, .int .i64 a2] w fun e w' => e = .returned (.bool true) ∧ Below w.heap.size w w' :=
  TagWeights_walk a0 a1 a2 (W64_wf w0) w
theorem TagCosts_any (w : World) (a0 : Int) (w0 : (Lit.int .i64 a0).wf = true) (a1 : Int) (w1 : (Lit.int .i64 a1).wf = true) (a2 : Int) (w2 : (Lit.int .u64 a2).wf = true) :
    Calls Try.prog 8 #[.int .i64 a0, .int .i64 a1, .int .u64 a2] w fun e w' => e = .returned (.bool true) ∧ Below w.heap.size w w' :=
  TagCosts_walk a0 a1 a2 (W64_wf w2) w
theorem item_of {cs : List Value} (h : FlatOk [.int .u64, .int .i64] cs) : ∃ k i : Int, cs = [.int .u64 k, .int .i64 i] := by
  obtain ⟨c, r, rfl, ⟨k, rfl, _⟩, c', r', rfl, ⟨i, rfl, _⟩, rfl⟩ := h
  exact ⟨k, i, rfl⟩
theorem TagAhead_any (w : World) (c0 : List Value) (w0 : FlatOk [.int .u64, .int .i64] c0) (c1 : List Value) (w1 : FlatOk [.int .u64, .int .i64] c1) (c2 : List Value) (w2 : FlatOk [.int .u64, .int .i64] c2) :
    Calls Try.prog 9 #[.agg c0.toArray, .agg c1.toArray, .agg c2.toArray] w fun e w' => e = .returned (.bool true) ∧ Below w.heap.size w w' := by
  obtain ⟨_, _, rfl⟩ := item_of w0
  obtain ⟨_, _, rfl⟩ := item_of w1
  obtain ⟨_, _, rfl⟩ := item_of w2
  exact TagAhead_walk _ _ _ _ _ _ w

end Go.Proofs.Ytfhllncdimfdpaa
