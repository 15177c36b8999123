/-
  No cell of these rows narrows 'for every input' (looked for: loops, veiled, ifaces, maps, wideKeys, modest, calm, conditions, laid).
  DERIVED. THE GIVEN ROWS OF THIS SEAT. 7 by the template 'for every input the law returns true; each argument reads behind the call as it read before'; 0 by the template 'total and deterministic' (their statements: YtfhllncdimfdpaaTotals.lean).
  GIVEN WITH THE SEED: the statements are not yours to turn. If you find one false, say at which input.
  Laid BY PROGRAM, IN A SANDBOX (cutbox-rows.mjs): the forced cells as the released guide's own fill.sh prints them over the translation e188b7502f0ed02b… (all of the seat's roots in one cut). By AI agents, Wed Nov 11 2026. No macro, syntax, notation, axiom, sorry.
-/
import Derived.Test.YtfhllncdimfdpaaChecked
import GoSem.Claim
import GoSem.ClaimJoined
import GoSem.ClaimMapViews
import Derived.JoinedTies
import Derived.KernelRfl
namespace Go.Proofs.Ytfhllncdimfdpaa
/- THE CELL 'sum', in the pinned program and in every row, IS THE sha256 OF THE DUMP (.gsa) THAT YtfhllncdimfdpaaProg.lean LOADS. Nothing in Lean hashes anything: it is a label: what it is worth is what the hold of that sum in a sandbox is worth. -/
noncomputable def Try.pinned : Pinned := { name := "ytfhllncdimfdpaa", sum := "e188b7502f0ed02b12f9bece12bbcec9c6c474d0785b0015eb94b3dc303a396e", checked := Try.checked }
namespace Rows
def none {H : Type} : Left H := { results := [], args := [] }

/-- 'weighbridgelaw01.TagAll': WHATEVER THE INPUT: true; the input reads as it did. -/
def tagAllSpec : ChangeSpec := { name := "tagAll", fn := fun _ => fun
  | [d1, d2] => { results := [.lit (.bool true)], args := [d1, d2] }
  | _ => none }
def tagAllRow : OpenClaim := { program := "ytfhllncdimfdpaa", sum := "e188b7502f0ed02b12f9bece12bbcec9c6c474d0785b0015eb94b3dc303a396e", func := "weighbridge/weighbridgelaw01.TagAll", spec := "tagAll", inPlace := ["math/bits.Add64"], apart := false }
def TagAllSaid : Prop := tagAllRow.holds Try.pinned (OpenSpec.ofChange tagAllSpec)

/-- ITS FALSE NEIGHBOUR: 'it returns false'. Refute it at one input. -/
def tagAllWrong : ChangeSpec := { name := "tagAll", fn := fun _ => fun
  | [d1, d2] => { results := [.lit (.bool false)], args := [d1, d2] }
  | _ => none }
def TagAllWrongFalsely : Prop := tagAllRow.holds Try.pinned (OpenSpec.ofChange tagAllWrong)

/-- 'weighbridgelaw01.TagEdges': WHATEVER THE INPUT: true; the input reads as it did. -/
def tagEdgesSpec : ChangeSpec := { name := "tagEdges", fn := fun _ => fun
  | [d1, d2] => { results := [.lit (.bool true)], args := [d1, d2] }
  | _ => none }
def tagEdgesRow : OpenClaim := { program := "ytfhllncdimfdpaa", sum := "e188b7502f0ed02b12f9bece12bbcec9c6c474d0785b0015eb94b3dc303a396e", func := "weighbridge/weighbridgelaw01.TagEdges", spec := "tagEdges", inPlace := ["math/bits.Add64"], apart := false }
def TagEdgesSaid : Prop := tagEdgesRow.holds Try.pinned (OpenSpec.ofChange tagEdgesSpec)

/-- ITS FALSE NEIGHBOUR: 'it returns false'. Refute it at one input. -/
def tagEdgesWrong : ChangeSpec := { name := "tagEdges", fn := fun _ => fun
  | [d1, d2] => { results := [.lit (.bool false)], args := [d1, d2] }
  | _ => none }
def TagEdgesWrongFalsely : Prop := tagEdgesRow.holds Try.pinned (OpenSpec.ofChange tagEdgesWrong)

/-- 'weighbridgelaw01.TagOrders': WHATEVER THE INPUT: true; the input reads as it did. -/
def tagOrdersSpec : ChangeSpec := { name := "tagOrders", fn := fun _ => fun
  | [d1, d2, d3] => { results := [.lit (.bool true)], args := [d1, d2, d3] }
  | _ => none }
def tagOrdersRow : OpenClaim := { program := "ytfhllncdimfdpaa", sum := "e188b7502f0ed02b12f9bece12bbcec9c6c474d0785b0015eb94b3dc303a396e", func := "weighbridge/weighbridgelaw01.TagOrders", spec := "tagOrders", inPlace := ["math/bits.Add64"], apart := false }
def TagOrdersSaid : Prop := tagOrdersRow.holds Try.pinned (OpenSpec.ofChange tagOrdersSpec)

/-- ITS FALSE NEIGHBOUR: 'it returns false'. Refute it at one input. -/
def tagOrdersWrong : ChangeSpec := { name := "tagOrders", fn := fun _ => fun
  | [d1, d2, d3] => { results := [.lit (.bool false)], args := [d1, d2, d3] }
  | _ => none }
def TagOrdersWrongFalsely : Prop := tagOrdersRow.holds Try.pinned (OpenSpec.ofChange tagOrdersWrong)

/-- 'weighbridgelaw01.TagInverse': WHATEVER THE INPUT: true; the input reads as it did. -/
def tagInverseSpec : ChangeSpec := { name := "tagInverse", fn := fun _ => fun
  | [d1, d2] => { results := [.lit (.bool true)], args := [d1, d2] }
  | _ => none }
def tagInverseRow : OpenClaim := { program := "ytfhllncdimfdpaa", sum := "e188b7502f0ed02b12f9bece12bbcec9c6c474d0785b0015eb94b3dc303a396e", func := "weighbridge/weighbridgelaw01.TagInverse", spec := "tagInverse", inPlace := ["math/bits.Add64"], apart := false }
def TagInverseSaid : Prop := tagInverseRow.holds Try.pinned (OpenSpec.ofChange tagInverseSpec)

/-- ITS FALSE NEIGHBOUR: 'it returns false'. Refute it at one input. -/
def tagInverseWrong : ChangeSpec := { name := "tagInverse", fn := fun _ => fun
  | [d1, d2] => { results := [.lit (.bool false)], args := [d1, d2] }
  | _ => none }
def TagInverseWrongFalsely : Prop := tagInverseRow.holds Try.pinned (OpenSpec.ofChange tagInverseWrong)

/-- 'weighbridgelaw01.TagWeights': WHATEVER THE INPUT: true; the input reads as it did. -/
def tagWeightsSpec : ChangeSpec := { name := "tagWeights", fn := fun _ => fun
  | [d1, d2, d3] => { results := [.lit (.bool true)], args := [d1, d2, d3] }
  | _ => none }
def tagWeightsRow : OpenClaim := { program := "ytfhllncdimfdpaa", sum := "e188b7502f0ed02b12f9bece12bbcec9c6c474d0785b0015eb94b3dc303a396e", func := "weighbridge/weighbridgelaw01.TagWeights", spec := "tagWeights", inPlace := ["math/bits.Add64"], apart := false }
def TagWeightsSaid : Prop := tagWeightsRow.holds Try.pinned (OpenSpec.ofChange tagWeightsSpec)

/-- ITS FALSE NEIGHBOUR: 'it returns false'. Refute it at one input. -/
def tagWeightsWrong : ChangeSpec := { name := "tagWeights", fn := fun _ => fun
  | [d1, d2, d3] => { results := [.lit (.bool false)], args := [d1, d2, d3] }
  | _ => none }
def TagWeightsWrongFalsely : Prop := tagWeightsRow.holds Try.pinned (OpenSpec.ofChange tagWeightsWrong)

/-- 'weighbridgelaw01.TagCosts': WHATEVER THE INPUT: true; the input reads as it did. -/
def tagCostsSpec : ChangeSpec := { name := "tagCosts", fn := fun _ => fun
  | [d1, d2, d3] => { results := [.lit (.bool true)], args := [d1, d2, d3] }
  | _ => none }
def tagCostsRow : OpenClaim := { program := "ytfhllncdimfdpaa", sum := "e188b7502f0ed02b12f9bece12bbcec9c6c474d0785b0015eb94b3dc303a396e", func := "weighbridge/weighbridgelaw01.TagCosts", spec := "tagCosts", inPlace := ["math/bits.Add64"], apart := false }
def TagCostsSaid : Prop := tagCostsRow.holds Try.pinned (OpenSpec.ofChange tagCostsSpec)

/-- ITS FALSE NEIGHBOUR: 'it returns false'. Refute it at one input. -/
def tagCostsWrong : ChangeSpec := { name := "tagCosts", fn := fun _ => fun
  | [d1, d2, d3] => { results := [.lit (.bool false)], args := [d1, d2, d3] }
  | _ => none }
def TagCostsWrongFalsely : Prop := tagCostsRow.holds Try.pinned (OpenSpec.ofChange tagCostsWrong)

/-- 'weighbridgelaw01.TagAhead': WHATEVER THE INPUT: true; the input reads as it did. -/
def tagAheadSpec : ChangeSpec := { name := "tagAhead", fn := fun _ => fun
  | [d1, d2, d3] => { results := [.lit (.bool true)], args := [d1, d2, d3] }
  | _ => none }
def tagAheadRow : OpenClaim := { program := "ytfhllncdimfdpaa", sum := "e188b7502f0ed02b12f9bece12bbcec9c6c474d0785b0015eb94b3dc303a396e", func := "weighbridge/weighbridgelaw01.TagAhead", spec := "tagAhead", inPlace := ["math/bits.Add64"], apart := false }
def TagAheadSaid : Prop := tagAheadRow.holds Try.pinned (OpenSpec.ofChange tagAheadSpec)

/-- ITS FALSE NEIGHBOUR: 'it returns false'. Refute it at one input. -/
def tagAheadWrong : ChangeSpec := { name := "tagAhead", fn := fun _ => fun
  | [d1, d2, d3] => { results := [.lit (.bool false)], args := [d1, d2, d3] }
  | _ => none }
def TagAheadWrongFalsely : Prop := tagAheadRow.holds Try.pinned (OpenSpec.ofChange tagAheadWrong)

/- THE SECOND FORM. 'bulk': how many values and letters a reading holds, each counted each time it is reached (what is shared counts as often as it is met; a slice's spare places count too). A statement '..UptoSaid' is the law's where the arguments, and the package variables that the reading takes, are together of bulk at most 1048576: NARROWER than '..Said'. Prove '..Said' where nothing that the law and all that it calls make is longer than what came in: it says more and counts as full. Else prove '..UptoSaid'. A law counts once. -/
mutual
def uptoBulk {H : Type} : DataW H → Nat
  | .lit (.string bytes) => bytes.length + 1
  | .lit _ => 1
  | .nil => 1
  | .ptr d => uptoBulk d + 1
  | .slice elems spare => uptoBulkAll elems + uptoBulkAll spare + 1
  | .agg parts => uptoBulkAll parts + 1
  | .iface _ d => uptoBulk d + 1
  | .map entries => uptoBulkEntries entries + 1
  | .held _ => 1
def uptoBulkAll {H : Type} : List (DataW H) → Nat
  | [] => 0
  | d :: r => uptoBulk d + uptoBulkAll r
def uptoBulkEntries {H : Type} : List (Lit × DataW H) → Nat
  | [] => 0
  | x :: r => uptoBulkEntry x + uptoBulkEntries r
def uptoBulkEntry {H : Type} : Lit × DataW H → Nat
  | (.string bytes, d) => bytes.length + uptoBulk d + 1
  | (_, d) => uptoBulk d + 1
 end
def uptoSmall : (H : Type) → List (DataW H) → Bool := fun _ ds => decide (uptoBulkAll ds ≤ 1048576)
def OpenSpec.upto (s : _root_.Go.ChangeSpec) : _root_.Go.OpenSpec := { _root_.Go.OpenSpec.ofChange s with cond := some uptoSmall }

/-- 'weighbridgelaw01.TagAll', WHERE WHAT IT READS IS OF BULK AT MOST 1048576: true; the input reads as it did. -/
def tagAllUptoRow : OpenClaim := { program := "ytfhllncdimfdpaa", sum := "e188b7502f0ed02b12f9bece12bbcec9c6c474d0785b0015eb94b3dc303a396e", func := "weighbridge/weighbridgelaw01.TagAll", spec := "tagAll", inPlace := ["math/bits.Add64"], apart := false, narrowed := true }
def TagAllUptoSaid : Prop := tagAllUptoRow.holds Try.pinned (OpenSpec.upto tagAllSpec)

/-- 'weighbridgelaw01.TagEdges', WHERE WHAT IT READS IS OF BULK AT MOST 1048576: true; the input reads as it did. -/
def tagEdgesUptoRow : OpenClaim := { program := "ytfhllncdimfdpaa", sum := "e188b7502f0ed02b12f9bece12bbcec9c6c474d0785b0015eb94b3dc303a396e", func := "weighbridge/weighbridgelaw01.TagEdges", spec := "tagEdges", inPlace := ["math/bits.Add64"], apart := false, narrowed := true }
def TagEdgesUptoSaid : Prop := tagEdgesUptoRow.holds Try.pinned (OpenSpec.upto tagEdgesSpec)

/-- 'weighbridgelaw01.TagOrders', WHERE WHAT IT READS IS OF BULK AT MOST 1048576: true; the input reads as it did. -/
def tagOrdersUptoRow : OpenClaim := { program := "ytfhllncdimfdpaa", sum := "e188b7502f0ed02b12f9bece12bbcec9c6c474d0785b0015eb94b3dc303a396e", func := "weighbridge/weighbridgelaw01.TagOrders", spec := "tagOrders", inPlace := ["math/bits.Add64"], apart := false, narrowed := true }
def TagOrdersUptoSaid : Prop := tagOrdersUptoRow.holds Try.pinned (OpenSpec.upto tagOrdersSpec)

/-- 'weighbridgelaw01.TagInverse', WHERE WHAT IT READS IS OF BULK AT MOST 1048576: true; the input reads as it did. -/
def tagInverseUptoRow : OpenClaim := { program := "ytfhllncdimfdpaa", sum := "e188b7502f0ed02b12f9bece12bbcec9c6c474d0785b0015eb94b3dc303a396e", func := "weighbridge/weighbridgelaw01.TagInverse", spec := "tagInverse", inPlace := ["math/bits.Add64"], apart := false, narrowed := true }
def TagInverseUptoSaid : Prop := tagInverseUptoRow.holds Try.pinned (OpenSpec.upto tagInverseSpec)

/-- 'weighbridgelaw01.TagWeights', WHERE WHAT IT READS IS OF BULK AT MOST 1048576: true; the input reads as it did. -/
def tagWeightsUptoRow : OpenClaim := { program := "ytfhllncdimfdpaa", sum := "e188b7502f0ed02b12f9bece12bbcec9c6c474d0785b0015eb94b3dc303a396e", func := "weighbridge/weighbridgelaw01.TagWeights", spec := "tagWeights", inPlace := ["math/bits.Add64"], apart := false, narrowed := true }
def TagWeightsUptoSaid : Prop := tagWeightsUptoRow.holds Try.pinned (OpenSpec.upto tagWeightsSpec)

/-- 'weighbridgelaw01.TagCosts', WHERE WHAT IT READS IS OF BULK AT MOST 1048576: true; the input reads as it did. -/
def tagCostsUptoRow : OpenClaim := { program := "ytfhllncdimfdpaa", sum := "e188b7502f0ed02b12f9bece12bbcec9c6c474d0785b0015eb94b3dc303a396e", func := "weighbridge/weighbridgelaw01.TagCosts", spec := "tagCosts", inPlace := ["math/bits.Add64"], apart := false, narrowed := true }
def TagCostsUptoSaid : Prop := tagCostsUptoRow.holds Try.pinned (OpenSpec.upto tagCostsSpec)

/-- 'weighbridgelaw01.TagAhead', WHERE WHAT IT READS IS OF BULK AT MOST 1048576: true; the input reads as it did. -/
def tagAheadUptoRow : OpenClaim := { program := "ytfhllncdimfdpaa", sum := "e188b7502f0ed02b12f9bece12bbcec9c6c474d0785b0015eb94b3dc303a396e", func := "weighbridge/weighbridgelaw01.TagAhead", spec := "tagAhead", inPlace := ["math/bits.Add64"], apart := false, narrowed := true }
def TagAheadUptoSaid : Prop := tagAheadUptoRow.holds Try.pinned (OpenSpec.upto tagAheadSpec)

end Rows
end Go.Proofs.Ytfhllncdimfdpaa
