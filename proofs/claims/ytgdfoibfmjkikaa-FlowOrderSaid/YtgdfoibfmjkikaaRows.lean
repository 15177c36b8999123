/-
  No cell of these rows narrows 'for every input' (looked for: loops, veiled, ifaces, maps, wideKeys, modest, calm, conditions, laid).
  DERIVED. THE GIVEN ROWS OF THIS SEAT. 6 by the template 'for every input the law returns true; each argument reads behind the call as it read before'; 0 by the template 'total and deterministic' (their statements: YtgdfoibfmjkikaaTotals.lean).
  GIVEN WITH THE SEED: the statements are not yours to turn. If you find one false, say at which input.
  Laid BY PROGRAM, IN A SANDBOX (cutbox-rows.mjs): the forced cells as the released guide's own fill.sh prints them over the translation bd3148d68d496608… (all of the seat's roots in one cut). By AI agents, Wed Nov 11 2026. No macro, syntax, notation, axiom, sorry.
-/
import Derived.Test.YtgdfoibfmjkikaaChecked
import GoSem.Claim
import GoSem.ClaimJoined
import GoSem.ClaimMapViews
import Derived.JoinedTies
import Derived.KernelRfl
namespace Go.Proofs.Ytgdfoibfmjkikaa
/- THE CELL 'sum', in the pinned program and in every row, IS THE sha256 OF THE DUMP (.gsa) THAT YtgdfoibfmjkikaaProg.lean LOADS. Nothing in Lean hashes anything: it is a label: what it is worth is what the hold of that sum in a sandbox is worth. -/
noncomputable def Try.pinned : Pinned := { name := "ytgdfoibfmjkikaa", sum := "bd3148d68d4966084deff257e4e322c6788599a23ba2af0458ad035d7aa108d6", checked := Try.checked }
namespace Rows
def none {H : Type} : Left H := { results := [], args := [] }

/-- 'weighbridgelaw09.FlowRoom': WHATEVER THE INPUT: true; the input reads as it did. -/
def flowRoomSpec : ChangeSpec := { name := "flowRoom", fn := fun _ => fun
  | [d1, d2, d3] => { results := [.lit (.bool true)], args := [d1, d2, d3] }
  | _ => none }
def flowRoomRow : OpenClaim := { program := "ytgdfoibfmjkikaa", sum := "bd3148d68d4966084deff257e4e322c6788599a23ba2af0458ad035d7aa108d6", func := "weighbridge/weighbridgelaw09.FlowRoom", spec := "flowRoom", inPlace := ["math/bits.Add64"], unfollowed := true, recurses := true, apart := false }
def FlowRoomSaid : Prop := flowRoomRow.holds Try.pinned (OpenSpec.ofChange flowRoomSpec)

/-- ITS FALSE NEIGHBOUR: 'it returns false'. Refute it at one input. -/
def flowRoomWrong : ChangeSpec := { name := "flowRoom", fn := fun _ => fun
  | [d1, d2, d3] => { results := [.lit (.bool false)], args := [d1, d2, d3] }
  | _ => none }
def FlowRoomWrongFalsely : Prop := flowRoomRow.holds Try.pinned (OpenSpec.ofChange flowRoomWrong)

/-- 'weighbridgelaw09.FlowOrder': WHATEVER THE INPUT: true; the input reads as it did. -/
def flowOrderSpec : ChangeSpec := { name := "flowOrder", fn := fun _ => fun
  | [d1, d2, d3] => { results := [.lit (.bool true)], args := [d1, d2, d3] }
  | _ => none }
def flowOrderRow : OpenClaim := { program := "ytgdfoibfmjkikaa", sum := "bd3148d68d4966084deff257e4e322c6788599a23ba2af0458ad035d7aa108d6", func := "weighbridge/weighbridgelaw09.FlowOrder", spec := "flowOrder", inPlace := ["math/bits.Add64"], unfollowed := true, recurses := true, apart := false }
def FlowOrderSaid : Prop := flowOrderRow.holds Try.pinned (OpenSpec.ofChange flowOrderSpec)

/-- ITS FALSE NEIGHBOUR: 'it returns false'. Refute it at one input. -/
def flowOrderWrong : ChangeSpec := { name := "flowOrder", fn := fun _ => fun
  | [d1, d2, d3] => { results := [.lit (.bool false)], args := [d1, d2, d3] }
  | _ => none }
def FlowOrderWrongFalsely : Prop := flowOrderRow.holds Try.pinned (OpenSpec.ofChange flowOrderWrong)

/-- 'weighbridgelaw09.FlowPlays': WHATEVER THE INPUT: true; the input reads as it did. -/
def flowPlaysSpec : ChangeSpec := { name := "flowPlays", fn := fun _ => fun
  | [d1, d2, d3] => { results := [.lit (.bool true)], args := [d1, d2, d3] }
  | _ => none }
def flowPlaysRow : OpenClaim := { program := "ytgdfoibfmjkikaa", sum := "bd3148d68d4966084deff257e4e322c6788599a23ba2af0458ad035d7aa108d6", func := "weighbridge/weighbridgelaw09.FlowPlays", spec := "flowPlays", inPlace := ["math/bits.Add64"], unfollowed := true, recurses := true, apart := false }
def FlowPlaysSaid : Prop := flowPlaysRow.holds Try.pinned (OpenSpec.ofChange flowPlaysSpec)

/-- ITS FALSE NEIGHBOUR: 'it returns false'. Refute it at one input. -/
def flowPlaysWrong : ChangeSpec := { name := "flowPlays", fn := fun _ => fun
  | [d1, d2, d3] => { results := [.lit (.bool false)], args := [d1, d2, d3] }
  | _ => none }
def FlowPlaysWrongFalsely : Prop := flowPlaysRow.holds Try.pinned (OpenSpec.ofChange flowPlaysWrong)

/-- 'weighbridgelaw09.FlowRises': WHATEVER THE INPUT: true; the input reads as it did. -/
def flowRisesSpec : ChangeSpec := { name := "flowRises", fn := fun _ => fun
  | [d1, d2, d3] => { results := [.lit (.bool true)], args := [d1, d2, d3] }
  | _ => none }
def flowRisesRow : OpenClaim := { program := "ytgdfoibfmjkikaa", sum := "bd3148d68d4966084deff257e4e322c6788599a23ba2af0458ad035d7aa108d6", func := "weighbridge/weighbridgelaw09.FlowRises", spec := "flowRises", inPlace := ["math/bits.Add64"], unfollowed := true, recurses := true, apart := false }
def FlowRisesSaid : Prop := flowRisesRow.holds Try.pinned (OpenSpec.ofChange flowRisesSpec)

/-- ITS FALSE NEIGHBOUR: 'it returns false'. Refute it at one input. -/
def flowRisesWrong : ChangeSpec := { name := "flowRises", fn := fun _ => fun
  | [d1, d2, d3] => { results := [.lit (.bool false)], args := [d1, d2, d3] }
  | _ => none }
def FlowRisesWrongFalsely : Prop := flowRisesRow.holds Try.pinned (OpenSpec.ofChange flowRisesWrong)

/-- 'weighbridgelaw09.FlowCosts': WHATEVER THE INPUT: true; the input reads as it did. -/
def flowCostsSpec : ChangeSpec := { name := "flowCosts", fn := fun _ => fun
  | [d1, d2, d3] => { results := [.lit (.bool true)], args := [d1, d2, d3] }
  | _ => none }
def flowCostsRow : OpenClaim := { program := "ytgdfoibfmjkikaa", sum := "bd3148d68d4966084deff257e4e322c6788599a23ba2af0458ad035d7aa108d6", func := "weighbridge/weighbridgelaw09.FlowCosts", spec := "flowCosts", inPlace := ["math/bits.Add64"], unfollowed := true, recurses := true, apart := false }
def FlowCostsSaid : Prop := flowCostsRow.holds Try.pinned (OpenSpec.ofChange flowCostsSpec)

/-- ITS FALSE NEIGHBOUR: 'it returns false'. Refute it at one input. -/
def flowCostsWrong : ChangeSpec := { name := "flowCosts", fn := fun _ => fun
  | [d1, d2, d3] => { results := [.lit (.bool false)], args := [d1, d2, d3] }
  | _ => none }
def FlowCostsWrongFalsely : Prop := flowCostsRow.holds Try.pinned (OpenSpec.ofChange flowCostsWrong)

/-- 'weighbridgelaw09.FlowCopies': WHATEVER THE INPUT: true; the input reads as it did. -/
def flowCopiesSpec : ChangeSpec := { name := "flowCopies", fn := fun _ => fun
  | [d1, d2, d3, d4, d5] => { results := [.lit (.bool true)], args := [d1, d2, d3, d4, d5] }
  | _ => none }
def flowCopiesRow : OpenClaim := { program := "ytgdfoibfmjkikaa", sum := "bd3148d68d4966084deff257e4e322c6788599a23ba2af0458ad035d7aa108d6", func := "weighbridge/weighbridgelaw09.FlowCopies", spec := "flowCopies", inPlace := ["math/bits.Add64"], unfollowed := true, recurses := true, apart := false }
def FlowCopiesSaid : Prop := flowCopiesRow.holds Try.pinned (OpenSpec.ofChange flowCopiesSpec)

/-- ITS FALSE NEIGHBOUR: 'it returns false'. Refute it at one input. -/
def flowCopiesWrong : ChangeSpec := { name := "flowCopies", fn := fun _ => fun
  | [d1, d2, d3, d4, d5] => { results := [.lit (.bool false)], args := [d1, d2, d3, d4, d5] }
  | _ => none }
def FlowCopiesWrongFalsely : Prop := flowCopiesRow.holds Try.pinned (OpenSpec.ofChange flowCopiesWrong)

/- THE SECOND FORM. 'bulk': how many values and letters a reading holds, each counted each time it is reached (what is shared counts as often as it is met; a slice's spare places count too). A statement '..UptoSaid' is the law's where the arguments, and the package variables that the reading takes, are together of bulk at most 1048576: NARROWER than '..Said'. Prove '..Said' where nothing that the law and all that it calls make is longer than what came in: it says more and counts as full. Else prove '..UptoSaid'. A law counts once. -/
mutual
def uptoBulk {H : Type} : DataW H → Nat
  | .lit (.string bytes) => bytes.length + 1
  | .lit _ => 1
  | .nil => 1
  | .ptr d => uptoBulk d + 1
  | .slice elems spare => uptoBulkAll elems + uptoBulkAll spare + 1
  | .agg parts => uptoBulkAll parts + 1
  | .iface _ d => uptoBulk d + 1
  | .map entries => uptoBulkEntries entries + 1
  | .held _ => 1
def uptoBulkAll {H : Type} : List (DataW H) → Nat
  | [] => 0
  | d :: r => uptoBulk d + uptoBulkAll r
def uptoBulkEntries {H : Type} : List (Lit × DataW H) → Nat
  | [] => 0
  | x :: r => uptoBulkEntry x + uptoBulkEntries r
def uptoBulkEntry {H : Type} : Lit × DataW H → Nat
  | (.string bytes, d) => bytes.length + uptoBulk d + 1
  | (_, d) => uptoBulk d + 1
 end
def uptoSmall : (H : Type) → List (DataW H) → Bool := fun _ ds => decide (uptoBulkAll ds ≤ 1048576)
def OpenSpec.upto (s : _root_.Go.ChangeSpec) : _root_.Go.OpenSpec := { _root_.Go.OpenSpec.ofChange s with cond := some uptoSmall }

/-- 'weighbridgelaw09.FlowRoom', WHERE WHAT IT READS IS OF BULK AT MOST 1048576: true; the input reads as it did. -/
def flowRoomUptoRow : OpenClaim := { program := "ytgdfoibfmjkikaa", sum := "bd3148d68d4966084deff257e4e322c6788599a23ba2af0458ad035d7aa108d6", func := "weighbridge/weighbridgelaw09.FlowRoom", spec := "flowRoom", inPlace := ["math/bits.Add64"], unfollowed := true, recurses := true, apart := false, narrowed := true }
def FlowRoomUptoSaid : Prop := flowRoomUptoRow.holds Try.pinned (OpenSpec.upto flowRoomSpec)

/-- 'weighbridgelaw09.FlowOrder', WHERE WHAT IT READS IS OF BULK AT MOST 1048576: true; the input reads as it did. -/
def flowOrderUptoRow : OpenClaim := { program := "ytgdfoibfmjkikaa", sum := "bd3148d68d4966084deff257e4e322c6788599a23ba2af0458ad035d7aa108d6", func := "weighbridge/weighbridgelaw09.FlowOrder", spec := "flowOrder", inPlace := ["math/bits.Add64"], unfollowed := true, recurses := true, apart := false, narrowed := true }
def FlowOrderUptoSaid : Prop := flowOrderUptoRow.holds Try.pinned (OpenSpec.upto flowOrderSpec)

/-- 'weighbridgelaw09.FlowPlays', WHERE WHAT IT READS IS OF BULK AT MOST 1048576: true; the input reads as it did. -/
def flowPlaysUptoRow : OpenClaim := { program := "ytgdfoibfmjkikaa", sum := "bd3148d68d4966084deff257e4e322c6788599a23ba2af0458ad035d7aa108d6", func := "weighbridge/weighbridgelaw09.FlowPlays", spec := "flowPlays", inPlace := ["math/bits.Add64"], unfollowed := true, recurses := true, apart := false, narrowed := true }
def FlowPlaysUptoSaid : Prop := flowPlaysUptoRow.holds Try.pinned (OpenSpec.upto flowPlaysSpec)

/-- 'weighbridgelaw09.FlowRises', WHERE WHAT IT READS IS OF BULK AT MOST 1048576: true; the input reads as it did. -/
def flowRisesUptoRow : OpenClaim := { program := "ytgdfoibfmjkikaa", sum := "bd3148d68d4966084deff257e4e322c6788599a23ba2af0458ad035d7aa108d6", func := "weighbridge/weighbridgelaw09.FlowRises", spec := "flowRises", inPlace := ["math/bits.Add64"], unfollowed := true, recurses := true, apart := false, narrowed := true }
def FlowRisesUptoSaid : Prop := flowRisesUptoRow.holds Try.pinned (OpenSpec.upto flowRisesSpec)

/-- 'weighbridgelaw09.FlowCosts', WHERE WHAT IT READS IS OF BULK AT MOST 1048576: true; the input reads as it did. -/
def flowCostsUptoRow : OpenClaim := { program := "ytgdfoibfmjkikaa", sum := "bd3148d68d4966084deff257e4e322c6788599a23ba2af0458ad035d7aa108d6", func := "weighbridge/weighbridgelaw09.FlowCosts", spec := "flowCosts", inPlace := ["math/bits.Add64"], unfollowed := true, recurses := true, apart := false, narrowed := true }
def FlowCostsUptoSaid : Prop := flowCostsUptoRow.holds Try.pinned (OpenSpec.upto flowCostsSpec)

/-- 'weighbridgelaw09.FlowCopies', WHERE WHAT IT READS IS OF BULK AT MOST 1048576: true; the input reads as it did. -/
def flowCopiesUptoRow : OpenClaim := { program := "ytgdfoibfmjkikaa", sum := "bd3148d68d4966084deff257e4e322c6788599a23ba2af0458ad035d7aa108d6", func := "weighbridge/weighbridgelaw09.FlowCopies", spec := "flowCopies", inPlace := ["math/bits.Add64"], unfollowed := true, recurses := true, apart := false, narrowed := true }
def FlowCopiesUptoSaid : Prop := flowCopiesUptoRow.holds Try.pinned (OpenSpec.upto flowCopiesSpec)

end Rows
end Go.Proofs.Ytgdfoibfmjkikaa
