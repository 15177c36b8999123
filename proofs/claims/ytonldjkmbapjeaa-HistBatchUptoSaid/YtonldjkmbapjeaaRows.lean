/-
  No cell of these rows narrows 'for every input' (looked for: loops, veiled, ifaces, maps, wideKeys, modest, calm, conditions, laid).
  DERIVED. THE GIVEN ROWS OF THIS SEAT. 7 by the template 'for every input the law returns true; each argument reads behind the call as it read before'; 0 by the template 'total and deterministic' (their statements: YtonldjkmbapjeaaTotals.lean).
  GIVEN WITH THE SEED: the statements are not yours to turn. If you find one false, say at which input.
  Laid BY PROGRAM, IN A SANDBOX (cutbox-rows.mjs): the forced cells as the released guide's own fill.sh prints them over the translation f256fbb66342d28c… (all of the seat's roots in one cut). By AI agents, Wed Nov 11 2026. No macro, syntax, notation, axiom, sorry.
-/
import Derived.Test.YtonldjkmbapjeaaChecked
import GoSem.Claim
import GoSem.ClaimJoined
import GoSem.ClaimMapViews
import Derived.JoinedTies
import Derived.KernelRfl
namespace Go.Proofs.Ytonldjkmbapjeaa
/- THE CELL 'sum', in the pinned program and in every row, IS THE sha256 OF THE DUMP (.gsa) THAT YtonldjkmbapjeaaProg.lean LOADS. Nothing in Lean hashes anything: it is a label: what it is worth is what the hold of that sum in a sandbox is worth. -/
noncomputable def Try.pinned : Pinned := { name := "ytonldjkmbapjeaa", sum := "f256fbb66342d28c860cec55996b5951fa92f2dde9fed2aacd651c9601590326", checked := Try.checked }
namespace Rows
def none {H : Type} : Left H := { results := [], args := [] }

/-- 'weighbridgelaw14.HistAll': WHATEVER THE INPUT: true; the input reads as it did. -/
def histAllSpec : ChangeSpec := { name := "histAll", fn := fun _ => fun
  | [d1, d2, d3] => { results := [.lit (.bool true)], args := [d1, d2, d3] }
  | _ => none }
def histAllRow : OpenClaim := { program := "ytonldjkmbapjeaa", sum := "f256fbb66342d28c860cec55996b5951fa92f2dde9fed2aacd651c9601590326", func := "weighbridge/weighbridgelaw14.HistAll", spec := "histAll", unfollowed := true, recurses := true, apart := false }
def HistAllSaid : Prop := histAllRow.holds Try.pinned (OpenSpec.ofChange histAllSpec)

/-- ITS FALSE NEIGHBOUR: 'it returns false'. Refute it at one input. -/
def histAllWrong : ChangeSpec := { name := "histAll", fn := fun _ => fun
  | [d1, d2, d3] => { results := [.lit (.bool false)], args := [d1, d2, d3] }
  | _ => none }
def HistAllWrongFalsely : Prop := histAllRow.holds Try.pinned (OpenSpec.ofChange histAllWrong)

/-- 'weighbridgelaw14.HistLaid': WHATEVER THE INPUT: true; the input reads as it did. -/
def histLaidSpec : ChangeSpec := { name := "histLaid", fn := fun _ => fun
  | [d1, d2, d3] => { results := [.lit (.bool true)], args := [d1, d2, d3] }
  | _ => none }
def histLaidRow : OpenClaim := { program := "ytonldjkmbapjeaa", sum := "f256fbb66342d28c860cec55996b5951fa92f2dde9fed2aacd651c9601590326", func := "weighbridge/weighbridgelaw14.HistLaid", spec := "histLaid", unfollowed := true, recurses := true, apart := false }
def HistLaidSaid : Prop := histLaidRow.holds Try.pinned (OpenSpec.ofChange histLaidSpec)

/-- ITS FALSE NEIGHBOUR: 'it returns false'. Refute it at one input. -/
def histLaidWrong : ChangeSpec := { name := "histLaid", fn := fun _ => fun
  | [d1, d2, d3] => { results := [.lit (.bool false)], args := [d1, d2, d3] }
  | _ => none }
def HistLaidWrongFalsely : Prop := histLaidRow.holds Try.pinned (OpenSpec.ofChange histLaidWrong)

/-- 'weighbridgelaw14.HistParts': WHATEVER THE INPUT: true; the input reads as it did. -/
def histPartsSpec : ChangeSpec := { name := "histParts", fn := fun _ => fun
  | [d] => { results := [.lit (.bool true)], args := [d] }
  | _ => none }
def histPartsRow : OpenClaim := { program := "ytonldjkmbapjeaa", sum := "f256fbb66342d28c860cec55996b5951fa92f2dde9fed2aacd651c9601590326", func := "weighbridge/weighbridgelaw14.HistParts", spec := "histParts", unfollowed := true, recurses := true, apart := false }
def HistPartsSaid : Prop := histPartsRow.holds Try.pinned (OpenSpec.ofChange histPartsSpec)

/-- ITS FALSE NEIGHBOUR: 'it returns false'. Refute it at one input. -/
def histPartsWrong : ChangeSpec := { name := "histParts", fn := fun _ => fun
  | [d] => { results := [.lit (.bool false)], args := [d] }
  | _ => none }
def HistPartsWrongFalsely : Prop := histPartsRow.holds Try.pinned (OpenSpec.ofChange histPartsWrong)

/-- 'weighbridgelaw14.HistBatch': WHATEVER THE INPUT: true; the input reads as it did. -/
def histBatchSpec : ChangeSpec := { name := "histBatch", fn := fun _ => fun
  | [d1, d2, d3, d4] => { results := [.lit (.bool true)], args := [d1, d2, d3, d4] }
  | _ => none }
def histBatchRow : OpenClaim := { program := "ytonldjkmbapjeaa", sum := "f256fbb66342d28c860cec55996b5951fa92f2dde9fed2aacd651c9601590326", func := "weighbridge/weighbridgelaw14.HistBatch", spec := "histBatch", unfollowed := true, recurses := true, apart := false }
def HistBatchSaid : Prop := histBatchRow.holds Try.pinned (OpenSpec.ofChange histBatchSpec)

/-- ITS FALSE NEIGHBOUR: 'it returns false'. Refute it at one input. -/
def histBatchWrong : ChangeSpec := { name := "histBatch", fn := fun _ => fun
  | [d1, d2, d3, d4] => { results := [.lit (.bool false)], args := [d1, d2, d3, d4] }
  | _ => none }
def HistBatchWrongFalsely : Prop := histBatchRow.holds Try.pinned (OpenSpec.ofChange histBatchWrong)

/-- 'weighbridgelaw14.HistOrder': WHATEVER THE INPUT: true; the input reads as it did. -/
def histOrderSpec : ChangeSpec := { name := "histOrder", fn := fun _ => fun
  | [d] => { results := [.lit (.bool true)], args := [d] }
  | _ => none }
def histOrderRow : OpenClaim := { program := "ytonldjkmbapjeaa", sum := "f256fbb66342d28c860cec55996b5951fa92f2dde9fed2aacd651c9601590326", func := "weighbridge/weighbridgelaw14.HistOrder", spec := "histOrder", unfollowed := true, recurses := true, apart := false }
def HistOrderSaid : Prop := histOrderRow.holds Try.pinned (OpenSpec.ofChange histOrderSpec)

/-- ITS FALSE NEIGHBOUR: 'it returns false'. Refute it at one input. -/
def histOrderWrong : ChangeSpec := { name := "histOrder", fn := fun _ => fun
  | [d] => { results := [.lit (.bool false)], args := [d] }
  | _ => none }
def HistOrderWrongFalsely : Prop := histOrderRow.holds Try.pinned (OpenSpec.ofChange histOrderWrong)

/-- 'weighbridgelaw14.HistMost': WHATEVER THE INPUT: true; the input reads as it did. -/
def histMostSpec : ChangeSpec := { name := "histMost", fn := fun _ => fun
  | [d] => { results := [.lit (.bool true)], args := [d] }
  | _ => none }
def histMostRow : OpenClaim := { program := "ytonldjkmbapjeaa", sum := "f256fbb66342d28c860cec55996b5951fa92f2dde9fed2aacd651c9601590326", func := "weighbridge/weighbridgelaw14.HistMost", spec := "histMost", unfollowed := true, recurses := true, apart := false }
def HistMostSaid : Prop := histMostRow.holds Try.pinned (OpenSpec.ofChange histMostSpec)

/-- ITS FALSE NEIGHBOUR: 'it returns false'. Refute it at one input. -/
def histMostWrong : ChangeSpec := { name := "histMost", fn := fun _ => fun
  | [d] => { results := [.lit (.bool false)], args := [d] }
  | _ => none }
def HistMostWrongFalsely : Prop := histMostRow.holds Try.pinned (OpenSpec.ofChange histMostWrong)

/-- 'weighbridgelaw14.HistKept': WHATEVER THE INPUT: true; the input reads as it did. -/
def histKeptSpec : ChangeSpec := { name := "histKept", fn := fun _ => fun
  | [d] => { results := [.lit (.bool true)], args := [d] }
  | _ => none }
def histKeptRow : OpenClaim := { program := "ytonldjkmbapjeaa", sum := "f256fbb66342d28c860cec55996b5951fa92f2dde9fed2aacd651c9601590326", func := "weighbridge/weighbridgelaw14.HistKept", spec := "histKept", unfollowed := true, recurses := true, apart := false }
def HistKeptSaid : Prop := histKeptRow.holds Try.pinned (OpenSpec.ofChange histKeptSpec)

/-- ITS FALSE NEIGHBOUR: 'it returns false'. Refute it at one input. -/
def histKeptWrong : ChangeSpec := { name := "histKept", fn := fun _ => fun
  | [d] => { results := [.lit (.bool false)], args := [d] }
  | _ => none }
def HistKeptWrongFalsely : Prop := histKeptRow.holds Try.pinned (OpenSpec.ofChange histKeptWrong)

/- THE SECOND FORM. 'bulk': how many values and letters a reading holds, each counted each time it is reached (what is shared counts as often as it is met; a slice's spare places count too). A statement '..UptoSaid' is the law's where the arguments, and the package variables that the reading takes, are together of bulk at most 1048576: NARROWER than '..Said'. Prove '..Said' where nothing that the law and all that it calls make is longer than what came in: it says more and counts as full. Else prove '..UptoSaid'. A law counts once. -/
mutual
def uptoBulk {H : Type} : DataW H → Nat
  | .lit (.string bytes) => bytes.length + 1
  | .lit _ => 1
  | .nil => 1
  | .ptr d => uptoBulk d + 1
  | .slice elems spare => uptoBulkAll elems + uptoBulkAll spare + 1
  | .agg parts => uptoBulkAll parts + 1
  | .iface _ d => uptoBulk d + 1
  | .map entries => uptoBulkEntries entries + 1
  | .held _ => 1
def uptoBulkAll {H : Type} : List (DataW H) → Nat
  | [] => 0
  | d :: r => uptoBulk d + uptoBulkAll r
def uptoBulkEntries {H : Type} : List (Lit × DataW H) → Nat
  | [] => 0
  | x :: r => uptoBulkEntry x + uptoBulkEntries r
def uptoBulkEntry {H : Type} : Lit × DataW H → Nat
  | (.string bytes, d) => bytes.length + uptoBulk d + 1
  | (_, d) => uptoBulk d + 1
 end
def uptoSmall : (H : Type) → List (DataW H) → Bool := fun _ ds => decide (uptoBulkAll ds ≤ 1048576)
def OpenSpec.upto (s : _root_.Go.ChangeSpec) : _root_.Go.OpenSpec := { _root_.Go.OpenSpec.ofChange s with cond := some uptoSmall }

/-- 'weighbridgelaw14.HistAll', WHERE WHAT IT READS IS OF BULK AT MOST 1048576: true; the input reads as it did. -/
def histAllUptoRow : OpenClaim := { program := "ytonldjkmbapjeaa", sum := "f256fbb66342d28c860cec55996b5951fa92f2dde9fed2aacd651c9601590326", func := "weighbridge/weighbridgelaw14.HistAll", spec := "histAll", unfollowed := true, recurses := true, apart := false, narrowed := true }
def HistAllUptoSaid : Prop := histAllUptoRow.holds Try.pinned (OpenSpec.upto histAllSpec)

/-- 'weighbridgelaw14.HistLaid', WHERE WHAT IT READS IS OF BULK AT MOST 1048576: true; the input reads as it did. -/
def histLaidUptoRow : OpenClaim := { program := "ytonldjkmbapjeaa", sum := "f256fbb66342d28c860cec55996b5951fa92f2dde9fed2aacd651c9601590326", func := "weighbridge/weighbridgelaw14.HistLaid", spec := "histLaid", unfollowed := true, recurses := true, apart := false, narrowed := true }
def HistLaidUptoSaid : Prop := histLaidUptoRow.holds Try.pinned (OpenSpec.upto histLaidSpec)

/-- 'weighbridgelaw14.HistParts', WHERE WHAT IT READS IS OF BULK AT MOST 1048576: true; the input reads as it did. -/
def histPartsUptoRow : OpenClaim := { program := "ytonldjkmbapjeaa", sum := "f256fbb66342d28c860cec55996b5951fa92f2dde9fed2aacd651c9601590326", func := "weighbridge/weighbridgelaw14.HistParts", spec := "histParts", unfollowed := true, recurses := true, apart := false, narrowed := true }
def HistPartsUptoSaid : Prop := histPartsUptoRow.holds Try.pinned (OpenSpec.upto histPartsSpec)

/-- 'weighbridgelaw14.HistBatch', WHERE WHAT IT READS IS OF BULK AT MOST 1048576: true; the input reads as it did. -/
def histBatchUptoRow : OpenClaim := { program := "ytonldjkmbapjeaa", sum := "f256fbb66342d28c860cec55996b5951fa92f2dde9fed2aacd651c9601590326", func := "weighbridge/weighbridgelaw14.HistBatch", spec := "histBatch", unfollowed := true, recurses := true, apart := false, narrowed := true }
def HistBatchUptoSaid : Prop := histBatchUptoRow.holds Try.pinned (OpenSpec.upto histBatchSpec)

/-- 'weighbridgelaw14.HistOrder', WHERE WHAT IT READS IS OF BULK AT MOST 1048576: true; the input reads as it did. -/
def histOrderUptoRow : OpenClaim := { program := "ytonldjkmbapjeaa", sum := "f256fbb66342d28c860cec55996b5951fa92f2dde9fed2aacd651c9601590326", func := "weighbridge/weighbridgelaw14.HistOrder", spec := "histOrder", unfollowed := true, recurses := true, apart := false, narrowed := true }
def HistOrderUptoSaid : Prop := histOrderUptoRow.holds Try.pinned (OpenSpec.upto histOrderSpec)

/-- 'weighbridgelaw14.HistMost', WHERE WHAT IT READS IS OF BULK AT MOST 1048576: true; the input reads as it did. -/
def histMostUptoRow : OpenClaim := { program := "ytonldjkmbapjeaa", sum := "f256fbb66342d28c860cec55996b5951fa92f2dde9fed2aacd651c9601590326", func := "weighbridge/weighbridgelaw14.HistMost", spec := "histMost", unfollowed := true, recurses := true, apart := false, narrowed := true }
def HistMostUptoSaid : Prop := histMostUptoRow.holds Try.pinned (OpenSpec.upto histMostSpec)

/-- 'weighbridgelaw14.HistKept', WHERE WHAT IT READS IS OF BULK AT MOST 1048576: true; the input reads as it did. -/
def histKeptUptoRow : OpenClaim := { program := "ytonldjkmbapjeaa", sum := "f256fbb66342d28c860cec55996b5951fa92f2dde9fed2aacd651c9601590326", func := "weighbridge/weighbridgelaw14.HistKept", spec := "histKept", unfollowed := true, recurses := true, apart := false, narrowed := true }
def HistKeptUptoSaid : Prop := histKeptUptoRow.holds Try.pinned (OpenSpec.upto histKeptSpec)

end Rows
end Go.Proofs.Ytonldjkmbapjeaa
