/-
  No cell of these rows narrows 'for every input' (looked for: loops, veiled, ifaces, maps, wideKeys, modest, calm, conditions, laid).
  DERIVED. THE GIVEN ROWS OF THIS SEAT. 6 by the template 'for every input the law returns true; each argument reads behind the call as it read before'; 0 by the template 'total and deterministic' (their statements: YtocpanhhbjhklaaTotals.lean).
  GIVEN WITH THE SEED: the statements are not yours to turn. If you find one false, say at which input.
  Laid BY PROGRAM, IN A SANDBOX (cutbox-rows.mjs): the forced cells as the released guide's own fill.sh prints them over the translation a437e67851cf2dd1… (all of the seat's roots in one cut). By AI agents, Wed Nov 11 2026. No macro, syntax, notation, axiom, sorry.
-/
import Derived.Test.YtocpanhhbjhklaaChecked
import GoSem.Claim
import GoSem.ClaimJoined
import GoSem.ClaimMapViews
import Derived.JoinedTies
import Derived.KernelRfl
namespace Go.Proofs.Ytocpanhhbjhklaa
/- THE CELL 'sum', in the pinned program and in every row, IS THE sha256 OF THE DUMP (.gsa) THAT YtocpanhhbjhklaaProg.lean LOADS. Nothing in Lean hashes anything: it is a label: what it is worth is what the hold of that sum in a sandbox is worth. -/
noncomputable def Try.pinned : Pinned := { name := "ytocpanhhbjhklaa", sum := "a437e67851cf2dd1e802cd9cdab1349dd11d945cfd7f8e98399dcd0ebb75f7cd", checked := Try.checked }
namespace Rows
def none {H : Type} : Left H := { results := [], args := [] }

/-- 'weighbridgelaw12.ClockAll': WHATEVER THE INPUT: true; the input reads as it did. -/
def clockAllSpec : ChangeSpec := { name := "clockAll", fn := fun _ => fun
  | [d1, d2, d3] => { results := [.lit (.bool true)], args := [d1, d2, d3] }
  | _ => none }
def clockAllRow : OpenClaim := { program := "ytocpanhhbjhklaa", sum := "a437e67851cf2dd1e802cd9cdab1349dd11d945cfd7f8e98399dcd0ebb75f7cd", func := "weighbridge/weighbridgelaw12.ClockAll", spec := "clockAll", unfollowed := true, recurses := true, apart := false }
def ClockAllSaid : Prop := clockAllRow.holds Try.pinned (OpenSpec.ofChange clockAllSpec)

/-- ITS FALSE NEIGHBOUR: 'it returns false'. Refute it at one input. -/
def clockAllWrong : ChangeSpec := { name := "clockAll", fn := fun _ => fun
  | [d1, d2, d3] => { results := [.lit (.bool false)], args := [d1, d2, d3] }
  | _ => none }
def ClockAllWrongFalsely : Prop := clockAllRow.holds Try.pinned (OpenSpec.ofChange clockAllWrong)

/-- 'weighbridgelaw12.ClockJoin': WHATEVER THE INPUT: true; the input reads as it did. -/
def clockJoinSpec : ChangeSpec := { name := "clockJoin", fn := fun _ => fun
  | [d1, d2, d3] => { results := [.lit (.bool true)], args := [d1, d2, d3] }
  | _ => none }
def clockJoinRow : OpenClaim := { program := "ytocpanhhbjhklaa", sum := "a437e67851cf2dd1e802cd9cdab1349dd11d945cfd7f8e98399dcd0ebb75f7cd", func := "weighbridge/weighbridgelaw12.ClockJoin", spec := "clockJoin", unfollowed := true, recurses := true, apart := false }
def ClockJoinSaid : Prop := clockJoinRow.holds Try.pinned (OpenSpec.ofChange clockJoinSpec)

/-- ITS FALSE NEIGHBOUR: 'it returns false'. Refute it at one input. -/
def clockJoinWrong : ChangeSpec := { name := "clockJoin", fn := fun _ => fun
  | [d1, d2, d3] => { results := [.lit (.bool false)], args := [d1, d2, d3] }
  | _ => none }
def ClockJoinWrongFalsely : Prop := clockJoinRow.holds Try.pinned (OpenSpec.ofChange clockJoinWrong)

/-- 'weighbridgelaw12.ClockOrder': WHATEVER THE INPUT: true; the input reads as it did. -/
def clockOrderSpec : ChangeSpec := { name := "clockOrder", fn := fun _ => fun
  | [d1, d2, d3] => { results := [.lit (.bool true)], args := [d1, d2, d3] }
  | _ => none }
def clockOrderRow : OpenClaim := { program := "ytocpanhhbjhklaa", sum := "a437e67851cf2dd1e802cd9cdab1349dd11d945cfd7f8e98399dcd0ebb75f7cd", func := "weighbridge/weighbridgelaw12.ClockOrder", spec := "clockOrder", unfollowed := true, recurses := true, apart := false }
def ClockOrderSaid : Prop := clockOrderRow.holds Try.pinned (OpenSpec.ofChange clockOrderSpec)

/-- ITS FALSE NEIGHBOUR: 'it returns false'. Refute it at one input. -/
def clockOrderWrong : ChangeSpec := { name := "clockOrder", fn := fun _ => fun
  | [d1, d2, d3] => { results := [.lit (.bool false)], args := [d1, d2, d3] }
  | _ => none }
def ClockOrderWrongFalsely : Prop := clockOrderRow.holds Try.pinned (OpenSpec.ofChange clockOrderWrong)

/-- 'weighbridgelaw12.ClockTicks': WHATEVER THE INPUT: true; the input reads as it did. -/
def clockTicksSpec : ChangeSpec := { name := "clockTicks", fn := fun _ => fun
  | [d1, d2, d3] => { results := [.lit (.bool true)], args := [d1, d2, d3] }
  | _ => none }
def clockTicksRow : OpenClaim := { program := "ytocpanhhbjhklaa", sum := "a437e67851cf2dd1e802cd9cdab1349dd11d945cfd7f8e98399dcd0ebb75f7cd", func := "weighbridge/weighbridgelaw12.ClockTicks", spec := "clockTicks", unfollowed := true, recurses := true, apart := false }
def ClockTicksSaid : Prop := clockTicksRow.holds Try.pinned (OpenSpec.ofChange clockTicksSpec)

/-- ITS FALSE NEIGHBOUR: 'it returns false'. Refute it at one input. -/
def clockTicksWrong : ChangeSpec := { name := "clockTicks", fn := fun _ => fun
  | [d1, d2, d3] => { results := [.lit (.bool false)], args := [d1, d2, d3] }
  | _ => none }
def ClockTicksWrongFalsely : Prop := clockTicksRow.holds Try.pinned (OpenSpec.ofChange clockTicksWrong)

/-- 'weighbridgelaw12.ClockZeros': WHATEVER THE INPUT: true; the input reads as it did. -/
def clockZerosSpec : ChangeSpec := { name := "clockZeros", fn := fun _ => fun
  | [d1, d2, d3, d4] => { results := [.lit (.bool true)], args := [d1, d2, d3, d4] }
  | _ => none }
def clockZerosRow : OpenClaim := { program := "ytocpanhhbjhklaa", sum := "a437e67851cf2dd1e802cd9cdab1349dd11d945cfd7f8e98399dcd0ebb75f7cd", func := "weighbridge/weighbridgelaw12.ClockZeros", spec := "clockZeros", unfollowed := true, recurses := true, apart := false }
def ClockZerosSaid : Prop := clockZerosRow.holds Try.pinned (OpenSpec.ofChange clockZerosSpec)

/-- ITS FALSE NEIGHBOUR: 'it returns false'. Refute it at one input. -/
def clockZerosWrong : ChangeSpec := { name := "clockZeros", fn := fun _ => fun
  | [d1, d2, d3, d4] => { results := [.lit (.bool false)], args := [d1, d2, d3, d4] }
  | _ => none }
def ClockZerosWrongFalsely : Prop := clockZerosRow.holds Try.pinned (OpenSpec.ofChange clockZerosWrong)

/-- 'weighbridgelaw12.ClockKept': WHATEVER THE INPUT: true; the input reads as it did. -/
def clockKeptSpec : ChangeSpec := { name := "clockKept", fn := fun _ => fun
  | [d1, d2, d3] => { results := [.lit (.bool true)], args := [d1, d2, d3] }
  | _ => none }
def clockKeptRow : OpenClaim := { program := "ytocpanhhbjhklaa", sum := "a437e67851cf2dd1e802cd9cdab1349dd11d945cfd7f8e98399dcd0ebb75f7cd", func := "weighbridge/weighbridgelaw12.ClockKept", spec := "clockKept", unfollowed := true, recurses := true, apart := false }
def ClockKeptSaid : Prop := clockKeptRow.holds Try.pinned (OpenSpec.ofChange clockKeptSpec)

/-- ITS FALSE NEIGHBOUR: 'it returns false'. Refute it at one input. -/
def clockKeptWrong : ChangeSpec := { name := "clockKept", fn := fun _ => fun
  | [d1, d2, d3] => { results := [.lit (.bool false)], args := [d1, d2, d3] }
  | _ => none }
def ClockKeptWrongFalsely : Prop := clockKeptRow.holds Try.pinned (OpenSpec.ofChange clockKeptWrong)

/- THE SECOND FORM. 'bulk': how many values and letters a reading holds, each counted each time it is reached (what is shared counts as often as it is met; a slice's spare places count too). A statement '..UptoSaid' is the law's where the arguments, and the package variables that the reading takes, are together of bulk at most 1048576: NARROWER than '..Said'. Prove '..Said' where nothing that the law and all that it calls make is longer than what came in: it says more and counts as full. Else prove '..UptoSaid'. A law counts once. -/
mutual
def uptoBulk {H : Type} : DataW H → Nat
  | .lit (.string bytes) => bytes.length + 1
  | .lit _ => 1
  | .nil => 1
  | .ptr d => uptoBulk d + 1
  | .slice elems spare => uptoBulkAll elems + uptoBulkAll spare + 1
  | .agg parts => uptoBulkAll parts + 1
  | .iface _ d => uptoBulk d + 1
  | .map entries => uptoBulkEntries entries + 1
  | .held _ => 1
def uptoBulkAll {H : Type} : List (DataW H) → Nat
  | [] => 0
  | d :: r => uptoBulk d + uptoBulkAll r
def uptoBulkEntries {H : Type} : List (Lit × DataW H) → Nat
  | [] => 0
  | x :: r => uptoBulkEntry x + uptoBulkEntries r
def uptoBulkEntry {H : Type} : Lit × DataW H → Nat
  | (.string bytes, d) => bytes.length + uptoBulk d + 1
  | (_, d) => uptoBulk d + 1
 end
def uptoSmall : (H : Type) → List (DataW H) → Bool := fun _ ds => decide (uptoBulkAll ds ≤ 1048576)
def OpenSpec.upto (s : _root_.Go.ChangeSpec) : _root_.Go.OpenSpec := { _root_.Go.OpenSpec.ofChange s with cond := some uptoSmall }

/-- 'weighbridgelaw12.ClockAll', WHERE WHAT IT READS IS OF BULK AT MOST 1048576: true; the input reads as it did. -/
def clockAllUptoRow : OpenClaim := { program := "ytocpanhhbjhklaa", sum := "a437e67851cf2dd1e802cd9cdab1349dd11d945cfd7f8e98399dcd0ebb75f7cd", func := "weighbridge/weighbridgelaw12.ClockAll", spec := "clockAll", unfollowed := true, recurses := true, apart := false, narrowed := true }
def ClockAllUptoSaid : Prop := clockAllUptoRow.holds Try.pinned (OpenSpec.upto clockAllSpec)

/-- 'weighbridgelaw12.ClockJoin', WHERE WHAT IT READS IS OF BULK AT MOST 1048576: true; the input reads as it did. -/
def clockJoinUptoRow : OpenClaim := { program := "ytocpanhhbjhklaa", sum := "a437e67851cf2dd1e802cd9cdab1349dd11d945cfd7f8e98399dcd0ebb75f7cd", func := "weighbridge/weighbridgelaw12.ClockJoin", spec := "clockJoin", unfollowed := true, recurses := true, apart := false, narrowed := true }
def ClockJoinUptoSaid : Prop := clockJoinUptoRow.holds Try.pinned (OpenSpec.upto clockJoinSpec)

/-- 'weighbridgelaw12.ClockOrder', WHERE WHAT IT READS IS OF BULK AT MOST 1048576: true; the input reads as it did. -/
def clockOrderUptoRow : OpenClaim := { program := "ytocpanhhbjhklaa", sum := "a437e67851cf2dd1e802cd9cdab1349dd11d945cfd7f8e98399dcd0ebb75f7cd", func := "weighbridge/weighbridgelaw12.ClockOrder", spec := "clockOrder", unfollowed := true, recurses := true, apart := false, narrowed := true }
def ClockOrderUptoSaid : Prop := clockOrderUptoRow.holds Try.pinned (OpenSpec.upto clockOrderSpec)

/-- 'weighbridgelaw12.ClockTicks', WHERE WHAT IT READS IS OF BULK AT MOST 1048576: true; the input reads as it did. -/
def clockTicksUptoRow : OpenClaim := { program := "ytocpanhhbjhklaa", sum := "a437e67851cf2dd1e802cd9cdab1349dd11d945cfd7f8e98399dcd0ebb75f7cd", func := "weighbridge/weighbridgelaw12.ClockTicks", spec := "clockTicks", unfollowed := true, recurses := true, apart := false, narrowed := true }
def ClockTicksUptoSaid : Prop := clockTicksUptoRow.holds Try.pinned (OpenSpec.upto clockTicksSpec)

/-- 'weighbridgelaw12.ClockZeros', WHERE WHAT IT READS IS OF BULK AT MOST 1048576: true; the input reads as it did. -/
def clockZerosUptoRow : OpenClaim := { program := "ytocpanhhbjhklaa", sum := "a437e67851cf2dd1e802cd9cdab1349dd11d945cfd7f8e98399dcd0ebb75f7cd", func := "weighbridge/weighbridgelaw12.ClockZeros", spec := "clockZeros", unfollowed := true, recurses := true, apart := false, narrowed := true }
def ClockZerosUptoSaid : Prop := clockZerosUptoRow.holds Try.pinned (OpenSpec.upto clockZerosSpec)

/-- 'weighbridgelaw12.ClockKept', WHERE WHAT IT READS IS OF BULK AT MOST 1048576: true; the input reads as it did. -/
def clockKeptUptoRow : OpenClaim := { program := "ytocpanhhbjhklaa", sum := "a437e67851cf2dd1e802cd9cdab1349dd11d945cfd7f8e98399dcd0ebb75f7cd", func := "weighbridge/weighbridgelaw12.ClockKept", spec := "clockKept", unfollowed := true, recurses := true, apart := false, narrowed := true }
def ClockKeptUptoSaid : Prop := clockKeptUptoRow.holds Try.pinned (OpenSpec.upto clockKeptSpec)

end Rows
end Go.Proofs.Ytocpanhhbjhklaa
