/-
  No cell of these rows narrows 'for every input' (looked for: loops, veiled, ifaces, maps, wideKeys, modest, calm, conditions, laid).
  DERIVED. THE GIVEN ROWS OF THIS SEAT. 8 by the template 'for every input the law returns true; each argument reads behind the call as it read before'; 0 by the template 'total and deterministic' (their statements: YtkhhjjjpbfnlmaaTotals.lean).
  GIVEN WITH THE SEED: the statements are not yours to turn. If you find one false, say at which input.
  Laid BY PROGRAM, IN A SANDBOX (cutbox-rows.mjs): the forced cells as the released guide's own fill.sh prints them over the translation 040d8573083dd87b… (all of the seat's roots in one cut). By AI agents, Wed Nov 11 2026. No macro, syntax, notation, axiom, sorry.
-/
import Derived.Test.YtkhhjjjpbfnlmaaChecked
import GoSem.Claim
import GoSem.ClaimJoined
import GoSem.ClaimMapViews
import Derived.JoinedTies
import Derived.KernelRfl
namespace Go.Proofs.Ytkhhjjjpbfnlmaa
/- THE CELL 'sum', in the pinned program and in every row, IS THE sha256 OF THE DUMP (.gsa) THAT YtkhhjjjpbfnlmaaProg.lean LOADS. Nothing in Lean hashes anything: it is a label: what it is worth is what the hold of that sum in a sandbox is worth. -/
noncomputable def Try.pinned : Pinned := { name := "ytkhhjjjpbfnlmaa", sum := "040d8573083dd87b06a362f4a01c5a6acce047fe43d7566631e806386dadf1a0", checked := Try.checked }
namespace Rows
def none {H : Type} : Left H := { results := [], args := [] }

/-- 'weighbridgelaw13.RaceAll': WHATEVER THE INPUT: true; the input reads as it did. -/
def raceAllSpec : ChangeSpec := { name := "raceAll", fn := fun _ => fun
  | [d1, d2] => { results := [.lit (.bool true)], args := [d1, d2] }
  | _ => none }
def raceAllRow : OpenClaim := { program := "ytkhhjjjpbfnlmaa", sum := "040d8573083dd87b06a362f4a01c5a6acce047fe43d7566631e806386dadf1a0", func := "weighbridge/weighbridgelaw13.RaceAll", spec := "raceAll", unfollowed := true, recurses := true, plainKeys := false, apart := false }
def RaceAllSaid : Prop := raceAllRow.holds Try.pinned (OpenSpec.ofChange raceAllSpec)

/-- ITS FALSE NEIGHBOUR: 'it returns false'. Refute it at one input. -/
def raceAllWrong : ChangeSpec := { name := "raceAll", fn := fun _ => fun
  | [d1, d2] => { results := [.lit (.bool false)], args := [d1, d2] }
  | _ => none }
def RaceAllWrongFalsely : Prop := raceAllRow.holds Try.pinned (OpenSpec.ofChange raceAllWrong)

/-- 'weighbridgelaw13.RaceRaw': WHATEVER THE INPUT: true; the input reads as it did. -/
def raceRawSpec : ChangeSpec := { name := "raceRaw", fn := fun _ => fun
  | [d1, d2, d3] => { results := [.lit (.bool true)], args := [d1, d2, d3] }
  | _ => none }
def raceRawRow : OpenClaim := { program := "ytkhhjjjpbfnlmaa", sum := "040d8573083dd87b06a362f4a01c5a6acce047fe43d7566631e806386dadf1a0", func := "weighbridge/weighbridgelaw13.RaceRaw", spec := "raceRaw", unfollowed := true, recurses := true, plainKeys := false, apart := false }
def RaceRawSaid : Prop := raceRawRow.holds Try.pinned (OpenSpec.ofChange raceRawSpec)

/-- ITS FALSE NEIGHBOUR: 'it returns false'. Refute it at one input. -/
def raceRawWrong : ChangeSpec := { name := "raceRaw", fn := fun _ => fun
  | [d1, d2, d3] => { results := [.lit (.bool false)], args := [d1, d2, d3] }
  | _ => none }
def RaceRawWrongFalsely : Prop := raceRawRow.holds Try.pinned (OpenSpec.ofChange raceRawWrong)

/-- 'weighbridgelaw13.RaceConflict': WHATEVER THE INPUT: true; the input reads as it did. -/
def raceConflictSpec : ChangeSpec := { name := "raceConflict", fn := fun _ => fun
  | [d1, d2, d3] => { results := [.lit (.bool true)], args := [d1, d2, d3] }
  | _ => none }
def raceConflictRow : OpenClaim := { program := "ytkhhjjjpbfnlmaa", sum := "040d8573083dd87b06a362f4a01c5a6acce047fe43d7566631e806386dadf1a0", func := "weighbridge/weighbridgelaw13.RaceConflict", spec := "raceConflict", unfollowed := true, recurses := true, plainKeys := false, apart := false }
def RaceConflictSaid : Prop := raceConflictRow.holds Try.pinned (OpenSpec.ofChange raceConflictSpec)

/-- ITS FALSE NEIGHBOUR: 'it returns false'. Refute it at one input. -/
def raceConflictWrong : ChangeSpec := { name := "raceConflict", fn := fun _ => fun
  | [d1, d2, d3] => { results := [.lit (.bool false)], args := [d1, d2, d3] }
  | _ => none }
def RaceConflictWrongFalsely : Prop := raceConflictRow.holds Try.pinned (OpenSpec.ofChange raceConflictWrong)

/-- 'weighbridgelaw13.RaceBefore': WHATEVER THE INPUT: true; the input reads as it did. -/
def raceBeforeSpec : ChangeSpec := { name := "raceBefore", fn := fun _ => fun
  | [d1, d2, d3, d4] => { results := [.lit (.bool true)], args := [d1, d2, d3, d4] }
  | _ => none }
def raceBeforeRow : OpenClaim := { program := "ytkhhjjjpbfnlmaa", sum := "040d8573083dd87b06a362f4a01c5a6acce047fe43d7566631e806386dadf1a0", func := "weighbridge/weighbridgelaw13.RaceBefore", spec := "raceBefore", unfollowed := true, recurses := true, plainKeys := false, apart := false }
def RaceBeforeSaid : Prop := raceBeforeRow.holds Try.pinned (OpenSpec.ofChange raceBeforeSpec)

/-- ITS FALSE NEIGHBOUR: 'it returns false'. Refute it at one input. -/
def raceBeforeWrong : ChangeSpec := { name := "raceBefore", fn := fun _ => fun
  | [d1, d2, d3, d4] => { results := [.lit (.bool false)], args := [d1, d2, d3, d4] }
  | _ => none }
def RaceBeforeWrongFalsely : Prop := raceBeforeRow.holds Try.pinned (OpenSpec.ofChange raceBeforeWrong)

/-- 'weighbridgelaw13.RaceOrder': WHATEVER THE INPUT: true; the input reads as it did. -/
def raceOrderSpec : ChangeSpec := { name := "raceOrder", fn := fun _ => fun
  | [d1, d2] => { results := [.lit (.bool true)], args := [d1, d2] }
  | _ => none }
def raceOrderRow : OpenClaim := { program := "ytkhhjjjpbfnlmaa", sum := "040d8573083dd87b06a362f4a01c5a6acce047fe43d7566631e806386dadf1a0", func := "weighbridge/weighbridgelaw13.RaceOrder", spec := "raceOrder", unfollowed := true, recurses := true, plainKeys := false, apart := false }
def RaceOrderSaid : Prop := raceOrderRow.holds Try.pinned (OpenSpec.ofChange raceOrderSpec)

/-- ITS FALSE NEIGHBOUR: 'it returns false'. Refute it at one input. -/
def raceOrderWrong : ChangeSpec := { name := "raceOrder", fn := fun _ => fun
  | [d1, d2] => { results := [.lit (.bool false)], args := [d1, d2] }
  | _ => none }
def RaceOrderWrongFalsely : Prop := raceOrderRow.holds Try.pinned (OpenSpec.ofChange raceOrderWrong)

/-- 'weighbridgelaw13.RaceFront': WHATEVER THE INPUT: true; the input reads as it did. -/
def raceFrontSpec : ChangeSpec := { name := "raceFront", fn := fun _ => fun
  | [d1, d2, d3] => { results := [.lit (.bool true)], args := [d1, d2, d3] }
  | _ => none }
def raceFrontRow : OpenClaim := { program := "ytkhhjjjpbfnlmaa", sum := "040d8573083dd87b06a362f4a01c5a6acce047fe43d7566631e806386dadf1a0", func := "weighbridge/weighbridgelaw13.RaceFront", spec := "raceFront", unfollowed := true, recurses := true, plainKeys := false, apart := false }
def RaceFrontSaid : Prop := raceFrontRow.holds Try.pinned (OpenSpec.ofChange raceFrontSpec)

/-- ITS FALSE NEIGHBOUR: 'it returns false'. Refute it at one input. -/
def raceFrontWrong : ChangeSpec := { name := "raceFront", fn := fun _ => fun
  | [d1, d2, d3] => { results := [.lit (.bool false)], args := [d1, d2, d3] }
  | _ => none }
def RaceFrontWrongFalsely : Prop := raceFrontRow.holds Try.pinned (OpenSpec.ofChange raceFrontWrong)

/-- 'weighbridgelaw13.RaceHands': WHATEVER THE INPUT: true; the input reads as it did. -/
def raceHandsSpec : ChangeSpec := { name := "raceHands", fn := fun _ => fun
  | [d1, d2, d3, d4, d5, d6, d7] => { results := [.lit (.bool true)], args := [d1, d2, d3, d4, d5, d6, d7] }
  | _ => none }
def raceHandsRow : OpenClaim := { program := "ytkhhjjjpbfnlmaa", sum := "040d8573083dd87b06a362f4a01c5a6acce047fe43d7566631e806386dadf1a0", func := "weighbridge/weighbridgelaw13.RaceHands", spec := "raceHands", unfollowed := true, recurses := true, plainKeys := false, apart := false }
def RaceHandsSaid : Prop := raceHandsRow.holds Try.pinned (OpenSpec.ofChange raceHandsSpec)

/-- ITS FALSE NEIGHBOUR: 'it returns false'. Refute it at one input. -/
def raceHandsWrong : ChangeSpec := { name := "raceHands", fn := fun _ => fun
  | [d1, d2, d3, d4, d5, d6, d7] => { results := [.lit (.bool false)], args := [d1, d2, d3, d4, d5, d6, d7] }
  | _ => none }
def RaceHandsWrongFalsely : Prop := raceHandsRow.holds Try.pinned (OpenSpec.ofChange raceHandsWrong)

/-- 'weighbridgelaw13.RaceKept': WHATEVER THE INPUT: true; the input reads as it did. -/
def raceKeptSpec : ChangeSpec := { name := "raceKept", fn := fun _ => fun
  | [d1, d2] => { results := [.lit (.bool true)], args := [d1, d2] }
  | _ => none }
def raceKeptRow : OpenClaim := { program := "ytkhhjjjpbfnlmaa", sum := "040d8573083dd87b06a362f4a01c5a6acce047fe43d7566631e806386dadf1a0", func := "weighbridge/weighbridgelaw13.RaceKept", spec := "raceKept", unfollowed := true, recurses := true, plainKeys := false, apart := false }
def RaceKeptSaid : Prop := raceKeptRow.holds Try.pinned (OpenSpec.ofChange raceKeptSpec)

/-- ITS FALSE NEIGHBOUR: 'it returns false'. Refute it at one input. -/
def raceKeptWrong : ChangeSpec := { name := "raceKept", fn := fun _ => fun
  | [d1, d2] => { results := [.lit (.bool false)], args := [d1, d2] }
  | _ => none }
def RaceKeptWrongFalsely : Prop := raceKeptRow.holds Try.pinned (OpenSpec.ofChange raceKeptWrong)

/- THE SECOND FORM. 'bulk': how many values and letters a reading holds, each counted each time it is reached (what is shared counts as often as it is met; a slice's spare places count too). A statement '..UptoSaid' is the law's where the arguments, and the package variables that the reading takes, are together of bulk at most 1048576: NARROWER than '..Said'. Prove '..Said' where nothing that the law and all that it calls make is longer than what came in: it says more and counts as full. Else prove '..UptoSaid'. A law counts once. -/
mutual
def uptoBulk {H : Type} : DataW H → Nat
  | .lit (.string bytes) => bytes.length + 1
  | .lit _ => 1
  | .nil => 1
  | .ptr d => uptoBulk d + 1
  | .slice elems spare => uptoBulkAll elems + uptoBulkAll spare + 1
  | .agg parts => uptoBulkAll parts + 1
  | .iface _ d => uptoBulk d + 1
  | .map entries => uptoBulkEntries entries + 1
  | .held _ => 1
def uptoBulkAll {H : Type} : List (DataW H) → Nat
  | [] => 0
  | d :: r => uptoBulk d + uptoBulkAll r
def uptoBulkEntries {H : Type} : List (Lit × DataW H) → Nat
  | [] => 0
  | x :: r => uptoBulkEntry x + uptoBulkEntries r
def uptoBulkEntry {H : Type} : Lit × DataW H → Nat
  | (.string bytes, d) => bytes.length + uptoBulk d + 1
  | (_, d) => uptoBulk d + 1
 end
def uptoSmall : (H : Type) → List (DataW H) → Bool := fun _ ds => decide (uptoBulkAll ds ≤ 1048576)
def OpenSpec.upto (s : _root_.Go.ChangeSpec) : _root_.Go.OpenSpec := { _root_.Go.OpenSpec.ofChange s with cond := some uptoSmall }

/-- 'weighbridgelaw13.RaceAll', WHERE WHAT IT READS IS OF BULK AT MOST 1048576: true; the input reads as it did. -/
def raceAllUptoRow : OpenClaim := { program := "ytkhhjjjpbfnlmaa", sum := "040d8573083dd87b06a362f4a01c5a6acce047fe43d7566631e806386dadf1a0", func := "weighbridge/weighbridgelaw13.RaceAll", spec := "raceAll", unfollowed := true, recurses := true, plainKeys := false, apart := false, narrowed := true }
def RaceAllUptoSaid : Prop := raceAllUptoRow.holds Try.pinned (OpenSpec.upto raceAllSpec)

/-- 'weighbridgelaw13.RaceRaw', WHERE WHAT IT READS IS OF BULK AT MOST 1048576: true; the input reads as it did. -/
def raceRawUptoRow : OpenClaim := { program := "ytkhhjjjpbfnlmaa", sum := "040d8573083dd87b06a362f4a01c5a6acce047fe43d7566631e806386dadf1a0", func := "weighbridge/weighbridgelaw13.RaceRaw", spec := "raceRaw", unfollowed := true, recurses := true, plainKeys := false, apart := false, narrowed := true }
def RaceRawUptoSaid : Prop := raceRawUptoRow.holds Try.pinned (OpenSpec.upto raceRawSpec)

/-- 'weighbridgelaw13.RaceConflict', WHERE WHAT IT READS IS OF BULK AT MOST 1048576: true; the input reads as it did. -/
def raceConflictUptoRow : OpenClaim := { program := "ytkhhjjjpbfnlmaa", sum := "040d8573083dd87b06a362f4a01c5a6acce047fe43d7566631e806386dadf1a0", func := "weighbridge/weighbridgelaw13.RaceConflict", spec := "raceConflict", unfollowed := true, recurses := true, plainKeys := false, apart := false, narrowed := true }
def RaceConflictUptoSaid : Prop := raceConflictUptoRow.holds Try.pinned (OpenSpec.upto raceConflictSpec)

/-- 'weighbridgelaw13.RaceBefore', WHERE WHAT IT READS IS OF BULK AT MOST 1048576: true; the input reads as it did. -/
def raceBeforeUptoRow : OpenClaim := { program := "ytkhhjjjpbfnlmaa", sum := "040d8573083dd87b06a362f4a01c5a6acce047fe43d7566631e806386dadf1a0", func := "weighbridge/weighbridgelaw13.RaceBefore", spec := "raceBefore", unfollowed := true, recurses := true, plainKeys := false, apart := false, narrowed := true }
def RaceBeforeUptoSaid : Prop := raceBeforeUptoRow.holds Try.pinned (OpenSpec.upto raceBeforeSpec)

/-- 'weighbridgelaw13.RaceOrder', WHERE WHAT IT READS IS OF BULK AT MOST 1048576: true; the input reads as it did. -/
def raceOrderUptoRow : OpenClaim := { program := "ytkhhjjjpbfnlmaa", sum := "040d8573083dd87b06a362f4a01c5a6acce047fe43d7566631e806386dadf1a0", func := "weighbridge/weighbridgelaw13.RaceOrder", spec := "raceOrder", unfollowed := true, recurses := true, plainKeys := false, apart := false, narrowed := true }
def RaceOrderUptoSaid : Prop := raceOrderUptoRow.holds Try.pinned (OpenSpec.upto raceOrderSpec)

/-- 'weighbridgelaw13.RaceFront', WHERE WHAT IT READS IS OF BULK AT MOST 1048576: true; the input reads as it did. -/
def raceFrontUptoRow : OpenClaim := { program := "ytkhhjjjpbfnlmaa", sum := "040d8573083dd87b06a362f4a01c5a6acce047fe43d7566631e806386dadf1a0", func := "weighbridge/weighbridgelaw13.RaceFront", spec := "raceFront", unfollowed := true, recurses := true, plainKeys := false, apart := false, narrowed := true }
def RaceFrontUptoSaid : Prop := raceFrontUptoRow.holds Try.pinned (OpenSpec.upto raceFrontSpec)

/-- 'weighbridgelaw13.RaceHands', WHERE WHAT IT READS IS OF BULK AT MOST 1048576: true; the input reads as it did. -/
def raceHandsUptoRow : OpenClaim := { program := "ytkhhjjjpbfnlmaa", sum := "040d8573083dd87b06a362f4a01c5a6acce047fe43d7566631e806386dadf1a0", func := "weighbridge/weighbridgelaw13.RaceHands", spec := "raceHands", unfollowed := true, recurses := true, plainKeys := false, apart := false, narrowed := true }
def RaceHandsUptoSaid : Prop := raceHandsUptoRow.holds Try.pinned (OpenSpec.upto raceHandsSpec)

/-- 'weighbridgelaw13.RaceKept', WHERE WHAT IT READS IS OF BULK AT MOST 1048576: true; the input reads as it did. -/
def raceKeptUptoRow : OpenClaim := { program := "ytkhhjjjpbfnlmaa", sum := "040d8573083dd87b06a362f4a01c5a6acce047fe43d7566631e806386dadf1a0", func := "weighbridge/weighbridgelaw13.RaceKept", spec := "raceKept", unfollowed := true, recurses := true, plainKeys := false, apart := false, narrowed := true }
def RaceKeptUptoSaid : Prop := raceKeptUptoRow.holds Try.pinned (OpenSpec.upto raceKeptSpec)

end Rows
end Go.Proofs.Ytkhhjjjpbfnlmaa
