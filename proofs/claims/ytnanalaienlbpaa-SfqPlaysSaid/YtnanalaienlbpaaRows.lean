/-
  No cell of these rows narrows 'for every input' (looked for: loops, veiled, ifaces, maps, wideKeys, modest, calm, conditions, laid).
  DERIVED. THE GIVEN ROWS OF THIS SEAT. 6 by the template 'for every input the law returns true; each argument reads behind the call as it read before'; 0 by the template 'total and deterministic' (their statements: YtnanalaienlbpaaTotals.lean).
  GIVEN WITH THE SEED: the statements are not yours to turn. If you find one false, say at which input.
  Laid BY PROGRAM, IN A SANDBOX (cutbox-rows.mjs): the forced cells as the released guide's own fill.sh prints them over the translation f83e5d1dca1ffbe5… (all of the seat's roots in one cut). By AI agents, Wed Nov 11 2026. No macro, syntax, notation, axiom, sorry.
-/
import Derived.Test.YtnanalaienlbpaaChecked
import GoSem.Claim
import GoSem.ClaimJoined
import GoSem.ClaimMapViews
import Derived.JoinedTies
import Derived.KernelRfl
namespace Go.Proofs.Ytnanalaienlbpaa
/- THE CELL 'sum', in the pinned program and in every row, IS THE sha256 OF THE DUMP (.gsa) THAT YtnanalaienlbpaaProg.lean LOADS. Nothing in Lean hashes anything: it is a label: what it is worth is what the hold of that sum in a sandbox is worth. -/
noncomputable def Try.pinned : Pinned := { name := "ytnanalaienlbpaa", sum := "f83e5d1dca1ffbe524036f55a82c5d65a60155f9890871729e4ee066b3eb59c3", checked := Try.checked }
namespace Rows
def none {H : Type} : Left H := { results := [], args := [] }

/-- 'weighbridgelaw10.SfqFair': WHATEVER THE INPUT: true; the input reads as it did. -/
def sfqFairSpec : ChangeSpec := { name := "sfqFair", fn := fun _ => fun
  | [d1, d2, d3, d4] => { results := [.lit (.bool true)], args := [d1, d2, d3, d4] }
  | _ => none }
def sfqFairRow : OpenClaim := { program := "ytnanalaienlbpaa", sum := "f83e5d1dca1ffbe524036f55a82c5d65a60155f9890871729e4ee066b3eb59c3", func := "weighbridge/weighbridgelaw10.SfqFair", spec := "sfqFair", inPlace := ["math/bits.Add64"], unfollowed := true, recurses := true, apart := false }
def SfqFairSaid : Prop := sfqFairRow.holds Try.pinned (OpenSpec.ofChange sfqFairSpec)

/-- ITS FALSE NEIGHBOUR: 'it returns false'. Refute it at one input. -/
def sfqFairWrong : ChangeSpec := { name := "sfqFair", fn := fun _ => fun
  | [d1, d2, d3, d4] => { results := [.lit (.bool false)], args := [d1, d2, d3, d4] }
  | _ => none }
def SfqFairWrongFalsely : Prop := sfqFairRow.holds Try.pinned (OpenSpec.ofChange sfqFairWrong)

/-- 'weighbridgelaw10.SfqRises': WHATEVER THE INPUT: true; the input reads as it did. -/
def sfqRisesSpec : ChangeSpec := { name := "sfqRises", fn := fun _ => fun
  | [d] => { results := [.lit (.bool true)], args := [d] }
  | _ => none }
def sfqRisesRow : OpenClaim := { program := "ytnanalaienlbpaa", sum := "f83e5d1dca1ffbe524036f55a82c5d65a60155f9890871729e4ee066b3eb59c3", func := "weighbridge/weighbridgelaw10.SfqRises", spec := "sfqRises", inPlace := ["math/bits.Add64"], unfollowed := true, recurses := true, apart := false }
def SfqRisesSaid : Prop := sfqRisesRow.holds Try.pinned (OpenSpec.ofChange sfqRisesSpec)

/-- ITS FALSE NEIGHBOUR: 'it returns false'. Refute it at one input. -/
def sfqRisesWrong : ChangeSpec := { name := "sfqRises", fn := fun _ => fun
  | [d] => { results := [.lit (.bool false)], args := [d] }
  | _ => none }
def SfqRisesWrongFalsely : Prop := sfqRisesRow.holds Try.pinned (OpenSpec.ofChange sfqRisesWrong)

/-- 'weighbridgelaw10.SfqLeast': WHATEVER THE INPUT: true; the input reads as it did. -/
def sfqLeastSpec : ChangeSpec := { name := "sfqLeast", fn := fun _ => fun
  | [d] => { results := [.lit (.bool true)], args := [d] }
  | _ => none }
def sfqLeastRow : OpenClaim := { program := "ytnanalaienlbpaa", sum := "f83e5d1dca1ffbe524036f55a82c5d65a60155f9890871729e4ee066b3eb59c3", func := "weighbridge/weighbridgelaw10.SfqLeast", spec := "sfqLeast", inPlace := ["math/bits.Add64"], unfollowed := true, recurses := true, apart := false }
def SfqLeastSaid : Prop := sfqLeastRow.holds Try.pinned (OpenSpec.ofChange sfqLeastSpec)

/-- ITS FALSE NEIGHBOUR: 'it returns false'. Refute it at one input. -/
def sfqLeastWrong : ChangeSpec := { name := "sfqLeast", fn := fun _ => fun
  | [d] => { results := [.lit (.bool false)], args := [d] }
  | _ => none }
def SfqLeastWrongFalsely : Prop := sfqLeastRow.holds Try.pinned (OpenSpec.ofChange sfqLeastWrong)

/-- 'weighbridgelaw10.SfqKept': WHATEVER THE INPUT: true; the input reads as it did. -/
def sfqKeptSpec : ChangeSpec := { name := "sfqKept", fn := fun _ => fun
  | [d] => { results := [.lit (.bool true)], args := [d] }
  | _ => none }
def sfqKeptRow : OpenClaim := { program := "ytnanalaienlbpaa", sum := "f83e5d1dca1ffbe524036f55a82c5d65a60155f9890871729e4ee066b3eb59c3", func := "weighbridge/weighbridgelaw10.SfqKept", spec := "sfqKept", inPlace := ["math/bits.Add64"], unfollowed := true, recurses := true, apart := false }
def SfqKeptSaid : Prop := sfqKeptRow.holds Try.pinned (OpenSpec.ofChange sfqKeptSpec)

/-- ITS FALSE NEIGHBOUR: 'it returns false'. Refute it at one input. -/
def sfqKeptWrong : ChangeSpec := { name := "sfqKept", fn := fun _ => fun
  | [d] => { results := [.lit (.bool false)], args := [d] }
  | _ => none }
def SfqKeptWrongFalsely : Prop := sfqKeptRow.holds Try.pinned (OpenSpec.ofChange sfqKeptWrong)

/-- 'weighbridgelaw10.SfqAgain': WHATEVER THE INPUT: true; the input reads as it did. -/
def sfqAgainSpec : ChangeSpec := { name := "sfqAgain", fn := fun _ => fun
  | [d1, d2, d3] => { results := [.lit (.bool true)], args := [d1, d2, d3] }
  | _ => none }
def sfqAgainRow : OpenClaim := { program := "ytnanalaienlbpaa", sum := "f83e5d1dca1ffbe524036f55a82c5d65a60155f9890871729e4ee066b3eb59c3", func := "weighbridge/weighbridgelaw10.SfqAgain", spec := "sfqAgain", inPlace := ["math/bits.Add64"], unfollowed := true, recurses := true, apart := false }
def SfqAgainSaid : Prop := sfqAgainRow.holds Try.pinned (OpenSpec.ofChange sfqAgainSpec)

/-- ITS FALSE NEIGHBOUR: 'it returns false'. Refute it at one input. -/
def sfqAgainWrong : ChangeSpec := { name := "sfqAgain", fn := fun _ => fun
  | [d1, d2, d3] => { results := [.lit (.bool false)], args := [d1, d2, d3] }
  | _ => none }
def SfqAgainWrongFalsely : Prop := sfqAgainRow.holds Try.pinned (OpenSpec.ofChange sfqAgainWrong)

/-- 'weighbridgelaw10.SfqPlays': WHATEVER THE INPUT: true; the input reads as it did. -/
def sfqPlaysSpec : ChangeSpec := { name := "sfqPlays", fn := fun _ => fun
  | [d1, d2] => { results := [.lit (.bool true)], args := [d1, d2] }
  | _ => none }
def sfqPlaysRow : OpenClaim := { program := "ytnanalaienlbpaa", sum := "f83e5d1dca1ffbe524036f55a82c5d65a60155f9890871729e4ee066b3eb59c3", func := "weighbridge/weighbridgelaw10.SfqPlays", spec := "sfqPlays", inPlace := ["math/bits.Add64"], unfollowed := true, recurses := true, apart := false }
def SfqPlaysSaid : Prop := sfqPlaysRow.holds Try.pinned (OpenSpec.ofChange sfqPlaysSpec)

/-- ITS FALSE NEIGHBOUR: 'it returns false'. Refute it at one input. -/
def sfqPlaysWrong : ChangeSpec := { name := "sfqPlays", fn := fun _ => fun
  | [d1, d2] => { results := [.lit (.bool false)], args := [d1, d2] }
  | _ => none }
def SfqPlaysWrongFalsely : Prop := sfqPlaysRow.holds Try.pinned (OpenSpec.ofChange sfqPlaysWrong)

/- THE SECOND FORM. 'bulk': how many values and letters a reading holds, each counted each time it is reached (what is shared counts as often as it is met; a slice's spare places count too). A statement '..UptoSaid' is the law's where the arguments, and the package variables that the reading takes, are together of bulk at most 1048576: NARROWER than '..Said'. Prove '..Said' where nothing that the law and all that it calls make is longer than what came in: it says more and counts as full. Else prove '..UptoSaid'. A law counts once. -/
mutual
def uptoBulk {H : Type} : DataW H → Nat
  | .lit (.string bytes) => bytes.length + 1
  | .lit _ => 1
  | .nil => 1
  | .ptr d => uptoBulk d + 1
  | .slice elems spare => uptoBulkAll elems + uptoBulkAll spare + 1
  | .agg parts => uptoBulkAll parts + 1
  | .iface _ d => uptoBulk d + 1
  | .map entries => uptoBulkEntries entries + 1
  | .held _ => 1
def uptoBulkAll {H : Type} : List (DataW H) → Nat
  | [] => 0
  | d :: r => uptoBulk d + uptoBulkAll r
def uptoBulkEntries {H : Type} : List (Lit × DataW H) → Nat
  | [] => 0
  | x :: r => uptoBulkEntry x + uptoBulkEntries r
def uptoBulkEntry {H : Type} : Lit × DataW H → Nat
  | (.string bytes, d) => bytes.length + uptoBulk d + 1
  | (_, d) => uptoBulk d + 1
 end
def uptoSmall : (H : Type) → List (DataW H) → Bool := fun _ ds => decide (uptoBulkAll ds ≤ 1048576)
def OpenSpec.upto (s : _root_.Go.ChangeSpec) : _root_.Go.OpenSpec := { _root_.Go.OpenSpec.ofChange s with cond := some uptoSmall }

/-- 'weighbridgelaw10.SfqFair', WHERE WHAT IT READS IS OF BULK AT MOST 1048576: true; the input reads as it did. -/
def sfqFairUptoRow : OpenClaim := { program := "ytnanalaienlbpaa", sum := "f83e5d1dca1ffbe524036f55a82c5d65a60155f9890871729e4ee066b3eb59c3", func := "weighbridge/weighbridgelaw10.SfqFair", spec := "sfqFair", inPlace := ["math/bits.Add64"], unfollowed := true, recurses := true, apart := false, narrowed := true }
def SfqFairUptoSaid : Prop := sfqFairUptoRow.holds Try.pinned (OpenSpec.upto sfqFairSpec)

/-- 'weighbridgelaw10.SfqRises', WHERE WHAT IT READS IS OF BULK AT MOST 1048576: true; the input reads as it did. -/
def sfqRisesUptoRow : OpenClaim := { program := "ytnanalaienlbpaa", sum := "f83e5d1dca1ffbe524036f55a82c5d65a60155f9890871729e4ee066b3eb59c3", func := "weighbridge/weighbridgelaw10.SfqRises", spec := "sfqRises", inPlace := ["math/bits.Add64"], unfollowed := true, recurses := true, apart := false, narrowed := true }
def SfqRisesUptoSaid : Prop := sfqRisesUptoRow.holds Try.pinned (OpenSpec.upto sfqRisesSpec)

/-- 'weighbridgelaw10.SfqLeast', WHERE WHAT IT READS IS OF BULK AT MOST 1048576: true; the input reads as it did. -/
def sfqLeastUptoRow : OpenClaim := { program := "ytnanalaienlbpaa", sum := "f83e5d1dca1ffbe524036f55a82c5d65a60155f9890871729e4ee066b3eb59c3", func := "weighbridge/weighbridgelaw10.SfqLeast", spec := "sfqLeast", inPlace := ["math/bits.Add64"], unfollowed := true, recurses := true, apart := false, narrowed := true }
def SfqLeastUptoSaid : Prop := sfqLeastUptoRow.holds Try.pinned (OpenSpec.upto sfqLeastSpec)

/-- 'weighbridgelaw10.SfqKept', WHERE WHAT IT READS IS OF BULK AT MOST 1048576: true; the input reads as it did. -/
def sfqKeptUptoRow : OpenClaim := { program := "ytnanalaienlbpaa", sum := "f83e5d1dca1ffbe524036f55a82c5d65a60155f9890871729e4ee066b3eb59c3", func := "weighbridge/weighbridgelaw10.SfqKept", spec := "sfqKept", inPlace := ["math/bits.Add64"], unfollowed := true, recurses := true, apart := false, narrowed := true }
def SfqKeptUptoSaid : Prop := sfqKeptUptoRow.holds Try.pinned (OpenSpec.upto sfqKeptSpec)

/-- 'weighbridgelaw10.SfqAgain', WHERE WHAT IT READS IS OF BULK AT MOST 1048576: true; the input reads as it did. -/
def sfqAgainUptoRow : OpenClaim := { program := "ytnanalaienlbpaa", sum := "f83e5d1dca1ffbe524036f55a82c5d65a60155f9890871729e4ee066b3eb59c3", func := "weighbridge/weighbridgelaw10.SfqAgain", spec := "sfqAgain", inPlace := ["math/bits.Add64"], unfollowed := true, recurses := true, apart := false, narrowed := true }
def SfqAgainUptoSaid : Prop := sfqAgainUptoRow.holds Try.pinned (OpenSpec.upto sfqAgainSpec)

/-- 'weighbridgelaw10.SfqPlays', WHERE WHAT IT READS IS OF BULK AT MOST 1048576: true; the input reads as it did. -/
def sfqPlaysUptoRow : OpenClaim := { program := "ytnanalaienlbpaa", sum := "f83e5d1dca1ffbe524036f55a82c5d65a60155f9890871729e4ee066b3eb59c3", func := "weighbridge/weighbridgelaw10.SfqPlays", spec := "sfqPlays", inPlace := ["math/bits.Add64"], unfollowed := true, recurses := true, apart := false, narrowed := true }
def SfqPlaysUptoSaid : Prop := sfqPlaysUptoRow.holds Try.pinned (OpenSpec.upto sfqPlaysSpec)

end Rows
end Go.Proofs.Ytnanalaienlbpaa
