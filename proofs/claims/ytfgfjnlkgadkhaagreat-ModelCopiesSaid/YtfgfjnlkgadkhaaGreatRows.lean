/-
  No cell of these rows narrows 'for every input' (looked for: loops, veiled, ifaces, maps, wideKeys, modest, calm, conditions, laid).
  DERIVED. THE GIVEN ROWS OF THIS SEAT. 6 by the template 'for every input the law returns true; each argument reads behind the call as it read before'; 0 by the template 'total and deterministic' (their statements: YtfgfjnlkgadkhaaGreatTotals.lean).
  GIVEN WITH THE SEED: the statements are not yours to turn. If you find one false, say at which input.
  Laid BY PROGRAM, IN A SANDBOX (cutbox-rows.mjs): the forced cells as the released guide's own fill.sh prints them over the translation c5ef3b09a06f5d6d… (all of the seat's roots in one cut). By AI agents, Wed Nov 11 2026. No macro, syntax, notation, axiom, sorry.
-/
import Derived.Test.YtfgfjnlkgadkhaaGreatChecked
import GoSem.Claim
import GoSem.ClaimJoined
import GoSem.ClaimMapViews
import Derived.JoinedTies
import Derived.KernelRfl
namespace Go.Proofs.YtfgfjnlkgadkhaaGreat
/- THE CELL 'sum', in the pinned program and in every row, IS THE sha256 OF THE DUMP (.gsa) THAT YtfgfjnlkgadkhaaGreatProg.lean LOADS. Nothing in Lean hashes anything: it is a label: what it is worth is what the hold of that sum in a sandbox is worth. -/
noncomputable def Tryz.pinned : Pinned := { name := "ytfgfjnlkgadkhaagreat", sum := "c5ef3b09a06f5d6d152f540f274e66481757689a2fca1f8e5f03440411f4f98a", checked := Tryz.checked }
namespace Rows
def none {H : Type} : Left H := { results := [], args := [] }

/-- 'weighbridgelaw11.ModelBatch': WHATEVER THE INPUT: true; the input reads as it did. -/
def modelBatchSpec : ChangeSpec := { name := "modelBatch", fn := fun _ => fun
  | [d1, d2, d3] => { results := [.lit (.bool true)], args := [d1, d2, d3] }
  | _ => none }
def modelBatchRow : OpenClaim := { program := "ytfgfjnlkgadkhaagreat", sum := "c5ef3b09a06f5d6d152f540f274e66481757689a2fca1f8e5f03440411f4f98a", func := "weighbridge/weighbridgelaw11.ModelBatch", spec := "modelBatch", inPlace := ["math/bits.Add64", "maps.clone"], unfollowed := true, recurses := true, apart := false }
def ModelBatchSaid : Prop := modelBatchRow.holds Tryz.pinned (OpenSpec.ofChange modelBatchSpec)

/-- ITS FALSE NEIGHBOUR: 'it returns false'. Refute it at one input. -/
def modelBatchWrong : ChangeSpec := { name := "modelBatch", fn := fun _ => fun
  | [d1, d2, d3] => { results := [.lit (.bool false)], args := [d1, d2, d3] }
  | _ => none }
def ModelBatchWrongFalsely : Prop := modelBatchRow.holds Tryz.pinned (OpenSpec.ofChange modelBatchWrong)

/-- 'weighbridgelaw11.ModelPlays': WHATEVER THE INPUT: true; the input reads as it did. -/
def modelPlaysSpec : ChangeSpec := { name := "modelPlays", fn := fun _ => fun
  | [d1, d2, d3] => { results := [.lit (.bool true)], args := [d1, d2, d3] }
  | _ => none }
def modelPlaysRow : OpenClaim := { program := "ytfgfjnlkgadkhaagreat", sum := "c5ef3b09a06f5d6d152f540f274e66481757689a2fca1f8e5f03440411f4f98a", func := "weighbridge/weighbridgelaw11.ModelPlays", spec := "modelPlays", inPlace := ["math/bits.Add64"], unfollowed := true, recurses := true, apart := false }
def ModelPlaysSaid : Prop := modelPlaysRow.holds Tryz.pinned (OpenSpec.ofChange modelPlaysSpec)

/-- ITS FALSE NEIGHBOUR: 'it returns false'. Refute it at one input. -/
def modelPlaysWrong : ChangeSpec := { name := "modelPlays", fn := fun _ => fun
  | [d1, d2, d3] => { results := [.lit (.bool false)], args := [d1, d2, d3] }
  | _ => none }
def ModelPlaysWrongFalsely : Prop := modelPlaysRow.holds Tryz.pinned (OpenSpec.ofChange modelPlaysWrong)

/-- 'weighbridgelaw11.ModelRaw': WHATEVER THE INPUT: true; the input reads as it did. -/
def modelRawSpec : ChangeSpec := { name := "modelRaw", fn := fun _ => fun
  | [d1, d2, d3] => { results := [.lit (.bool true)], args := [d1, d2, d3] }
  | _ => none }
def modelRawRow : OpenClaim := { program := "ytfgfjnlkgadkhaagreat", sum := "c5ef3b09a06f5d6d152f540f274e66481757689a2fca1f8e5f03440411f4f98a", func := "weighbridge/weighbridgelaw11.ModelRaw", spec := "modelRaw", inPlace := ["math/bits.Add64"], unfollowed := true, recurses := true, apart := false }
def ModelRawSaid : Prop := modelRawRow.holds Tryz.pinned (OpenSpec.ofChange modelRawSpec)

/-- ITS FALSE NEIGHBOUR: 'it returns false'. Refute it at one input. -/
def modelRawWrong : ChangeSpec := { name := "modelRaw", fn := fun _ => fun
  | [d1, d2, d3] => { results := [.lit (.bool false)], args := [d1, d2, d3] }
  | _ => none }
def ModelRawWrongFalsely : Prop := modelRawRow.holds Tryz.pinned (OpenSpec.ofChange modelRawWrong)

/-- 'weighbridgelaw11.ModelLooks': WHATEVER THE INPUT: true; the input reads as it did. -/
def modelLooksSpec : ChangeSpec := { name := "modelLooks", fn := fun _ => fun
  | [d1, d2] => { results := [.lit (.bool true)], args := [d1, d2] }
  | _ => none }
def modelLooksRow : OpenClaim := { program := "ytfgfjnlkgadkhaagreat", sum := "c5ef3b09a06f5d6d152f540f274e66481757689a2fca1f8e5f03440411f4f98a", func := "weighbridge/weighbridgelaw11.ModelLooks", spec := "modelLooks", inPlace := ["math/bits.Add64"], unfollowed := true, recurses := true, apart := false }
def ModelLooksSaid : Prop := modelLooksRow.holds Tryz.pinned (OpenSpec.ofChange modelLooksSpec)

/-- ITS FALSE NEIGHBOUR: 'it returns false'. Refute it at one input. -/
def modelLooksWrong : ChangeSpec := { name := "modelLooks", fn := fun _ => fun
  | [d1, d2] => { results := [.lit (.bool false)], args := [d1, d2] }
  | _ => none }
def ModelLooksWrongFalsely : Prop := modelLooksRow.holds Tryz.pinned (OpenSpec.ofChange modelLooksWrong)

/-- 'weighbridgelaw11.ModelRefused': WHATEVER THE INPUT: true; the input reads as it did. -/
def modelRefusedSpec : ChangeSpec := { name := "modelRefused", fn := fun _ => fun
  | [d1, d2] => { results := [.lit (.bool true)], args := [d1, d2] }
  | _ => none }
def modelRefusedRow : OpenClaim := { program := "ytfgfjnlkgadkhaagreat", sum := "c5ef3b09a06f5d6d152f540f274e66481757689a2fca1f8e5f03440411f4f98a", func := "weighbridge/weighbridgelaw11.ModelRefused", spec := "modelRefused", inPlace := ["math/bits.Add64"], unfollowed := true, recurses := true, apart := false }
def ModelRefusedSaid : Prop := modelRefusedRow.holds Tryz.pinned (OpenSpec.ofChange modelRefusedSpec)

/-- ITS FALSE NEIGHBOUR: 'it returns false'. Refute it at one input. -/
def modelRefusedWrong : ChangeSpec := { name := "modelRefused", fn := fun _ => fun
  | [d1, d2] => { results := [.lit (.bool false)], args := [d1, d2] }
  | _ => none }
def ModelRefusedWrongFalsely : Prop := modelRefusedRow.holds Tryz.pinned (OpenSpec.ofChange modelRefusedWrong)

/-- 'weighbridgelaw11.ModelCopies': WHATEVER THE INPUT: true; the input reads as it did. -/
def modelCopiesSpec : ChangeSpec := { name := "modelCopies", fn := fun _ => fun
  | [d1, d2, d3, d4] => { results := [.lit (.bool true)], args := [d1, d2, d3, d4] }
  | _ => none }
def modelCopiesRow : OpenClaim := { program := "ytfgfjnlkgadkhaagreat", sum := "c5ef3b09a06f5d6d152f540f274e66481757689a2fca1f8e5f03440411f4f98a", func := "weighbridge/weighbridgelaw11.ModelCopies", spec := "modelCopies", inPlace := ["math/bits.Add64", "maps.clone"], unfollowed := true, recurses := true, apart := false }
def ModelCopiesSaid : Prop := modelCopiesRow.holds Tryz.pinned (OpenSpec.ofChange modelCopiesSpec)

/-- ITS FALSE NEIGHBOUR: 'it returns false'. Refute it at one input. -/
def modelCopiesWrong : ChangeSpec := { name := "modelCopies", fn := fun _ => fun
  | [d1, d2, d3, d4] => { results := [.lit (.bool false)], args := [d1, d2, d3, d4] }
  | _ => none }
def ModelCopiesWrongFalsely : Prop := modelCopiesRow.holds Tryz.pinned (OpenSpec.ofChange modelCopiesWrong)

/- THE SECOND FORM. 'bulk': how many values and letters a reading holds, each counted each time it is reached (what is shared counts as often as it is met; a slice's spare places count too). A statement '..UptoSaid' is the law's where the arguments, and the package variables that the reading takes, are together of bulk at most 1048576: NARROWER than '..Said'. Prove '..Said' where nothing that the law and all that it calls make is longer than what came in: it says more and counts as full. Else prove '..UptoSaid'. A law counts once. -/
mutual
def uptoBulk {H : Type} : DataW H → Nat
  | .lit (.string bytes) => bytes.length + 1
  | .lit _ => 1
  | .nil => 1
  | .ptr d => uptoBulk d + 1
  | .slice elems spare => uptoBulkAll elems + uptoBulkAll spare + 1
  | .agg parts => uptoBulkAll parts + 1
  | .iface _ d => uptoBulk d + 1
  | .map entries => uptoBulkEntries entries + 1
  | .held _ => 1
def uptoBulkAll {H : Type} : List (DataW H) → Nat
  | [] => 0
  | d :: r => uptoBulk d + uptoBulkAll r
def uptoBulkEntries {H : Type} : List (Lit × DataW H) → Nat
  | [] => 0
  | x :: r => uptoBulkEntry x + uptoBulkEntries r
def uptoBulkEntry {H : Type} : Lit × DataW H → Nat
  | (.string bytes, d) => bytes.length + uptoBulk d + 1
  | (_, d) => uptoBulk d + 1
 end
def uptoSmall : (H : Type) → List (DataW H) → Bool := fun _ ds => decide (uptoBulkAll ds ≤ 1048576)
def OpenSpec.upto (s : _root_.Go.ChangeSpec) : _root_.Go.OpenSpec := { _root_.Go.OpenSpec.ofChange s with cond := some uptoSmall }

/-- 'weighbridgelaw11.ModelBatch', WHERE WHAT IT READS IS OF BULK AT MOST 1048576: true; the input reads as it did. -/
def modelBatchUptoRow : OpenClaim := { program := "ytfgfjnlkgadkhaagreat", sum := "c5ef3b09a06f5d6d152f540f274e66481757689a2fca1f8e5f03440411f4f98a", func := "weighbridge/weighbridgelaw11.ModelBatch", spec := "modelBatch", inPlace := ["math/bits.Add64", "maps.clone"], unfollowed := true, recurses := true, apart := false, narrowed := true }
def ModelBatchUptoSaid : Prop := modelBatchUptoRow.holds Tryz.pinned (OpenSpec.upto modelBatchSpec)

/-- 'weighbridgelaw11.ModelPlays', WHERE WHAT IT READS IS OF BULK AT MOST 1048576: true; the input reads as it did. -/
def modelPlaysUptoRow : OpenClaim := { program := "ytfgfjnlkgadkhaagreat", sum := "c5ef3b09a06f5d6d152f540f274e66481757689a2fca1f8e5f03440411f4f98a", func := "weighbridge/weighbridgelaw11.ModelPlays", spec := "modelPlays", inPlace := ["math/bits.Add64"], unfollowed := true, recurses := true, apart := false, narrowed := true }
def ModelPlaysUptoSaid : Prop := modelPlaysUptoRow.holds Tryz.pinned (OpenSpec.upto modelPlaysSpec)

/-- 'weighbridgelaw11.ModelRaw', WHERE WHAT IT READS IS OF BULK AT MOST 1048576: true; the input reads as it did. -/
def modelRawUptoRow : OpenClaim := { program := "ytfgfjnlkgadkhaagreat", sum := "c5ef3b09a06f5d6d152f540f274e66481757689a2fca1f8e5f03440411f4f98a", func := "weighbridge/weighbridgelaw11.ModelRaw", spec := "modelRaw", inPlace := ["math/bits.Add64"], unfollowed := true, recurses := true, apart := false, narrowed := true }
def ModelRawUptoSaid : Prop := modelRawUptoRow.holds Tryz.pinned (OpenSpec.upto modelRawSpec)

/-- 'weighbridgelaw11.ModelLooks', WHERE WHAT IT READS IS OF BULK AT MOST 1048576: true; the input reads as it did. -/
def modelLooksUptoRow : OpenClaim := { program := "ytfgfjnlkgadkhaagreat", sum := "c5ef3b09a06f5d6d152f540f274e66481757689a2fca1f8e5f03440411f4f98a", func := "weighbridge/weighbridgelaw11.ModelLooks", spec := "modelLooks", inPlace := ["math/bits.Add64"], unfollowed := true, recurses := true, apart := false, narrowed := true }
def ModelLooksUptoSaid : Prop := modelLooksUptoRow.holds Tryz.pinned (OpenSpec.upto modelLooksSpec)

/-- 'weighbridgelaw11.ModelRefused', WHERE WHAT IT READS IS OF BULK AT MOST 1048576: true; the input reads as it did. -/
def modelRefusedUptoRow : OpenClaim := { program := "ytfgfjnlkgadkhaagreat", sum := "c5ef3b09a06f5d6d152f540f274e66481757689a2fca1f8e5f03440411f4f98a", func := "weighbridge/weighbridgelaw11.ModelRefused", spec := "modelRefused", inPlace := ["math/bits.Add64"], unfollowed := true, recurses := true, apart := false, narrowed := true }
def ModelRefusedUptoSaid : Prop := modelRefusedUptoRow.holds Tryz.pinned (OpenSpec.upto modelRefusedSpec)

/-- 'weighbridgelaw11.ModelCopies', WHERE WHAT IT READS IS OF BULK AT MOST 1048576: true; the input reads as it did. -/
def modelCopiesUptoRow : OpenClaim := { program := "ytfgfjnlkgadkhaagreat", sum := "c5ef3b09a06f5d6d152f540f274e66481757689a2fca1f8e5f03440411f4f98a", func := "weighbridge/weighbridgelaw11.ModelCopies", spec := "modelCopies", inPlace := ["math/bits.Add64", "maps.clone"], unfollowed := true, recurses := true, apart := false, narrowed := true }
def ModelCopiesUptoSaid : Prop := modelCopiesUptoRow.holds Tryz.pinned (OpenSpec.upto modelCopiesSpec)

end Rows
end Go.Proofs.YtfgfjnlkgadkhaaGreat
