/-
  No cell of these rows narrows 'for every input' (looked for: loops, veiled, ifaces, maps, wideKeys, modest, calm, conditions, laid).
  DERIVED. THE GIVEN ROWS OF THIS SEAT. 7 by the template 'for every input the law returns true; each argument reads behind the call as it read before'; 0 by the template 'total and deterministic' (their statements: YtdjooacjjnjfmaaGreatTotals.lean).
  GIVEN WITH THE SEED: the statements are not yours to turn. If you find one false, say at which input.
  Laid BY PROGRAM, IN A SANDBOX (cutbox-rows.mjs): the forced cells as the released guide's own fill.sh prints them over the translation cb798d7e6e97639c… (all of the seat's roots in one cut). By AI agents, Wed Nov 11 2026. No macro, syntax, notation, axiom, sorry.
-/
import Derived.Test.YtdjooacjjnjfmaaGreatChecked
import GoSem.Claim
import GoSem.ClaimJoined
import GoSem.ClaimMapViews
import Derived.JoinedTies
import Derived.KernelRfl
namespace Go.Proofs.YtdjooacjjnjfmaaGreat
/- THE CELL 'sum', in the pinned program and in every row, IS THE sha256 OF THE DUMP (.gsa) THAT YtdjooacjjnjfmaaGreatProg.lean LOADS. Nothing in Lean hashes anything: it is a label: what it is worth is what the hold of that sum in a sandbox is worth. -/
noncomputable def Tryz.pinned : Pinned := { name := "ytdjooacjjnjfmaagreat", sum := "cb798d7e6e97639cabfb6ccb3cdb1043ce0e35e50d666655b3273d3770289815", checked := Tryz.checked }
namespace Rows
def none {H : Type} : Left H := { results := [], args := [] }

/-- 'weighbridgelaw15.LinFits': WHATEVER THE INPUT: true; the input reads as it did. -/
def linFitsSpec : ChangeSpec := { name := "linFits", fn := fun _ => fun
  | [d1, d2, d3, d4, d5] => { results := [.lit (.bool true)], args := [d1, d2, d3, d4, d5] }
  | _ => none }
def linFitsRow : OpenClaim := { program := "ytdjooacjjnjfmaagreat", sum := "cb798d7e6e97639cabfb6ccb3cdb1043ce0e35e50d666655b3273d3770289815", func := "weighbridge/weighbridgelaw15.LinFits", spec := "linFits", inPlace := ["maps.clone", "math/bits.Add64"], unfollowed := true, recurses := true, apart := false }
def LinFitsSaid : Prop := linFitsRow.holds Tryz.pinned (OpenSpec.ofChange linFitsSpec)

/-- ITS FALSE NEIGHBOUR: 'it returns false'. Refute it at one input. -/
def linFitsWrong : ChangeSpec := { name := "linFits", fn := fun _ => fun
  | [d1, d2, d3, d4, d5] => { results := [.lit (.bool false)], args := [d1, d2, d3, d4, d5] }
  | _ => none }
def LinFitsWrongFalsely : Prop := linFitsRow.holds Tryz.pinned (OpenSpec.ofChange linFitsWrong)

/-- 'weighbridgelaw15.LinRaw': WHATEVER THE INPUT: true; the input reads as it did. -/
def linRawSpec : ChangeSpec := { name := "linRaw", fn := fun _ => fun
  | [d1, d2, d3] => { results := [.lit (.bool true)], args := [d1, d2, d3] }
  | _ => none }
def linRawRow : OpenClaim := { program := "ytdjooacjjnjfmaagreat", sum := "cb798d7e6e97639cabfb6ccb3cdb1043ce0e35e50d666655b3273d3770289815", func := "weighbridge/weighbridgelaw15.LinRaw", spec := "linRaw", inPlace := ["maps.clone", "math/bits.Add64"], unfollowed := true, recurses := true, apart := false }
def LinRawSaid : Prop := linRawRow.holds Tryz.pinned (OpenSpec.ofChange linRawSpec)

/-- ITS FALSE NEIGHBOUR: 'it returns false'. Refute it at one input. -/
def linRawWrong : ChangeSpec := { name := "linRaw", fn := fun _ => fun
  | [d1, d2, d3] => { results := [.lit (.bool false)], args := [d1, d2, d3] }
  | _ => none }
def LinRawWrongFalsely : Prop := linRawRow.holds Tryz.pinned (OpenSpec.ofChange linRawWrong)

/-- 'weighbridgelaw15.LinSearch': WHATEVER THE INPUT: true; the input reads as it did. -/
def linSearchSpec : ChangeSpec := { name := "linSearch", fn := fun _ => fun
  | [d1, d2, d3, d4, d5, d6] => { results := [.lit (.bool true)], args := [d1, d2, d3, d4, d5, d6] }
  | _ => none }
def linSearchRow : OpenClaim := { program := "ytdjooacjjnjfmaagreat", sum := "cb798d7e6e97639cabfb6ccb3cdb1043ce0e35e50d666655b3273d3770289815", func := "weighbridge/weighbridgelaw15.LinSearch", spec := "linSearch", inPlace := ["maps.clone", "math/bits.Add64"], unfollowed := true, recurses := true, apart := false }
def LinSearchSaid : Prop := linSearchRow.holds Tryz.pinned (OpenSpec.ofChange linSearchSpec)

/-- ITS FALSE NEIGHBOUR: 'it returns false'. Refute it at one input. -/
def linSearchWrong : ChangeSpec := { name := "linSearch", fn := fun _ => fun
  | [d1, d2, d3, d4, d5, d6] => { results := [.lit (.bool false)], args := [d1, d2, d3, d4, d5, d6] }
  | _ => none }
def LinSearchWrongFalsely : Prop := linSearchRow.holds Tryz.pinned (OpenSpec.ofChange linSearchWrong)

/-- 'weighbridgelaw15.LinFound': WHATEVER THE INPUT: true; the input reads as it did. -/
def linFoundSpec : ChangeSpec := { name := "linFound", fn := fun _ => fun
  | [d1, d2, d3, d4, d5] => { results := [.lit (.bool true)], args := [d1, d2, d3, d4, d5] }
  | _ => none }
def linFoundRow : OpenClaim := { program := "ytdjooacjjnjfmaagreat", sum := "cb798d7e6e97639cabfb6ccb3cdb1043ce0e35e50d666655b3273d3770289815", func := "weighbridge/weighbridgelaw15.LinFound", spec := "linFound", inPlace := ["maps.clone", "math/bits.Add64"], unfollowed := true, recurses := true, apart := false }
def LinFoundSaid : Prop := linFoundRow.holds Tryz.pinned (OpenSpec.ofChange linFoundSpec)

/-- ITS FALSE NEIGHBOUR: 'it returns false'. Refute it at one input. -/
def linFoundWrong : ChangeSpec := { name := "linFound", fn := fun _ => fun
  | [d1, d2, d3, d4, d5] => { results := [.lit (.bool false)], args := [d1, d2, d3, d4, d5] }
  | _ => none }
def LinFoundWrongFalsely : Prop := linFoundRow.holds Tryz.pinned (OpenSpec.ofChange linFoundWrong)

/-- 'weighbridgelaw15.LinLine': WHATEVER THE INPUT: true; the input reads as it did. -/
def linLineSpec : ChangeSpec := { name := "linLine", fn := fun _ => fun
  | [d1, d2, d3] => { results := [.lit (.bool true)], args := [d1, d2, d3] }
  | _ => none }
def linLineRow : OpenClaim := { program := "ytdjooacjjnjfmaagreat", sum := "cb798d7e6e97639cabfb6ccb3cdb1043ce0e35e50d666655b3273d3770289815", func := "weighbridge/weighbridgelaw15.LinLine", spec := "linLine", inPlace := ["maps.clone", "math/bits.Add64"], unfollowed := true, recurses := true, apart := false }
def LinLineSaid : Prop := linLineRow.holds Tryz.pinned (OpenSpec.ofChange linLineSpec)

/-- ITS FALSE NEIGHBOUR: 'it returns false'. Refute it at one input. -/
def linLineWrong : ChangeSpec := { name := "linLine", fn := fun _ => fun
  | [d1, d2, d3] => { results := [.lit (.bool false)], args := [d1, d2, d3] }
  | _ => none }
def LinLineWrongFalsely : Prop := linLineRow.holds Tryz.pinned (OpenSpec.ofChange linLineWrong)

/-- 'weighbridgelaw15.LinOpen': WHATEVER THE INPUT: true; the input reads as it did. -/
def linOpenSpec : ChangeSpec := { name := "linOpen", fn := fun _ => fun
  | [d1, d2, d3, d4, d5] => { results := [.lit (.bool true)], args := [d1, d2, d3, d4, d5] }
  | _ => none }
def linOpenRow : OpenClaim := { program := "ytdjooacjjnjfmaagreat", sum := "cb798d7e6e97639cabfb6ccb3cdb1043ce0e35e50d666655b3273d3770289815", func := "weighbridge/weighbridgelaw15.LinOpen", spec := "linOpen", inPlace := ["maps.clone", "math/bits.Add64"], unfollowed := true, recurses := true, apart := false }
def LinOpenSaid : Prop := linOpenRow.holds Tryz.pinned (OpenSpec.ofChange linOpenSpec)

/-- ITS FALSE NEIGHBOUR: 'it returns false'. Refute it at one input. -/
def linOpenWrong : ChangeSpec := { name := "linOpen", fn := fun _ => fun
  | [d1, d2, d3, d4, d5] => { results := [.lit (.bool false)], args := [d1, d2, d3, d4, d5] }
  | _ => none }
def LinOpenWrongFalsely : Prop := linOpenRow.holds Tryz.pinned (OpenSpec.ofChange linOpenWrong)

/-- 'weighbridgelaw15.LinKept': WHATEVER THE INPUT: true; the input reads as it did. -/
def linKeptSpec : ChangeSpec := { name := "linKept", fn := fun _ => fun
  | [d1, d2, d3, d4, d5] => { results := [.lit (.bool true)], args := [d1, d2, d3, d4, d5] }
  | _ => none }
def linKeptRow : OpenClaim := { program := "ytdjooacjjnjfmaagreat", sum := "cb798d7e6e97639cabfb6ccb3cdb1043ce0e35e50d666655b3273d3770289815", func := "weighbridge/weighbridgelaw15.LinKept", spec := "linKept", inPlace := ["math/bits.Add64", "maps.clone"], unfollowed := true, recurses := true, apart := false }
def LinKeptSaid : Prop := linKeptRow.holds Tryz.pinned (OpenSpec.ofChange linKeptSpec)

/-- ITS FALSE NEIGHBOUR: 'it returns false'. Refute it at one input. -/
def linKeptWrong : ChangeSpec := { name := "linKept", fn := fun _ => fun
  | [d1, d2, d3, d4, d5] => { results := [.lit (.bool false)], args := [d1, d2, d3, d4, d5] }
  | _ => none }
def LinKeptWrongFalsely : Prop := linKeptRow.holds Tryz.pinned (OpenSpec.ofChange linKeptWrong)

/- THE SECOND FORM. 'bulk': how many values and letters a reading holds, each counted each time it is reached (what is shared counts as often as it is met; a slice's spare places count too). A statement '..UptoSaid' is the law's where the arguments, and the package variables that the reading takes, are together of bulk at most 1048576: NARROWER than '..Said'. Prove '..Said' where nothing that the law and all that it calls make is longer than what came in: it says more and counts as full. Else prove '..UptoSaid'. A law counts once. -/
mutual
def uptoBulk {H : Type} : DataW H → Nat
  | .lit (.string bytes) => bytes.length + 1
  | .lit _ => 1
  | .nil => 1
  | .ptr d => uptoBulk d + 1
  | .slice elems spare => uptoBulkAll elems + uptoBulkAll spare + 1
  | .agg parts => uptoBulkAll parts + 1
  | .iface _ d => uptoBulk d + 1
  | .map entries => uptoBulkEntries entries + 1
  | .held _ => 1
def uptoBulkAll {H : Type} : List (DataW H) → Nat
  | [] => 0
  | d :: r => uptoBulk d + uptoBulkAll r
def uptoBulkEntries {H : Type} : List (Lit × DataW H) → Nat
  | [] => 0
  | x :: r => uptoBulkEntry x + uptoBulkEntries r
def uptoBulkEntry {H : Type} : Lit × DataW H → Nat
  | (.string bytes, d) => bytes.length + uptoBulk d + 1
  | (_, d) => uptoBulk d + 1
 end
def uptoSmall : (H : Type) → List (DataW H) → Bool := fun _ ds => decide (uptoBulkAll ds ≤ 1048576)
def OpenSpec.upto (s : _root_.Go.ChangeSpec) : _root_.Go.OpenSpec := { _root_.Go.OpenSpec.ofChange s with cond := some uptoSmall }

/-- 'weighbridgelaw15.LinFits', WHERE WHAT IT READS IS OF BULK AT MOST 1048576: true; the input reads as it did. -/
def linFitsUptoRow : OpenClaim := { program := "ytdjooacjjnjfmaagreat", sum := "cb798d7e6e97639cabfb6ccb3cdb1043ce0e35e50d666655b3273d3770289815", func := "weighbridge/weighbridgelaw15.LinFits", spec := "linFits", inPlace := ["maps.clone", "math/bits.Add64"], unfollowed := true, recurses := true, apart := false, narrowed := true }
def LinFitsUptoSaid : Prop := linFitsUptoRow.holds Tryz.pinned (OpenSpec.upto linFitsSpec)

/-- 'weighbridgelaw15.LinRaw', WHERE WHAT IT READS IS OF BULK AT MOST 1048576: true; the input reads as it did. -/
def linRawUptoRow : OpenClaim := { program := "ytdjooacjjnjfmaagreat", sum := "cb798d7e6e97639cabfb6ccb3cdb1043ce0e35e50d666655b3273d3770289815", func := "weighbridge/weighbridgelaw15.LinRaw", spec := "linRaw", inPlace := ["maps.clone", "math/bits.Add64"], unfollowed := true, recurses := true, apart := false, narrowed := true }
def LinRawUptoSaid : Prop := linRawUptoRow.holds Tryz.pinned (OpenSpec.upto linRawSpec)

/-- 'weighbridgelaw15.LinSearch', WHERE WHAT IT READS IS OF BULK AT MOST 1048576: true; the input reads as it did. -/
def linSearchUptoRow : OpenClaim := { program := "ytdjooacjjnjfmaagreat", sum := "cb798d7e6e97639cabfb6ccb3cdb1043ce0e35e50d666655b3273d3770289815", func := "weighbridge/weighbridgelaw15.LinSearch", spec := "linSearch", inPlace := ["maps.clone", "math/bits.Add64"], unfollowed := true, recurses := true, apart := false, narrowed := true }
def LinSearchUptoSaid : Prop := linSearchUptoRow.holds Tryz.pinned (OpenSpec.upto linSearchSpec)

/-- 'weighbridgelaw15.LinFound', WHERE WHAT IT READS IS OF BULK AT MOST 1048576: true; the input reads as it did. -/
def linFoundUptoRow : OpenClaim := { program := "ytdjooacjjnjfmaagreat", sum := "cb798d7e6e97639cabfb6ccb3cdb1043ce0e35e50d666655b3273d3770289815", func := "weighbridge/weighbridgelaw15.LinFound", spec := "linFound", inPlace := ["maps.clone", "math/bits.Add64"], unfollowed := true, recurses := true, apart := false, narrowed := true }
def LinFoundUptoSaid : Prop := linFoundUptoRow.holds Tryz.pinned (OpenSpec.upto linFoundSpec)

/-- 'weighbridgelaw15.LinLine', WHERE WHAT IT READS IS OF BULK AT MOST 1048576: true; the input reads as it did. -/
def linLineUptoRow : OpenClaim := { program := "ytdjooacjjnjfmaagreat", sum := "cb798d7e6e97639cabfb6ccb3cdb1043ce0e35e50d666655b3273d3770289815", func := "weighbridge/weighbridgelaw15.LinLine", spec := "linLine", inPlace := ["maps.clone", "math/bits.Add64"], unfollowed := true, recurses := true, apart := false, narrowed := true }
def LinLineUptoSaid : Prop := linLineUptoRow.holds Tryz.pinned (OpenSpec.upto linLineSpec)

/-- 'weighbridgelaw15.LinOpen', WHERE WHAT IT READS IS OF BULK AT MOST 1048576: true; the input reads as it did. -/
def linOpenUptoRow : OpenClaim := { program := "ytdjooacjjnjfmaagreat", sum := "cb798d7e6e97639cabfb6ccb3cdb1043ce0e35e50d666655b3273d3770289815", func := "weighbridge/weighbridgelaw15.LinOpen", spec := "linOpen", inPlace := ["maps.clone", "math/bits.Add64"], unfollowed := true, recurses := true, apart := false, narrowed := true }
def LinOpenUptoSaid : Prop := linOpenUptoRow.holds Tryz.pinned (OpenSpec.upto linOpenSpec)

/-- 'weighbridgelaw15.LinKept', WHERE WHAT IT READS IS OF BULK AT MOST 1048576: true; the input reads as it did. -/
def linKeptUptoRow : OpenClaim := { program := "ytdjooacjjnjfmaagreat", sum := "cb798d7e6e97639cabfb6ccb3cdb1043ce0e35e50d666655b3273d3770289815", func := "weighbridge/weighbridgelaw15.LinKept", spec := "linKept", inPlace := ["math/bits.Add64", "maps.clone"], unfollowed := true, recurses := true, apart := false, narrowed := true }
def LinKeptUptoSaid : Prop := linKeptUptoRow.holds Tryz.pinned (OpenSpec.upto linKeptSpec)

end Rows
end Go.Proofs.YtdjooacjjnjfmaaGreat
