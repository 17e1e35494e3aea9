/-
  No cell of these rows narrows 'for every input' (looked for: loops, veiled, ifaces, maps, wideKeys, modest, calm, conditions, laid).
  DERIVED. THE GIVEN ROWS OF THIS SEAT. 5 by the template 'for every input the law returns true; each argument reads behind the call as it read before'; 0 by the template 'total and deterministic' (their statements: YtmnanbcinfdbaaaTotals.lean).
  GIVEN WITH THE SEED: the statements are not yours to turn. If you find one false, say at which input.
  Laid BY PROGRAM, IN A SANDBOX (cutbox-rows.mjs): the forced cells as the released guide's own fill.sh prints them over the translation e7a977be902db76c… (all of the seat's roots in one cut). By AI agents, Wed Nov 11 2026. No macro, syntax, notation, axiom, sorry.
-/
import Derived.Test.YtmnanbcinfdbaaaChecked
import GoSem.Claim
import GoSem.ClaimJoined
import GoSem.ClaimMapViews
import Derived.JoinedTies
import Derived.KernelRfl
namespace Go.Proofs.Ytmnanbcinfdbaaa
/- THE CELL 'sum', in the pinned program and in every row, IS THE sha256 OF THE DUMP (.gsa) THAT YtmnanbcinfdbaaaProg.lean LOADS. Nothing in Lean hashes anything: it is a label: what it is worth is what the hold of that sum in a sandbox is worth. -/
noncomputable def Try.pinned : Pinned := { name := "ytmnanbcinfdbaaa", sum := "e7a977be902db76c3bedc814f86c6809556bbfab77cb79386c85ba0c34fe68d8", checked := Try.checked }
namespace Rows
def none {H : Type} : Left H := { results := [], args := [] }

/-- 'tenderlaw19.DeltaReads': WHATEVER THE INPUT: true; the input reads as it did. -/
def deltaReadsSpec : ChangeSpec := { name := "deltaReads", fn := fun _ => fun
  | [d] => { results := [.lit (.bool true)], args := [d] }
  | _ => none }
def deltaReadsRow : OpenClaim := { program := "ytmnanbcinfdbaaa", sum := "e7a977be902db76c3bedc814f86c6809556bbfab77cb79386c85ba0c34fe68d8", func := "tender/tenderlaw19.DeltaReads", spec := "deltaReads", unfollowed := true, recurses := true, apart := false }
def DeltaReadsSaid : Prop := deltaReadsRow.holds Try.pinned (OpenSpec.ofChange deltaReadsSpec)

/-- ITS FALSE NEIGHBOUR: 'it returns false'. Refute it at one input. -/
def deltaReadsWrong : ChangeSpec := { name := "deltaReads", fn := fun _ => fun
  | [d] => { results := [.lit (.bool false)], args := [d] }
  | _ => none }
def DeltaReadsWrongFalsely : Prop := deltaReadsRow.holds Try.pinned (OpenSpec.ofChange deltaReadsWrong)

/-- 'tenderlaw19.DeltaChecks': WHATEVER THE INPUT: true; the input reads as it did. -/
def deltaChecksSpec : ChangeSpec := { name := "deltaChecks", fn := fun _ => fun
  | [d1, d2] => { results := [.lit (.bool true)], args := [d1, d2] }
  | _ => none }
def deltaChecksRow : OpenClaim := { program := "ytmnanbcinfdbaaa", sum := "e7a977be902db76c3bedc814f86c6809556bbfab77cb79386c85ba0c34fe68d8", func := "tender/tenderlaw19.DeltaChecks", spec := "deltaChecks", unfollowed := true, recurses := true, apart := false }
def DeltaChecksSaid : Prop := deltaChecksRow.holds Try.pinned (OpenSpec.ofChange deltaChecksSpec)

/-- ITS FALSE NEIGHBOUR: 'it returns false'. Refute it at one input. -/
def deltaChecksWrong : ChangeSpec := { name := "deltaChecks", fn := fun _ => fun
  | [d1, d2] => { results := [.lit (.bool false)], args := [d1, d2] }
  | _ => none }
def DeltaChecksWrongFalsely : Prop := deltaChecksRow.holds Try.pinned (OpenSpec.ofChange deltaChecksWrong)

/-- 'tenderlaw20.PatchFeeds': WHATEVER THE INPUT: true; the input reads as it did. -/
def patchFeedsSpec : ChangeSpec := { name := "patchFeeds", fn := fun _ => fun
  | [d1, d2] => { results := [.lit (.bool true)], args := [d1, d2] }
  | _ => none }
def patchFeedsRow : OpenClaim := { program := "ytmnanbcinfdbaaa", sum := "e7a977be902db76c3bedc814f86c6809556bbfab77cb79386c85ba0c34fe68d8", func := "tender/tenderlaw20.PatchFeeds", spec := "patchFeeds", unfollowed := true, recurses := true, apart := false }
def PatchFeedsSaid : Prop := patchFeedsRow.holds Try.pinned (OpenSpec.ofChange patchFeedsSpec)

/-- ITS FALSE NEIGHBOUR: 'it returns false'. Refute it at one input. -/
def patchFeedsWrong : ChangeSpec := { name := "patchFeeds", fn := fun _ => fun
  | [d1, d2] => { results := [.lit (.bool false)], args := [d1, d2] }
  | _ => none }
def PatchFeedsWrongFalsely : Prop := patchFeedsRow.holds Try.pinned (OpenSpec.ofChange patchFeedsWrong)

/-- 'tenderlaw20.PatchNobody': WHATEVER THE INPUT: true; the input reads as it did. -/
def patchNobodySpec : ChangeSpec := { name := "patchNobody", fn := fun _ => fun
  | [d] => { results := [.lit (.bool true)], args := [d] }
  | _ => none }
def patchNobodyRow : OpenClaim := { program := "ytmnanbcinfdbaaa", sum := "e7a977be902db76c3bedc814f86c6809556bbfab77cb79386c85ba0c34fe68d8", func := "tender/tenderlaw20.PatchNobody", spec := "patchNobody", unfollowed := true, recurses := true, apart := false }
def PatchNobodySaid : Prop := patchNobodyRow.holds Try.pinned (OpenSpec.ofChange patchNobodySpec)

/-- ITS FALSE NEIGHBOUR: 'it returns false'. Refute it at one input. -/
def patchNobodyWrong : ChangeSpec := { name := "patchNobody", fn := fun _ => fun
  | [d] => { results := [.lit (.bool false)], args := [d] }
  | _ => none }
def PatchNobodyWrongFalsely : Prop := patchNobodyRow.holds Try.pinned (OpenSpec.ofChange patchNobodyWrong)

/-- 'tenderlaw20.PatchApplies': WHATEVER THE INPUT: true; the input reads as it did. -/
def patchAppliesSpec : ChangeSpec := { name := "patchApplies", fn := fun _ => fun
  | [d1, d2] => { results := [.lit (.bool true)], args := [d1, d2] }
  | _ => none }
def patchAppliesRow : OpenClaim := { program := "ytmnanbcinfdbaaa", sum := "e7a977be902db76c3bedc814f86c6809556bbfab77cb79386c85ba0c34fe68d8", func := "tender/tenderlaw20.PatchApplies", spec := "patchApplies", unfollowed := true, recurses := true, apart := false }
def PatchAppliesSaid : Prop := patchAppliesRow.holds Try.pinned (OpenSpec.ofChange patchAppliesSpec)

/-- ITS FALSE NEIGHBOUR: 'it returns false'. Refute it at one input. -/
def patchAppliesWrong : ChangeSpec := { name := "patchApplies", fn := fun _ => fun
  | [d1, d2] => { results := [.lit (.bool false)], args := [d1, d2] }
  | _ => none }
def PatchAppliesWrongFalsely : Prop := patchAppliesRow.holds Try.pinned (OpenSpec.ofChange patchAppliesWrong)

/- THE SECOND FORM. 'bulk': how many values and letters a reading holds, each counted each time it is reached (what is shared counts as often as it is met; a slice's spare places count too). A statement '..UptoSaid' is the law's where the arguments, and the package variables that the reading takes, are together of bulk at most 1048576: NARROWER than '..Said'. Prove '..Said' where nothing that the law and all that it calls make is longer than what came in: it says more and counts as full. Else prove '..UptoSaid'. A law counts once. -/
mutual
def uptoBulk {H : Type} : DataW H → Nat
  | .lit (.string bytes) => bytes.length + 1
  | .lit _ => 1
  | .nil => 1
  | .ptr d => uptoBulk d + 1
  | .slice elems spare => uptoBulkAll elems + uptoBulkAll spare + 1
  | .agg parts => uptoBulkAll parts + 1
  | .iface _ d => uptoBulk d + 1
  | .map entries => uptoBulkEntries entries + 1
  | .held _ => 1
def uptoBulkAll {H : Type} : List (DataW H) → Nat
  | [] => 0
  | d :: r => uptoBulk d + uptoBulkAll r
def uptoBulkEntries {H : Type} : List (Lit × DataW H) → Nat
  | [] => 0
  | x :: r => uptoBulkEntry x + uptoBulkEntries r
def uptoBulkEntry {H : Type} : Lit × DataW H → Nat
  | (.string bytes, d) => bytes.length + uptoBulk d + 1
  | (_, d) => uptoBulk d + 1
 end
def uptoSmall : (H : Type) → List (DataW H) → Bool := fun _ ds => decide (uptoBulkAll ds ≤ 1048576)
def OpenSpec.upto (s : _root_.Go.ChangeSpec) : _root_.Go.OpenSpec := { _root_.Go.OpenSpec.ofChange s with cond := some uptoSmall }

/-- 'tenderlaw19.DeltaReads', WHERE WHAT IT READS IS OF BULK AT MOST 1048576: true; the input reads as it did. -/
def deltaReadsUptoRow : OpenClaim := { program := "ytmnanbcinfdbaaa", sum := "e7a977be902db76c3bedc814f86c6809556bbfab77cb79386c85ba0c34fe68d8", func := "tender/tenderlaw19.DeltaReads", spec := "deltaReads", unfollowed := true, recurses := true, apart := false, narrowed := true }
def DeltaReadsUptoSaid : Prop := deltaReadsUptoRow.holds Try.pinned (OpenSpec.upto deltaReadsSpec)

/-- 'tenderlaw19.DeltaChecks', WHERE WHAT IT READS IS OF BULK AT MOST 1048576: true; the input reads as it did. -/
def deltaChecksUptoRow : OpenClaim := { program := "ytmnanbcinfdbaaa", sum := "e7a977be902db76c3bedc814f86c6809556bbfab77cb79386c85ba0c34fe68d8", func := "tender/tenderlaw19.DeltaChecks", spec := "deltaChecks", unfollowed := true, recurses := true, apart := false, narrowed := true }
def DeltaChecksUptoSaid : Prop := deltaChecksUptoRow.holds Try.pinned (OpenSpec.upto deltaChecksSpec)

/-- 'tenderlaw20.PatchFeeds', WHERE WHAT IT READS IS OF BULK AT MOST 1048576: true; the input reads as it did. -/
def patchFeedsUptoRow : OpenClaim := { program := "ytmnanbcinfdbaaa", sum := "e7a977be902db76c3bedc814f86c6809556bbfab77cb79386c85ba0c34fe68d8", func := "tender/tenderlaw20.PatchFeeds", spec := "patchFeeds", unfollowed := true, recurses := true, apart := false, narrowed := true }
def PatchFeedsUptoSaid : Prop := patchFeedsUptoRow.holds Try.pinned (OpenSpec.upto patchFeedsSpec)

/-- 'tenderlaw20.PatchNobody', WHERE WHAT IT READS IS OF BULK AT MOST 1048576: true; the input reads as it did. -/
def patchNobodyUptoRow : OpenClaim := { program := "ytmnanbcinfdbaaa", sum := "e7a977be902db76c3bedc814f86c6809556bbfab77cb79386c85ba0c34fe68d8", func := "tender/tenderlaw20.PatchNobody", spec := "patchNobody", unfollowed := true, recurses := true, apart := false, narrowed := true }
def PatchNobodyUptoSaid : Prop := patchNobodyUptoRow.holds Try.pinned (OpenSpec.upto patchNobodySpec)

/-- 'tenderlaw20.PatchApplies', WHERE WHAT IT READS IS OF BULK AT MOST 1048576: true; the input reads as it did. -/
def patchAppliesUptoRow : OpenClaim := { program := "ytmnanbcinfdbaaa", sum := "e7a977be902db76c3bedc814f86c6809556bbfab77cb79386c85ba0c34fe68d8", func := "tender/tenderlaw20.PatchApplies", spec := "patchApplies", unfollowed := true, recurses := true, apart := false, narrowed := true }
def PatchAppliesUptoSaid : Prop := patchAppliesUptoRow.holds Try.pinned (OpenSpec.upto patchAppliesSpec)

end Rows
end Go.Proofs.Ytmnanbcinfdbaaa
