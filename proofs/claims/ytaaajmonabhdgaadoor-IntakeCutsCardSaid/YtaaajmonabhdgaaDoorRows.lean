/-
  NARROWER THAN 'FOR EVERY INPUT', by the rows' own cells (each row's printed sentence says how): CheckSums: laid · CheckOpens: laid · CheckBursts: laid · CheckCrosses: laid · FrameWraps: laid · FrameBursts: laid · FrameTakes: laid · IntakeCuts: laid · IntakePlays: laid · IntakeNobody: laid.
  DERIVED. THE GIVEN ROWS OF THIS SEAT. 10 by the template 'for every input the law returns true; each argument reads behind the call as it read before'; 0 by the template 'total and deterministic' (their statements: YtaaajmonabhdgaaDoorTotals.lean).
  GIVEN WITH THE SEED: the statements are not yours to turn. If you find one false, say at which input.
  Laid BY PROGRAM, IN A SANDBOX (cutbox-rows.mjs): the forced cells as the released guide's own fill.sh prints them over the translation 17228330818a0dcd… (all of the seat's roots in one cut). By AI agents, Wed Nov 11 2026. No macro, syntax, notation, axiom, sorry.
-/
import Derived.Test.YtaaajmonabhdgaaDoorChecked
import GoSem.Claim
import GoSem.ClaimJoined
import GoSem.ClaimMapViews
import Derived.JoinedTies
import Derived.KernelRfl
namespace Go.Proofs.YtaaajmonabhdgaaDoor
/- THE CELL 'sum', in the pinned program and in every row, IS THE sha256 OF THE DUMP (.gsa) THAT YtaaajmonabhdgaaDoorProg.lean LOADS. Nothing in Lean hashes anything: it is a label: what it is worth is what the hold of that sum in a sandbox is worth. -/
noncomputable def Tryd.pinned : Pinned := { name := "ytaaajmonabhdgaadoor", sum := "17228330818a0dcdca6ccdef1ef337e8601cbc2cac998a17f9aff5841faece70", checked := Tryd.checked }
namespace Rows
def none {H : Type} : Left H := { results := [], args := [] }

/- WHAT THE LISTED PACKAGE-LEVEL VARIABLES READ AS WHEN THE CALL BEGINS. Each datum BY PROGRAM (the guide's laid-datum.mjs) off the statement by which the dump's own 'gosem.cut.vars' lays the variable. In a bare row this is a premise. The card (YtaaajmonabhdgaaDoorCards.lean) ties it to the program's text. -/
def laid_tender_check_nibble {H : Type} : DataW H := .agg [.lit (.int .u32 0), .lit (.int .u32 274646895), .lit (.int .u32 549293790), .lit (.int .u32 820201905), .lit (.int .u32 1098587580), .lit (.int .u32 1361435347), .lit (.int .u32 1640403810), .lit (.int .u32 1905808397), .lit (.int .u32 2197175160), .lit (.int .u32 2460548119), .lit (.int .u32 2722870694), .lit (.int .u32 2987750089), .lit (.int .u32 3280807620), .lit (.int .u32 3553878443), .lit (.int .u32 3811616794), .lit (.int .u32 4084100981)]

/-- 'tenderlaw04.CheckSums': WHATEVER THE INPUT: true; the input reads as it did. -/
def checkSumsSpec : ChangeSpec := { name := "checkSums", fn := fun _ => fun
  | [d1, d2] => { results := [.lit (.bool true)], args := [d1, d2] }
  | _ => none }
def checkSumsRow : OpenClaim := { program := "ytaaajmonabhdgaadoor", sum := "17228330818a0dcdca6ccdef1ef337e8601cbc2cac998a17f9aff5841faece70", func := "tender/tenderlaw04.CheckSums", spec := "checkSums", named := ["tender/check.nibble"], apart := false, laid := [("tender/check.nibble", laid_tender_check_nibble)] }
def CheckSumsSaid : Prop := checkSumsRow.holds Tryd.pinned (OpenSpec.ofChange checkSumsSpec)

/-- ITS FALSE NEIGHBOUR: 'it returns false'. Refute it at one input. -/
def checkSumsWrong : ChangeSpec := { name := "checkSums", fn := fun _ => fun
  | [d1, d2] => { results := [.lit (.bool false)], args := [d1, d2] }
  | _ => none }
def CheckSumsWrongFalsely : Prop := checkSumsRow.holds Tryd.pinned (OpenSpec.ofChange checkSumsWrong)

/-- 'tenderlaw04.CheckOpens': WHATEVER THE INPUT: true; the input reads as it did. -/
def checkOpensSpec : ChangeSpec := { name := "checkOpens", fn := fun _ => fun
  | [d] => { results := [.lit (.bool true)], args := [d] }
  | _ => none }
def checkOpensRow : OpenClaim := { program := "ytaaajmonabhdgaadoor", sum := "17228330818a0dcdca6ccdef1ef337e8601cbc2cac998a17f9aff5841faece70", func := "tender/tenderlaw04.CheckOpens", spec := "checkOpens", named := ["tender/check.nibble"], apart := false, laid := [("tender/check.nibble", laid_tender_check_nibble)] }
def CheckOpensSaid : Prop := checkOpensRow.holds Tryd.pinned (OpenSpec.ofChange checkOpensSpec)

/-- ITS FALSE NEIGHBOUR: 'it returns false'. Refute it at one input. -/
def checkOpensWrong : ChangeSpec := { name := "checkOpens", fn := fun _ => fun
  | [d] => { results := [.lit (.bool false)], args := [d] }
  | _ => none }
def CheckOpensWrongFalsely : Prop := checkOpensRow.holds Tryd.pinned (OpenSpec.ofChange checkOpensWrong)

/-- 'tenderlaw04.CheckBursts': WHATEVER THE INPUT: true; the input reads as it did. -/
def checkBurstsSpec : ChangeSpec := { name := "checkBursts", fn := fun _ => fun
  | [d1, d2, d3] => { results := [.lit (.bool true)], args := [d1, d2, d3] }
  | _ => none }
def checkBurstsRow : OpenClaim := { program := "ytaaajmonabhdgaadoor", sum := "17228330818a0dcdca6ccdef1ef337e8601cbc2cac998a17f9aff5841faece70", func := "tender/tenderlaw04.CheckBursts", spec := "checkBursts", named := ["tender/check.nibble"], apart := false, laid := [("tender/check.nibble", laid_tender_check_nibble)] }
def CheckBurstsSaid : Prop := checkBurstsRow.holds Tryd.pinned (OpenSpec.ofChange checkBurstsSpec)

/-- ITS FALSE NEIGHBOUR: 'it returns false'. Refute it at one input. -/
def checkBurstsWrong : ChangeSpec := { name := "checkBursts", fn := fun _ => fun
  | [d1, d2, d3] => { results := [.lit (.bool false)], args := [d1, d2, d3] }
  | _ => none }
def CheckBurstsWrongFalsely : Prop := checkBurstsRow.holds Tryd.pinned (OpenSpec.ofChange checkBurstsWrong)

/-- 'tenderlaw04.CheckCrosses': WHATEVER THE INPUT: true; the input reads as it did. -/
def checkCrossesSpec : ChangeSpec := { name := "checkCrosses", fn := fun _ => fun
  | [d1, d2, d3] => { results := [.lit (.bool true)], args := [d1, d2, d3] }
  | _ => none }
def checkCrossesRow : OpenClaim := { program := "ytaaajmonabhdgaadoor", sum := "17228330818a0dcdca6ccdef1ef337e8601cbc2cac998a17f9aff5841faece70", func := "tender/tenderlaw04.CheckCrosses", spec := "checkCrosses", named := ["tender/check.nibble"], apart := false, laid := [("tender/check.nibble", laid_tender_check_nibble)] }
def CheckCrossesSaid : Prop := checkCrossesRow.holds Tryd.pinned (OpenSpec.ofChange checkCrossesSpec)

/-- ITS FALSE NEIGHBOUR: 'it returns false'. Refute it at one input. -/
def checkCrossesWrong : ChangeSpec := { name := "checkCrosses", fn := fun _ => fun
  | [d1, d2, d3] => { results := [.lit (.bool false)], args := [d1, d2, d3] }
  | _ => none }
def CheckCrossesWrongFalsely : Prop := checkCrossesRow.holds Tryd.pinned (OpenSpec.ofChange checkCrossesWrong)

/-- 'tenderlaw13.FrameWraps': WHATEVER THE INPUT: true; the input reads as it did. -/
def frameWrapsSpec : ChangeSpec := { name := "frameWraps", fn := fun _ => fun
  | [d1, d2, d3] => { results := [.lit (.bool true)], args := [d1, d2, d3] }
  | _ => none }
def frameWrapsRow : OpenClaim := { program := "ytaaajmonabhdgaadoor", sum := "17228330818a0dcdca6ccdef1ef337e8601cbc2cac998a17f9aff5841faece70", func := "tender/tenderlaw13.FrameWraps", spec := "frameWraps", named := ["tender/check.nibble"], apart := false, laid := [("tender/check.nibble", laid_tender_check_nibble)] }
def FrameWrapsSaid : Prop := frameWrapsRow.holds Tryd.pinned (OpenSpec.ofChange frameWrapsSpec)

/-- ITS FALSE NEIGHBOUR: 'it returns false'. Refute it at one input. -/
def frameWrapsWrong : ChangeSpec := { name := "frameWraps", fn := fun _ => fun
  | [d1, d2, d3] => { results := [.lit (.bool false)], args := [d1, d2, d3] }
  | _ => none }
def FrameWrapsWrongFalsely : Prop := frameWrapsRow.holds Tryd.pinned (OpenSpec.ofChange frameWrapsWrong)

/-- 'tenderlaw13.FrameBursts': WHATEVER THE INPUT: true; the input reads as it did. -/
def frameBurstsSpec : ChangeSpec := { name := "frameBursts", fn := fun _ => fun
  | [d1, d2, d3, d4] => { results := [.lit (.bool true)], args := [d1, d2, d3, d4] }
  | _ => none }
def frameBurstsRow : OpenClaim := { program := "ytaaajmonabhdgaadoor", sum := "17228330818a0dcdca6ccdef1ef337e8601cbc2cac998a17f9aff5841faece70", func := "tender/tenderlaw13.FrameBursts", spec := "frameBursts", named := ["tender/check.nibble"], apart := false, laid := [("tender/check.nibble", laid_tender_check_nibble)] }
def FrameBurstsSaid : Prop := frameBurstsRow.holds Tryd.pinned (OpenSpec.ofChange frameBurstsSpec)

/-- ITS FALSE NEIGHBOUR: 'it returns false'. Refute it at one input. -/
def frameBurstsWrong : ChangeSpec := { name := "frameBursts", fn := fun _ => fun
  | [d1, d2, d3, d4] => { results := [.lit (.bool false)], args := [d1, d2, d3, d4] }
  | _ => none }
def FrameBurstsWrongFalsely : Prop := frameBurstsRow.holds Tryd.pinned (OpenSpec.ofChange frameBurstsWrong)

/-- 'tenderlaw13.FrameTakes': WHATEVER THE INPUT: true; the input reads as it did. -/
def frameTakesSpec : ChangeSpec := { name := "frameTakes", fn := fun _ => fun
  | [d] => { results := [.lit (.bool true)], args := [d] }
  | _ => none }
def frameTakesRow : OpenClaim := { program := "ytaaajmonabhdgaadoor", sum := "17228330818a0dcdca6ccdef1ef337e8601cbc2cac998a17f9aff5841faece70", func := "tender/tenderlaw13.FrameTakes", spec := "frameTakes", named := ["tender/check.nibble"], apart := false, laid := [("tender/check.nibble", laid_tender_check_nibble)] }
def FrameTakesSaid : Prop := frameTakesRow.holds Tryd.pinned (OpenSpec.ofChange frameTakesSpec)

/-- ITS FALSE NEIGHBOUR: 'it returns false'. Refute it at one input. -/
def frameTakesWrong : ChangeSpec := { name := "frameTakes", fn := fun _ => fun
  | [d] => { results := [.lit (.bool false)], args := [d] }
  | _ => none }
def FrameTakesWrongFalsely : Prop := frameTakesRow.holds Tryd.pinned (OpenSpec.ofChange frameTakesWrong)

/-- 'tenderlaw14.IntakeCuts': WHATEVER THE INPUT: true; the input reads as it did. -/
def intakeCutsSpec : ChangeSpec := { name := "intakeCuts", fn := fun _ => fun
  | [d1, d2] => { results := [.lit (.bool true)], args := [d1, d2] }
  | _ => none }
def intakeCutsRow : OpenClaim := { program := "ytaaajmonabhdgaadoor", sum := "17228330818a0dcdca6ccdef1ef337e8601cbc2cac998a17f9aff5841faece70", func := "tender/tenderlaw14.IntakeCuts", spec := "intakeCuts", named := ["tender/check.nibble"], apart := false, laid := [("tender/check.nibble", laid_tender_check_nibble)] }
def IntakeCutsSaid : Prop := intakeCutsRow.holds Tryd.pinned (OpenSpec.ofChange intakeCutsSpec)

/-- ITS FALSE NEIGHBOUR: 'it returns false'. Refute it at one input. -/
def intakeCutsWrong : ChangeSpec := { name := "intakeCuts", fn := fun _ => fun
  | [d1, d2] => { results := [.lit (.bool false)], args := [d1, d2] }
  | _ => none }
def IntakeCutsWrongFalsely : Prop := intakeCutsRow.holds Tryd.pinned (OpenSpec.ofChange intakeCutsWrong)

/-- 'tenderlaw14.IntakePlays': WHATEVER THE INPUT: true; the input reads as it did. -/
def intakePlaysSpec : ChangeSpec := { name := "intakePlays", fn := fun _ => fun
  | [d1, d2] => { results := [.lit (.bool true)], args := [d1, d2] }
  | _ => none }
def intakePlaysRow : OpenClaim := { program := "ytaaajmonabhdgaadoor", sum := "17228330818a0dcdca6ccdef1ef337e8601cbc2cac998a17f9aff5841faece70", func := "tender/tenderlaw14.IntakePlays", spec := "intakePlays", named := ["tender/check.nibble"], apart := false, laid := [("tender/check.nibble", laid_tender_check_nibble)] }
def IntakePlaysSaid : Prop := intakePlaysRow.holds Tryd.pinned (OpenSpec.ofChange intakePlaysSpec)

/-- ITS FALSE NEIGHBOUR: 'it returns false'. Refute it at one input. -/
def intakePlaysWrong : ChangeSpec := { name := "intakePlays", fn := fun _ => fun
  | [d1, d2] => { results := [.lit (.bool false)], args := [d1, d2] }
  | _ => none }
def IntakePlaysWrongFalsely : Prop := intakePlaysRow.holds Tryd.pinned (OpenSpec.ofChange intakePlaysWrong)

/-- 'tenderlaw14.IntakeNobody': WHATEVER THE INPUT: true; the input reads as it did. -/
def intakeNobodySpec : ChangeSpec := { name := "intakeNobody", fn := fun _ => fun
  | [d] => { results := [.lit (.bool true)], args := [d] }
  | _ => none }
def intakeNobodyRow : OpenClaim := { program := "ytaaajmonabhdgaadoor", sum := "17228330818a0dcdca6ccdef1ef337e8601cbc2cac998a17f9aff5841faece70", func := "tender/tenderlaw14.IntakeNobody", spec := "intakeNobody", named := ["tender/check.nibble"], apart := false, laid := [("tender/check.nibble", laid_tender_check_nibble)] }
def IntakeNobodySaid : Prop := intakeNobodyRow.holds Tryd.pinned (OpenSpec.ofChange intakeNobodySpec)

/-- ITS FALSE NEIGHBOUR: 'it returns false'. Refute it at one input. -/
def intakeNobodyWrong : ChangeSpec := { name := "intakeNobody", fn := fun _ => fun
  | [d] => { results := [.lit (.bool false)], args := [d] }
  | _ => none }
def IntakeNobodyWrongFalsely : Prop := intakeNobodyRow.holds Tryd.pinned (OpenSpec.ofChange intakeNobodyWrong)

/- THE SECOND FORM. 'bulk': how many values and letters a reading holds, each counted each time it is reached (what is shared counts as often as it is met; a slice's spare places count too). A statement '..UptoSaid' is the law's where the arguments, and the package variables that the reading takes, are together of bulk at most 1048576: NARROWER than '..Said'. Prove '..Said' where nothing that the law and all that it calls make is longer than what came in: it says more and counts as full. Else prove '..UptoSaid'. A law counts once. -/
mutual
def uptoBulk {H : Type} : DataW H → Nat
  | .lit (.string bytes) => bytes.length + 1
  | .lit _ => 1
  | .nil => 1
  | .ptr d => uptoBulk d + 1
  | .slice elems spare => uptoBulkAll elems + uptoBulkAll spare + 1
  | .agg parts => uptoBulkAll parts + 1
  | .iface _ d => uptoBulk d + 1
  | .map entries => uptoBulkEntries entries + 1
  | .held _ => 1
def uptoBulkAll {H : Type} : List (DataW H) → Nat
  | [] => 0
  | d :: r => uptoBulk d + uptoBulkAll r
def uptoBulkEntries {H : Type} : List (Lit × DataW H) → Nat
  | [] => 0
  | x :: r => uptoBulkEntry x + uptoBulkEntries r
def uptoBulkEntry {H : Type} : Lit × DataW H → Nat
  | (.string bytes, d) => bytes.length + uptoBulk d + 1
  | (_, d) => uptoBulk d + 1
 end
def uptoSmall : (H : Type) → List (DataW H) → Bool := fun _ ds => decide (uptoBulkAll ds ≤ 1048576)
def OpenSpec.upto (s : _root_.Go.ChangeSpec) : _root_.Go.OpenSpec := { _root_.Go.OpenSpec.ofChange s with cond := some uptoSmall }

/-- 'tenderlaw04.CheckSums', WHERE WHAT IT READS IS OF BULK AT MOST 1048576: true; the input reads as it did. -/
def checkSumsUptoRow : OpenClaim := { program := "ytaaajmonabhdgaadoor", sum := "17228330818a0dcdca6ccdef1ef337e8601cbc2cac998a17f9aff5841faece70", func := "tender/tenderlaw04.CheckSums", spec := "checkSums", named := ["tender/check.nibble"], apart := false, laid := [("tender/check.nibble", laid_tender_check_nibble)], narrowed := true }
def CheckSumsUptoSaid : Prop := checkSumsUptoRow.holds Tryd.pinned (OpenSpec.upto checkSumsSpec)

/-- 'tenderlaw04.CheckOpens', WHERE WHAT IT READS IS OF BULK AT MOST 1048576: true; the input reads as it did. -/
def checkOpensUptoRow : OpenClaim := { program := "ytaaajmonabhdgaadoor", sum := "17228330818a0dcdca6ccdef1ef337e8601cbc2cac998a17f9aff5841faece70", func := "tender/tenderlaw04.CheckOpens", spec := "checkOpens", named := ["tender/check.nibble"], apart := false, laid := [("tender/check.nibble", laid_tender_check_nibble)], narrowed := true }
def CheckOpensUptoSaid : Prop := checkOpensUptoRow.holds Tryd.pinned (OpenSpec.upto checkOpensSpec)

/-- 'tenderlaw04.CheckBursts', WHERE WHAT IT READS IS OF BULK AT MOST 1048576: true; the input reads as it did. -/
def checkBurstsUptoRow : OpenClaim := { program := "ytaaajmonabhdgaadoor", sum := "17228330818a0dcdca6ccdef1ef337e8601cbc2cac998a17f9aff5841faece70", func := "tender/tenderlaw04.CheckBursts", spec := "checkBursts", named := ["tender/check.nibble"], apart := false, laid := [("tender/check.nibble", laid_tender_check_nibble)], narrowed := true }
def CheckBurstsUptoSaid : Prop := checkBurstsUptoRow.holds Tryd.pinned (OpenSpec.upto checkBurstsSpec)

/-- 'tenderlaw04.CheckCrosses', WHERE WHAT IT READS IS OF BULK AT MOST 1048576: true; the input reads as it did. -/
def checkCrossesUptoRow : OpenClaim := { program := "ytaaajmonabhdgaadoor", sum := "17228330818a0dcdca6ccdef1ef337e8601cbc2cac998a17f9aff5841faece70", func := "tender/tenderlaw04.CheckCrosses", spec := "checkCrosses", named := ["tender/check.nibble"], apart := false, laid := [("tender/check.nibble", laid_tender_check_nibble)], narrowed := true }
def CheckCrossesUptoSaid : Prop := checkCrossesUptoRow.holds Tryd.pinned (OpenSpec.upto checkCrossesSpec)

/-- 'tenderlaw13.FrameWraps', WHERE WHAT IT READS IS OF BULK AT MOST 1048576: true; the input reads as it did. -/
def frameWrapsUptoRow : OpenClaim := { program := "ytaaajmonabhdgaadoor", sum := "17228330818a0dcdca6ccdef1ef337e8601cbc2cac998a17f9aff5841faece70", func := "tender/tenderlaw13.FrameWraps", spec := "frameWraps", named := ["tender/check.nibble"], apart := false, laid := [("tender/check.nibble", laid_tender_check_nibble)], narrowed := true }
def FrameWrapsUptoSaid : Prop := frameWrapsUptoRow.holds Tryd.pinned (OpenSpec.upto frameWrapsSpec)

/-- 'tenderlaw13.FrameBursts', WHERE WHAT IT READS IS OF BULK AT MOST 1048576: true; the input reads as it did. -/
def frameBurstsUptoRow : OpenClaim := { program := "ytaaajmonabhdgaadoor", sum := "17228330818a0dcdca6ccdef1ef337e8601cbc2cac998a17f9aff5841faece70", func := "tender/tenderlaw13.FrameBursts", spec := "frameBursts", named := ["tender/check.nibble"], apart := false, laid := [("tender/check.nibble", laid_tender_check_nibble)], narrowed := true }
def FrameBurstsUptoSaid : Prop := frameBurstsUptoRow.holds Tryd.pinned (OpenSpec.upto frameBurstsSpec)

/-- 'tenderlaw13.FrameTakes', WHERE WHAT IT READS IS OF BULK AT MOST 1048576: true; the input reads as it did. -/
def frameTakesUptoRow : OpenClaim := { program := "ytaaajmonabhdgaadoor", sum := "17228330818a0dcdca6ccdef1ef337e8601cbc2cac998a17f9aff5841faece70", func := "tender/tenderlaw13.FrameTakes", spec := "frameTakes", named := ["tender/check.nibble"], apart := false, laid := [("tender/check.nibble", laid_tender_check_nibble)], narrowed := true }
def FrameTakesUptoSaid : Prop := frameTakesUptoRow.holds Tryd.pinned (OpenSpec.upto frameTakesSpec)

/-- 'tenderlaw14.IntakeCuts', WHERE WHAT IT READS IS OF BULK AT MOST 1048576: true; the input reads as it did. -/
def intakeCutsUptoRow : OpenClaim := { program := "ytaaajmonabhdgaadoor", sum := "17228330818a0dcdca6ccdef1ef337e8601cbc2cac998a17f9aff5841faece70", func := "tender/tenderlaw14.IntakeCuts", spec := "intakeCuts", named := ["tender/check.nibble"], apart := false, laid := [("tender/check.nibble", laid_tender_check_nibble)], narrowed := true }
def IntakeCutsUptoSaid : Prop := intakeCutsUptoRow.holds Tryd.pinned (OpenSpec.upto intakeCutsSpec)

/-- 'tenderlaw14.IntakePlays', WHERE WHAT IT READS IS OF BULK AT MOST 1048576: true; the input reads as it did. -/
def intakePlaysUptoRow : OpenClaim := { program := "ytaaajmonabhdgaadoor", sum := "17228330818a0dcdca6ccdef1ef337e8601cbc2cac998a17f9aff5841faece70", func := "tender/tenderlaw14.IntakePlays", spec := "intakePlays", named := ["tender/check.nibble"], apart := false, laid := [("tender/check.nibble", laid_tender_check_nibble)], narrowed := true }
def IntakePlaysUptoSaid : Prop := intakePlaysUptoRow.holds Tryd.pinned (OpenSpec.upto intakePlaysSpec)

/-- 'tenderlaw14.IntakeNobody', WHERE WHAT IT READS IS OF BULK AT MOST 1048576: true; the input reads as it did. -/
def intakeNobodyUptoRow : OpenClaim := { program := "ytaaajmonabhdgaadoor", sum := "17228330818a0dcdca6ccdef1ef337e8601cbc2cac998a17f9aff5841faece70", func := "tender/tenderlaw14.IntakeNobody", spec := "intakeNobody", named := ["tender/check.nibble"], apart := false, laid := [("tender/check.nibble", laid_tender_check_nibble)], narrowed := true }
def IntakeNobodyUptoSaid : Prop := intakeNobodyUptoRow.holds Tryd.pinned (OpenSpec.upto intakeNobodySpec)

end Rows
end Go.Proofs.YtaaajmonabhdgaaDoor
