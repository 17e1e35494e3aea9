/-
  NARROWER THAN 'FOR EVERY INPUT', by the rows' own cells (each row's printed sentence says how): MsgWrites: laid · BlameClasses: laid · BlameTells: laid · BlameWraps: laid · LineBack: laid · BlameAsks: laid · LineNobody: laid.
  DERIVED. THE GIVEN ROWS OF THIS SEAT. 7 by the template 'for every input the law returns true; each argument reads behind the call as it read before'; 0 by the template 'total and deterministic' (their statements: YthhhiiagppckhaaDoorTotals.lean).
  GIVEN WITH THE SEED: the statements are not yours to turn. If you find one false, say at which input.
  Laid BY PROGRAM, IN A SANDBOX (cutbox-rows.mjs): the forced cells as the released guide's own fill.sh prints them over the translation 7c4bb617f54fa570… (all of the seat's roots in one cut). By AI agents, Wed Nov 11 2026. No macro, syntax, notation, axiom, sorry.
-/
import Derived.Test.YthhhiiagppckhaaDoorChecked
import GoSem.Claim
import GoSem.ClaimJoined
import GoSem.ClaimMapViews
import Derived.JoinedTies
import Derived.KernelRfl
namespace Go.Proofs.YthhhiiagppckhaaDoor
/- THE CELL 'sum', in the pinned program and in every row, IS THE sha256 OF THE DUMP (.gsa) THAT YthhhiiagppckhaaDoorProg.lean LOADS. Nothing in Lean hashes anything: it is a label: what it is worth is what the hold of that sum in a sandbox is worth. -/
noncomputable def Tryd.pinned : Pinned := { name := "ythhhiiagppckhaadoor", sum := "7c4bb617f54fa5700aa476a3a7fe1c2e25bc323f3853ddbd84cb824e5911b09c", checked := Tryd.checked }
namespace Rows
def none {H : Type} : Left H := { results := [], args := [] }

/- WHAT THE LISTED PACKAGE-LEVEL VARIABLES READ AS WHEN THE CALL BEGINS. Each datum BY PROGRAM (the guide's laid-datum.mjs) off the statement by which the dump's own 'gosem.cut.vars' lays the variable. In a bare row this is a premise. The card (YthhhiiagppckhaaDoorCards.lean) ties it to the program's text. -/
def laid_tender_check_nibble {H : Type} : DataW H := .agg [.lit (.int .u32 0), .lit (.int .u32 274646895), .lit (.int .u32 549293790), .lit (.int .u32 820201905), .lit (.int .u32 1098587580), .lit (.int .u32 1361435347), .lit (.int .u32 1640403810), .lit (.int .u32 1905808397), .lit (.int .u32 2197175160), .lit (.int .u32 2460548119), .lit (.int .u32 2722870694), .lit (.int .u32 2987750089), .lit (.int .u32 3280807620), .lit (.int .u32 3553878443), .lit (.int .u32 3811616794), .lit (.int .u32 4084100981)]
def laid_errors_errorType {H : Type} : DataW H := .iface "internal/reflectlite.rtype" (.agg [.ptr (.lit (.string [101, 114, 114, 111, 114]))])
def laid_math_bits_deBruijn32tab {H : Type} : DataW H := .agg [.lit (.int .u8 0), .lit (.int .u8 1), .lit (.int .u8 28), .lit (.int .u8 2), .lit (.int .u8 29), .lit (.int .u8 14), .lit (.int .u8 24), .lit (.int .u8 3), .lit (.int .u8 30), .lit (.int .u8 22), .lit (.int .u8 20), .lit (.int .u8 15), .lit (.int .u8 25), .lit (.int .u8 17), .lit (.int .u8 4), .lit (.int .u8 8), .lit (.int .u8 31), .lit (.int .u8 27), .lit (.int .u8 13), .lit (.int .u8 23), .lit (.int .u8 21), .lit (.int .u8 19), .lit (.int .u8 16), .lit (.int .u8 7), .lit (.int .u8 26), .lit (.int .u8 12), .lit (.int .u8 18), .lit (.int .u8 6), .lit (.int .u8 11), .lit (.int .u8 5), .lit (.int .u8 10), .lit (.int .u8 9)]
def laid_math_bits_deBruijn64tab {H : Type} : DataW H := .agg [.lit (.int .u8 0), .lit (.int .u8 1), .lit (.int .u8 56), .lit (.int .u8 2), .lit (.int .u8 57), .lit (.int .u8 49), .lit (.int .u8 28), .lit (.int .u8 3), .lit (.int .u8 61), .lit (.int .u8 58), .lit (.int .u8 42), .lit (.int .u8 50), .lit (.int .u8 38), .lit (.int .u8 29), .lit (.int .u8 17), .lit (.int .u8 4), .lit (.int .u8 62), .lit (.int .u8 47), .lit (.int .u8 59), .lit (.int .u8 36), .lit (.int .u8 45), .lit (.int .u8 43), .lit (.int .u8 51), .lit (.int .u8 22), .lit (.int .u8 53), .lit (.int .u8 39), .lit (.int .u8 33), .lit (.int .u8 30), .lit (.int .u8 24), .lit (.int .u8 18), .lit (.int .u8 12), .lit (.int .u8 5), .lit (.int .u8 63), .lit (.int .u8 55), .lit (.int .u8 48), .lit (.int .u8 27), .lit (.int .u8 60), .lit (.int .u8 41), .lit (.int .u8 37), .lit (.int .u8 16), .lit (.int .u8 46), .lit (.int .u8 35), .lit (.int .u8 44), .lit (.int .u8 21), .lit (.int .u8 52), .lit (.int .u8 32), .lit (.int .u8 23), .lit (.int .u8 11), .lit (.int .u8 54), .lit (.int .u8 26), .lit (.int .u8 40), .lit (.int .u8 15), .lit (.int .u8 34), .lit (.int .u8 20), .lit (.int .u8 31), .lit (.int .u8 10), .lit (.int .u8 25), .lit (.int .u8 14), .lit (.int .u8 19), .lit (.int .u8 9), .lit (.int .u8 13), .lit (.int .u8 8), .lit (.int .u8 7), .lit (.int .u8 6)]
def laid_internal_strconv_uint64pow10 {H : Type} : DataW H := .agg [.lit (.int .u64 1), .lit (.int .u64 10), .lit (.int .u64 100), .lit (.int .u64 1000), .lit (.int .u64 10000), .lit (.int .u64 100000), .lit (.int .u64 1000000), .lit (.int .u64 10000000), .lit (.int .u64 100000000), .lit (.int .u64 1000000000), .lit (.int .u64 10000000000), .lit (.int .u64 100000000000), .lit (.int .u64 1000000000000), .lit (.int .u64 10000000000000), .lit (.int .u64 100000000000000), .lit (.int .u64 1000000000000000), .lit (.int .u64 10000000000000000), .lit (.int .u64 100000000000000000), .lit (.int .u64 1000000000000000000), .lit (.int .u64 10000000000000000000)]

/-- 'tenderlaw15.MsgWrites': WHATEVER THE INPUT: true; the input reads as it did. -/
def msgWritesSpec : ChangeSpec := { name := "msgWrites", fn := fun _ => fun
  | [d] => { results := [.lit (.bool true)], args := [d] }
  | _ => none }
def msgWritesRow : OpenClaim := { program := "ythhhiiagppckhaadoor", sum := "7c4bb617f54fa5700aa476a3a7fe1c2e25bc323f3853ddbd84cb824e5911b09c", func := "tender/tenderlaw15.MsgWrites", spec := "msgWrites", unfollowed := true, recurses := true, named := ["tender/check.nibble"], apart := false, laid := [("tender/check.nibble", laid_tender_check_nibble)] }
def MsgWritesSaid : Prop := msgWritesRow.holds Tryd.pinned (OpenSpec.ofChange msgWritesSpec)

/-- ITS FALSE NEIGHBOUR: 'it returns false'. Refute it at one input. -/
def msgWritesWrong : ChangeSpec := { name := "msgWrites", fn := fun _ => fun
  | [d] => { results := [.lit (.bool false)], args := [d] }
  | _ => none }
def MsgWritesWrongFalsely : Prop := msgWritesRow.holds Tryd.pinned (OpenSpec.ofChange msgWritesWrong)

/-- 'tenderlaw02.BlameClasses': WHATEVER THE INPUT: true; the input reads as it did. -/
def blameClassesSpec : ChangeSpec := { name := "blameClasses", fn := fun _ => fun
  | [d] => { results := [.lit (.bool true)], args := [d] }
  | _ => none }
def blameClassesRow : OpenClaim := { program := "ythhhiiagppckhaadoor", sum := "7c4bb617f54fa5700aa476a3a7fe1c2e25bc323f3853ddbd84cb824e5911b09c", func := "tender/tenderlaw02.BlameClasses", spec := "blameClasses", inPlace := ["internal/reflectlite.ValueOf", "(internal/reflectlite.Value).Type", "(internal/reflectlite.Value).IsNil", "internal/reflectlite.TypeOf", "(internal/reflectlite.Value).Elem", "(internal/reflectlite.Value).Set"], unfollowed := true, recurses := true, named := ["errors.errorType"], apart := false, laid := [("errors.errorType", laid_errors_errorType)] }
def BlameClassesSaid : Prop := blameClassesRow.holds Tryd.pinned (OpenSpec.ofChange blameClassesSpec)

/-- ITS FALSE NEIGHBOUR: 'it returns false'. Refute it at one input. -/
def blameClassesWrong : ChangeSpec := { name := "blameClasses", fn := fun _ => fun
  | [d] => { results := [.lit (.bool false)], args := [d] }
  | _ => none }
def BlameClassesWrongFalsely : Prop := blameClassesRow.holds Tryd.pinned (OpenSpec.ofChange blameClassesWrong)

/-- 'tenderlaw02.BlameTells': WHATEVER THE INPUT: true; the input reads as it did. -/
def blameTellsSpec : ChangeSpec := { name := "blameTells", fn := fun _ => fun
  | [d] => { results := [.lit (.bool true)], args := [d] }
  | _ => none }
def blameTellsRow : OpenClaim := { program := "ythhhiiagppckhaadoor", sum := "7c4bb617f54fa5700aa476a3a7fe1c2e25bc323f3853ddbd84cb824e5911b09c", func := "tender/tenderlaw02.BlameTells", spec := "blameTells", inPlace := ["internal/reflectlite.ValueOf", "(internal/reflectlite.Value).Type", "(internal/reflectlite.Value).IsNil", "internal/reflectlite.TypeOf", "(internal/reflectlite.Value).Elem", "(internal/reflectlite.Value).Set"], unfollowed := true, recurses := true, named := ["errors.errorType"], apart := false, laid := [("errors.errorType", laid_errors_errorType)] }
def BlameTellsSaid : Prop := blameTellsRow.holds Tryd.pinned (OpenSpec.ofChange blameTellsSpec)

/-- ITS FALSE NEIGHBOUR: 'it returns false'. Refute it at one input. -/
def blameTellsWrong : ChangeSpec := { name := "blameTells", fn := fun _ => fun
  | [d] => { results := [.lit (.bool false)], args := [d] }
  | _ => none }
def BlameTellsWrongFalsely : Prop := blameTellsRow.holds Tryd.pinned (OpenSpec.ofChange blameTellsWrong)

/-- 'tenderlaw02.BlameWraps': WHATEVER THE INPUT: true; the input reads as it did. -/
def blameWrapsSpec : ChangeSpec := { name := "blameWraps", fn := fun _ => fun
  | [d1, d2, d3] => { results := [.lit (.bool true)], args := [d1, d2, d3] }
  | _ => none }
def blameWrapsRow : OpenClaim := { program := "ythhhiiagppckhaadoor", sum := "7c4bb617f54fa5700aa476a3a7fe1c2e25bc323f3853ddbd84cb824e5911b09c", func := "tender/tenderlaw02.BlameWraps", spec := "blameWraps", inPlace := ["internal/reflectlite.ValueOf", "(internal/reflectlite.Value).Type", "(internal/reflectlite.Value).IsNil", "internal/reflectlite.TypeOf", "(internal/reflectlite.Value).Elem", "(internal/reflectlite.Value).Set", "internal/abi.NoEscape", "internal/bytealg.MakeNoZero"], unfollowed := true, recurses := true, named := ["errors.errorType", "internal/strconv.uint64pow10", "math/bits.deBruijn32tab", "math/bits.deBruijn64tab"], apart := false, laid := [("math/bits.deBruijn32tab", laid_math_bits_deBruijn32tab), ("math/bits.deBruijn64tab", laid_math_bits_deBruijn64tab), ("internal/strconv.uint64pow10", laid_internal_strconv_uint64pow10), ("errors.errorType", laid_errors_errorType)] }
def BlameWrapsSaid : Prop := blameWrapsRow.holds Tryd.pinned (OpenSpec.ofChange blameWrapsSpec)

/-- ITS FALSE NEIGHBOUR: 'it returns false'. Refute it at one input. -/
def blameWrapsWrong : ChangeSpec := { name := "blameWraps", fn := fun _ => fun
  | [d1, d2, d3] => { results := [.lit (.bool false)], args := [d1, d2, d3] }
  | _ => none }
def BlameWrapsWrongFalsely : Prop := blameWrapsRow.holds Tryd.pinned (OpenSpec.ofChange blameWrapsWrong)

/-- 'tenderlaw33.LineBack': WHATEVER THE INPUT: true; the input reads as it did. -/
def lineBackSpec : ChangeSpec := { name := "lineBack", fn := fun _ => fun
  | [d1, d2] => { results := [.lit (.bool true)], args := [d1, d2] }
  | _ => none }
def lineBackRow : OpenClaim := { program := "ythhhiiagppckhaadoor", sum := "7c4bb617f54fa5700aa476a3a7fe1c2e25bc323f3853ddbd84cb824e5911b09c", func := "tender/tenderlaw33.LineBack", spec := "lineBack", unfollowed := true, recurses := true, named := ["tender/check.nibble"], apart := false, laid := [("tender/check.nibble", laid_tender_check_nibble)] }
def LineBackSaid : Prop := lineBackRow.holds Tryd.pinned (OpenSpec.ofChange lineBackSpec)

/-- ITS FALSE NEIGHBOUR: 'it returns false'. Refute it at one input. -/
def lineBackWrong : ChangeSpec := { name := "lineBack", fn := fun _ => fun
  | [d1, d2] => { results := [.lit (.bool false)], args := [d1, d2] }
  | _ => none }
def LineBackWrongFalsely : Prop := lineBackRow.holds Tryd.pinned (OpenSpec.ofChange lineBackWrong)

/-- 'tenderlaw02.BlameAsks': WHATEVER THE INPUT: true; the input reads as it did. -/
def blameAsksSpec : ChangeSpec := { name := "blameAsks", fn := fun _ => fun
  | [d1, d2] => { results := [.lit (.bool true)], args := [d1, d2] }
  | _ => none }
def blameAsksRow : OpenClaim := { program := "ythhhiiagppckhaadoor", sum := "7c4bb617f54fa5700aa476a3a7fe1c2e25bc323f3853ddbd84cb824e5911b09c", func := "tender/tenderlaw02.BlameAsks", spec := "blameAsks", inPlace := ["internal/reflectlite.ValueOf", "(internal/reflectlite.Value).Type", "(internal/reflectlite.Value).IsNil", "internal/reflectlite.TypeOf", "(internal/reflectlite.Value).Elem", "(internal/reflectlite.Value).Set", "internal/abi.NoEscape", "internal/bytealg.MakeNoZero"], unfollowed := true, recurses := true, named := ["errors.errorType", "internal/strconv.uint64pow10", "math/bits.deBruijn32tab", "math/bits.deBruijn64tab"], apart := false, laid := [("math/bits.deBruijn32tab", laid_math_bits_deBruijn32tab), ("math/bits.deBruijn64tab", laid_math_bits_deBruijn64tab), ("internal/strconv.uint64pow10", laid_internal_strconv_uint64pow10), ("errors.errorType", laid_errors_errorType)] }
def BlameAsksSaid : Prop := blameAsksRow.holds Tryd.pinned (OpenSpec.ofChange blameAsksSpec)

/-- ITS FALSE NEIGHBOUR: 'it returns false'. Refute it at one input. -/
def blameAsksWrong : ChangeSpec := { name := "blameAsks", fn := fun _ => fun
  | [d1, d2] => { results := [.lit (.bool false)], args := [d1, d2] }
  | _ => none }
def BlameAsksWrongFalsely : Prop := blameAsksRow.holds Tryd.pinned (OpenSpec.ofChange blameAsksWrong)

/-- 'tenderlaw33.LineNobody': WHATEVER THE INPUT: true; the input reads as it did. -/
def lineNobodySpec : ChangeSpec := { name := "lineNobody", fn := fun _ => fun
  | [d1, d2] => { results := [.lit (.bool true)], args := [d1, d2] }
  | _ => none }
def lineNobodyRow : OpenClaim := { program := "ythhhiiagppckhaadoor", sum := "7c4bb617f54fa5700aa476a3a7fe1c2e25bc323f3853ddbd84cb824e5911b09c", func := "tender/tenderlaw33.LineNobody", spec := "lineNobody", inPlace := ["internal/reflectlite.TypeOf", "internal/reflectlite.ValueOf", "(internal/reflectlite.Value).Type", "(internal/reflectlite.Value).IsNil", "(internal/reflectlite.Value).Elem", "(internal/reflectlite.Value).Set"], unfollowed := true, recurses := true, named := ["tender/check.nibble", "errors.errorType"], apart := false, laid := [("errors.errorType", laid_errors_errorType), ("tender/check.nibble", laid_tender_check_nibble)] }
def LineNobodySaid : Prop := lineNobodyRow.holds Tryd.pinned (OpenSpec.ofChange lineNobodySpec)

/-- ITS FALSE NEIGHBOUR: 'it returns false'. Refute it at one input. -/
def lineNobodyWrong : ChangeSpec := { name := "lineNobody", fn := fun _ => fun
  | [d1, d2] => { results := [.lit (.bool false)], args := [d1, d2] }
  | _ => none }
def LineNobodyWrongFalsely : Prop := lineNobodyRow.holds Tryd.pinned (OpenSpec.ofChange lineNobodyWrong)

/- THE SECOND FORM. 'bulk': how many values and letters a reading holds, each counted each time it is reached (what is shared counts as often as it is met; a slice's spare places count too). A statement '..UptoSaid' is the law's where the arguments, and the package variables that the reading takes, are together of bulk at most 1048576: NARROWER than '..Said'. Prove '..Said' where nothing that the law and all that it calls make is longer than what came in: it says more and counts as full. Else prove '..UptoSaid'. A law counts once. -/
mutual
def uptoBulk {H : Type} : DataW H → Nat
  | .lit (.string bytes) => bytes.length + 1
  | .lit _ => 1
  | .nil => 1
  | .ptr d => uptoBulk d + 1
  | .slice elems spare => uptoBulkAll elems + uptoBulkAll spare + 1
  | .agg parts => uptoBulkAll parts + 1
  | .iface _ d => uptoBulk d + 1
  | .map entries => uptoBulkEntries entries + 1
  | .held _ => 1
def uptoBulkAll {H : Type} : List (DataW H) → Nat
  | [] => 0
  | d :: r => uptoBulk d + uptoBulkAll r
def uptoBulkEntries {H : Type} : List (Lit × DataW H) → Nat
  | [] => 0
  | x :: r => uptoBulkEntry x + uptoBulkEntries r
def uptoBulkEntry {H : Type} : Lit × DataW H → Nat
  | (.string bytes, d) => bytes.length + uptoBulk d + 1
  | (_, d) => uptoBulk d + 1
 end
def uptoSmall : (H : Type) → List (DataW H) → Bool := fun _ ds => decide (uptoBulkAll ds ≤ 1048576)
def OpenSpec.upto (s : _root_.Go.ChangeSpec) : _root_.Go.OpenSpec := { _root_.Go.OpenSpec.ofChange s with cond := some uptoSmall }

/-- 'tenderlaw15.MsgWrites', WHERE WHAT IT READS IS OF BULK AT MOST 1048576: true; the input reads as it did. -/
def msgWritesUptoRow : OpenClaim := { program := "ythhhiiagppckhaadoor", sum := "7c4bb617f54fa5700aa476a3a7fe1c2e25bc323f3853ddbd84cb824e5911b09c", func := "tender/tenderlaw15.MsgWrites", spec := "msgWrites", unfollowed := true, recurses := true, named := ["tender/check.nibble"], apart := false, laid := [("tender/check.nibble", laid_tender_check_nibble)], narrowed := true }
def MsgWritesUptoSaid : Prop := msgWritesUptoRow.holds Tryd.pinned (OpenSpec.upto msgWritesSpec)

/-- 'tenderlaw02.BlameClasses', WHERE WHAT IT READS IS OF BULK AT MOST 1048576: true; the input reads as it did. -/
def blameClassesUptoRow : OpenClaim := { program := "ythhhiiagppckhaadoor", sum := "7c4bb617f54fa5700aa476a3a7fe1c2e25bc323f3853ddbd84cb824e5911b09c", func := "tender/tenderlaw02.BlameClasses", spec := "blameClasses", inPlace := ["internal/reflectlite.ValueOf", "(internal/reflectlite.Value).Type", "(internal/reflectlite.Value).IsNil", "internal/reflectlite.TypeOf", "(internal/reflectlite.Value).Elem", "(internal/reflectlite.Value).Set"], unfollowed := true, recurses := true, named := ["errors.errorType"], apart := false, laid := [("errors.errorType", laid_errors_errorType)], narrowed := true }
def BlameClassesUptoSaid : Prop := blameClassesUptoRow.holds Tryd.pinned (OpenSpec.upto blameClassesSpec)

/-- 'tenderlaw02.BlameTells', WHERE WHAT IT READS IS OF BULK AT MOST 1048576: true; the input reads as it did. -/
def blameTellsUptoRow : OpenClaim := { program := "ythhhiiagppckhaadoor", sum := "7c4bb617f54fa5700aa476a3a7fe1c2e25bc323f3853ddbd84cb824e5911b09c", func := "tender/tenderlaw02.BlameTells", spec := "blameTells", inPlace := ["internal/reflectlite.ValueOf", "(internal/reflectlite.Value).Type", "(internal/reflectlite.Value).IsNil", "internal/reflectlite.TypeOf", "(internal/reflectlite.Value).Elem", "(internal/reflectlite.Value).Set"], unfollowed := true, recurses := true, named := ["errors.errorType"], apart := false, laid := [("errors.errorType", laid_errors_errorType)], narrowed := true }
def BlameTellsUptoSaid : Prop := blameTellsUptoRow.holds Tryd.pinned (OpenSpec.upto blameTellsSpec)

/-- 'tenderlaw02.BlameWraps', WHERE WHAT IT READS IS OF BULK AT MOST 1048576: true; the input reads as it did. -/
def blameWrapsUptoRow : OpenClaim := { program := "ythhhiiagppckhaadoor", sum := "7c4bb617f54fa5700aa476a3a7fe1c2e25bc323f3853ddbd84cb824e5911b09c", func := "tender/tenderlaw02.BlameWraps", spec := "blameWraps", inPlace := ["internal/reflectlite.ValueOf", "(internal/reflectlite.Value).Type", "(internal/reflectlite.Value).IsNil", "internal/reflectlite.TypeOf", "(internal/reflectlite.Value).Elem", "(internal/reflectlite.Value).Set", "internal/abi.NoEscape", "internal/bytealg.MakeNoZero"], unfollowed := true, recurses := true, named := ["errors.errorType", "internal/strconv.uint64pow10", "math/bits.deBruijn32tab", "math/bits.deBruijn64tab"], apart := false, laid := [("math/bits.deBruijn32tab", laid_math_bits_deBruijn32tab), ("math/bits.deBruijn64tab", laid_math_bits_deBruijn64tab), ("internal/strconv.uint64pow10", laid_internal_strconv_uint64pow10), ("errors.errorType", laid_errors_errorType)], narrowed := true }
def BlameWrapsUptoSaid : Prop := blameWrapsUptoRow.holds Tryd.pinned (OpenSpec.upto blameWrapsSpec)

/-- 'tenderlaw33.LineBack', WHERE WHAT IT READS IS OF BULK AT MOST 1048576: true; the input reads as it did. -/
def lineBackUptoRow : OpenClaim := { program := "ythhhiiagppckhaadoor", sum := "7c4bb617f54fa5700aa476a3a7fe1c2e25bc323f3853ddbd84cb824e5911b09c", func := "tender/tenderlaw33.LineBack", spec := "lineBack", unfollowed := true, recurses := true, named := ["tender/check.nibble"], apart := false, laid := [("tender/check.nibble", laid_tender_check_nibble)], narrowed := true }
def LineBackUptoSaid : Prop := lineBackUptoRow.holds Tryd.pinned (OpenSpec.upto lineBackSpec)

/-- 'tenderlaw02.BlameAsks', WHERE WHAT IT READS IS OF BULK AT MOST 1048576: true; the input reads as it did. -/
def blameAsksUptoRow : OpenClaim := { program := "ythhhiiagppckhaadoor", sum := "7c4bb617f54fa5700aa476a3a7fe1c2e25bc323f3853ddbd84cb824e5911b09c", func := "tender/tenderlaw02.BlameAsks", spec := "blameAsks", inPlace := ["internal/reflectlite.ValueOf", "(internal/reflectlite.Value).Type", "(internal/reflectlite.Value).IsNil", "internal/reflectlite.TypeOf", "(internal/reflectlite.Value).Elem", "(internal/reflectlite.Value).Set", "internal/abi.NoEscape", "internal/bytealg.MakeNoZero"], unfollowed := true, recurses := true, named := ["errors.errorType", "internal/strconv.uint64pow10", "math/bits.deBruijn32tab", "math/bits.deBruijn64tab"], apart := false, laid := [("math/bits.deBruijn32tab", laid_math_bits_deBruijn32tab), ("math/bits.deBruijn64tab", laid_math_bits_deBruijn64tab), ("internal/strconv.uint64pow10", laid_internal_strconv_uint64pow10), ("errors.errorType", laid_errors_errorType)], narrowed := true }
def BlameAsksUptoSaid : Prop := blameAsksUptoRow.holds Tryd.pinned (OpenSpec.upto blameAsksSpec)

/-- 'tenderlaw33.LineNobody', WHERE WHAT IT READS IS OF BULK AT MOST 1048576: true; the input reads as it did. -/
def lineNobodyUptoRow : OpenClaim := { program := "ythhhiiagppckhaadoor", sum := "7c4bb617f54fa5700aa476a3a7fe1c2e25bc323f3853ddbd84cb824e5911b09c", func := "tender/tenderlaw33.LineNobody", spec := "lineNobody", inPlace := ["internal/reflectlite.TypeOf", "internal/reflectlite.ValueOf", "(internal/reflectlite.Value).Type", "(internal/reflectlite.Value).IsNil", "(internal/reflectlite.Value).Elem", "(internal/reflectlite.Value).Set"], unfollowed := true, recurses := true, named := ["tender/check.nibble", "errors.errorType"], apart := false, laid := [("errors.errorType", laid_errors_errorType), ("tender/check.nibble", laid_tender_check_nibble)], narrowed := true }
def LineNobodyUptoSaid : Prop := lineNobodyUptoRow.holds Tryd.pinned (OpenSpec.upto lineNobodySpec)

end Rows
end Go.Proofs.YthhhiiagppckhaaDoor
