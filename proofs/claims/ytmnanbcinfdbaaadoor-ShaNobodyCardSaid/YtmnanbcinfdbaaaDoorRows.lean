/-
  NARROWER THAN 'FOR EVERY INPUT', by the rows' own cells (each row's printed sentence says how): ShaSums: laid · ShaParts: laid · ShaNobody: laid · ShaOf: laid · SignFinds: laid · SignTells: laid · SignBest: laid · HuntExact: laid · HuntSelf: laid · HuntCounts: laid · HuntSteps: laid · DeltaShort: laid · PatchBack: laid.
  DERIVED. THE GIVEN ROWS OF THIS SEAT. 13 by the template 'for every input the law returns true; each argument reads behind the call as it read before'; 0 by the template 'total and deterministic' (their statements: YtmnanbcinfdbaaaDoorTotals.lean).
  GIVEN WITH THE SEED: the statements are not yours to turn. If you find one false, say at which input.
  Laid BY PROGRAM, IN A SANDBOX (cutbox-rows.mjs): the forced cells as the released guide's own fill.sh prints them over the translation e584bd318151b3ae… (all of the seat's roots in one cut). By AI agents, Wed Nov 11 2026. No macro, syntax, notation, axiom, sorry.
-/
import Derived.Test.YtmnanbcinfdbaaaDoorChecked
import GoSem.Claim
import GoSem.ClaimJoined
import GoSem.ClaimMapViews
import Derived.JoinedTies
import Derived.KernelRfl
namespace Go.Proofs.YtmnanbcinfdbaaaDoor
/- THE CELL 'sum', in the pinned program and in every row, IS THE sha256 OF THE DUMP (.gsa) THAT YtmnanbcinfdbaaaDoorProg.lean LOADS. Nothing in Lean hashes anything: it is a label: what it is worth is what the hold of that sum in a sandbox is worth. -/
noncomputable def Tryd.pinned : Pinned := { name := "ytmnanbcinfdbaaadoor", sum := "e584bd318151b3aebe5cc4bf68a3ff0ccb702ce427dcf271e4608bcab973647f", checked := Tryd.checked }
namespace Rows
def none {H : Type} : Left H := { results := [], args := [] }

/- WHAT THE LISTED PACKAGE-LEVEL VARIABLES READ AS WHEN THE CALL BEGINS. Each datum BY PROGRAM (the guide's laid-datum.mjs) off the statement by which the dump's own 'gosem.cut.vars' lays the variable. In a bare row this is a premise. The card (YtmnanbcinfdbaaaDoorCards.lean) ties it to the program's text. -/
def laid_tender_sha_first {H : Type} : DataW H := .agg [.lit (.int .u32 1779033703), .lit (.int .u32 3144134277), .lit (.int .u32 1013904242), .lit (.int .u32 2773480762), .lit (.int .u32 1359893119), .lit (.int .u32 2600822924), .lit (.int .u32 528734635), .lit (.int .u32 1541459225)]
def laid_tender_sha_roots {H : Type} : DataW H := .agg [.lit (.int .u32 1116352408), .lit (.int .u32 1899447441), .lit (.int .u32 3049323471), .lit (.int .u32 3921009573), .lit (.int .u32 961987163), .lit (.int .u32 1508970993), .lit (.int .u32 2453635748), .lit (.int .u32 2870763221), .lit (.int .u32 3624381080), .lit (.int .u32 310598401), .lit (.int .u32 607225278), .lit (.int .u32 1426881987), .lit (.int .u32 1925078388), .lit (.int .u32 2162078206), .lit (.int .u32 2614888103), .lit (.int .u32 3248222580), .lit (.int .u32 3835390401), .lit (.int .u32 4022224774), .lit (.int .u32 264347078), .lit (.int .u32 604807628), .lit (.int .u32 770255983), .lit (.int .u32 1249150122), .lit (.int .u32 1555081692), .lit (.int .u32 1996064986), .lit (.int .u32 2554220882), .lit (.int .u32 2821834349), .lit (.int .u32 2952996808), .lit (.int .u32 3210313671), .lit (.int .u32 3336571891), .lit (.int .u32 3584528711), .lit (.int .u32 113926993), .lit (.int .u32 338241895), .lit (.int .u32 666307205), .lit (.int .u32 773529912), .lit (.int .u32 1294757372), .lit (.int .u32 1396182291), .lit (.int .u32 1695183700), .lit (.int .u32 1986661051), .lit (.int .u32 2177026350), .lit (.int .u32 2456956037), .lit (.int .u32 2730485921), .lit (.int .u32 2820302411), .lit (.int .u32 3259730800), .lit (.int .u32 3345764771), .lit (.int .u32 3516065817), .lit (.int .u32 3600352804), .lit (.int .u32 4094571909), .lit (.int .u32 275423344), .lit (.int .u32 430227734), .lit (.int .u32 506948616), .lit (.int .u32 659060556), .lit (.int .u32 883997877), .lit (.int .u32 958139571), .lit (.int .u32 1322822218), .lit (.int .u32 1537002063), .lit (.int .u32 1747873779), .lit (.int .u32 1955562222), .lit (.int .u32 2024104815), .lit (.int .u32 2227730452), .lit (.int .u32 2361852424), .lit (.int .u32 2428436474), .lit (.int .u32 2756734187), .lit (.int .u32 3204031479), .lit (.int .u32 3329325298)]

/-- 'tenderlaw05.ShaSums': WHATEVER THE INPUT: true; the input reads as it did. -/
def shaSumsSpec : ChangeSpec := { name := "shaSums", fn := fun _ => fun
  | [d] => { results := [.lit (.bool true)], args := [d] }
  | _ => none }
def shaSumsRow : OpenClaim := { program := "ytmnanbcinfdbaaadoor", sum := "e584bd318151b3aebe5cc4bf68a3ff0ccb702ce427dcf271e4608bcab973647f", func := "tender/tenderlaw05.ShaSums", spec := "shaSums", named := ["tender/sha.first", "tender/sha.roots"], apart := false, laid := [("tender/sha.first", laid_tender_sha_first), ("tender/sha.roots", laid_tender_sha_roots)] }
def ShaSumsSaid : Prop := shaSumsRow.holds Tryd.pinned (OpenSpec.ofChange shaSumsSpec)

/-- ITS FALSE NEIGHBOUR: 'it returns false'. Refute it at one input. -/
def shaSumsWrong : ChangeSpec := { name := "shaSums", fn := fun _ => fun
  | [d] => { results := [.lit (.bool false)], args := [d] }
  | _ => none }
def ShaSumsWrongFalsely : Prop := shaSumsRow.holds Tryd.pinned (OpenSpec.ofChange shaSumsWrong)

/-- 'tenderlaw05.ShaParts': WHATEVER THE INPUT: true; the input reads as it did. -/
def shaPartsSpec : ChangeSpec := { name := "shaParts", fn := fun _ => fun
  | [d1, d2] => { results := [.lit (.bool true)], args := [d1, d2] }
  | _ => none }
def shaPartsRow : OpenClaim := { program := "ytmnanbcinfdbaaadoor", sum := "e584bd318151b3aebe5cc4bf68a3ff0ccb702ce427dcf271e4608bcab973647f", func := "tender/tenderlaw05.ShaParts", spec := "shaParts", named := ["tender/sha.first", "tender/sha.roots"], apart := false, laid := [("tender/sha.first", laid_tender_sha_first), ("tender/sha.roots", laid_tender_sha_roots)] }
def ShaPartsSaid : Prop := shaPartsRow.holds Tryd.pinned (OpenSpec.ofChange shaPartsSpec)

/-- ITS FALSE NEIGHBOUR: 'it returns false'. Refute it at one input. -/
def shaPartsWrong : ChangeSpec := { name := "shaParts", fn := fun _ => fun
  | [d1, d2] => { results := [.lit (.bool false)], args := [d1, d2] }
  | _ => none }
def ShaPartsWrongFalsely : Prop := shaPartsRow.holds Tryd.pinned (OpenSpec.ofChange shaPartsWrong)

/-- 'tenderlaw05.ShaNobody': WHATEVER THE INPUT: true; the input reads as it did. -/
def shaNobodySpec : ChangeSpec := { name := "shaNobody", fn := fun _ => fun
  | [d] => { results := [.lit (.bool true)], args := [d] }
  | _ => none }
def shaNobodyRow : OpenClaim := { program := "ytmnanbcinfdbaaadoor", sum := "e584bd318151b3aebe5cc4bf68a3ff0ccb702ce427dcf271e4608bcab973647f", func := "tender/tenderlaw05.ShaNobody", spec := "shaNobody", named := ["tender/sha.first", "tender/sha.roots"], apart := false, laid := [("tender/sha.first", laid_tender_sha_first), ("tender/sha.roots", laid_tender_sha_roots)] }
def ShaNobodySaid : Prop := shaNobodyRow.holds Tryd.pinned (OpenSpec.ofChange shaNobodySpec)

/-- ITS FALSE NEIGHBOUR: 'it returns false'. Refute it at one input. -/
def shaNobodyWrong : ChangeSpec := { name := "shaNobody", fn := fun _ => fun
  | [d] => { results := [.lit (.bool false)], args := [d] }
  | _ => none }
def ShaNobodyWrongFalsely : Prop := shaNobodyRow.holds Tryd.pinned (OpenSpec.ofChange shaNobodyWrong)

/-- 'tenderlaw05.ShaOf': WHATEVER THE INPUT: true; the input reads as it did. -/
def shaOfSpec : ChangeSpec := { name := "shaOf", fn := fun _ => fun
  | [d] => { results := [.lit (.bool true)], args := [d] }
  | _ => none }
def shaOfRow : OpenClaim := { program := "ytmnanbcinfdbaaadoor", sum := "e584bd318151b3aebe5cc4bf68a3ff0ccb702ce427dcf271e4608bcab973647f", func := "tender/tenderlaw05.ShaOf", spec := "shaOf", named := ["tender/sha.first", "tender/sha.roots"], apart := false, laid := [("tender/sha.first", laid_tender_sha_first), ("tender/sha.roots", laid_tender_sha_roots)] }
def ShaOfSaid : Prop := shaOfRow.holds Tryd.pinned (OpenSpec.ofChange shaOfSpec)

/-- ITS FALSE NEIGHBOUR: 'it returns false'. Refute it at one input. -/
def shaOfWrong : ChangeSpec := { name := "shaOf", fn := fun _ => fun
  | [d] => { results := [.lit (.bool false)], args := [d] }
  | _ => none }
def ShaOfWrongFalsely : Prop := shaOfRow.holds Tryd.pinned (OpenSpec.ofChange shaOfWrong)

/-- 'tenderlaw17.SignFinds': WHATEVER THE INPUT: true; the input reads as it did. -/
def signFindsSpec : ChangeSpec := { name := "signFinds", fn := fun _ => fun
  | [d1, d2, d3, d4] => { results := [.lit (.bool true)], args := [d1, d2, d3, d4] }
  | _ => none }
def signFindsRow : OpenClaim := { program := "ytmnanbcinfdbaaadoor", sum := "e584bd318151b3aebe5cc4bf68a3ff0ccb702ce427dcf271e4608bcab973647f", func := "tender/tenderlaw17.SignFinds", spec := "signFinds", unfollowed := true, recurses := true, named := ["tender/sha.first", "tender/sha.roots"], apart := false, laid := [("tender/sha.first", laid_tender_sha_first), ("tender/sha.roots", laid_tender_sha_roots)] }
def SignFindsSaid : Prop := signFindsRow.holds Tryd.pinned (OpenSpec.ofChange signFindsSpec)

/-- ITS FALSE NEIGHBOUR: 'it returns false'. Refute it at one input. -/
def signFindsWrong : ChangeSpec := { name := "signFinds", fn := fun _ => fun
  | [d1, d2, d3, d4] => { results := [.lit (.bool false)], args := [d1, d2, d3, d4] }
  | _ => none }
def SignFindsWrongFalsely : Prop := signFindsRow.holds Tryd.pinned (OpenSpec.ofChange signFindsWrong)

/-- 'tenderlaw17.SignTells': WHATEVER THE INPUT: true; the input reads as it did. -/
def signTellsSpec : ChangeSpec := { name := "signTells", fn := fun _ => fun
  | [d1, d2, d3] => { results := [.lit (.bool true)], args := [d1, d2, d3] }
  | _ => none }
def signTellsRow : OpenClaim := { program := "ytmnanbcinfdbaaadoor", sum := "e584bd318151b3aebe5cc4bf68a3ff0ccb702ce427dcf271e4608bcab973647f", func := "tender/tenderlaw17.SignTells", spec := "signTells", unfollowed := true, recurses := true, named := ["tender/sha.first", "tender/sha.roots"], apart := false, laid := [("tender/sha.first", laid_tender_sha_first), ("tender/sha.roots", laid_tender_sha_roots)] }
def SignTellsSaid : Prop := signTellsRow.holds Tryd.pinned (OpenSpec.ofChange signTellsSpec)

/-- ITS FALSE NEIGHBOUR: 'it returns false'. Refute it at one input. -/
def signTellsWrong : ChangeSpec := { name := "signTells", fn := fun _ => fun
  | [d1, d2, d3] => { results := [.lit (.bool false)], args := [d1, d2, d3] }
  | _ => none }
def SignTellsWrongFalsely : Prop := signTellsRow.holds Tryd.pinned (OpenSpec.ofChange signTellsWrong)

/-- 'tenderlaw17.SignBest': WHATEVER THE INPUT: true; the input reads as it did. -/
def signBestSpec : ChangeSpec := { name := "signBest", fn := fun _ => fun
  | [d1, d2] => { results := [.lit (.bool true)], args := [d1, d2] }
  | _ => none }
def signBestRow : OpenClaim := { program := "ytmnanbcinfdbaaadoor", sum := "e584bd318151b3aebe5cc4bf68a3ff0ccb702ce427dcf271e4608bcab973647f", func := "tender/tenderlaw17.SignBest", spec := "signBest", unfollowed := true, recurses := true, named := ["tender/sha.first", "tender/sha.roots"], apart := false, laid := [("tender/sha.first", laid_tender_sha_first), ("tender/sha.roots", laid_tender_sha_roots)] }
def SignBestSaid : Prop := signBestRow.holds Tryd.pinned (OpenSpec.ofChange signBestSpec)

/-- ITS FALSE NEIGHBOUR: 'it returns false'. Refute it at one input. -/
def signBestWrong : ChangeSpec := { name := "signBest", fn := fun _ => fun
  | [d1, d2] => { results := [.lit (.bool false)], args := [d1, d2] }
  | _ => none }
def SignBestWrongFalsely : Prop := signBestRow.holds Tryd.pinned (OpenSpec.ofChange signBestWrong)

/-- 'tenderlaw18.HuntExact': WHATEVER THE INPUT: true; the input reads as it did. -/
def huntExactSpec : ChangeSpec := { name := "huntExact", fn := fun _ => fun
  | [d1, d2, d3] => { results := [.lit (.bool true)], args := [d1, d2, d3] }
  | _ => none }
def huntExactRow : OpenClaim := { program := "ytmnanbcinfdbaaadoor", sum := "e584bd318151b3aebe5cc4bf68a3ff0ccb702ce427dcf271e4608bcab973647f", func := "tender/tenderlaw18.HuntExact", spec := "huntExact", unfollowed := true, recurses := true, named := ["tender/sha.first", "tender/sha.roots"], apart := false, laid := [("tender/sha.first", laid_tender_sha_first), ("tender/sha.roots", laid_tender_sha_roots)] }
def HuntExactSaid : Prop := huntExactRow.holds Tryd.pinned (OpenSpec.ofChange huntExactSpec)

/-- ITS FALSE NEIGHBOUR: 'it returns false'. Refute it at one input. -/
def huntExactWrong : ChangeSpec := { name := "huntExact", fn := fun _ => fun
  | [d1, d2, d3] => { results := [.lit (.bool false)], args := [d1, d2, d3] }
  | _ => none }
def HuntExactWrongFalsely : Prop := huntExactRow.holds Tryd.pinned (OpenSpec.ofChange huntExactWrong)

/-- 'tenderlaw18.HuntSelf': WHATEVER THE INPUT: true; the input reads as it did. -/
def huntSelfSpec : ChangeSpec := { name := "huntSelf", fn := fun _ => fun
  | [d1, d2, d3] => { results := [.lit (.bool true)], args := [d1, d2, d3] }
  | _ => none }
def huntSelfRow : OpenClaim := { program := "ytmnanbcinfdbaaadoor", sum := "e584bd318151b3aebe5cc4bf68a3ff0ccb702ce427dcf271e4608bcab973647f", func := "tender/tenderlaw18.HuntSelf", spec := "huntSelf", unfollowed := true, recurses := true, named := ["tender/sha.first", "tender/sha.roots"], apart := false, laid := [("tender/sha.first", laid_tender_sha_first), ("tender/sha.roots", laid_tender_sha_roots)] }
def HuntSelfSaid : Prop := huntSelfRow.holds Tryd.pinned (OpenSpec.ofChange huntSelfSpec)

/-- ITS FALSE NEIGHBOUR: 'it returns false'. Refute it at one input. -/
def huntSelfWrong : ChangeSpec := { name := "huntSelf", fn := fun _ => fun
  | [d1, d2, d3] => { results := [.lit (.bool false)], args := [d1, d2, d3] }
  | _ => none }
def HuntSelfWrongFalsely : Prop := huntSelfRow.holds Tryd.pinned (OpenSpec.ofChange huntSelfWrong)

/-- 'tenderlaw18.HuntCounts': WHATEVER THE INPUT: true; the input reads as it did. -/
def huntCountsSpec : ChangeSpec := { name := "huntCounts", fn := fun _ => fun
  | [d] => { results := [.lit (.bool true)], args := [d] }
  | _ => none }
def huntCountsRow : OpenClaim := { program := "ytmnanbcinfdbaaadoor", sum := "e584bd318151b3aebe5cc4bf68a3ff0ccb702ce427dcf271e4608bcab973647f", func := "tender/tenderlaw18.HuntCounts", spec := "huntCounts", unfollowed := true, recurses := true, named := ["tender/sha.first", "tender/sha.roots"], apart := false, laid := [("tender/sha.first", laid_tender_sha_first), ("tender/sha.roots", laid_tender_sha_roots)] }
def HuntCountsSaid : Prop := huntCountsRow.holds Tryd.pinned (OpenSpec.ofChange huntCountsSpec)

/-- ITS FALSE NEIGHBOUR: 'it returns false'. Refute it at one input. -/
def huntCountsWrong : ChangeSpec := { name := "huntCounts", fn := fun _ => fun
  | [d] => { results := [.lit (.bool false)], args := [d] }
  | _ => none }
def HuntCountsWrongFalsely : Prop := huntCountsRow.holds Tryd.pinned (OpenSpec.ofChange huntCountsWrong)

/-- 'tenderlaw18.HuntSteps': WHATEVER THE INPUT: true; the input reads as it did. -/
def huntStepsSpec : ChangeSpec := { name := "huntSteps", fn := fun _ => fun
  | [d1, d2, d3] => { results := [.lit (.bool true)], args := [d1, d2, d3] }
  | _ => none }
def huntStepsRow : OpenClaim := { program := "ytmnanbcinfdbaaadoor", sum := "e584bd318151b3aebe5cc4bf68a3ff0ccb702ce427dcf271e4608bcab973647f", func := "tender/tenderlaw18.HuntSteps", spec := "huntSteps", unfollowed := true, recurses := true, named := ["tender/sha.first", "tender/sha.roots"], apart := false, laid := [("tender/sha.first", laid_tender_sha_first), ("tender/sha.roots", laid_tender_sha_roots)] }
def HuntStepsSaid : Prop := huntStepsRow.holds Tryd.pinned (OpenSpec.ofChange huntStepsSpec)

/-- ITS FALSE NEIGHBOUR: 'it returns false'. Refute it at one input. -/
def huntStepsWrong : ChangeSpec := { name := "huntSteps", fn := fun _ => fun
  | [d1, d2, d3] => { results := [.lit (.bool false)], args := [d1, d2, d3] }
  | _ => none }
def HuntStepsWrongFalsely : Prop := huntStepsRow.holds Tryd.pinned (OpenSpec.ofChange huntStepsWrong)

/-- 'tenderlaw19.DeltaShort': WHATEVER THE INPUT: true; the input reads as it did. -/
def deltaShortSpec : ChangeSpec := { name := "deltaShort", fn := fun _ => fun
  | [d1, d2, d3, d4] => { results := [.lit (.bool true)], args := [d1, d2, d3, d4] }
  | _ => none }
def deltaShortRow : OpenClaim := { program := "ytmnanbcinfdbaaadoor", sum := "e584bd318151b3aebe5cc4bf68a3ff0ccb702ce427dcf271e4608bcab973647f", func := "tender/tenderlaw19.DeltaShort", spec := "deltaShort", unfollowed := true, recurses := true, named := ["tender/sha.first", "tender/sha.roots"], apart := false, laid := [("tender/sha.first", laid_tender_sha_first), ("tender/sha.roots", laid_tender_sha_roots)] }
def DeltaShortSaid : Prop := deltaShortRow.holds Tryd.pinned (OpenSpec.ofChange deltaShortSpec)

/-- ITS FALSE NEIGHBOUR: 'it returns false'. Refute it at one input. -/
def deltaShortWrong : ChangeSpec := { name := "deltaShort", fn := fun _ => fun
  | [d1, d2, d3, d4] => { results := [.lit (.bool false)], args := [d1, d2, d3, d4] }
  | _ => none }
def DeltaShortWrongFalsely : Prop := deltaShortRow.holds Tryd.pinned (OpenSpec.ofChange deltaShortWrong)

/-- 'tenderlaw20.PatchBack': WHATEVER THE INPUT: true; the input reads as it did. -/
def patchBackSpec : ChangeSpec := { name := "patchBack", fn := fun _ => fun
  | [d1, d2, d3, d4] => { results := [.lit (.bool true)], args := [d1, d2, d3, d4] }
  | _ => none }
def patchBackRow : OpenClaim := { program := "ytmnanbcinfdbaaadoor", sum := "e584bd318151b3aebe5cc4bf68a3ff0ccb702ce427dcf271e4608bcab973647f", func := "tender/tenderlaw20.PatchBack", spec := "patchBack", unfollowed := true, recurses := true, named := ["tender/sha.first", "tender/sha.roots"], apart := false, laid := [("tender/sha.first", laid_tender_sha_first), ("tender/sha.roots", laid_tender_sha_roots)] }
def PatchBackSaid : Prop := patchBackRow.holds Tryd.pinned (OpenSpec.ofChange patchBackSpec)

/-- ITS FALSE NEIGHBOUR: 'it returns false'. Refute it at one input. -/
def patchBackWrong : ChangeSpec := { name := "patchBack", fn := fun _ => fun
  | [d1, d2, d3, d4] => { results := [.lit (.bool false)], args := [d1, d2, d3, d4] }
  | _ => none }
def PatchBackWrongFalsely : Prop := patchBackRow.holds Tryd.pinned (OpenSpec.ofChange patchBackWrong)

/- THE SECOND FORM. 'bulk': how many values and letters a reading holds, each counted each time it is reached (what is shared counts as often as it is met; a slice's spare places count too). A statement '..UptoSaid' is the law's where the arguments, and the package variables that the reading takes, are together of bulk at most 1048576: NARROWER than '..Said'. Prove '..Said' where nothing that the law and all that it calls make is longer than what came in: it says more and counts as full. Else prove '..UptoSaid'. A law counts once. -/
mutual
def uptoBulk {H : Type} : DataW H → Nat
  | .lit (.string bytes) => bytes.length + 1
  | .lit _ => 1
  | .nil => 1
  | .ptr d => uptoBulk d + 1
  | .slice elems spare => uptoBulkAll elems + uptoBulkAll spare + 1
  | .agg parts => uptoBulkAll parts + 1
  | .iface _ d => uptoBulk d + 1
  | .map entries => uptoBulkEntries entries + 1
  | .held _ => 1
def uptoBulkAll {H : Type} : List (DataW H) → Nat
  | [] => 0
  | d :: r => uptoBulk d + uptoBulkAll r
def uptoBulkEntries {H : Type} : List (Lit × DataW H) → Nat
  | [] => 0
  | x :: r => uptoBulkEntry x + uptoBulkEntries r
def uptoBulkEntry {H : Type} : Lit × DataW H → Nat
  | (.string bytes, d) => bytes.length + uptoBulk d + 1
  | (_, d) => uptoBulk d + 1
 end
def uptoSmall : (H : Type) → List (DataW H) → Bool := fun _ ds => decide (uptoBulkAll ds ≤ 1048576)
def OpenSpec.upto (s : _root_.Go.ChangeSpec) : _root_.Go.OpenSpec := { _root_.Go.OpenSpec.ofChange s with cond := some uptoSmall }

/-- 'tenderlaw05.ShaSums', WHERE WHAT IT READS IS OF BULK AT MOST 1048576: true; the input reads as it did. -/
def shaSumsUptoRow : OpenClaim := { program := "ytmnanbcinfdbaaadoor", sum := "e584bd318151b3aebe5cc4bf68a3ff0ccb702ce427dcf271e4608bcab973647f", func := "tender/tenderlaw05.ShaSums", spec := "shaSums", named := ["tender/sha.first", "tender/sha.roots"], apart := false, laid := [("tender/sha.first", laid_tender_sha_first), ("tender/sha.roots", laid_tender_sha_roots)], narrowed := true }
def ShaSumsUptoSaid : Prop := shaSumsUptoRow.holds Tryd.pinned (OpenSpec.upto shaSumsSpec)

/-- 'tenderlaw05.ShaParts', WHERE WHAT IT READS IS OF BULK AT MOST 1048576: true; the input reads as it did. -/
def shaPartsUptoRow : OpenClaim := { program := "ytmnanbcinfdbaaadoor", sum := "e584bd318151b3aebe5cc4bf68a3ff0ccb702ce427dcf271e4608bcab973647f", func := "tender/tenderlaw05.ShaParts", spec := "shaParts", named := ["tender/sha.first", "tender/sha.roots"], apart := false, laid := [("tender/sha.first", laid_tender_sha_first), ("tender/sha.roots", laid_tender_sha_roots)], narrowed := true }
def ShaPartsUptoSaid : Prop := shaPartsUptoRow.holds Tryd.pinned (OpenSpec.upto shaPartsSpec)

/-- 'tenderlaw05.ShaNobody', WHERE WHAT IT READS IS OF BULK AT MOST 1048576: true; the input reads as it did. -/
def shaNobodyUptoRow : OpenClaim := { program := "ytmnanbcinfdbaaadoor", sum := "e584bd318151b3aebe5cc4bf68a3ff0ccb702ce427dcf271e4608bcab973647f", func := "tender/tenderlaw05.ShaNobody", spec := "shaNobody", named := ["tender/sha.first", "tender/sha.roots"], apart := false, laid := [("tender/sha.first", laid_tender_sha_first), ("tender/sha.roots", laid_tender_sha_roots)], narrowed := true }
def ShaNobodyUptoSaid : Prop := shaNobodyUptoRow.holds Tryd.pinned (OpenSpec.upto shaNobodySpec)

/-- 'tenderlaw05.ShaOf', WHERE WHAT IT READS IS OF BULK AT MOST 1048576: true; the input reads as it did. -/
def shaOfUptoRow : OpenClaim := { program := "ytmnanbcinfdbaaadoor", sum := "e584bd318151b3aebe5cc4bf68a3ff0ccb702ce427dcf271e4608bcab973647f", func := "tender/tenderlaw05.ShaOf", spec := "shaOf", named := ["tender/sha.first", "tender/sha.roots"], apart := false, laid := [("tender/sha.first", laid_tender_sha_first), ("tender/sha.roots", laid_tender_sha_roots)], narrowed := true }
def ShaOfUptoSaid : Prop := shaOfUptoRow.holds Tryd.pinned (OpenSpec.upto shaOfSpec)

/-- 'tenderlaw17.SignFinds', WHERE WHAT IT READS IS OF BULK AT MOST 1048576: true; the input reads as it did. -/
def signFindsUptoRow : OpenClaim := { program := "ytmnanbcinfdbaaadoor", sum := "e584bd318151b3aebe5cc4bf68a3ff0ccb702ce427dcf271e4608bcab973647f", func := "tender/tenderlaw17.SignFinds", spec := "signFinds", unfollowed := true, recurses := true, named := ["tender/sha.first", "tender/sha.roots"], apart := false, laid := [("tender/sha.first", laid_tender_sha_first), ("tender/sha.roots", laid_tender_sha_roots)], narrowed := true }
def SignFindsUptoSaid : Prop := signFindsUptoRow.holds Tryd.pinned (OpenSpec.upto signFindsSpec)

/-- 'tenderlaw17.SignTells', WHERE WHAT IT READS IS OF BULK AT MOST 1048576: true; the input reads as it did. -/
def signTellsUptoRow : OpenClaim := { program := "ytmnanbcinfdbaaadoor", sum := "e584bd318151b3aebe5cc4bf68a3ff0ccb702ce427dcf271e4608bcab973647f", func := "tender/tenderlaw17.SignTells", spec := "signTells", unfollowed := true, recurses := true, named := ["tender/sha.first", "tender/sha.roots"], apart := false, laid := [("tender/sha.first", laid_tender_sha_first), ("tender/sha.roots", laid_tender_sha_roots)], narrowed := true }
def SignTellsUptoSaid : Prop := signTellsUptoRow.holds Tryd.pinned (OpenSpec.upto signTellsSpec)

/-- 'tenderlaw17.SignBest', WHERE WHAT IT READS IS OF BULK AT MOST 1048576: true; the input reads as it did. -/
def signBestUptoRow : OpenClaim := { program := "ytmnanbcinfdbaaadoor", sum := "e584bd318151b3aebe5cc4bf68a3ff0ccb702ce427dcf271e4608bcab973647f", func := "tender/tenderlaw17.SignBest", spec := "signBest", unfollowed := true, recurses := true, named := ["tender/sha.first", "tender/sha.roots"], apart := false, laid := [("tender/sha.first", laid_tender_sha_first), ("tender/sha.roots", laid_tender_sha_roots)], narrowed := true }
def SignBestUptoSaid : Prop := signBestUptoRow.holds Tryd.pinned (OpenSpec.upto signBestSpec)

/-- 'tenderlaw18.HuntExact', WHERE WHAT IT READS IS OF BULK AT MOST 1048576: true; the input reads as it did. -/
def huntExactUptoRow : OpenClaim := { program := "ytmnanbcinfdbaaadoor", sum := "e584bd318151b3aebe5cc4bf68a3ff0ccb702ce427dcf271e4608bcab973647f", func := "tender/tenderlaw18.HuntExact", spec := "huntExact", unfollowed := true, recurses := true, named := ["tender/sha.first", "tender/sha.roots"], apart := false, laid := [("tender/sha.first", laid_tender_sha_first), ("tender/sha.roots", laid_tender_sha_roots)], narrowed := true }
def HuntExactUptoSaid : Prop := huntExactUptoRow.holds Tryd.pinned (OpenSpec.upto huntExactSpec)

/-- 'tenderlaw18.HuntSelf', WHERE WHAT IT READS IS OF BULK AT MOST 1048576: true; the input reads as it did. -/
def huntSelfUptoRow : OpenClaim := { program := "ytmnanbcinfdbaaadoor", sum := "e584bd318151b3aebe5cc4bf68a3ff0ccb702ce427dcf271e4608bcab973647f", func := "tender/tenderlaw18.HuntSelf", spec := "huntSelf", unfollowed := true, recurses := true, named := ["tender/sha.first", "tender/sha.roots"], apart := false, laid := [("tender/sha.first", laid_tender_sha_first), ("tender/sha.roots", laid_tender_sha_roots)], narrowed := true }
def HuntSelfUptoSaid : Prop := huntSelfUptoRow.holds Tryd.pinned (OpenSpec.upto huntSelfSpec)

/-- 'tenderlaw18.HuntCounts', WHERE WHAT IT READS IS OF BULK AT MOST 1048576: true; the input reads as it did. -/
def huntCountsUptoRow : OpenClaim := { program := "ytmnanbcinfdbaaadoor", sum := "e584bd318151b3aebe5cc4bf68a3ff0ccb702ce427dcf271e4608bcab973647f", func := "tender/tenderlaw18.HuntCounts", spec := "huntCounts", unfollowed := true, recurses := true, named := ["tender/sha.first", "tender/sha.roots"], apart := false, laid := [("tender/sha.first", laid_tender_sha_first), ("tender/sha.roots", laid_tender_sha_roots)], narrowed := true }
def HuntCountsUptoSaid : Prop := huntCountsUptoRow.holds Tryd.pinned (OpenSpec.upto huntCountsSpec)

/-- 'tenderlaw18.HuntSteps', WHERE WHAT IT READS IS OF BULK AT MOST 1048576: true; the input reads as it did. -/
def huntStepsUptoRow : OpenClaim := { program := "ytmnanbcinfdbaaadoor", sum := "e584bd318151b3aebe5cc4bf68a3ff0ccb702ce427dcf271e4608bcab973647f", func := "tender/tenderlaw18.HuntSteps", spec := "huntSteps", unfollowed := true, recurses := true, named := ["tender/sha.first", "tender/sha.roots"], apart := false, laid := [("tender/sha.first", laid_tender_sha_first), ("tender/sha.roots", laid_tender_sha_roots)], narrowed := true }
def HuntStepsUptoSaid : Prop := huntStepsUptoRow.holds Tryd.pinned (OpenSpec.upto huntStepsSpec)

/-- 'tenderlaw19.DeltaShort', WHERE WHAT IT READS IS OF BULK AT MOST 1048576: true; the input reads as it did. -/
def deltaShortUptoRow : OpenClaim := { program := "ytmnanbcinfdbaaadoor", sum := "e584bd318151b3aebe5cc4bf68a3ff0ccb702ce427dcf271e4608bcab973647f", func := "tender/tenderlaw19.DeltaShort", spec := "deltaShort", unfollowed := true, recurses := true, named := ["tender/sha.first", "tender/sha.roots"], apart := false, laid := [("tender/sha.first", laid_tender_sha_first), ("tender/sha.roots", laid_tender_sha_roots)], narrowed := true }
def DeltaShortUptoSaid : Prop := deltaShortUptoRow.holds Tryd.pinned (OpenSpec.upto deltaShortSpec)

/-- 'tenderlaw20.PatchBack', WHERE WHAT IT READS IS OF BULK AT MOST 1048576: true; the input reads as it did. -/
def patchBackUptoRow : OpenClaim := { program := "ytmnanbcinfdbaaadoor", sum := "e584bd318151b3aebe5cc4bf68a3ff0ccb702ce427dcf271e4608bcab973647f", func := "tender/tenderlaw20.PatchBack", spec := "patchBack", unfollowed := true, recurses := true, named := ["tender/sha.first", "tender/sha.roots"], apart := false, laid := [("tender/sha.first", laid_tender_sha_first), ("tender/sha.roots", laid_tender_sha_roots)], narrowed := true }
def PatchBackUptoSaid : Prop := patchBackUptoRow.holds Tryd.pinned (OpenSpec.upto patchBackSpec)

end Rows
end Go.Proofs.YtmnanbcinfdbaaaDoor
