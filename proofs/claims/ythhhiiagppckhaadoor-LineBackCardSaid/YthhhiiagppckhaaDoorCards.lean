/-
  DERIVED. GIVEN WITH THE SEED: THE CARDS: each row of YthhhiiagppckhaaDoorRows.lean that lists a variable, with what it lists TIED to the program's text (the seventh form; the later family's looks); each row that meets fmt, with fmt's text TOLD by the authors' own Lean function (tested against real Go, not proved from fmt's source: count such statements apart). THE CARD IS WHAT COUNTS. Prove the row's statement (the work); the ties are given (YthhhiiagppckhaaDoorTie.lean); close each card by the builder's one call (the guide's Derived/Test/ToyasCard.lean, 'card_holds'). Laid BY PROGRAM, IN A SANDBOX (cutbox-door.mjs). By AI agents, Wed Nov 11 2026. No macro, syntax, notation, axiom, sorry.
-/
import Derived.Test.YthhhiiagppckhaaDoorRows
import GoSem.ClaimSeven
namespace Go.Proofs.YthhhiiagppckhaaDoor
namespace Rows

/-- THE TIED CARD OF 'tenderlaw15.MsgWrites'. -/
def msgWritesCard : Claim7 := { stood := { row := msgWritesRow, standIns := [], harness := (true, "f224efefa1f557284701116d4022e571cde20d61f9040b42a8eed48e709bae56"), looks := true }, kinds := [], alts := [], laidByText := true, laidKinds := [.data], laidTests := true, laidLooks := .later }
def MsgWritesCardSaid : Prop := Claim7.holds Tryd.pinned (.plain (OpenSpec.ofChange msgWritesSpec)) msgWritesCard

/-- THE TIED CARD OF 'tenderlaw02.BlameClasses'. -/
def blameClassesCard : Claim7 := { stood := { row := blameClassesRow, standIns := [], harness := (true, "f224efefa1f557284701116d4022e571cde20d61f9040b42a8eed48e709bae56"), looks := true }, kinds := [], alts := [], laidByText := true, laidKinds := [.handle], laidTests := true, laidLooks := .later }
def BlameClassesCardSaid : Prop := Claim7.holds Tryd.pinned (.plain (OpenSpec.ofChange blameClassesSpec)) blameClassesCard

/-- THE TIED CARD OF 'tenderlaw02.BlameTells'. -/
def blameTellsCard : Claim7 := { stood := { row := blameTellsRow, standIns := [], harness := (true, "f224efefa1f557284701116d4022e571cde20d61f9040b42a8eed48e709bae56"), looks := true }, kinds := [], alts := [], laidByText := true, laidKinds := [.handle], laidTests := true, laidLooks := .later }
def BlameTellsCardSaid : Prop := Claim7.holds Tryd.pinned (.plain (OpenSpec.ofChange blameTellsSpec)) blameTellsCard

/-- THE TIED CARD OF 'tenderlaw02.BlameWraps'. -/
def blameWrapsCard : Claim7 := { stood := { row := blameWrapsRow, standIns := [], harness := (true, "f224efefa1f557284701116d4022e571cde20d61f9040b42a8eed48e709bae56"), looks := true }, kinds := [], alts := [], laidByText := true, laidKinds := [.data, .data, .data, .handle], laidTests := true, laidLooks := .later }
def BlameWrapsCardSaid : Prop := Claim7.holds Tryd.pinned (.plain (OpenSpec.ofChange blameWrapsSpec)) blameWrapsCard

/-- THE TIED CARD OF 'tenderlaw33.LineBack'. -/
def lineBackCard : Claim7 := { stood := { row := lineBackRow, standIns := [], harness := (true, "f224efefa1f557284701116d4022e571cde20d61f9040b42a8eed48e709bae56"), looks := true }, kinds := [], alts := [], laidByText := true, laidKinds := [.data], laidTests := true, laidLooks := .later }
def LineBackCardSaid : Prop := Claim7.holds Tryd.pinned (.plain (OpenSpec.ofChange lineBackSpec)) lineBackCard

/-- THE TIED CARD OF 'tenderlaw02.BlameAsks'. -/
def blameAsksCard : Claim7 := { stood := { row := blameAsksRow, standIns := [], harness := (true, "f224efefa1f557284701116d4022e571cde20d61f9040b42a8eed48e709bae56"), looks := true }, kinds := [], alts := [], laidByText := true, laidKinds := [.data, .data, .data, .handle], laidTests := true, laidLooks := .later }
def BlameAsksCardSaid : Prop := Claim7.holds Tryd.pinned (.plain (OpenSpec.ofChange blameAsksSpec)) blameAsksCard

/-- THE TIED CARD OF 'tenderlaw33.LineNobody'. -/
def lineNobodyCard : Claim7 := { stood := { row := lineNobodyRow, standIns := [], harness := (true, "f224efefa1f557284701116d4022e571cde20d61f9040b42a8eed48e709bae56"), looks := true }, kinds := [], alts := [], laidByText := true, laidKinds := [.handle, .data], laidTests := true, laidLooks := .later }
def LineNobodyCardSaid : Prop := Claim7.holds Tryd.pinned (.plain (OpenSpec.ofChange lineNobodySpec)) lineNobodyCard

/-- THE SECOND FORM's CARD OF 'tenderlaw15.MsgWrites'. -/
def msgWritesUptoCard : Claim7 := { stood := { row := msgWritesUptoRow, standIns := [], harness := (true, "f224efefa1f557284701116d4022e571cde20d61f9040b42a8eed48e709bae56"), looks := true }, kinds := [], alts := [], laidByText := true, laidKinds := [.data], laidTests := true, laidLooks := .later }
def MsgWritesUptoCardSaid : Prop := Claim7.holds Tryd.pinned (.plain (OpenSpec.upto msgWritesSpec)) msgWritesUptoCard

/-- THE SECOND FORM's CARD OF 'tenderlaw02.BlameClasses'. -/
def blameClassesUptoCard : Claim7 := { stood := { row := blameClassesUptoRow, standIns := [], harness := (true, "f224efefa1f557284701116d4022e571cde20d61f9040b42a8eed48e709bae56"), looks := true }, kinds := [], alts := [], laidByText := true, laidKinds := [.handle], laidTests := true, laidLooks := .later }
def BlameClassesUptoCardSaid : Prop := Claim7.holds Tryd.pinned (.plain (OpenSpec.upto blameClassesSpec)) blameClassesUptoCard

/-- THE SECOND FORM's CARD OF 'tenderlaw02.BlameTells'. -/
def blameTellsUptoCard : Claim7 := { stood := { row := blameTellsUptoRow, standIns := [], harness := (true, "f224efefa1f557284701116d4022e571cde20d61f9040b42a8eed48e709bae56"), looks := true }, kinds := [], alts := [], laidByText := true, laidKinds := [.handle], laidTests := true, laidLooks := .later }
def BlameTellsUptoCardSaid : Prop := Claim7.holds Tryd.pinned (.plain (OpenSpec.upto blameTellsSpec)) blameTellsUptoCard

/-- THE SECOND FORM's CARD OF 'tenderlaw02.BlameWraps'. -/
def blameWrapsUptoCard : Claim7 := { stood := { row := blameWrapsUptoRow, standIns := [], harness := (true, "f224efefa1f557284701116d4022e571cde20d61f9040b42a8eed48e709bae56"), looks := true }, kinds := [], alts := [], laidByText := true, laidKinds := [.data, .data, .data, .handle], laidTests := true, laidLooks := .later }
def BlameWrapsUptoCardSaid : Prop := Claim7.holds Tryd.pinned (.plain (OpenSpec.upto blameWrapsSpec)) blameWrapsUptoCard

/-- THE SECOND FORM's CARD OF 'tenderlaw33.LineBack'. -/
def lineBackUptoCard : Claim7 := { stood := { row := lineBackUptoRow, standIns := [], harness := (true, "f224efefa1f557284701116d4022e571cde20d61f9040b42a8eed48e709bae56"), looks := true }, kinds := [], alts := [], laidByText := true, laidKinds := [.data], laidTests := true, laidLooks := .later }
def LineBackUptoCardSaid : Prop := Claim7.holds Tryd.pinned (.plain (OpenSpec.upto lineBackSpec)) lineBackUptoCard

/-- THE SECOND FORM's CARD OF 'tenderlaw02.BlameAsks'. -/
def blameAsksUptoCard : Claim7 := { stood := { row := blameAsksUptoRow, standIns := [], harness := (true, "f224efefa1f557284701116d4022e571cde20d61f9040b42a8eed48e709bae56"), looks := true }, kinds := [], alts := [], laidByText := true, laidKinds := [.data, .data, .data, .handle], laidTests := true, laidLooks := .later }
def BlameAsksUptoCardSaid : Prop := Claim7.holds Tryd.pinned (.plain (OpenSpec.upto blameAsksSpec)) blameAsksUptoCard

/-- THE SECOND FORM's CARD OF 'tenderlaw33.LineNobody'. -/
def lineNobodyUptoCard : Claim7 := { stood := { row := lineNobodyUptoRow, standIns := [], harness := (true, "f224efefa1f557284701116d4022e571cde20d61f9040b42a8eed48e709bae56"), looks := true }, kinds := [], alts := [], laidByText := true, laidKinds := [.handle, .data], laidTests := true, laidLooks := .later }
def LineNobodyUptoCardSaid : Prop := Claim7.holds Tryd.pinned (.plain (OpenSpec.upto lineNobodySpec)) lineNobodyUptoCard
end Rows
end Go.Proofs.YthhhiiagppckhaaDoor
