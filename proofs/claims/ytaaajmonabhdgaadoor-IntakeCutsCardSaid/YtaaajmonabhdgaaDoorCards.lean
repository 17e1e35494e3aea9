/-
  DERIVED. GIVEN WITH THE SEED: THE CARDS: each row of YtaaajmonabhdgaaDoorRows.lean that lists a variable, with what it lists TIED to the program's text (the seventh form; the later family's looks); each row that meets fmt, with fmt's text TOLD by the authors' own Lean function (tested against real Go, not proved from fmt's source: count such statements apart). THE CARD IS WHAT COUNTS. Prove the row's statement (the work); the ties are given (YtaaajmonabhdgaaDoorTie.lean); close each card by the builder's one call (the guide's Derived/Test/ToyasCard.lean, 'card_holds'). Laid BY PROGRAM, IN A SANDBOX (cutbox-door.mjs). By AI agents, Wed Nov 11 2026. No macro, syntax, notation, axiom, sorry.
-/
import Derived.Test.YtaaajmonabhdgaaDoorRows
import GoSem.ClaimSeven
namespace Go.Proofs.YtaaajmonabhdgaaDoor
namespace Rows

/-- THE TIED CARD OF 'tenderlaw04.CheckSums'. -/
def checkSumsCard : Claim7 := { stood := { row := checkSumsRow, standIns := [], harness := (true, "b30c74a27f8e352b3180e8e2b5434c22a36afef6cb1aa5fad6d43427c4754795"), looks := false }, kinds := [], alts := [], laidByText := true, laidKinds := [.data], laidTests := true, laidLooks := .later }
def CheckSumsCardSaid : Prop := Claim7.holds Tryd.pinned (.plain (OpenSpec.ofChange checkSumsSpec)) checkSumsCard

/-- THE TIED CARD OF 'tenderlaw04.CheckOpens'. -/
def checkOpensCard : Claim7 := { stood := { row := checkOpensRow, standIns := [], harness := (true, "b30c74a27f8e352b3180e8e2b5434c22a36afef6cb1aa5fad6d43427c4754795"), looks := false }, kinds := [], alts := [], laidByText := true, laidKinds := [.data], laidTests := true, laidLooks := .later }
def CheckOpensCardSaid : Prop := Claim7.holds Tryd.pinned (.plain (OpenSpec.ofChange checkOpensSpec)) checkOpensCard

/-- THE TIED CARD OF 'tenderlaw04.CheckBursts'. -/
def checkBurstsCard : Claim7 := { stood := { row := checkBurstsRow, standIns := [], harness := (true, "b30c74a27f8e352b3180e8e2b5434c22a36afef6cb1aa5fad6d43427c4754795"), looks := false }, kinds := [], alts := [], laidByText := true, laidKinds := [.data], laidTests := true, laidLooks := .later }
def CheckBurstsCardSaid : Prop := Claim7.holds Tryd.pinned (.plain (OpenSpec.ofChange checkBurstsSpec)) checkBurstsCard

/-- THE TIED CARD OF 'tenderlaw04.CheckCrosses'. -/
def checkCrossesCard : Claim7 := { stood := { row := checkCrossesRow, standIns := [], harness := (true, "b30c74a27f8e352b3180e8e2b5434c22a36afef6cb1aa5fad6d43427c4754795"), looks := false }, kinds := [], alts := [], laidByText := true, laidKinds := [.data], laidTests := true, laidLooks := .later }
def CheckCrossesCardSaid : Prop := Claim7.holds Tryd.pinned (.plain (OpenSpec.ofChange checkCrossesSpec)) checkCrossesCard

/-- THE TIED CARD OF 'tenderlaw13.FrameWraps'. -/
def frameWrapsCard : Claim7 := { stood := { row := frameWrapsRow, standIns := [], harness := (true, "b30c74a27f8e352b3180e8e2b5434c22a36afef6cb1aa5fad6d43427c4754795"), looks := false }, kinds := [], alts := [], laidByText := true, laidKinds := [.data], laidTests := true, laidLooks := .later }
def FrameWrapsCardSaid : Prop := Claim7.holds Tryd.pinned (.plain (OpenSpec.ofChange frameWrapsSpec)) frameWrapsCard

/-- THE TIED CARD OF 'tenderlaw13.FrameBursts'. -/
def frameBurstsCard : Claim7 := { stood := { row := frameBurstsRow, standIns := [], harness := (true, "b30c74a27f8e352b3180e8e2b5434c22a36afef6cb1aa5fad6d43427c4754795"), looks := false }, kinds := [], alts := [], laidByText := true, laidKinds := [.data], laidTests := true, laidLooks := .later }
def FrameBurstsCardSaid : Prop := Claim7.holds Tryd.pinned (.plain (OpenSpec.ofChange frameBurstsSpec)) frameBurstsCard

/-- THE TIED CARD OF 'tenderlaw13.FrameTakes'. -/
def frameTakesCard : Claim7 := { stood := { row := frameTakesRow, standIns := [], harness := (true, "b30c74a27f8e352b3180e8e2b5434c22a36afef6cb1aa5fad6d43427c4754795"), looks := false }, kinds := [], alts := [], laidByText := true, laidKinds := [.data], laidTests := true, laidLooks := .later }
def FrameTakesCardSaid : Prop := Claim7.holds Tryd.pinned (.plain (OpenSpec.ofChange frameTakesSpec)) frameTakesCard

/-- THE TIED CARD OF 'tenderlaw14.IntakeCuts'. -/
def intakeCutsCard : Claim7 := { stood := { row := intakeCutsRow, standIns := [], harness := (true, "b30c74a27f8e352b3180e8e2b5434c22a36afef6cb1aa5fad6d43427c4754795"), looks := false }, kinds := [], alts := [], laidByText := true, laidKinds := [.data], laidTests := true, laidLooks := .later }
def IntakeCutsCardSaid : Prop := Claim7.holds Tryd.pinned (.plain (OpenSpec.ofChange intakeCutsSpec)) intakeCutsCard

/-- THE TIED CARD OF 'tenderlaw14.IntakePlays'. -/
def intakePlaysCard : Claim7 := { stood := { row := intakePlaysRow, standIns := [], harness := (true, "b30c74a27f8e352b3180e8e2b5434c22a36afef6cb1aa5fad6d43427c4754795"), looks := false }, kinds := [], alts := [], laidByText := true, laidKinds := [.data], laidTests := true, laidLooks := .later }
def IntakePlaysCardSaid : Prop := Claim7.holds Tryd.pinned (.plain (OpenSpec.ofChange intakePlaysSpec)) intakePlaysCard

/-- THE TIED CARD OF 'tenderlaw14.IntakeNobody'. -/
def intakeNobodyCard : Claim7 := { stood := { row := intakeNobodyRow, standIns := [], harness := (true, "b30c74a27f8e352b3180e8e2b5434c22a36afef6cb1aa5fad6d43427c4754795"), looks := false }, kinds := [], alts := [], laidByText := true, laidKinds := [.data], laidTests := true, laidLooks := .later }
def IntakeNobodyCardSaid : Prop := Claim7.holds Tryd.pinned (.plain (OpenSpec.ofChange intakeNobodySpec)) intakeNobodyCard

/-- THE SECOND FORM's CARD OF 'tenderlaw04.CheckSums'. -/
def checkSumsUptoCard : Claim7 := { stood := { row := checkSumsUptoRow, standIns := [], harness := (true, "b30c74a27f8e352b3180e8e2b5434c22a36afef6cb1aa5fad6d43427c4754795"), looks := false }, kinds := [], alts := [], laidByText := true, laidKinds := [.data], laidTests := true, laidLooks := .later }
def CheckSumsUptoCardSaid : Prop := Claim7.holds Tryd.pinned (.plain (OpenSpec.upto checkSumsSpec)) checkSumsUptoCard

/-- THE SECOND FORM's CARD OF 'tenderlaw04.CheckOpens'. -/
def checkOpensUptoCard : Claim7 := { stood := { row := checkOpensUptoRow, standIns := [], harness := (true, "b30c74a27f8e352b3180e8e2b5434c22a36afef6cb1aa5fad6d43427c4754795"), looks := false }, kinds := [], alts := [], laidByText := true, laidKinds := [.data], laidTests := true, laidLooks := .later }
def CheckOpensUptoCardSaid : Prop := Claim7.holds Tryd.pinned (.plain (OpenSpec.upto checkOpensSpec)) checkOpensUptoCard

/-- THE SECOND FORM's CARD OF 'tenderlaw04.CheckBursts'. -/
def checkBurstsUptoCard : Claim7 := { stood := { row := checkBurstsUptoRow, standIns := [], harness := (true, "b30c74a27f8e352b3180e8e2b5434c22a36afef6cb1aa5fad6d43427c4754795"), looks := false }, kinds := [], alts := [], laidByText := true, laidKinds := [.data], laidTests := true, laidLooks := .later }
def CheckBurstsUptoCardSaid : Prop := Claim7.holds Tryd.pinned (.plain (OpenSpec.upto checkBurstsSpec)) checkBurstsUptoCard

/-- THE SECOND FORM's CARD OF 'tenderlaw04.CheckCrosses'. -/
def checkCrossesUptoCard : Claim7 := { stood := { row := checkCrossesUptoRow, standIns := [], harness := (true, "b30c74a27f8e352b3180e8e2b5434c22a36afef6cb1aa5fad6d43427c4754795"), looks := false }, kinds := [], alts := [], laidByText := true, laidKinds := [.data], laidTests := true, laidLooks := .later }
def CheckCrossesUptoCardSaid : Prop := Claim7.holds Tryd.pinned (.plain (OpenSpec.upto checkCrossesSpec)) checkCrossesUptoCard

/-- THE SECOND FORM's CARD OF 'tenderlaw13.FrameWraps'. -/
def frameWrapsUptoCard : Claim7 := { stood := { row := frameWrapsUptoRow, standIns := [], harness := (true, "b30c74a27f8e352b3180e8e2b5434c22a36afef6cb1aa5fad6d43427c4754795"), looks := false }, kinds := [], alts := [], laidByText := true, laidKinds := [.data], laidTests := true, laidLooks := .later }
def FrameWrapsUptoCardSaid : Prop := Claim7.holds Tryd.pinned (.plain (OpenSpec.upto frameWrapsSpec)) frameWrapsUptoCard

/-- THE SECOND FORM's CARD OF 'tenderlaw13.FrameBursts'. -/
def frameBurstsUptoCard : Claim7 := { stood := { row := frameBurstsUptoRow, standIns := [], harness := (true, "b30c74a27f8e352b3180e8e2b5434c22a36afef6cb1aa5fad6d43427c4754795"), looks := false }, kinds := [], alts := [], laidByText := true, laidKinds := [.data], laidTests := true, laidLooks := .later }
def FrameBurstsUptoCardSaid : Prop := Claim7.holds Tryd.pinned (.plain (OpenSpec.upto frameBurstsSpec)) frameBurstsUptoCard

/-- THE SECOND FORM's CARD OF 'tenderlaw13.FrameTakes'. -/
def frameTakesUptoCard : Claim7 := { stood := { row := frameTakesUptoRow, standIns := [], harness := (true, "b30c74a27f8e352b3180e8e2b5434c22a36afef6cb1aa5fad6d43427c4754795"), looks := false }, kinds := [], alts := [], laidByText := true, laidKinds := [.data], laidTests := true, laidLooks := .later }
def FrameTakesUptoCardSaid : Prop := Claim7.holds Tryd.pinned (.plain (OpenSpec.upto frameTakesSpec)) frameTakesUptoCard

/-- THE SECOND FORM's CARD OF 'tenderlaw14.IntakeCuts'. -/
def intakeCutsUptoCard : Claim7 := { stood := { row := intakeCutsUptoRow, standIns := [], harness := (true, "b30c74a27f8e352b3180e8e2b5434c22a36afef6cb1aa5fad6d43427c4754795"), looks := false }, kinds := [], alts := [], laidByText := true, laidKinds := [.data], laidTests := true, laidLooks := .later }
def IntakeCutsUptoCardSaid : Prop := Claim7.holds Tryd.pinned (.plain (OpenSpec.upto intakeCutsSpec)) intakeCutsUptoCard

/-- THE SECOND FORM's CARD OF 'tenderlaw14.IntakePlays'. -/
def intakePlaysUptoCard : Claim7 := { stood := { row := intakePlaysUptoRow, standIns := [], harness := (true, "b30c74a27f8e352b3180e8e2b5434c22a36afef6cb1aa5fad6d43427c4754795"), looks := false }, kinds := [], alts := [], laidByText := true, laidKinds := [.data], laidTests := true, laidLooks := .later }
def IntakePlaysUptoCardSaid : Prop := Claim7.holds Tryd.pinned (.plain (OpenSpec.upto intakePlaysSpec)) intakePlaysUptoCard

/-- THE SECOND FORM's CARD OF 'tenderlaw14.IntakeNobody'. -/
def intakeNobodyUptoCard : Claim7 := { stood := { row := intakeNobodyUptoRow, standIns := [], harness := (true, "b30c74a27f8e352b3180e8e2b5434c22a36afef6cb1aa5fad6d43427c4754795"), looks := false }, kinds := [], alts := [], laidByText := true, laidKinds := [.data], laidTests := true, laidLooks := .later }
def IntakeNobodyUptoCardSaid : Prop := Claim7.holds Tryd.pinned (.plain (OpenSpec.upto intakeNobodySpec)) intakeNobodyUptoCard
end Rows
end Go.Proofs.YtaaajmonabhdgaaDoor
