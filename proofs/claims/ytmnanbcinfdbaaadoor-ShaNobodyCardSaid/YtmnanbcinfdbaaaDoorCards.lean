/-
  DERIVED. GIVEN WITH THE SEED: THE CARDS: each row of YtmnanbcinfdbaaaDoorRows.lean that lists a variable, with what it lists TIED to the program's text (the seventh form; the later family's looks); each row that meets fmt, with fmt's text TOLD by the authors' own Lean function (tested against real Go, not proved from fmt's source: count such statements apart). THE CARD IS WHAT COUNTS. Prove the row's statement (the work); the ties are given (YtmnanbcinfdbaaaDoorTie.lean); close each card by the builder's one call (the guide's Derived/Test/ToyasCard.lean, 'card_holds'). Laid BY PROGRAM, IN A SANDBOX (cutbox-door.mjs). By AI agents, Wed Nov 11 2026. No macro, syntax, notation, axiom, sorry.
-/
import Derived.Test.YtmnanbcinfdbaaaDoorRows
import GoSem.ClaimSeven
namespace Go.Proofs.YtmnanbcinfdbaaaDoor
namespace Rows

/-- THE TIED CARD OF 'tenderlaw05.ShaSums'. -/
def shaSumsCard : Claim7 := { stood := { row := shaSumsRow, standIns := [], harness := (true, "71a36562857fc630f165e02980f6858b8ffdee16fa94093c4375d2f8cf85a186"), looks := false }, kinds := [], alts := [], laidByText := true, laidKinds := [.data, .data], laidTests := true, laidLooks := .later }
def ShaSumsCardSaid : Prop := Claim7.holds Tryd.pinned (.plain (OpenSpec.ofChange shaSumsSpec)) shaSumsCard

/-- THE TIED CARD OF 'tenderlaw05.ShaParts'. -/
def shaPartsCard : Claim7 := { stood := { row := shaPartsRow, standIns := [], harness := (true, "71a36562857fc630f165e02980f6858b8ffdee16fa94093c4375d2f8cf85a186"), looks := false }, kinds := [], alts := [], laidByText := true, laidKinds := [.data, .data], laidTests := true, laidLooks := .later }
def ShaPartsCardSaid : Prop := Claim7.holds Tryd.pinned (.plain (OpenSpec.ofChange shaPartsSpec)) shaPartsCard

/-- THE TIED CARD OF 'tenderlaw05.ShaNobody'. -/
def shaNobodyCard : Claim7 := { stood := { row := shaNobodyRow, standIns := [], harness := (true, "71a36562857fc630f165e02980f6858b8ffdee16fa94093c4375d2f8cf85a186"), looks := false }, kinds := [], alts := [], laidByText := true, laidKinds := [.data, .data], laidTests := true, laidLooks := .later }
def ShaNobodyCardSaid : Prop := Claim7.holds Tryd.pinned (.plain (OpenSpec.ofChange shaNobodySpec)) shaNobodyCard

/-- THE TIED CARD OF 'tenderlaw05.ShaOf'. -/
def shaOfCard : Claim7 := { stood := { row := shaOfRow, standIns := [], harness := (true, "71a36562857fc630f165e02980f6858b8ffdee16fa94093c4375d2f8cf85a186"), looks := false }, kinds := [], alts := [], laidByText := true, laidKinds := [.data, .data], laidTests := true, laidLooks := .later }
def ShaOfCardSaid : Prop := Claim7.holds Tryd.pinned (.plain (OpenSpec.ofChange shaOfSpec)) shaOfCard

/-- THE TIED CARD OF 'tenderlaw17.SignFinds'. -/
def signFindsCard : Claim7 := { stood := { row := signFindsRow, standIns := [], harness := (true, "71a36562857fc630f165e02980f6858b8ffdee16fa94093c4375d2f8cf85a186"), looks := false }, kinds := [], alts := [], laidByText := true, laidKinds := [.data, .data], laidTests := true, laidLooks := .later }
def SignFindsCardSaid : Prop := Claim7.holds Tryd.pinned (.plain (OpenSpec.ofChange signFindsSpec)) signFindsCard

/-- THE TIED CARD OF 'tenderlaw17.SignTells'. -/
def signTellsCard : Claim7 := { stood := { row := signTellsRow, standIns := [], harness := (true, "71a36562857fc630f165e02980f6858b8ffdee16fa94093c4375d2f8cf85a186"), looks := false }, kinds := [], alts := [], laidByText := true, laidKinds := [.data, .data], laidTests := true, laidLooks := .later }
def SignTellsCardSaid : Prop := Claim7.holds Tryd.pinned (.plain (OpenSpec.ofChange signTellsSpec)) signTellsCard

/-- THE TIED CARD OF 'tenderlaw17.SignBest'. -/
def signBestCard : Claim7 := { stood := { row := signBestRow, standIns := [], harness := (true, "71a36562857fc630f165e02980f6858b8ffdee16fa94093c4375d2f8cf85a186"), looks := false }, kinds := [], alts := [], laidByText := true, laidKinds := [.data, .data], laidTests := true, laidLooks := .later }
def SignBestCardSaid : Prop := Claim7.holds Tryd.pinned (.plain (OpenSpec.ofChange signBestSpec)) signBestCard

/-- THE TIED CARD OF 'tenderlaw18.HuntExact'. -/
def huntExactCard : Claim7 := { stood := { row := huntExactRow, standIns := [], harness := (true, "71a36562857fc630f165e02980f6858b8ffdee16fa94093c4375d2f8cf85a186"), looks := false }, kinds := [], alts := [], laidByText := true, laidKinds := [.data, .data], laidTests := true, laidLooks := .later }
def HuntExactCardSaid : Prop := Claim7.holds Tryd.pinned (.plain (OpenSpec.ofChange huntExactSpec)) huntExactCard

/-- THE TIED CARD OF 'tenderlaw18.HuntSelf'. -/
def huntSelfCard : Claim7 := { stood := { row := huntSelfRow, standIns := [], harness := (true, "71a36562857fc630f165e02980f6858b8ffdee16fa94093c4375d2f8cf85a186"), looks := false }, kinds := [], alts := [], laidByText := true, laidKinds := [.data, .data], laidTests := true, laidLooks := .later }
def HuntSelfCardSaid : Prop := Claim7.holds Tryd.pinned (.plain (OpenSpec.ofChange huntSelfSpec)) huntSelfCard

/-- THE TIED CARD OF 'tenderlaw18.HuntCounts'. -/
def huntCountsCard : Claim7 := { stood := { row := huntCountsRow, standIns := [], harness := (true, "71a36562857fc630f165e02980f6858b8ffdee16fa94093c4375d2f8cf85a186"), looks := false }, kinds := [], alts := [], laidByText := true, laidKinds := [.data, .data], laidTests := true, laidLooks := .later }
def HuntCountsCardSaid : Prop := Claim7.holds Tryd.pinned (.plain (OpenSpec.ofChange huntCountsSpec)) huntCountsCard

/-- THE TIED CARD OF 'tenderlaw18.HuntSteps'. -/
def huntStepsCard : Claim7 := { stood := { row := huntStepsRow, standIns := [], harness := (true, "71a36562857fc630f165e02980f6858b8ffdee16fa94093c4375d2f8cf85a186"), looks := false }, kinds := [], alts := [], laidByText := true, laidKinds := [.data, .data], laidTests := true, laidLooks := .later }
def HuntStepsCardSaid : Prop := Claim7.holds Tryd.pinned (.plain (OpenSpec.ofChange huntStepsSpec)) huntStepsCard

/-- THE TIED CARD OF 'tenderlaw19.DeltaShort'. -/
def deltaShortCard : Claim7 := { stood := { row := deltaShortRow, standIns := [], harness := (true, "71a36562857fc630f165e02980f6858b8ffdee16fa94093c4375d2f8cf85a186"), looks := false }, kinds := [], alts := [], laidByText := true, laidKinds := [.data, .data], laidTests := true, laidLooks := .later }
def DeltaShortCardSaid : Prop := Claim7.holds Tryd.pinned (.plain (OpenSpec.ofChange deltaShortSpec)) deltaShortCard

/-- THE TIED CARD OF 'tenderlaw20.PatchBack'. -/
def patchBackCard : Claim7 := { stood := { row := patchBackRow, standIns := [], harness := (true, "71a36562857fc630f165e02980f6858b8ffdee16fa94093c4375d2f8cf85a186"), looks := false }, kinds := [], alts := [], laidByText := true, laidKinds := [.data, .data], laidTests := true, laidLooks := .later }
def PatchBackCardSaid : Prop := Claim7.holds Tryd.pinned (.plain (OpenSpec.ofChange patchBackSpec)) patchBackCard

/-- THE SECOND FORM's CARD OF 'tenderlaw05.ShaSums'. -/
def shaSumsUptoCard : Claim7 := { stood := { row := shaSumsUptoRow, standIns := [], harness := (true, "71a36562857fc630f165e02980f6858b8ffdee16fa94093c4375d2f8cf85a186"), looks := false }, kinds := [], alts := [], laidByText := true, laidKinds := [.data, .data], laidTests := true, laidLooks := .later }
def ShaSumsUptoCardSaid : Prop := Claim7.holds Tryd.pinned (.plain (OpenSpec.upto shaSumsSpec)) shaSumsUptoCard

/-- THE SECOND FORM's CARD OF 'tenderlaw05.ShaParts'. -/
def shaPartsUptoCard : Claim7 := { stood := { row := shaPartsUptoRow, standIns := [], harness := (true, "71a36562857fc630f165e02980f6858b8ffdee16fa94093c4375d2f8cf85a186"), looks := false }, kinds := [], alts := [], laidByText := true, laidKinds := [.data, .data], laidTests := true, laidLooks := .later }
def ShaPartsUptoCardSaid : Prop := Claim7.holds Tryd.pinned (.plain (OpenSpec.upto shaPartsSpec)) shaPartsUptoCard

/-- THE SECOND FORM's CARD OF 'tenderlaw05.ShaNobody'. -/
def shaNobodyUptoCard : Claim7 := { stood := { row := shaNobodyUptoRow, standIns := [], harness := (true, "71a36562857fc630f165e02980f6858b8ffdee16fa94093c4375d2f8cf85a186"), looks := false }, kinds := [], alts := [], laidByText := true, laidKinds := [.data, .data], laidTests := true, laidLooks := .later }
def ShaNobodyUptoCardSaid : Prop := Claim7.holds Tryd.pinned (.plain (OpenSpec.upto shaNobodySpec)) shaNobodyUptoCard

/-- THE SECOND FORM's CARD OF 'tenderlaw05.ShaOf'. -/
def shaOfUptoCard : Claim7 := { stood := { row := shaOfUptoRow, standIns := [], harness := (true, "71a36562857fc630f165e02980f6858b8ffdee16fa94093c4375d2f8cf85a186"), looks := false }, kinds := [], alts := [], laidByText := true, laidKinds := [.data, .data], laidTests := true, laidLooks := .later }
def ShaOfUptoCardSaid : Prop := Claim7.holds Tryd.pinned (.plain (OpenSpec.upto shaOfSpec)) shaOfUptoCard

/-- THE SECOND FORM's CARD OF 'tenderlaw17.SignFinds'. -/
def signFindsUptoCard : Claim7 := { stood := { row := signFindsUptoRow, standIns := [], harness := (true, "71a36562857fc630f165e02980f6858b8ffdee16fa94093c4375d2f8cf85a186"), looks := false }, kinds := [], alts := [], laidByText := true, laidKinds := [.data, .data], laidTests := true, laidLooks := .later }
def SignFindsUptoCardSaid : Prop := Claim7.holds Tryd.pinned (.plain (OpenSpec.upto signFindsSpec)) signFindsUptoCard

/-- THE SECOND FORM's CARD OF 'tenderlaw17.SignTells'. -/
def signTellsUptoCard : Claim7 := { stood := { row := signTellsUptoRow, standIns := [], harness := (true, "71a36562857fc630f165e02980f6858b8ffdee16fa94093c4375d2f8cf85a186"), looks := false }, kinds := [], alts := [], laidByText := true, laidKinds := [.data, .data], laidTests := true, laidLooks := .later }
def SignTellsUptoCardSaid : Prop := Claim7.holds Tryd.pinned (.plain (OpenSpec.upto signTellsSpec)) signTellsUptoCard

/-- THE SECOND FORM's CARD OF 'tenderlaw17.SignBest'. -/
def signBestUptoCard : Claim7 := { stood := { row := signBestUptoRow, standIns := [], harness := (true, "71a36562857fc630f165e02980f6858b8ffdee16fa94093c4375d2f8cf85a186"), looks := false }, kinds := [], alts := [], laidByText := true, laidKinds := [.data, .data], laidTests := true, laidLooks := .later }
def SignBestUptoCardSaid : Prop := Claim7.holds Tryd.pinned (.plain (OpenSpec.upto signBestSpec)) signBestUptoCard

/-- THE SECOND FORM's CARD OF 'tenderlaw18.HuntExact'. -/
def huntExactUptoCard : Claim7 := { stood := { row := huntExactUptoRow, standIns := [], harness := (true, "71a36562857fc630f165e02980f6858b8ffdee16fa94093c4375d2f8cf85a186"), looks := false }, kinds := [], alts := [], laidByText := true, laidKinds := [.data, .data], laidTests := true, laidLooks := .later }
def HuntExactUptoCardSaid : Prop := Claim7.holds Tryd.pinned (.plain (OpenSpec.upto huntExactSpec)) huntExactUptoCard

/-- THE SECOND FORM's CARD OF 'tenderlaw18.HuntSelf'. -/
def huntSelfUptoCard : Claim7 := { stood := { row := huntSelfUptoRow, standIns := [], harness := (true, "71a36562857fc630f165e02980f6858b8ffdee16fa94093c4375d2f8cf85a186"), looks := false }, kinds := [], alts := [], laidByText := true, laidKinds := [.data, .data], laidTests := true, laidLooks := .later }
def HuntSelfUptoCardSaid : Prop := Claim7.holds Tryd.pinned (.plain (OpenSpec.upto huntSelfSpec)) huntSelfUptoCard

/-- THE SECOND FORM's CARD OF 'tenderlaw18.HuntCounts'. -/
def huntCountsUptoCard : Claim7 := { stood := { row := huntCountsUptoRow, standIns := [], harness := (true, "71a36562857fc630f165e02980f6858b8ffdee16fa94093c4375d2f8cf85a186"), looks := false }, kinds := [], alts := [], laidByText := true, laidKinds := [.data, .data], laidTests := true, laidLooks := .later }
def HuntCountsUptoCardSaid : Prop := Claim7.holds Tryd.pinned (.plain (OpenSpec.upto huntCountsSpec)) huntCountsUptoCard

/-- THE SECOND FORM's CARD OF 'tenderlaw18.HuntSteps'. -/
def huntStepsUptoCard : Claim7 := { stood := { row := huntStepsUptoRow, standIns := [], harness := (true, "71a36562857fc630f165e02980f6858b8ffdee16fa94093c4375d2f8cf85a186"), looks := false }, kinds := [], alts := [], laidByText := true, laidKinds := [.data, .data], laidTests := true, laidLooks := .later }
def HuntStepsUptoCardSaid : Prop := Claim7.holds Tryd.pinned (.plain (OpenSpec.upto huntStepsSpec)) huntStepsUptoCard

/-- THE SECOND FORM's CARD OF 'tenderlaw19.DeltaShort'. -/
def deltaShortUptoCard : Claim7 := { stood := { row := deltaShortUptoRow, standIns := [], harness := (true, "71a36562857fc630f165e02980f6858b8ffdee16fa94093c4375d2f8cf85a186"), looks := false }, kinds := [], alts := [], laidByText := true, laidKinds := [.data, .data], laidTests := true, laidLooks := .later }
def DeltaShortUptoCardSaid : Prop := Claim7.holds Tryd.pinned (.plain (OpenSpec.upto deltaShortSpec)) deltaShortUptoCard

/-- THE SECOND FORM's CARD OF 'tenderlaw20.PatchBack'. -/
def patchBackUptoCard : Claim7 := { stood := { row := patchBackUptoRow, standIns := [], harness := (true, "71a36562857fc630f165e02980f6858b8ffdee16fa94093c4375d2f8cf85a186"), looks := false }, kinds := [], alts := [], laidByText := true, laidKinds := [.data, .data], laidTests := true, laidLooks := .later }
def PatchBackUptoCardSaid : Prop := Claim7.holds Tryd.pinned (.plain (OpenSpec.upto patchBackSpec)) patchBackUptoCard
end Rows
end Go.Proofs.YtmnanbcinfdbaaaDoor
