/-
  DERIVED. GIVEN WITH THE SEED: THE CARDS: each row of YthhhiiagppckhaaGreatDoorRows.lean that lists a variable, with what it lists TIED to the program's text (the seventh form; the later family's looks); each row that meets fmt, with fmt's text TOLD by the authors' own Lean function (tested against real Go, not proved from fmt's source: count such statements apart). THE CARD IS WHAT COUNTS. Prove the row's statement (the work); the ties are given (YthhhiiagppckhaaGreatDoorTie.lean); close each card by the builder's one call (the guide's Derived/Test/ToyasCard.lean, 'card_holds'). Laid BY PROGRAM, IN A SANDBOX (cutbox-door.mjs). By AI agents, Wed Nov 11 2026. No macro, syntax, notation, axiom, sorry.
-/
import Derived.Test.YthhhiiagppckhaaGreatDoorRows
import GoSem.ClaimSeven
namespace Go.Proofs.YthhhiiagppckhaaGreatDoor
namespace Rows

/-- THE TIED CARD OF 'tenderlaw33.LineDamage'. -/
def lineDamageCard : Claim7 := { stood := { row := lineDamageRow, standIns := [], harness := (true, "1117a3da2545b77e36e0844abd30a59d8d6010fd52a078c2099f7163664cf826"), looks := true }, kinds := [], alts := [], laidByText := true, laidKinds := [.handle, .data], laidTests := true, laidLooks := .later }
def LineDamageCardSaid : Prop := Claim7.holds Tryz.pinned (.plain (OpenSpec.ofChange lineDamageSpec)) lineDamageCard

/-- THE SECOND FORM's CARD OF 'tenderlaw33.LineDamage'. -/
def lineDamageUptoCard : Claim7 := { stood := { row := lineDamageUptoRow, standIns := [], harness := (true, "1117a3da2545b77e36e0844abd30a59d8d6010fd52a078c2099f7163664cf826"), looks := true }, kinds := [], alts := [], laidByText := true, laidKinds := [.handle, .data], laidTests := true, laidLooks := .later }
def LineDamageUptoCardSaid : Prop := Claim7.holds Tryz.pinned (.plain (OpenSpec.upto lineDamageSpec)) lineDamageUptoCard
end Rows
end Go.Proofs.YthhhiiagppckhaaGreatDoor
