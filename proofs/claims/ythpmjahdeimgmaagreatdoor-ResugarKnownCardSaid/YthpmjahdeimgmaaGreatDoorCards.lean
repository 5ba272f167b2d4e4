/-
  DERIVED. GIVEN WITH THE SEED: THE CARDS: each row of YthpmjahdeimgmaaGreatDoorRows.lean that lists a variable, with what it lists TIED to the program's text (the seventh form; the later family's looks); each row that meets fmt, with fmt's text TOLD by the authors' own Lean function (tested against real Go, not proved from fmt's source: count such statements apart). THE CARD IS WHAT COUNTS. Prove the row's statement (the work); the ties are given (YthpmjahdeimgmaaGreatDoorTie.lean); close each card by the builder's one call (the guide's Derived/Test/ToyasCard.lean, 'card_holds'). Laid BY PROGRAM, IN A SANDBOX (cutbox-door.mjs). By AI agents, Wed Nov 11 2026. No macro, syntax, notation, axiom, sorry.
-/
import Derived.Test.YthpmjahdeimgmaaGreatDoorRows
import GoSem.ClaimSeven
namespace Go.Proofs.YthpmjahdeimgmaaGreatDoor
namespace Rows

/-- THE TIED CARD OF 'mummerlaw26.ResugarKnown'. -/
def resugarKnownCard : Claim7 := { stood := { row := resugarKnownRow, standIns := [], harness := (true, "5139e223b37ecd888c1415f014eb4d5c96e34bedc65e37b9e43e706de8233be6"), looks := true }, kinds := [], alts := [], laidByText := true, laidKinds := [.data, .data, .pinned], laidTests := true, laidLooks := .later }
def ResugarKnownCardSaid : Prop := Claim7.holds Tryz.pinned (.plain (OpenSpec.ofChange resugarKnownSpec)) resugarKnownCard

/-- THE SECOND FORM's CARD OF 'mummerlaw26.ResugarKnown'. -/
def resugarKnownUptoCard : Claim7 := { stood := { row := resugarKnownUptoRow, standIns := [], harness := (true, "5139e223b37ecd888c1415f014eb4d5c96e34bedc65e37b9e43e706de8233be6"), looks := true }, kinds := [], alts := [], laidByText := true, laidKinds := [.data, .data, .pinned], laidTests := true, laidLooks := .later }
def ResugarKnownUptoCardSaid : Prop := Claim7.holds Tryz.pinned (.plain (OpenSpec.upto resugarKnownSpec)) resugarKnownUptoCard
end Rows
end Go.Proofs.YthpmjahdeimgmaaGreatDoor
