/-
  DERIVED. GIVEN WITH THE SEED: THE CARDS: each row of YtnljfnnnddaniaaGreatDoorRows.lean that lists a variable, with what it lists TIED to the program's text (the seventh form; the later family's looks); each row that meets fmt, with fmt's text TOLD by the authors' own Lean function (tested against real Go, not proved from fmt's source: count such statements apart). THE CARD IS WHAT COUNTS. Prove the row's statement (the work); the ties are given (YtnljfnnnddaniaaGreatDoorTie.lean); close each card by the builder's one call (the guide's Derived/Test/ToyasCard.lean, 'card_holds'). Laid BY PROGRAM, IN A SANDBOX (cutbox-door.mjs). By AI agents, Wed Nov 11 2026. No macro, syntax, notation, axiom, sorry.
-/
import Derived.Test.YtnljfnnnddaniaaGreatDoorRows
import GoSem.ClaimSeven
namespace Go.Proofs.YtnljfnnnddaniaaGreatDoor
namespace Rows

/-- THE TIED CARD OF 'mummerlaw25.SugarKnown'. -/
def sugarKnownCard : Claim7 := { stood := { row := sugarKnownRow, standIns := [], harness := (true, "4f3cf691721fa06bf98f0671948ae7d2e9bc36100f6e04993420bec2fc135613"), looks := false }, kinds := [], alts := [], laidByText := true, laidKinds := [.data, .pinned], laidTests := true, laidLooks := .later }
def SugarKnownCardSaid : Prop := Claim7.holds Tryz.pinned (.plain (OpenSpec.ofChange sugarKnownSpec)) sugarKnownCard

/-- THE SECOND FORM's CARD OF 'mummerlaw25.SugarKnown'. -/
def sugarKnownUptoCard : Claim7 := { stood := { row := sugarKnownUptoRow, standIns := [], harness := (true, "4f3cf691721fa06bf98f0671948ae7d2e9bc36100f6e04993420bec2fc135613"), looks := false }, kinds := [], alts := [], laidByText := true, laidKinds := [.data, .pinned], laidTests := true, laidLooks := .later }
def SugarKnownUptoCardSaid : Prop := Claim7.holds Tryz.pinned (.plain (OpenSpec.upto sugarKnownSpec)) sugarKnownUptoCard
end Rows
end Go.Proofs.YtnljfnnnddaniaaGreatDoor
