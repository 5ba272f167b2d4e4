/-
  DERIVED. GIVEN WITH THE SEED: THE CARDS: each row of YtiblfhiiombfcaaGreatDoorRows.lean that lists a variable, with what it lists TIED to the program's text (the seventh form; the later family's looks); each row that meets fmt, with fmt's text TOLD by the authors' own Lean function (tested against real Go, not proved from fmt's source: count such statements apart). THE CARD IS WHAT COUNTS. Prove the row's statement (the work); the ties are given (YtiblfhiiombfcaaGreatDoorTie.lean); close each card by the builder's one call (the guide's Derived/Test/ToyasCard.lean, 'card_holds'). Laid BY PROGRAM, IN A SANDBOX (cutbox-door.mjs). By AI agents, Wed Nov 11 2026. No macro, syntax, notation, axiom, sorry.
-/
import Derived.Test.YtiblfhiiombfcaaGreatDoorRows
import GoSem.ClaimSeven
namespace Go.Proofs.YtiblfhiiombfcaaGreatDoor
namespace Rows

/-- THE TIED CARD OF 'mummerlaw30.LiftKnown'. -/
def liftKnownCard : Claim7 := { stood := { row := liftKnownRow, standIns := [], harness := (true, "d9146dfeb10900933c9f7bd67d10b1552afa849a36c29177b1e859ecfe7443c5"), looks := true }, kinds := [], alts := [], laidByText := true, laidKinds := [.data, .data, .data, .data, .data, .pinned], laidTests := true, laidLooks := .later }
def LiftKnownCardSaid : Prop := Claim7.holds Tryz.pinned (.plain (OpenSpec.ofChange liftKnownSpec)) liftKnownCard

/-- THE SECOND FORM's CARD OF 'mummerlaw30.LiftKnown'. -/
def liftKnownUptoCard : Claim7 := { stood := { row := liftKnownUptoRow, standIns := [], harness := (true, "d9146dfeb10900933c9f7bd67d10b1552afa849a36c29177b1e859ecfe7443c5"), looks := true }, kinds := [], alts := [], laidByText := true, laidKinds := [.data, .data, .data, .data, .data, .pinned], laidTests := true, laidLooks := .later }
def LiftKnownUptoCardSaid : Prop := Claim7.holds Tryz.pinned (.plain (OpenSpec.upto liftKnownSpec)) liftKnownUptoCard
end Rows
end Go.Proofs.YtiblfhiiombfcaaGreatDoor
