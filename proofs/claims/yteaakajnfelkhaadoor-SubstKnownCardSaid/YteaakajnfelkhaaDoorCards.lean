/-
  DERIVED. GIVEN WITH THE SEED: THE CARDS: each row of YteaakajnfelkhaaDoorRows.lean that lists a variable, with what it lists TIED to the program's text (the seventh form; the later family's looks); each row that meets fmt, with fmt's text TOLD by the authors' own Lean function (tested against real Go, not proved from fmt's source: count such statements apart). THE CARD IS WHAT COUNTS. Prove the row's statement (the work); the ties are given (YteaakajnfelkhaaDoorTie.lean); close each card by the builder's one call (the guide's Derived/Test/ToyasCard.lean, 'card_holds'). Laid BY PROGRAM, IN A SANDBOX (cutbox-door.mjs). By AI agents, Wed Nov 11 2026. No macro, syntax, notation, axiom, sorry.
-/
import Derived.Test.YteaakajnfelkhaaDoorRows
import GoSem.ClaimSeven
namespace Go.Proofs.YteaakajnfelkhaaDoor
namespace Rows

/-- THE TIED CARD OF 'mummerlaw22.SubstNothing'. -/
def substNothingCard : Claim7 := { stood := { row := substNothingRow, standIns := [], harness := (true, "a99eb433e1137fc2908b668b903b3dbfa8a5ef1287cd2a3ec8076ad16e004ce0"), looks := false }, kinds := [], alts := [], laidByText := true, laidKinds := [.data, .pinned], laidTests := true, laidLooks := .later }
def SubstNothingCardSaid : Prop := Claim7.holds Tryd.pinned (.plain (OpenSpec.ofChange substNothingSpec)) substNothingCard

/-- THE TIED CARD OF 'mummerlaw22.SubstKnown'. -/
def substKnownCard : Claim7 := { stood := { row := substKnownRow, standIns := [], harness := (true, "a99eb433e1137fc2908b668b903b3dbfa8a5ef1287cd2a3ec8076ad16e004ce0"), looks := false }, kinds := [], alts := [], laidByText := true, laidKinds := [.data, .pinned], laidTests := true, laidLooks := .later }
def SubstKnownCardSaid : Prop := Claim7.holds Tryd.pinned (.plain (OpenSpec.ofChange substKnownSpec)) substKnownCard

/-- THE SECOND FORM's CARD OF 'mummerlaw22.SubstNothing'. -/
def substNothingUptoCard : Claim7 := { stood := { row := substNothingUptoRow, standIns := [], harness := (true, "a99eb433e1137fc2908b668b903b3dbfa8a5ef1287cd2a3ec8076ad16e004ce0"), looks := false }, kinds := [], alts := [], laidByText := true, laidKinds := [.data, .pinned], laidTests := true, laidLooks := .later }
def SubstNothingUptoCardSaid : Prop := Claim7.holds Tryd.pinned (.plain (OpenSpec.upto substNothingSpec)) substNothingUptoCard

/-- THE SECOND FORM's CARD OF 'mummerlaw22.SubstKnown'. -/
def substKnownUptoCard : Claim7 := { stood := { row := substKnownUptoRow, standIns := [], harness := (true, "a99eb433e1137fc2908b668b903b3dbfa8a5ef1287cd2a3ec8076ad16e004ce0"), looks := false }, kinds := [], alts := [], laidByText := true, laidKinds := [.data, .pinned], laidTests := true, laidLooks := .later }
def SubstKnownUptoCardSaid : Prop := Claim7.holds Tryd.pinned (.plain (OpenSpec.upto substKnownSpec)) substKnownUptoCard
end Rows
end Go.Proofs.YteaakajnfelkhaaDoor
