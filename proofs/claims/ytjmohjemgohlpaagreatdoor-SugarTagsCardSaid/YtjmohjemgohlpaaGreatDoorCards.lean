/-
  DERIVED. GIVEN WITH THE SEED: THE CARDS: each row of YtjmohjemgohlpaaGreatDoorRows.lean that lists a variable, with what it lists TIED to the program's text (the seventh form; the later family's looks); each row that meets fmt, with fmt's text TOLD by the authors' own Lean function (tested against real Go, not proved from fmt's source: count such statements apart). THE CARD IS WHAT COUNTS. Prove the row's statement (the work); the ties are given (YtjmohjemgohlpaaGreatDoorTie.lean); close each card by the builder's one call (the guide's Derived/Test/ToyasCard.lean, 'card_holds'). Laid BY PROGRAM, IN A SANDBOX (cutbox-door.mjs). By AI agents, Wed Nov 11 2026. No macro, syntax, notation, axiom, sorry.
-/
import Derived.Test.YtjmohjemgohlpaaGreatDoorRows
import GoSem.ClaimSeven
namespace Go.Proofs.YtjmohjemgohlpaaGreatDoor
namespace Rows

/-- THE TIED CARD OF 'mummerlaw25.SugarTags'. -/
def sugarTagsCard : Claim7 := { stood := { row := sugarTagsRow, standIns := [], harness := (true, "d91ee53bf1d2634b456175bf8f6b1980b4a8af47b2d72099149891331aeb7513"), looks := false }, kinds := [], alts := [], laidByText := true, laidKinds := [.data, .data, .pinned], laidTests := true, laidLooks := .later }
def SugarTagsCardSaid : Prop := Claim7.holds Tryz.pinned (.plain (OpenSpec.ofChange sugarTagsSpec)) sugarTagsCard

/-- THE SECOND FORM's CARD OF 'mummerlaw25.SugarTags'. -/
def sugarTagsUptoCard : Claim7 := { stood := { row := sugarTagsUptoRow, standIns := [], harness := (true, "d91ee53bf1d2634b456175bf8f6b1980b4a8af47b2d72099149891331aeb7513"), looks := false }, kinds := [], alts := [], laidByText := true, laidKinds := [.data, .data, .pinned], laidTests := true, laidLooks := .later }
def SugarTagsUptoCardSaid : Prop := Claim7.holds Tryz.pinned (.plain (OpenSpec.upto sugarTagsSpec)) sugarTagsUptoCard
end Rows
end Go.Proofs.YtjmohjemgohlpaaGreatDoor
