/-
  DERIVED. GIVEN WITH THE SEED: THE CARDS: each row of YtfonnebpnobomaaGreatDoorRows.lean that lists a variable, with what it lists TIED to the program's text (the seventh form; the later family's looks); each row that meets fmt, with fmt's text TOLD by the authors' own Lean function (tested against real Go, not proved from fmt's source: count such statements apart). THE CARD IS WHAT COUNTS. Prove the row's statement (the work); the ties are given (YtfonnebpnobomaaGreatDoorTie.lean); close each card by the builder's one call (the guide's Derived/Test/ToyasCard.lean, 'card_holds'). Laid BY PROGRAM, IN A SANDBOX (cutbox-door.mjs). By AI agents, Wed Nov 11 2026. No macro, syntax, notation, axiom, sorry.
-/
import Derived.Test.YtfonnebpnobomaaGreatDoorRows
import GoSem.ClaimSeven
namespace Go.Proofs.YtfonnebpnobomaaGreatDoor
namespace Rows

/-- THE TIED CARD OF 'mummerlaw23.PrimsApplies'. -/
def primsAppliesCard : Claim7 := { stood := { row := primsAppliesRow, standIns := [], harness := (true, "6b593fac4ba4048558c624d022f9e776649db609ac1d4f7bc7161e1ba3729eb0"), looks := false }, kinds := [], alts := [], laidByText := true, laidKinds := [.widerDeep, .data, .pinned], laidTests := true, laidLooks := .later }
def PrimsAppliesCardSaid : Prop := Claim7.holds Tryz.pinned (.plain (OpenSpec.ofChange primsAppliesSpec)) primsAppliesCard

/-- THE TIED CARD OF 'mummerlaw23.PrimsTotal'. -/
def primsTotalCard : Claim7 := { stood := { row := primsTotalRow, standIns := [], harness := (true, "6b593fac4ba4048558c624d022f9e776649db609ac1d4f7bc7161e1ba3729eb0"), looks := false }, kinds := [], alts := [], laidByText := true, laidKinds := [.data, .pinned], laidTests := true, laidLooks := .later }
def PrimsTotalCardSaid : Prop := Claim7.holds Tryz.pinned (.plain (OpenSpec.ofChange primsTotalSpec)) primsTotalCard

/-- THE TIED CARD OF 'mummerlaw23.PrimsNames'. -/
def primsNamesCard : Claim7 := { stood := { row := primsNamesRow, standIns := [], harness := (true, "6b593fac4ba4048558c624d022f9e776649db609ac1d4f7bc7161e1ba3729eb0"), looks := false }, kinds := [], alts := [], laidByText := true, laidKinds := [.widerDeep, .data, .pinned], laidTests := true, laidLooks := .later }
def PrimsNamesCardSaid : Prop := Claim7.holds Tryz.pinned (.plain (OpenSpec.ofChange primsNamesSpec)) primsNamesCard

/-- THE TIED CARD OF 'mummerlaw23.PrimsLists'. -/
def primsListsCard : Claim7 := { stood := { row := primsListsRow, standIns := [], harness := (true, "6b593fac4ba4048558c624d022f9e776649db609ac1d4f7bc7161e1ba3729eb0"), looks := false }, kinds := [], alts := [], laidByText := true, laidKinds := [.data, .pinned], laidTests := true, laidLooks := .later }
def PrimsListsCardSaid : Prop := Claim7.holds Tryz.pinned (.plain (OpenSpec.ofChange primsListsSpec)) primsListsCard

/-- THE TIED CARD OF 'mummerlaw23.PrimsKnown'. -/
def primsKnownCard : Claim7 := { stood := { row := primsKnownRow, standIns := [], harness := (true, "6b593fac4ba4048558c624d022f9e776649db609ac1d4f7bc7161e1ba3729eb0"), looks := false }, kinds := [], alts := [], laidByText := true, laidKinds := [.data, .pinned], laidTests := true, laidLooks := .later }
def PrimsKnownCardSaid : Prop := Claim7.holds Tryz.pinned (.plain (OpenSpec.ofChange primsKnownSpec)) primsKnownCard

/-- THE SECOND FORM's CARD OF 'mummerlaw23.PrimsApplies'. -/
def primsAppliesUptoCard : Claim7 := { stood := { row := primsAppliesUptoRow, standIns := [], harness := (true, "6b593fac4ba4048558c624d022f9e776649db609ac1d4f7bc7161e1ba3729eb0"), looks := false }, kinds := [], alts := [], laidByText := true, laidKinds := [.widerDeep, .data, .pinned], laidTests := true, laidLooks := .later }
def PrimsAppliesUptoCardSaid : Prop := Claim7.holds Tryz.pinned (.plain (OpenSpec.upto primsAppliesSpec)) primsAppliesUptoCard

/-- THE SECOND FORM's CARD OF 'mummerlaw23.PrimsTotal'. -/
def primsTotalUptoCard : Claim7 := { stood := { row := primsTotalUptoRow, standIns := [], harness := (true, "6b593fac4ba4048558c624d022f9e776649db609ac1d4f7bc7161e1ba3729eb0"), looks := false }, kinds := [], alts := [], laidByText := true, laidKinds := [.data, .pinned], laidTests := true, laidLooks := .later }
def PrimsTotalUptoCardSaid : Prop := Claim7.holds Tryz.pinned (.plain (OpenSpec.upto primsTotalSpec)) primsTotalUptoCard

/-- THE SECOND FORM's CARD OF 'mummerlaw23.PrimsNames'. -/
def primsNamesUptoCard : Claim7 := { stood := { row := primsNamesUptoRow, standIns := [], harness := (true, "6b593fac4ba4048558c624d022f9e776649db609ac1d4f7bc7161e1ba3729eb0"), looks := false }, kinds := [], alts := [], laidByText := true, laidKinds := [.widerDeep, .data, .pinned], laidTests := true, laidLooks := .later }
def PrimsNamesUptoCardSaid : Prop := Claim7.holds Tryz.pinned (.plain (OpenSpec.upto primsNamesSpec)) primsNamesUptoCard

/-- THE SECOND FORM's CARD OF 'mummerlaw23.PrimsLists'. -/
def primsListsUptoCard : Claim7 := { stood := { row := primsListsUptoRow, standIns := [], harness := (true, "6b593fac4ba4048558c624d022f9e776649db609ac1d4f7bc7161e1ba3729eb0"), looks := false }, kinds := [], alts := [], laidByText := true, laidKinds := [.data, .pinned], laidTests := true, laidLooks := .later }
def PrimsListsUptoCardSaid : Prop := Claim7.holds Tryz.pinned (.plain (OpenSpec.upto primsListsSpec)) primsListsUptoCard

/-- THE SECOND FORM's CARD OF 'mummerlaw23.PrimsKnown'. -/
def primsKnownUptoCard : Claim7 := { stood := { row := primsKnownUptoRow, standIns := [], harness := (true, "6b593fac4ba4048558c624d022f9e776649db609ac1d4f7bc7161e1ba3729eb0"), looks := false }, kinds := [], alts := [], laidByText := true, laidKinds := [.data, .pinned], laidTests := true, laidLooks := .later }
def PrimsKnownUptoCardSaid : Prop := Claim7.holds Tryz.pinned (.plain (OpenSpec.upto primsKnownSpec)) primsKnownUptoCard
end Rows
end Go.Proofs.YtfonnebpnobomaaGreatDoor
