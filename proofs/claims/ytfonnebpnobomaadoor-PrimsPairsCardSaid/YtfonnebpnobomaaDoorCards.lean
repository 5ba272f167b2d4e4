/-
  DERIVED. GIVEN WITH THE SEED: THE CARDS: each row of YtfonnebpnobomaaDoorRows.lean that lists a variable, with what it lists TIED to the program's text (the seventh form; the later family's looks); each row that meets fmt, with fmt's text TOLD by the authors' own Lean function (tested against real Go, not proved from fmt's source: count such statements apart). THE CARD IS WHAT COUNTS. Prove the row's statement (the work); the ties are given (YtfonnebpnobomaaDoorTie.lean); close each card by the builder's one call (the guide's Derived/Test/ToyasCard.lean, 'card_holds'). Laid BY PROGRAM, IN A SANDBOX (cutbox-door.mjs). By AI agents, Wed Nov 11 2026. No macro, syntax, notation, axiom, sorry.
-/
import Derived.Test.YtfonnebpnobomaaDoorRows
import GoSem.ClaimSeven
namespace Go.Proofs.YtfonnebpnobomaaDoor
namespace Rows

/-- THE TIED CARD OF 'mummerlaw23.PrimsNumbers'. -/
def primsNumbersCard : Claim7 := { stood := { row := primsNumbersRow, standIns := [], harness := (true, "7ed13b14a700b3703836e75a0d6cc50a06a8bfbf42040828ec64d52d4780ed1d"), looks := false }, kinds := [], alts := [], laidByText := true, laidKinds := [.data, .pinned], laidTests := true, laidLooks := .later }
def PrimsNumbersCardSaid : Prop := Claim7.holds Tryd.pinned (.plain (OpenSpec.ofChange primsNumbersSpec)) primsNumbersCard

/-- THE TIED CARD OF 'mummerlaw23.PrimsPairs'. -/
def primsPairsCard : Claim7 := { stood := { row := primsPairsRow, standIns := [], harness := (true, "7ed13b14a700b3703836e75a0d6cc50a06a8bfbf42040828ec64d52d4780ed1d"), looks := false }, kinds := [], alts := [], laidByText := true, laidKinds := [.data, .pinned], laidTests := true, laidLooks := .later }
def PrimsPairsCardSaid : Prop := Claim7.holds Tryd.pinned (.plain (OpenSpec.ofChange primsPairsSpec)) primsPairsCard

/-- THE TIED CARD OF 'mummerlaw23.PrimsKinds'. -/
def primsKindsCard : Claim7 := { stood := { row := primsKindsRow, standIns := [], harness := (true, "7ed13b14a700b3703836e75a0d6cc50a06a8bfbf42040828ec64d52d4780ed1d"), looks := false }, kinds := [], alts := [], laidByText := true, laidKinds := [.data, .pinned], laidTests := true, laidLooks := .later }
def PrimsKindsCardSaid : Prop := Claim7.holds Tryd.pinned (.plain (OpenSpec.ofChange primsKindsSpec)) primsKindsCard

/-- THE TIED CARD OF 'mummerlaw23.PrimsOrder'. -/
def primsOrderCard : Claim7 := { stood := { row := primsOrderRow, standIns := [], harness := (true, "7ed13b14a700b3703836e75a0d6cc50a06a8bfbf42040828ec64d52d4780ed1d"), looks := false }, kinds := [], alts := [], laidByText := true, laidKinds := [.data, .pinned], laidTests := true, laidLooks := .later }
def PrimsOrderCardSaid : Prop := Claim7.holds Tryd.pinned (.plain (OpenSpec.ofChange primsOrderSpec)) primsOrderCard

/-- THE SECOND FORM's CARD OF 'mummerlaw23.PrimsNumbers'. -/
def primsNumbersUptoCard : Claim7 := { stood := { row := primsNumbersUptoRow, standIns := [], harness := (true, "7ed13b14a700b3703836e75a0d6cc50a06a8bfbf42040828ec64d52d4780ed1d"), looks := false }, kinds := [], alts := [], laidByText := true, laidKinds := [.data, .pinned], laidTests := true, laidLooks := .later }
def PrimsNumbersUptoCardSaid : Prop := Claim7.holds Tryd.pinned (.plain (OpenSpec.upto primsNumbersSpec)) primsNumbersUptoCard

/-- THE SECOND FORM's CARD OF 'mummerlaw23.PrimsPairs'. -/
def primsPairsUptoCard : Claim7 := { stood := { row := primsPairsUptoRow, standIns := [], harness := (true, "7ed13b14a700b3703836e75a0d6cc50a06a8bfbf42040828ec64d52d4780ed1d"), looks := false }, kinds := [], alts := [], laidByText := true, laidKinds := [.data, .pinned], laidTests := true, laidLooks := .later }
def PrimsPairsUptoCardSaid : Prop := Claim7.holds Tryd.pinned (.plain (OpenSpec.upto primsPairsSpec)) primsPairsUptoCard

/-- THE SECOND FORM's CARD OF 'mummerlaw23.PrimsKinds'. -/
def primsKindsUptoCard : Claim7 := { stood := { row := primsKindsUptoRow, standIns := [], harness := (true, "7ed13b14a700b3703836e75a0d6cc50a06a8bfbf42040828ec64d52d4780ed1d"), looks := false }, kinds := [], alts := [], laidByText := true, laidKinds := [.data, .pinned], laidTests := true, laidLooks := .later }
def PrimsKindsUptoCardSaid : Prop := Claim7.holds Tryd.pinned (.plain (OpenSpec.upto primsKindsSpec)) primsKindsUptoCard

/-- THE SECOND FORM's CARD OF 'mummerlaw23.PrimsOrder'. -/
def primsOrderUptoCard : Claim7 := { stood := { row := primsOrderUptoRow, standIns := [], harness := (true, "7ed13b14a700b3703836e75a0d6cc50a06a8bfbf42040828ec64d52d4780ed1d"), looks := false }, kinds := [], alts := [], laidByText := true, laidKinds := [.data, .pinned], laidTests := true, laidLooks := .later }
def PrimsOrderUptoCardSaid : Prop := Claim7.holds Tryd.pinned (.plain (OpenSpec.upto primsOrderSpec)) primsOrderUptoCard
end Rows
end Go.Proofs.YtfonnebpnobomaaDoor
