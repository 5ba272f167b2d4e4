/-
  NARROWER THAN 'FOR EVERY INPUT', by the rows' own cells (each row's printed sentence says how): PrimsApplies: laid · PrimsTotal: laid · PrimsNames: laid · PrimsLists: laid · PrimsKnown: laid.
  DERIVED. THE GIVEN ROWS OF THIS SEAT. 5 by the template 'for every input the law returns true; each argument reads behind the call as it read before'; 0 by the template 'total and deterministic' (their statements: YtfonnebpnobomaaGreatDoorTotals.lean).
  GIVEN WITH THE SEED: the statements are not yours to turn. If you find one false, say at which input.
  Laid BY PROGRAM, IN A SANDBOX (cutbox-rows.mjs): the forced cells as the released guide's own fill.sh prints them over the translation c15910dad58f749f… (all of the seat's roots in one cut). By AI agents, Wed Nov 11 2026. No macro, syntax, notation, axiom, sorry.
-/
import Derived.Test.YtfonnebpnobomaaGreatDoorChecked
import GoSem.PinnedTables
import GoSem.Claim
import GoSem.ClaimJoined
import GoSem.ClaimMapViews
import Derived.JoinedTies
import Derived.KernelRfl
namespace Go.Proofs.YtfonnebpnobomaaGreatDoor
/- THE CELL 'sum', in the pinned program and in every row, IS THE sha256 OF THE DUMP (.gsa) THAT YtfonnebpnobomaaGreatDoorProg.lean LOADS. Nothing in Lean hashes anything: it is a label: what it is worth is what the hold of that sum in a sandbox is worth. -/
noncomputable def Tryz.pinned : Pinned := { name := "ytfonnebpnobomaagreatdoor", sum := "c15910dad58f749f4d538c9ba4b48114c3f464de2a266567ff04eb79a4c72be0", checked := Tryz.checked }
namespace Rows
def none {H : Type} : Left H := { results := [], args := [] }

/- WHAT THE LISTED PACKAGE-LEVEL VARIABLES READ AS WHEN THE CALL BEGINS. Each datum BY PROGRAM (the guide's laid-datum.mjs) off the statement by which the dump's own 'gosem.cut.vars' lays the variable. In a bare row this is a premise. The card (YtfonnebpnobomaaGreatDoorCards.lean) ties it to the program's text. -/
def laid_mummer_mummerref23_names {H : Type} : DataW H := .agg [.lit (.string [43]), .lit (.string [45]), .lit (.string [42]), .lit (.string [113, 117, 111, 116, 105, 101, 110, 116]), .lit (.string [114, 101, 109, 97, 105, 110, 100, 101, 114]), .lit (.string [61]), .lit (.string [60]), .lit (.string [99, 111, 110, 115]), .lit (.string [99, 97, 114]), .lit (.string [99, 100, 114]), .lit (.string [110, 117, 108, 108, 63]), .lit (.string [112, 97, 105, 114, 63]), .lit (.string [110, 117, 109, 98, 101, 114, 63]), .lit (.string [98, 111, 111, 108, 101, 97, 110, 63]), .lit (.string [115, 121, 109, 98, 111, 108, 63]), .lit (.string [112, 114, 111, 99, 101, 100, 117, 114, 101, 63]), .lit (.string [101, 113, 63]), .lit (.string [110, 111, 116])]
def laid_unicode_utf8_acceptRanges {H : Type} : DataW H := .agg [.agg [.lit (.int .u8 128), .lit (.int .u8 191)], .agg [.lit (.int .u8 160), .lit (.int .u8 191)], .agg [.lit (.int .u8 128), .lit (.int .u8 159)], .agg [.lit (.int .u8 144), .lit (.int .u8 191)], .agg [.lit (.int .u8 128), .lit (.int .u8 143)], .agg [.lit (.int .u8 0), .lit (.int .u8 0)], .agg [.lit (.int .u8 0), .lit (.int .u8 0)], .agg [.lit (.int .u8 0), .lit (.int .u8 0)], .agg [.lit (.int .u8 0), .lit (.int .u8 0)], .agg [.lit (.int .u8 0), .lit (.int .u8 0)], .agg [.lit (.int .u8 0), .lit (.int .u8 0)], .agg [.lit (.int .u8 0), .lit (.int .u8 0)], .agg [.lit (.int .u8 0), .lit (.int .u8 0)], .agg [.lit (.int .u8 0), .lit (.int .u8 0)], .agg [.lit (.int .u8 0), .lit (.int .u8 0)], .agg [.lit (.int .u8 0), .lit (.int .u8 0)]]
/-- One of Go's own tables, pinned by name: the form's constant. -/
def laid_unicode_utf8_first : DataW Unit := Go.Pinned.utf8First

/-- 'mummerlaw23.PrimsApplies': WHATEVER THE INPUT: true; the input reads as it did. -/
def primsAppliesSpec : ChangeSpec := { name := "primsApplies", fn := fun _ => fun
  | [d1, d2] => { results := [.lit (.bool true)], args := [d1, d2] }
  | _ => none }
def primsAppliesRow : OpenClaim := { program := "ytfonnebpnobomaagreatdoor", sum := "c15910dad58f749f4d538c9ba4b48114c3f464de2a266567ff04eb79a4c72be0", func := "mummer/mummerlaw23.PrimsApplies", spec := "primsApplies", inPlace := ["internal/bytealg.IndexByteString", "internal/bytealg.IndexString"], unfollowed := true, recurses := true, named := ["unicode/utf8.first", "unicode/utf8.acceptRanges", "mummer/mummerref23.names", "internal/bytealg.MaxLen"], apart := false, laid := [("mummer/mummerref23.names", laid_mummer_mummerref23_names), ("unicode/utf8.acceptRanges", laid_unicode_utf8_acceptRanges), ("unicode/utf8.first", laid_unicode_utf8_first)] }
def PrimsAppliesSaid : Prop := primsAppliesRow.holds Tryz.pinned (OpenSpec.ofChange primsAppliesSpec)

/-- ITS FALSE NEIGHBOUR: 'it returns false'. Refute it at one input. -/
def primsAppliesWrong : ChangeSpec := { name := "primsApplies", fn := fun _ => fun
  | [d1, d2] => { results := [.lit (.bool false)], args := [d1, d2] }
  | _ => none }
def PrimsAppliesWrongFalsely : Prop := primsAppliesRow.holds Tryz.pinned (OpenSpec.ofChange primsAppliesWrong)

/-- 'mummerlaw23.PrimsTotal': WHATEVER THE INPUT: true; the input reads as it did. -/
def primsTotalSpec : ChangeSpec := { name := "primsTotal", fn := fun _ => fun
  | [d1, d2] => { results := [.lit (.bool true)], args := [d1, d2] }
  | _ => none }
def primsTotalRow : OpenClaim := { program := "ytfonnebpnobomaagreatdoor", sum := "c15910dad58f749f4d538c9ba4b48114c3f464de2a266567ff04eb79a4c72be0", func := "mummer/mummerlaw23.PrimsTotal", spec := "primsTotal", inPlace := ["internal/bytealg.IndexByteString", "internal/bytealg.IndexString"], unfollowed := true, recurses := true, named := ["unicode/utf8.first", "unicode/utf8.acceptRanges", "internal/bytealg.MaxLen"], apart := false, laid := [("unicode/utf8.acceptRanges", laid_unicode_utf8_acceptRanges), ("unicode/utf8.first", laid_unicode_utf8_first)] }
def PrimsTotalSaid : Prop := primsTotalRow.holds Tryz.pinned (OpenSpec.ofChange primsTotalSpec)

/-- ITS FALSE NEIGHBOUR: 'it returns false'. Refute it at one input. -/
def primsTotalWrong : ChangeSpec := { name := "primsTotal", fn := fun _ => fun
  | [d1, d2] => { results := [.lit (.bool false)], args := [d1, d2] }
  | _ => none }
def PrimsTotalWrongFalsely : Prop := primsTotalRow.holds Tryz.pinned (OpenSpec.ofChange primsTotalWrong)

/-- 'mummerlaw23.PrimsNames': WHATEVER THE INPUT: true; the input reads as it did. -/
def primsNamesSpec : ChangeSpec := { name := "primsNames", fn := fun _ => fun
  | [d1, d2] => { results := [.lit (.bool true)], args := [d1, d2] }
  | _ => none }
def primsNamesRow : OpenClaim := { program := "ytfonnebpnobomaagreatdoor", sum := "c15910dad58f749f4d538c9ba4b48114c3f464de2a266567ff04eb79a4c72be0", func := "mummer/mummerlaw23.PrimsNames", spec := "primsNames", inPlace := ["internal/bytealg.IndexByteString", "internal/bytealg.IndexString"], unfollowed := true, recurses := true, named := ["unicode/utf8.first", "unicode/utf8.acceptRanges", "mummer/mummerref23.names", "internal/bytealg.MaxLen"], apart := false, laid := [("mummer/mummerref23.names", laid_mummer_mummerref23_names), ("unicode/utf8.acceptRanges", laid_unicode_utf8_acceptRanges), ("unicode/utf8.first", laid_unicode_utf8_first)] }
def PrimsNamesSaid : Prop := primsNamesRow.holds Tryz.pinned (OpenSpec.ofChange primsNamesSpec)

/-- ITS FALSE NEIGHBOUR: 'it returns false'. Refute it at one input. -/
def primsNamesWrong : ChangeSpec := { name := "primsNames", fn := fun _ => fun
  | [d1, d2] => { results := [.lit (.bool false)], args := [d1, d2] }
  | _ => none }
def PrimsNamesWrongFalsely : Prop := primsNamesRow.holds Tryz.pinned (OpenSpec.ofChange primsNamesWrong)

/-- 'mummerlaw23.PrimsLists': WHATEVER THE INPUT: true; the input reads as it did. -/
def primsListsSpec : ChangeSpec := { name := "primsLists", fn := fun _ => fun
  | [d1, d2] => { results := [.lit (.bool true)], args := [d1, d2] }
  | _ => none }
def primsListsRow : OpenClaim := { program := "ytfonnebpnobomaagreatdoor", sum := "c15910dad58f749f4d538c9ba4b48114c3f464de2a266567ff04eb79a4c72be0", func := "mummer/mummerlaw23.PrimsLists", spec := "primsLists", inPlace := ["internal/bytealg.IndexByteString", "internal/bytealg.IndexString"], unfollowed := true, recurses := true, named := ["unicode/utf8.first", "unicode/utf8.acceptRanges", "internal/bytealg.MaxLen"], apart := false, laid := [("unicode/utf8.acceptRanges", laid_unicode_utf8_acceptRanges), ("unicode/utf8.first", laid_unicode_utf8_first)] }
def PrimsListsSaid : Prop := primsListsRow.holds Tryz.pinned (OpenSpec.ofChange primsListsSpec)

/-- ITS FALSE NEIGHBOUR: 'it returns false'. Refute it at one input. -/
def primsListsWrong : ChangeSpec := { name := "primsLists", fn := fun _ => fun
  | [d1, d2] => { results := [.lit (.bool false)], args := [d1, d2] }
  | _ => none }
def PrimsListsWrongFalsely : Prop := primsListsRow.holds Tryz.pinned (OpenSpec.ofChange primsListsWrong)

/-- 'mummerlaw23.PrimsKnown': WHATEVER THE INPUT: true; the input reads as it did. -/
def primsKnownSpec : ChangeSpec := { name := "primsKnown", fn := fun _ => fun
  | [] => { results := [.lit (.bool true)], args := [] }
  | _ => none }
def primsKnownRow : OpenClaim := { program := "ytfonnebpnobomaagreatdoor", sum := "c15910dad58f749f4d538c9ba4b48114c3f464de2a266567ff04eb79a4c72be0", func := "mummer/mummerlaw23.PrimsKnown", spec := "primsKnown", inPlace := ["internal/bytealg.IndexByteString", "internal/bytealg.IndexString"], unfollowed := true, recurses := true, named := ["unicode/utf8.first", "unicode/utf8.acceptRanges", "internal/bytealg.MaxLen"], apart := false, laid := [("unicode/utf8.acceptRanges", laid_unicode_utf8_acceptRanges), ("unicode/utf8.first", laid_unicode_utf8_first)] }
def PrimsKnownSaid : Prop := primsKnownRow.holds Tryz.pinned (OpenSpec.ofChange primsKnownSpec)

/-- ITS FALSE NEIGHBOUR: 'it returns false'. Refute it at one input. -/
def primsKnownWrong : ChangeSpec := { name := "primsKnown", fn := fun _ => fun
  | [] => { results := [.lit (.bool false)], args := [] }
  | _ => none }
def PrimsKnownWrongFalsely : Prop := primsKnownRow.holds Tryz.pinned (OpenSpec.ofChange primsKnownWrong)

/- THE SECOND FORM. 'bulk': how many values and letters a reading holds, each counted each time it is reached (what is shared counts as often as it is met; a slice's spare places count too). A statement '..UptoSaid' is the law's where the arguments, and the package variables that the reading takes, are together of bulk at most 1048576: NARROWER than '..Said'. Prove '..Said' where nothing that the law and all that it calls make is longer than what came in: it says more and counts as full. Else prove '..UptoSaid'. A law counts once. -/
mutual
def uptoBulk {H : Type} : DataW H → Nat
  | .lit (.string bytes) => bytes.length + 1
  | .lit _ => 1
  | .nil => 1
  | .ptr d => uptoBulk d + 1
  | .slice elems spare => uptoBulkAll elems + uptoBulkAll spare + 1
  | .agg parts => uptoBulkAll parts + 1
  | .iface _ d => uptoBulk d + 1
  | .map entries => uptoBulkEntries entries + 1
  | .held _ => 1
def uptoBulkAll {H : Type} : List (DataW H) → Nat
  | [] => 0
  | d :: r => uptoBulk d + uptoBulkAll r
def uptoBulkEntries {H : Type} : List (Lit × DataW H) → Nat
  | [] => 0
  | x :: r => uptoBulkEntry x + uptoBulkEntries r
def uptoBulkEntry {H : Type} : Lit × DataW H → Nat
  | (.string bytes, d) => bytes.length + uptoBulk d + 1
  | (_, d) => uptoBulk d + 1
 end
def uptoSmall : (H : Type) → List (DataW H) → Bool := fun _ ds => decide (uptoBulkAll ds ≤ 1048576)
def OpenSpec.upto (s : _root_.Go.ChangeSpec) : _root_.Go.OpenSpec := { _root_.Go.OpenSpec.ofChange s with cond := some uptoSmall }

/-- 'mummerlaw23.PrimsApplies', WHERE WHAT IT READS IS OF BULK AT MOST 1048576: true; the input reads as it did. -/
def primsAppliesUptoRow : OpenClaim := { program := "ytfonnebpnobomaagreatdoor", sum := "c15910dad58f749f4d538c9ba4b48114c3f464de2a266567ff04eb79a4c72be0", func := "mummer/mummerlaw23.PrimsApplies", spec := "primsApplies", inPlace := ["internal/bytealg.IndexByteString", "internal/bytealg.IndexString"], unfollowed := true, recurses := true, named := ["unicode/utf8.first", "unicode/utf8.acceptRanges", "mummer/mummerref23.names", "internal/bytealg.MaxLen"], apart := false, laid := [("mummer/mummerref23.names", laid_mummer_mummerref23_names), ("unicode/utf8.acceptRanges", laid_unicode_utf8_acceptRanges), ("unicode/utf8.first", laid_unicode_utf8_first)], narrowed := true }
def PrimsAppliesUptoSaid : Prop := primsAppliesUptoRow.holds Tryz.pinned (OpenSpec.upto primsAppliesSpec)

/-- 'mummerlaw23.PrimsTotal', WHERE WHAT IT READS IS OF BULK AT MOST 1048576: true; the input reads as it did. -/
def primsTotalUptoRow : OpenClaim := { program := "ytfonnebpnobomaagreatdoor", sum := "c15910dad58f749f4d538c9ba4b48114c3f464de2a266567ff04eb79a4c72be0", func := "mummer/mummerlaw23.PrimsTotal", spec := "primsTotal", inPlace := ["internal/bytealg.IndexByteString", "internal/bytealg.IndexString"], unfollowed := true, recurses := true, named := ["unicode/utf8.first", "unicode/utf8.acceptRanges", "internal/bytealg.MaxLen"], apart := false, laid := [("unicode/utf8.acceptRanges", laid_unicode_utf8_acceptRanges), ("unicode/utf8.first", laid_unicode_utf8_first)], narrowed := true }
def PrimsTotalUptoSaid : Prop := primsTotalUptoRow.holds Tryz.pinned (OpenSpec.upto primsTotalSpec)

/-- 'mummerlaw23.PrimsNames', WHERE WHAT IT READS IS OF BULK AT MOST 1048576: true; the input reads as it did. -/
def primsNamesUptoRow : OpenClaim := { program := "ytfonnebpnobomaagreatdoor", sum := "c15910dad58f749f4d538c9ba4b48114c3f464de2a266567ff04eb79a4c72be0", func := "mummer/mummerlaw23.PrimsNames", spec := "primsNames", inPlace := ["internal/bytealg.IndexByteString", "internal/bytealg.IndexString"], unfollowed := true, recurses := true, named := ["unicode/utf8.first", "unicode/utf8.acceptRanges", "mummer/mummerref23.names", "internal/bytealg.MaxLen"], apart := false, laid := [("mummer/mummerref23.names", laid_mummer_mummerref23_names), ("unicode/utf8.acceptRanges", laid_unicode_utf8_acceptRanges), ("unicode/utf8.first", laid_unicode_utf8_first)], narrowed := true }
def PrimsNamesUptoSaid : Prop := primsNamesUptoRow.holds Tryz.pinned (OpenSpec.upto primsNamesSpec)

/-- 'mummerlaw23.PrimsLists', WHERE WHAT IT READS IS OF BULK AT MOST 1048576: true; the input reads as it did. -/
def primsListsUptoRow : OpenClaim := { program := "ytfonnebpnobomaagreatdoor", sum := "c15910dad58f749f4d538c9ba4b48114c3f464de2a266567ff04eb79a4c72be0", func := "mummer/mummerlaw23.PrimsLists", spec := "primsLists", inPlace := ["internal/bytealg.IndexByteString", "internal/bytealg.IndexString"], unfollowed := true, recurses := true, named := ["unicode/utf8.first", "unicode/utf8.acceptRanges", "internal/bytealg.MaxLen"], apart := false, laid := [("unicode/utf8.acceptRanges", laid_unicode_utf8_acceptRanges), ("unicode/utf8.first", laid_unicode_utf8_first)], narrowed := true }
def PrimsListsUptoSaid : Prop := primsListsUptoRow.holds Tryz.pinned (OpenSpec.upto primsListsSpec)

/-- 'mummerlaw23.PrimsKnown', WHERE WHAT IT READS IS OF BULK AT MOST 1048576: true; the input reads as it did. -/
def primsKnownUptoRow : OpenClaim := { program := "ytfonnebpnobomaagreatdoor", sum := "c15910dad58f749f4d538c9ba4b48114c3f464de2a266567ff04eb79a4c72be0", func := "mummer/mummerlaw23.PrimsKnown", spec := "primsKnown", inPlace := ["internal/bytealg.IndexByteString", "internal/bytealg.IndexString"], unfollowed := true, recurses := true, named := ["unicode/utf8.first", "unicode/utf8.acceptRanges", "internal/bytealg.MaxLen"], apart := false, laid := [("unicode/utf8.acceptRanges", laid_unicode_utf8_acceptRanges), ("unicode/utf8.first", laid_unicode_utf8_first)], narrowed := true }
def PrimsKnownUptoSaid : Prop := primsKnownUptoRow.holds Tryz.pinned (OpenSpec.upto primsKnownSpec)

end Rows
end Go.Proofs.YtfonnebpnobomaaGreatDoor
