/-
  NARROWER THAN 'FOR EVERY INPUT', by the rows' own cells (each row's printed sentence says how): PrimsNumbers: laid · PrimsPairs: laid · PrimsKinds: laid · PrimsOrder: laid.
  DERIVED. THE GIVEN ROWS OF THIS SEAT. 4 by the template 'for every input the law returns true; each argument reads behind the call as it read before'; 0 by the template 'total and deterministic' (their statements: YtfonnebpnobomaaDoorTotals.lean).
  GIVEN WITH THE SEED: the statements are not yours to turn. If you find one false, say at which input.
  Laid BY PROGRAM, IN A SANDBOX (cutbox-rows.mjs): the forced cells as the released guide's own fill.sh prints them over the translation ffb820c4db0d07ba… (all of the seat's roots in one cut). By AI agents, Wed Nov 11 2026. No macro, syntax, notation, axiom, sorry.
-/
import Derived.Test.YtfonnebpnobomaaDoorChecked
import GoSem.PinnedTables
import GoSem.Claim
import GoSem.ClaimJoined
import GoSem.ClaimMapViews
import Derived.JoinedTies
import Derived.KernelRfl
namespace Go.Proofs.YtfonnebpnobomaaDoor
/- THE CELL 'sum', in the pinned program and in every row, IS THE sha256 OF THE DUMP (.gsa) THAT YtfonnebpnobomaaDoorProg.lean LOADS. Nothing in Lean hashes anything: it is a label: what it is worth is what the hold of that sum in a sandbox is worth. -/
noncomputable def Tryd.pinned : Pinned := { name := "ytfonnebpnobomaadoor", sum := "ffb820c4db0d07bac8c0ce0f050384f79990d458495cb41bb6dd0d0088d1a3c5", checked := Tryd.checked }
namespace Rows
def none {H : Type} : Left H := { results := [], args := [] }

/- WHAT THE LISTED PACKAGE-LEVEL VARIABLES READ AS WHEN THE CALL BEGINS. Each datum BY PROGRAM (the guide's laid-datum.mjs) off the statement by which the dump's own 'gosem.cut.vars' lays the variable. In a bare row this is a premise. The card (YtfonnebpnobomaaDoorCards.lean) ties it to the program's text. -/
def laid_unicode_utf8_acceptRanges {H : Type} : DataW H := .agg [.agg [.lit (.int .u8 128), .lit (.int .u8 191)], .agg [.lit (.int .u8 160), .lit (.int .u8 191)], .agg [.lit (.int .u8 128), .lit (.int .u8 159)], .agg [.lit (.int .u8 144), .lit (.int .u8 191)], .agg [.lit (.int .u8 128), .lit (.int .u8 143)], .agg [.lit (.int .u8 0), .lit (.int .u8 0)], .agg [.lit (.int .u8 0), .lit (.int .u8 0)], .agg [.lit (.int .u8 0), .lit (.int .u8 0)], .agg [.lit (.int .u8 0), .lit (.int .u8 0)], .agg [.lit (.int .u8 0), .lit (.int .u8 0)], .agg [.lit (.int .u8 0), .lit (.int .u8 0)], .agg [.lit (.int .u8 0), .lit (.int .u8 0)], .agg [.lit (.int .u8 0), .lit (.int .u8 0)], .agg [.lit (.int .u8 0), .lit (.int .u8 0)], .agg [.lit (.int .u8 0), .lit (.int .u8 0)], .agg [.lit (.int .u8 0), .lit (.int .u8 0)]]
/-- One of Go's own tables, pinned by name: the form's constant. -/
def laid_unicode_utf8_first : DataW Unit := Go.Pinned.utf8First

/-- 'mummerlaw23.PrimsNumbers': WHATEVER THE INPUT: true; the input reads as it did. -/
def primsNumbersSpec : ChangeSpec := { name := "primsNumbers", fn := fun _ => fun
  | [d1, d2] => { results := [.lit (.bool true)], args := [d1, d2] }
  | _ => none }
def primsNumbersRow : OpenClaim := { program := "ytfonnebpnobomaadoor", sum := "ffb820c4db0d07bac8c0ce0f050384f79990d458495cb41bb6dd0d0088d1a3c5", func := "mummer/mummerlaw23.PrimsNumbers", spec := "primsNumbers", inPlace := ["internal/bytealg.IndexByteString", "internal/bytealg.IndexString"], unfollowed := true, recurses := true, named := ["unicode/utf8.first", "unicode/utf8.acceptRanges", "internal/bytealg.MaxLen"], apart := false, laid := [("unicode/utf8.acceptRanges", laid_unicode_utf8_acceptRanges), ("unicode/utf8.first", laid_unicode_utf8_first)] }
def PrimsNumbersSaid : Prop := primsNumbersRow.holds Tryd.pinned (OpenSpec.ofChange primsNumbersSpec)

/-- ITS FALSE NEIGHBOUR: 'it returns false'. Refute it at one input. -/
def primsNumbersWrong : ChangeSpec := { name := "primsNumbers", fn := fun _ => fun
  | [d1, d2] => { results := [.lit (.bool false)], args := [d1, d2] }
  | _ => none }
def PrimsNumbersWrongFalsely : Prop := primsNumbersRow.holds Tryd.pinned (OpenSpec.ofChange primsNumbersWrong)

/-- 'mummerlaw23.PrimsPairs': WHATEVER THE INPUT: true; the input reads as it did. -/
def primsPairsSpec : ChangeSpec := { name := "primsPairs", fn := fun _ => fun
  | [d1, d2] => { results := [.lit (.bool true)], args := [d1, d2] }
  | _ => none }
def primsPairsRow : OpenClaim := { program := "ytfonnebpnobomaadoor", sum := "ffb820c4db0d07bac8c0ce0f050384f79990d458495cb41bb6dd0d0088d1a3c5", func := "mummer/mummerlaw23.PrimsPairs", spec := "primsPairs", inPlace := ["internal/bytealg.IndexByteString", "internal/bytealg.IndexString"], unfollowed := true, recurses := true, named := ["unicode/utf8.first", "unicode/utf8.acceptRanges", "internal/bytealg.MaxLen"], apart := false, laid := [("unicode/utf8.acceptRanges", laid_unicode_utf8_acceptRanges), ("unicode/utf8.first", laid_unicode_utf8_first)] }
def PrimsPairsSaid : Prop := primsPairsRow.holds Tryd.pinned (OpenSpec.ofChange primsPairsSpec)

/-- ITS FALSE NEIGHBOUR: 'it returns false'. Refute it at one input. -/
def primsPairsWrong : ChangeSpec := { name := "primsPairs", fn := fun _ => fun
  | [d1, d2] => { results := [.lit (.bool false)], args := [d1, d2] }
  | _ => none }
def PrimsPairsWrongFalsely : Prop := primsPairsRow.holds Tryd.pinned (OpenSpec.ofChange primsPairsWrong)

/-- 'mummerlaw23.PrimsKinds': WHATEVER THE INPUT: true; the input reads as it did. -/
def primsKindsSpec : ChangeSpec := { name := "primsKinds", fn := fun _ => fun
  | [d] => { results := [.lit (.bool true)], args := [d] }
  | _ => none }
def primsKindsRow : OpenClaim := { program := "ytfonnebpnobomaadoor", sum := "ffb820c4db0d07bac8c0ce0f050384f79990d458495cb41bb6dd0d0088d1a3c5", func := "mummer/mummerlaw23.PrimsKinds", spec := "primsKinds", inPlace := ["internal/bytealg.IndexByteString", "internal/bytealg.IndexString"], unfollowed := true, recurses := true, named := ["unicode/utf8.first", "unicode/utf8.acceptRanges", "internal/bytealg.MaxLen"], apart := false, laid := [("unicode/utf8.acceptRanges", laid_unicode_utf8_acceptRanges), ("unicode/utf8.first", laid_unicode_utf8_first)] }
def PrimsKindsSaid : Prop := primsKindsRow.holds Tryd.pinned (OpenSpec.ofChange primsKindsSpec)

/-- ITS FALSE NEIGHBOUR: 'it returns false'. Refute it at one input. -/
def primsKindsWrong : ChangeSpec := { name := "primsKinds", fn := fun _ => fun
  | [d] => { results := [.lit (.bool false)], args := [d] }
  | _ => none }
def PrimsKindsWrongFalsely : Prop := primsKindsRow.holds Tryd.pinned (OpenSpec.ofChange primsKindsWrong)

/-- 'mummerlaw23.PrimsOrder': WHATEVER THE INPUT: true; the input reads as it did. -/
def primsOrderSpec : ChangeSpec := { name := "primsOrder", fn := fun _ => fun
  | [d1, d2, d3] => { results := [.lit (.bool true)], args := [d1, d2, d3] }
  | _ => none }
def primsOrderRow : OpenClaim := { program := "ytfonnebpnobomaadoor", sum := "ffb820c4db0d07bac8c0ce0f050384f79990d458495cb41bb6dd0d0088d1a3c5", func := "mummer/mummerlaw23.PrimsOrder", spec := "primsOrder", inPlace := ["internal/bytealg.IndexByteString", "internal/bytealg.IndexString"], unfollowed := true, recurses := true, named := ["unicode/utf8.first", "unicode/utf8.acceptRanges", "internal/bytealg.MaxLen"], apart := false, laid := [("unicode/utf8.acceptRanges", laid_unicode_utf8_acceptRanges), ("unicode/utf8.first", laid_unicode_utf8_first)] }
def PrimsOrderSaid : Prop := primsOrderRow.holds Tryd.pinned (OpenSpec.ofChange primsOrderSpec)

/-- ITS FALSE NEIGHBOUR: 'it returns false'. Refute it at one input. -/
def primsOrderWrong : ChangeSpec := { name := "primsOrder", fn := fun _ => fun
  | [d1, d2, d3] => { results := [.lit (.bool false)], args := [d1, d2, d3] }
  | _ => none }
def PrimsOrderWrongFalsely : Prop := primsOrderRow.holds Tryd.pinned (OpenSpec.ofChange primsOrderWrong)

/- THE SECOND FORM. 'bulk': how many values and letters a reading holds, each counted each time it is reached (what is shared counts as often as it is met; a slice's spare places count too). A statement '..UptoSaid' is the law's where the arguments, and the package variables that the reading takes, are together of bulk at most 1048576: NARROWER than '..Said'. Prove '..Said' where nothing that the law and all that it calls make is longer than what came in: it says more and counts as full. Else prove '..UptoSaid'. A law counts once. -/
mutual
def uptoBulk {H : Type} : DataW H → Nat
  | .lit (.string bytes) => bytes.length + 1
  | .lit _ => 1
  | .nil => 1
  | .ptr d => uptoBulk d + 1
  | .slice elems spare => uptoBulkAll elems + uptoBulkAll spare + 1
  | .agg parts => uptoBulkAll parts + 1
  | .iface _ d => uptoBulk d + 1
  | .map entries => uptoBulkEntries entries + 1
  | .held _ => 1
def uptoBulkAll {H : Type} : List (DataW H) → Nat
  | [] => 0
  | d :: r => uptoBulk d + uptoBulkAll r
def uptoBulkEntries {H : Type} : List (Lit × DataW H) → Nat
  | [] => 0
  | x :: r => uptoBulkEntry x + uptoBulkEntries r
def uptoBulkEntry {H : Type} : Lit × DataW H → Nat
  | (.string bytes, d) => bytes.length + uptoBulk d + 1
  | (_, d) => uptoBulk d + 1
 end
def uptoSmall : (H : Type) → List (DataW H) → Bool := fun _ ds => decide (uptoBulkAll ds ≤ 1048576)
def OpenSpec.upto (s : _root_.Go.ChangeSpec) : _root_.Go.OpenSpec := { _root_.Go.OpenSpec.ofChange s with cond := some uptoSmall }

/-- 'mummerlaw23.PrimsNumbers', WHERE WHAT IT READS IS OF BULK AT MOST 1048576: true; the input reads as it did. -/
def primsNumbersUptoRow : OpenClaim := { program := "ytfonnebpnobomaadoor", sum := "ffb820c4db0d07bac8c0ce0f050384f79990d458495cb41bb6dd0d0088d1a3c5", func := "mummer/mummerlaw23.PrimsNumbers", spec := "primsNumbers", inPlace := ["internal/bytealg.IndexByteString", "internal/bytealg.IndexString"], unfollowed := true, recurses := true, named := ["unicode/utf8.first", "unicode/utf8.acceptRanges", "internal/bytealg.MaxLen"], apart := false, laid := [("unicode/utf8.acceptRanges", laid_unicode_utf8_acceptRanges), ("unicode/utf8.first", laid_unicode_utf8_first)], narrowed := true }
def PrimsNumbersUptoSaid : Prop := primsNumbersUptoRow.holds Tryd.pinned (OpenSpec.upto primsNumbersSpec)

/-- 'mummerlaw23.PrimsPairs', WHERE WHAT IT READS IS OF BULK AT MOST 1048576: true; the input reads as it did. -/
def primsPairsUptoRow : OpenClaim := { program := "ytfonnebpnobomaadoor", sum := "ffb820c4db0d07bac8c0ce0f050384f79990d458495cb41bb6dd0d0088d1a3c5", func := "mummer/mummerlaw23.PrimsPairs", spec := "primsPairs", inPlace := ["internal/bytealg.IndexByteString", "internal/bytealg.IndexString"], unfollowed := true, recurses := true, named := ["unicode/utf8.first", "unicode/utf8.acceptRanges", "internal/bytealg.MaxLen"], apart := false, laid := [("unicode/utf8.acceptRanges", laid_unicode_utf8_acceptRanges), ("unicode/utf8.first", laid_unicode_utf8_first)], narrowed := true }
def PrimsPairsUptoSaid : Prop := primsPairsUptoRow.holds Tryd.pinned (OpenSpec.upto primsPairsSpec)

/-- 'mummerlaw23.PrimsKinds', WHERE WHAT IT READS IS OF BULK AT MOST 1048576: true; the input reads as it did. -/
def primsKindsUptoRow : OpenClaim := { program := "ytfonnebpnobomaadoor", sum := "ffb820c4db0d07bac8c0ce0f050384f79990d458495cb41bb6dd0d0088d1a3c5", func := "mummer/mummerlaw23.PrimsKinds", spec := "primsKinds", inPlace := ["internal/bytealg.IndexByteString", "internal/bytealg.IndexString"], unfollowed := true, recurses := true, named := ["unicode/utf8.first", "unicode/utf8.acceptRanges", "internal/bytealg.MaxLen"], apart := false, laid := [("unicode/utf8.acceptRanges", laid_unicode_utf8_acceptRanges), ("unicode/utf8.first", laid_unicode_utf8_first)], narrowed := true }
def PrimsKindsUptoSaid : Prop := primsKindsUptoRow.holds Tryd.pinned (OpenSpec.upto primsKindsSpec)

/-- 'mummerlaw23.PrimsOrder', WHERE WHAT IT READS IS OF BULK AT MOST 1048576: true; the input reads as it did. -/
def primsOrderUptoRow : OpenClaim := { program := "ytfonnebpnobomaadoor", sum := "ffb820c4db0d07bac8c0ce0f050384f79990d458495cb41bb6dd0d0088d1a3c5", func := "mummer/mummerlaw23.PrimsOrder", spec := "primsOrder", inPlace := ["internal/bytealg.IndexByteString", "internal/bytealg.IndexString"], unfollowed := true, recurses := true, named := ["unicode/utf8.first", "unicode/utf8.acceptRanges", "internal/bytealg.MaxLen"], apart := false, laid := [("unicode/utf8.acceptRanges", laid_unicode_utf8_acceptRanges), ("unicode/utf8.first", laid_unicode_utf8_first)], narrowed := true }
def PrimsOrderUptoSaid : Prop := primsOrderUptoRow.holds Tryd.pinned (OpenSpec.upto primsOrderSpec)

end Rows
end Go.Proofs.YtfonnebpnobomaaDoor
