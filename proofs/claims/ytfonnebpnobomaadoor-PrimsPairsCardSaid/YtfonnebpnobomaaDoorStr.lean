/- Four functions of Go's library on strings, by the library's contracts. By an AI agent. No person has read it. -/
import Derived.Test.YtfonnebpnobomaaDoorChecked
import Derived.Test.YtfonnebpnobomaaDoorAm5
import Derived.Test.YtfonnebpnobomaaDoorWb
import Derived.Shelf.Strings.Prefix
import Derived.Shelf.Strings.SlTrimAscii
import Derived.Shelf.Strings.IndexAnyAll
import Derived.KernelRfl
namespace Go.Proofs.YtfonnebpnobomaaDoor.str
open Go.Shelf Go.RowKit
set_option maxRecDepth 100000
def renTP : Go.Shelf.Ren :=
  { f := fun x => match x with
      | 101 => 62
      | 208 => 71
      | 206 => 73
      | n => n
    t := fun x => match x with
      | 9 => 9
      | 4 => 4
      | 3 => 3
      | n => n
    g := fun x => x }
theorem laysTP : Lays.n101 Tryd.prog renTP :=
  { mixed := (by kernel_rfl), f101 := Tryd.func62.trans (by kernel_rfl), f206 := Tryd.func73.trans (by kernel_rfl), f208 := Tryd.func71.trans (by kernel_rfl), t3 := Tryd.underlying3, a3 := Tryd.isAgg3, z3 := Tryd.sizeOf3, v3 := Tryd.zeroValue3, t4 := Tryd.underlying4, a4 := Tryd.isAgg4, z4 := Tryd.sizeOf4, v4 := Tryd.zeroValue4, t9 := Tryd.underlying9, a9 := Tryd.isAgg9, z9 := Tryd.sizeOf9, v9 := Tryd.zeroValue9 }
def renHP : Go.Shelf.Ren :=
  { f := fun x => match x with
      | 99 => 64
      | 206 => 73
      | n => n
    t := fun x => match x with
      | 9 => 9
      | 4 => 4
      | 3 => 3
      | n => n
    g := fun x => x }
theorem laysHP : Lays.n99 Tryd.prog renHP :=
  { mixed := (by kernel_rfl), f99 := Tryd.func64.trans (by kernel_rfl), f206 := Tryd.func73.trans (by kernel_rfl), t3 := Tryd.underlying3, a3 := Tryd.isAgg3, z3 := Tryd.sizeOf3, v3 := Tryd.zeroValue3, t4 := Tryd.underlying4, a4 := Tryd.isAgg4, z4 := Tryd.sizeOf4, v4 := Tryd.zeroValue4, t9 := Tryd.underlying9, a9 := Tryd.isAgg9, z9 := Tryd.sizeOf9, v9 := Tryd.zeroValue9 }
def renTL : Go.Shelf.Ren :=
  { f := fun x => match x with
      | 161 => 61
      | 231 => 67
      | 227 => 68
      | 233 => 69
      | 235 => 70
      | 228 => 79
      | 197 => 80
      | 151 => 81
      | 260 => 88
      | 152 => 82
      | 137 => 89
      | 119 => 87
      | 224 => 90
      | 225 => 91
      | 217 => 94
      | 266 => 96
      | n => n
    t := fun x => match x with
      | 9 => 9
      | 4 => 4
      | 3 => 3
      | 5 => 5
      | 117 => 100
      | 116 => 99
      | 0 => 0
      | 124 => 103
      | 105 => 114
      | 21 => 21
      | 119 => 124
      | 46 => 34
      | 139 => 127
      | 138 => 126
      | n => n
    g := fun x => match x with
      | 3 => 0
      | 4 => 1
      | n => n }
theorem laysTL : Lays.n161 Tryd.prog renTL :=
  { mixed := (by kernel_rfl), f119 := Tryd.func87.trans (by kernel_rfl), f137 := Tryd.func89.trans (by kernel_rfl), f151 := Tryd.func81.trans (by kernel_rfl), f152 := Tryd.func82.trans (by kernel_rfl), f161 := Tryd.func61.trans (by kernel_rfl), f197 := Tryd.func80.trans (by kernel_rfl), f217 := Tryd.func94.trans (by kernel_rfl), f224 := Tryd.func90.trans (by kernel_rfl), f225 := Tryd.func91.trans (by kernel_rfl), f227 := Tryd.func68.trans (by kernel_rfl), f228 := Tryd.func79.trans (by kernel_rfl), f231 := Tryd.func67.trans (by kernel_rfl), f233 := Tryd.func69.trans (by kernel_rfl), f235 := Tryd.func70.trans (by kernel_rfl), f260 := Tryd.func88.trans (by kernel_rfl), f266 := Tryd.func96.trans (by kernel_rfl), t0 := Tryd.underlying0, a0 := Tryd.isAgg0, z0 := Tryd.sizeOf0, v0 := Tryd.zeroValue0, t3 := Tryd.underlying3, a3 := Tryd.isAgg3, z3 := Tryd.sizeOf3, v3 := Tryd.zeroValue3, t4 := Tryd.underlying4, a4 := Tryd.isAgg4, z4 := Tryd.sizeOf4, v4 := Tryd.zeroValue4, t5 := Tryd.underlying5, a5 := Tryd.isAgg5, z5 := Tryd.sizeOf5, v5 := Tryd.zeroValue5, t9 := Tryd.underlying9, a9 := Tryd.isAgg9, z9 := Tryd.sizeOf9, v9 := Tryd.zeroValue9, t21 := Tryd.underlying21, a21 := Tryd.isAgg21, z21 := Tryd.sizeOf21, v21 := Tryd.zeroValue21, t46 := Tryd.underlying34, a46 := Tryd.isAgg34, z46 := Tryd.sizeOf34, v46 := Tryd.zeroValue34, t105 := Tryd.underlying114, a105 := Tryd.isAgg114, z105 := Tryd.sizeOf114, v105 := Tryd.zeroValue114, t116 := Tryd.underlying99, a116 := Tryd.isAgg99, z116 := Tryd.sizeOf99, t117 := Tryd.underlying100, a117 := Tryd.isAgg100, z117 := Tryd.sizeOf100, v117 := Tryd.zeroValue100, t119 := Tryd.underlying124, a119 := Tryd.isAgg124, z119 := Tryd.sizeOf124, t124 := Tryd.underlying103, a124 := Tryd.isAgg103, z124 := Tryd.sizeOf103, v124 := Tryd.zeroValue103, t138 := Tryd.underlying126, a138 := Tryd.isAgg126, z138 := Tryd.sizeOf126, v138 := Tryd.zeroValue126, t139 := Tryd.underlying127, a139 := Tryd.isAgg127, z139 := Tryd.sizeOf127, v139 := Tryd.zeroValue127, g3 := (by kernel_rfl), g4 := (by kernel_rfl) }
def renCA : Go.Shelf.Ren :=
  { f := fun x => match x with
      | 150 => 63
      | 153 => 72
      | 152 => 82
      | 226 => 83
      | 227 => 68
      | 228 => 79
      | 137 => 89
      | 119 => 87
      | 224 => 90
      | 225 => 91
      | 217 => 94
      | 266 => 96
      | n => n
    t := fun x => match x with
      | 9 => 9
      | 4 => 4
      | 3 => 3
      | 5 => 5
      | 21 => 21
      | 117 => 100
      | 116 => 99
      | 0 => 0
      | 46 => 34
      | 124 => 103
      | n => n
    g := fun x => x }
theorem laysCA : Lays.n150 Tryd.prog renCA :=
  { mixed := (by kernel_rfl), f119 := Tryd.func87.trans (by kernel_rfl), f137 := Tryd.func89.trans (by kernel_rfl), f150 := Tryd.func63.trans (by kernel_rfl), f152 := Tryd.func82.trans (by kernel_rfl), f153 := Tryd.func72.trans (by kernel_rfl), f217 := Tryd.func94.trans (by kernel_rfl), f224 := Tryd.func90.trans (by kernel_rfl), f225 := Tryd.func91.trans (by kernel_rfl), f226 := Tryd.func83.trans (by kernel_rfl), f227 := Tryd.func68.trans (by kernel_rfl), f228 := Tryd.func79.trans (by kernel_rfl), f266 := Tryd.func96.trans (by kernel_rfl), t0 := Tryd.underlying0, a0 := Tryd.isAgg0, z0 := Tryd.sizeOf0, v0 := Tryd.zeroValue0, t3 := Tryd.underlying3, a3 := Tryd.isAgg3, z3 := Tryd.sizeOf3, v3 := Tryd.zeroValue3, t4 := Tryd.underlying4, a4 := Tryd.isAgg4, z4 := Tryd.sizeOf4, v4 := Tryd.zeroValue4, t5 := Tryd.underlying5, a5 := Tryd.isAgg5, z5 := Tryd.sizeOf5, v5 := Tryd.zeroValue5, t9 := Tryd.underlying9, a9 := Tryd.isAgg9, z9 := Tryd.sizeOf9, v9 := Tryd.zeroValue9, t21 := Tryd.underlying21, a21 := Tryd.isAgg21, z21 := Tryd.sizeOf21, v21 := Tryd.zeroValue21, t46 := Tryd.underlying34, a46 := Tryd.isAgg34, z46 := Tryd.sizeOf34, v46 := Tryd.zeroValue34, t116 := Tryd.underlying99, a116 := Tryd.isAgg99, z116 := Tryd.sizeOf99, t117 := Tryd.underlying100, a117 := Tryd.isAgg100, z117 := Tryd.sizeOf100, v117 := Tryd.zeroValue100, t124 := Tryd.underlying103, a124 := Tryd.isAgg103, z124 := Tryd.sizeOf103, v124 := Tryd.zeroValue103 }
theorem zTL : (Tryd.prog.info? (renTL.t 116)).map (fun i => (i.zero, i.size)) = some (some (.agg (Array.replicate 256 (.bool false))), 256) := by kernel_rfl
theorem zCA : (Tryd.prog.info? (renCA.t 116)).map (fun i => (i.zero, i.size)) = some (some (.agg (Array.replicate 256 (.bool false))), 256) := by kernel_rfl
theorem enters62 (args : Array Value) (w : World) : (callFunc 62 args).run Tryd.prog w = .ok (.enter 62 args) w := by
  have hn : ¬ Tryd.f62.name = "runtime.NumGoroutine" := by
    have h : (Tryd.f62.name == "runtime.NumGoroutine") = false := by kernel_rfl
    simpa using h
  have hb : Tryd.f62.body.isSome = true := by kernel_rfl
  obtain ⟨b, hb⟩ := Option.isSome_iff_exists.1 hb
  simp [callFunc, Tryd.func62, hn, hb]
theorem enters61 (args : Array Value) (w : World) : (callFunc 61 args).run Tryd.prog w = .ok (.enter 61 args) w := by
  have hn : ¬ Tryd.f61.name = "runtime.NumGoroutine" := by
    have h : (Tryd.f61.name == "runtime.NumGoroutine") = false := by kernel_rfl
    simpa using h
  have hb : Tryd.f61.body.isSome = true := by kernel_rfl
  obtain ⟨b, hb⟩ := Option.isSome_iff_exists.1 hb
  simp [callFunc, Tryd.func61, hn, hb]
theorem enters63 (args : Array Value) (w : World) : (callFunc 63 args).run Tryd.prog w = .ok (.enter 63 args) w := by
  have hn : ¬ Tryd.f63.name = "runtime.NumGoroutine" := by
    have h : (Tryd.f63.name == "runtime.NumGoroutine") = false := by kernel_rfl
    simpa using h
  have hb : Tryd.f63.body.isSome = true := by kernel_rfl
  obtain ⟨b, hb⟩ := Option.isSome_iff_exists.1 hb
  simp [callFunc, Tryd.func63, hn, hb]
theorem enters64 (args : Array Value) (w : World) : (callFunc 64 args).run Tryd.prog w = .ok (.enter 64 args) w := by
  have hn : ¬ Tryd.f64.name = "runtime.NumGoroutine" := by
    have h : (Tryd.f64.name == "runtime.NumGoroutine") = false := by kernel_rfl
    simpa using h
  have hb : Tryd.f64.body.isSome = true := by kernel_rfl
  obtain ⟨b, hb⟩ := Option.isSome_iff_exists.1 hb
  simp [callFunc, Tryd.func64, hn, hb]
theorem ascii : ∀ (j : Nat) b, W.digits.data.toList[j]? = some b → b.toNat < 128 := fun j b h => by
  have h5 : ∀ c ∈ W.digits.data.toList, c.toNat < 128 := by decide
  exact h5 b (List.mem_of_getElem? h)
theorem kTP (s p : ByteArray) : Am.Known Tryd.prog 62 #[.string s, .string p] (.string ⟨(Lib.trimPrefix s.data.toList p.data.toList).toArray⟩) := fun w =>
  (Any.strings_TrimPrefix laysTP s p w).mono fun e w' ⟨h1, h2⟩ => ⟨h1, by rw [h2]; exact Nat.le_refl _, by rw [h2], by rw [h2], by rw [h2], fun g _ => by rw [h2]⟩
theorem kHP (s p : ByteArray) : Am.Known Tryd.prog 64 #[.string s, .string p] (.bool (Lib.hasPrefix s.data.toList p.data.toList)) := fun w =>
  (Any.strings_HasPrefix laysHP s p w).mono fun e w' ⟨h1, h2⟩ => ⟨h1, by rw [h2]; exact Nat.le_refl _, by rw [h2], by rw [h2], by rw [h2], fun g _ => by rw [h2]⟩
theorem kTL (s : ByteArray) : Am.Known Tryd.prog 61 #[.string s, .string W.digits] (.string ⟨(Lib.trimLeftS s.data.toList W.digits.data.toList).toArray⟩) := fun w =>
  (Any.strings_TrimLeft_ascii laysTL (zero_of_info zTL).1 (zero_of_info zTL).2 s W.digits w (by decide) ascii).mono fun e w' ⟨h1, h2⟩ => ⟨h1, h2.size, h2.os, h2.tape, h2.output, fun g hg => h2.block g hg⟩
theorem kCA (s : ByteArray) (hs : s.size ≤ 24) (ha : ∀ b ∈ s.data.toList, b.toNat < 128) : Am.Known Tryd.prog 63 #[.string s, .string W.digits] (.bool (Lib.containsAny s.data.toList W.digits.data.toList)) := fun w =>
  (Any.strings_ContainsAny_laid laysCA zCA s W.digits w (by omega) (by decide) (fun j b h => ha b (List.mem_of_getElem? h)) ascii).mono fun e w' ⟨h1, h2⟩ => ⟨h1, h2.size, h2.os, h2.tape, h2.output, fun g hg => h2.block g hg⟩
end Go.Proofs.YtfonnebpnobomaaDoor.str
