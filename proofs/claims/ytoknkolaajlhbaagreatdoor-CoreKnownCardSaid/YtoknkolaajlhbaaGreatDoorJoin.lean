/- strings.Join, as the program has it: by the library's contract it is the abstract machine's. By an AI agent. No person has read it. -/
import Derived.Test.YtoknkolaajlhbaaGreatDoorChecked
import Derived.Test.YtoknkolaajlhbaaGreatDoorAm5
import Derived.Shelf.Strings.OnBuilder
import Derived.KernelRfl
namespace Go.Proofs.YtoknkolaajlhbaaGreatDoor.join
open Go.Shelf Go.RowKit
set_option maxRecDepth 100000
def ren : Go.Shelf.Ren :=
  { f := fun x => match x with
      | 156 => 21
      | 165 => 39
      | 166 => 40
      | 169 => 41
      | 240 => 62
      | 241 => 63
      | 276 => 81
      | 277 => 82
      | n => n
    t := fun x => match x with
      | 31 => 55
      | 9 => 9
      | 3 => 3
      | 4 => 4
      | 0 => 0
      | 20 => 20
      | 72 => 79
      | 76 => 82
      | 70 => 76
      | 37 => 77
      | 75 => 81
      | 127 => 104
      | 164 => 122
      | 5 => 5
      | 80 => 84
      | n => n
    g := fun x => x }
theorem lays : Lays.n156 Tryz.prog ren :=
  { mixed := (by kernel_rfl), f156 := Tryz.func21.trans (by kernel_rfl),   f165 := Tryz.func39.trans (by kernel_rfl),   f166 := Tryz.func40.trans (by kernel_rfl),   f169 := Tryz.func41.trans (by kernel_rfl),   f240 := Tryz.func62.trans (by kernel_rfl),   f241 := Tryz.func63.trans (by kernel_rfl),   f276 := Tryz.func81.trans (by kernel_rfl),   f277 := Tryz.func82.trans (by kernel_rfl), t0 := Tryz.underlying0,   a0 := Tryz.isAgg0, z0 := Tryz.sizeOf0, v0 := Tryz.zeroValue0, t3 := Tryz.underlying3, a3 := Tryz.isAgg3,   z3 := Tryz.sizeOf3, v3 := Tryz.zeroValue3, t4 := Tryz.underlying4, a4 := Tryz.isAgg4, z4 := Tryz.sizeOf4,   v4 := Tryz.zeroValue4, t9 := Tryz.underlying9, a9 := Tryz.isAgg9, z9 := Tryz.sizeOf9, v9 := Tryz.zeroValue9,   t20 := Tryz.underlying20, a20 := Tryz.isAgg20, z20 := Tryz.sizeOf20, v20 := Tryz.zeroValue20,   t31 := Tryz.underlying55, a31 := Tryz.isAgg55, z31 := Tryz.sizeOf55, v31 := Tryz.zeroValue55,   t37 := Tryz.underlying77, a37 := Tryz.isAgg77, z37 := Tryz.sizeOf77, v37 := Tryz.zeroValue77,   t70 := Tryz.underlying76, a70 := Tryz.isAgg76, z70 := Tryz.sizeOf76, v70 := Tryz.zeroValue76,   t72 := Tryz.underlying79, a72 := Tryz.isAgg79, z72 := Tryz.sizeOf79, v72 := Tryz.zeroValue79,   t75 := Tryz.underlying81, a75 := Tryz.isAgg81, z75 := Tryz.sizeOf81, v75 := Tryz.zeroValue81,   t76 := Tryz.underlying82, a76 := Tryz.isAgg82, z76 := Tryz.sizeOf82, v76 := Tryz.zeroValue82,   t127 := Tryz.underlying104, a127 := Tryz.isAgg104, z127 := Tryz.sizeOf104, v127 := Tryz.zeroValue104,   t164 := Tryz.underlying122, a164 := Tryz.isAgg122, z164 := Tryz.sizeOf122, v164 := Tryz.zeroValue122 }
theorem extra : Builder.Extra Tryz.prog ren where
  sizeBuilder := by kernel_rfl
  liesBuilder := by kernel_rfl
  t5 := Tryz.underlying5
  a5 := Tryz.isAgg5
  z5 := Tryz.sizeOf5
  v5 := Tryz.zeroValue5
  infoByte := by kernel_rfl
  cellsByte := by kernel_rfl
  sizeByte := by kernel_rfl
  neB5 := by decide
theorem enters (args : Array Value) (w : World) : (callFunc 21 args).run Tryz.prog w = .ok (.enter 21 args) w := by
  have hn : ¬ Tryz.f21.name = "runtime.NumGoroutine" := by
    have h : (Tryz.f21.name == "runtime.NumGoroutine") = false := by kernel_rfl
    simpa using h
  have hb : Tryz.f21.body.isSome = true := by kernel_rfl
  obtain ⟨b, hb⟩ := Option.isSome_iff_exists.1 hb
  simp [callFunc, Tryz.func21, hn, hb]
theorem ok : Am.JoinOK Tryz.prog 21 :=
  ⟨fun xs bk o c sep w h1 h2 h3 h4 h5 => Any.strings_Join lays extra bk o c xs sep w h1 h2 h3 h4 h5, enters⟩
end Go.Proofs.YtoknkolaajlhbaaGreatDoor.join
