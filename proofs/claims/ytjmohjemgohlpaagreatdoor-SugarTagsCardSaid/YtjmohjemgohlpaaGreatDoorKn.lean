/- Calls of the law SugarTags that are known ahead: what it ends with, and the tags of each kind, by the program and by the reference. By an AI agent. No person has read it. -/
import Derived.Test.YtjmohjemgohlpaaGreatDoorCode
import Derived.Test.YtjmohjemgohlpaaGreatDoorAm5
namespace Go.Proofs.YtjmohjemgohlpaaGreatDoor.run
open Go Am
set_option maxRecDepth 100000
set_option maxHeartbeats 0
noncomputable def pb : FuncId → Array Value → Hp → Option (Value × Hp) := primIB 118
theorem globals : Tryz.prog.globals.size = 4 := by kernel_rfl
theorem mixed : Tryz.prog.follows .mixedOrders = true := by kernel_rfl
theorem ib1 : (Tryz.f118.name == "runtime.NumGoroutine") = false := by kernel_rfl
theorem ib2 : Tryz.f118.body.isNone = true := by kernel_rfl
theorem ib3 : (Extern.findNext Tryz.f118).isNone = true := by kernel_rfl
theorem ib4 : Extern.find Tryz.f118 = some Extern.BytealgIndexByte.indexByte := by kernel_rfl
theorem pb_ok {base : Nat} {f : FuncId} {args args' : Array Value} {H H' : Hp} {v : Value} (h : pb f args H = some (v, H')) {ρ : Ren} {w : World} (hH : HRel Tryz.prog base ρ H w) (ha : VsRel ρ args.toList args'.toList) : EnterOK Tryz.prog base ρ H w v H' (callFunc f args') :=
  primIB_ok Tryz.func118 ib1 ib2 ib3 ib4 h hH ha
theorem pb_low {f : FuncId} {args : Array Value} {H H' : Hp} {v : Value} (h : pb f args H = some (v, H')) : H' = H := primIB_low h
def makers : List Int := [0, 12, 12, 13, 13, 13, 13, 14, 15, 15, 15, 18, 18, 18, 19, 19, 19, 19, 19, 20, 21, 22, 22, 22, 22, 23, 14, 14, 18, 18, 19, 19, 23, 23]
def makersT : List Value := makers.map fun z => .int .i64 z
theorem makers_flat : makersT.all flat0 = true := by kernel_rfl
def H0 : Hp := tabHp 4 0 makersT
theorem runs {f : FuncId} {fn : Func} (hf : Tryz.prog.funcs[f]? = some fn) (hn : (fn.name == "runtime.NumGoroutine") = false) (hb : fn.body.isSome = true) (args : Array Value) (w : World) : (callFunc f args).run Tryz.prog w = .ok (.enter f args) w := by
  have hn' : ¬ fn.name = "runtime.NumGoroutine" := by simpa using hn
  obtain ⟨b, hb⟩ := Option.isSome_iff_exists.1 hb
  simp [callFunc, hf, hn', hb]
noncomputable def E1 : Env := ⟨code.code, pb⟩
theorem envOK1 (base : Nat) : EnvOK Tryz.prog base E1 := by
  constructor
  · exact mixed
  · exact code.code_ok
  · intro f args H v H' _ h ρ w args' hH _ ha
    exact pb_ok h hH ha
  · intro f args H v H1 h
    rw [pb_low h]; exact LowOK.refl H
theorem startT {w : World} (hw : TabAt 0 makersT w) : Am.Start Tryz.prog H0 w := by
  have := start_tab (P := Tryz.prog) (gm := 0) (T := makersT) (by decide) makers_flat hw
  rw [globals] at this
  exact this
theorem runs4 (args : Array Value) (w : World) : (callFunc 4 args).run Tryz.prog w = .ok (.enter 4 args) w := runs Tryz.func4 (by kernel_rfl) (by kernel_rfl) args w
theorem runs5 (args : Array Value) (w : World) : (callFunc 5 args).run Tryz.prog w = .ok (.enter 5 args) w := runs Tryz.func5 (by kernel_rfl) (by kernel_rfl) args w
theorem runs9 (args : Array Value) (w : World) : (callFunc 9 args).run Tryz.prog w = .ok (.enter 9 args) w := runs Tryz.func9 (by kernel_rfl) (by kernel_rfl) args w
def c0 : EntF := ⟨9, [], .bool true⟩
theorem cran : entFRan (foracle E1 3000) 4 c0 = true := by kernel_rfl
theorem cok : entFOK Tryz.prog c0 := by
  obtain ⟨H', h⟩ := entFRan_ok (foracle_sound E1 3000) cran
  exact entF_of_call envOK1 (n := 3000) (by rw [globals]; exact h) (by kernel_rfl) rfl rfl runs9
theorem cs_ok : ∀ e ∈ [c0], entFOK Tryz.prog e := List.forall_mem_cons.2 ⟨cok, fun _ h => by cases h⟩
def h0 : EntH := ⟨4, [.int .i64 12], [(.int .i64 1), (.int .i64 2)], (some 2), 2, 2, (.int .i64 0)⟩
theorem hran0 : entHRan (foracle E1 3000) H0 h0 = true := by kernel_rfl
theorem hok0 (w : World) (hw : TabAt 0 makersT w) : entHAt Tryz.prog w h0 := by
  obtain ⟨b, H', h, hb⟩ := entHRan_ok (foracle_sound E1 3000) hran0
  exact entH_at envOK1 (n := 3000) (startT hw).hrel (gRel0 _) h hb (by kernel_rfl) rfl (by kernel_rfl) rfl (by decide) runs4
def h1 : EntH := ⟨4, [.int .i64 13], [(.int .i64 3), (.int .i64 4), (.int .i64 5), (.int .i64 6)], (some 2), 4, 4, (.int .i64 0)⟩
theorem hran1 : entHRan (foracle E1 3000) H0 h1 = true := by kernel_rfl
theorem hok1 (w : World) (hw : TabAt 0 makersT w) : entHAt Tryz.prog w h1 := by
  obtain ⟨b, H', h, hb⟩ := entHRan_ok (foracle_sound E1 3000) hran1
  exact entH_at envOK1 (n := 3000) (startT hw).hrel (gRel0 _) h hb (by kernel_rfl) rfl (by kernel_rfl) rfl (by decide) runs4
def h2 : EntH := ⟨4, [.int .i64 14], [(.int .i64 7), (.int .i64 26), (.int .i64 27)], (some 2), 3, 3, (.int .i64 0)⟩
theorem hran2 : entHRan (foracle E1 3000) H0 h2 = true := by kernel_rfl
theorem hok2 (w : World) (hw : TabAt 0 makersT w) : entHAt Tryz.prog w h2 := by
  obtain ⟨b, H', h, hb⟩ := entHRan_ok (foracle_sound E1 3000) hran2
  exact entH_at envOK1 (n := 3000) (startT hw).hrel (gRel0 _) h hb (by kernel_rfl) rfl (by kernel_rfl) rfl (by decide) runs4
def h3 : EntH := ⟨4, [.int .i64 15], [(.int .i64 8), (.int .i64 9), (.int .i64 10)], (some 2), 3, 3, (.int .i64 0)⟩
theorem hran3 : entHRan (foracle E1 3000) H0 h3 = true := by kernel_rfl
theorem hok3 (w : World) (hw : TabAt 0 makersT w) : entHAt Tryz.prog w h3 := by
  obtain ⟨b, H', h, hb⟩ := entHRan_ok (foracle_sound E1 3000) hran3
  exact entH_at envOK1 (n := 3000) (startT hw).hrel (gRel0 _) h hb (by kernel_rfl) rfl (by kernel_rfl) rfl (by decide) runs4
def h4 : EntH := ⟨4, [.int .i64 18], [(.int .i64 11), (.int .i64 12), (.int .i64 13), (.int .i64 28), (.int .i64 29)], (some 2), 5, 5, (.int .i64 0)⟩
theorem hran4 : entHRan (foracle E1 3000) H0 h4 = true := by kernel_rfl
theorem hok4 (w : World) (hw : TabAt 0 makersT w) : entHAt Tryz.prog w h4 := by
  obtain ⟨b, H', h, hb⟩ := entHRan_ok (foracle_sound E1 3000) hran4
  exact entH_at envOK1 (n := 3000) (startT hw).hrel (gRel0 _) h hb (by kernel_rfl) rfl (by kernel_rfl) rfl (by decide) runs4
def h5 : EntH := ⟨4, [.int .i64 19], [(.int .i64 14), (.int .i64 15), (.int .i64 16), (.int .i64 17), (.int .i64 18), (.int .i64 30), (.int .i64 31)], (some 2), 7, 7, (.int .i64 0)⟩
theorem hran5 : entHRan (foracle E1 3000) H0 h5 = true := by kernel_rfl
theorem hok5 (w : World) (hw : TabAt 0 makersT w) : entHAt Tryz.prog w h5 := by
  obtain ⟨b, H', h, hb⟩ := entHRan_ok (foracle_sound E1 3000) hran5
  exact entH_at envOK1 (n := 3000) (startT hw).hrel (gRel0 _) h hb (by kernel_rfl) rfl (by kernel_rfl) rfl (by decide) runs4
def h6 : EntH := ⟨4, [.int .i64 20], [(.int .i64 19)], (some 2), 1, 1, (.int .i64 0)⟩
theorem hran6 : entHRan (foracle E1 3000) H0 h6 = true := by kernel_rfl
theorem hok6 (w : World) (hw : TabAt 0 makersT w) : entHAt Tryz.prog w h6 := by
  obtain ⟨b, H', h, hb⟩ := entHRan_ok (foracle_sound E1 3000) hran6
  exact entH_at envOK1 (n := 3000) (startT hw).hrel (gRel0 _) h hb (by kernel_rfl) rfl (by kernel_rfl) rfl (by decide) runs4
def h7 : EntH := ⟨4, [.int .i64 21], [(.int .i64 20)], (some 2), 1, 1, (.int .i64 0)⟩
theorem hran7 : entHRan (foracle E1 3000) H0 h7 = true := by kernel_rfl
theorem hok7 (w : World) (hw : TabAt 0 makersT w) : entHAt Tryz.prog w h7 := by
  obtain ⟨b, H', h, hb⟩ := entHRan_ok (foracle_sound E1 3000) hran7
  exact entH_at envOK1 (n := 3000) (startT hw).hrel (gRel0 _) h hb (by kernel_rfl) rfl (by kernel_rfl) rfl (by decide) runs4
def h8 : EntH := ⟨4, [.int .i64 22], [(.int .i64 21), (.int .i64 22), (.int .i64 23), (.int .i64 24)], (some 2), 4, 4, (.int .i64 0)⟩
theorem hran8 : entHRan (foracle E1 3000) H0 h8 = true := by kernel_rfl
theorem hok8 (w : World) (hw : TabAt 0 makersT w) : entHAt Tryz.prog w h8 := by
  obtain ⟨b, H', h, hb⟩ := entHRan_ok (foracle_sound E1 3000) hran8
  exact entH_at envOK1 (n := 3000) (startT hw).hrel (gRel0 _) h hb (by kernel_rfl) rfl (by kernel_rfl) rfl (by decide) runs4
def h9 : EntH := ⟨4, [.int .i64 23], [(.int .i64 25), (.int .i64 32), (.int .i64 33)], (some 2), 3, 3, (.int .i64 0)⟩
theorem hran9 : entHRan (foracle E1 3000) H0 h9 = true := by kernel_rfl
theorem hok9 (w : World) (hw : TabAt 0 makersT w) : entHAt Tryz.prog w h9 := by
  obtain ⟨b, H', h, hb⟩ := entHRan_ok (foracle_sound E1 3000) hran9
  exact entH_at envOK1 (n := 3000) (startT hw).hrel (gRel0 _) h hb (by kernel_rfl) rfl (by kernel_rfl) rfl (by decide) runs4
def h10 : EntH := ⟨5, [.int .i64 12], [(.int .i64 1), (.int .i64 2)], (some 2), 2, 2, (.int .i64 0)⟩
theorem hran10 : entHRan (foracle E1 3000) H0 h10 = true := by kernel_rfl
theorem hok10 (w : World) (hw : TabAt 0 makersT w) : entHAt Tryz.prog w h10 := by
  obtain ⟨b, H', h, hb⟩ := entHRan_ok (foracle_sound E1 3000) hran10
  exact entH_at envOK1 (n := 3000) (startT hw).hrel (gRel0 _) h hb (by kernel_rfl) rfl (by kernel_rfl) rfl (by decide) runs5
def h11 : EntH := ⟨5, [.int .i64 13], [(.int .i64 3), (.int .i64 4), (.int .i64 5), (.int .i64 6)], (some 2), 4, 4, (.int .i64 0)⟩
theorem hran11 : entHRan (foracle E1 3000) H0 h11 = true := by kernel_rfl
theorem hok11 (w : World) (hw : TabAt 0 makersT w) : entHAt Tryz.prog w h11 := by
  obtain ⟨b, H', h, hb⟩ := entHRan_ok (foracle_sound E1 3000) hran11
  exact entH_at envOK1 (n := 3000) (startT hw).hrel (gRel0 _) h hb (by kernel_rfl) rfl (by kernel_rfl) rfl (by decide) runs5
def h12 : EntH := ⟨5, [.int .i64 14], [(.int .i64 7), (.int .i64 26), (.int .i64 27)], (some 2), 3, 3, (.int .i64 0)⟩
theorem hran12 : entHRan (foracle E1 3000) H0 h12 = true := by kernel_rfl
theorem hok12 (w : World) (hw : TabAt 0 makersT w) : entHAt Tryz.prog w h12 := by
  obtain ⟨b, H', h, hb⟩ := entHRan_ok (foracle_sound E1 3000) hran12
  exact entH_at envOK1 (n := 3000) (startT hw).hrel (gRel0 _) h hb (by kernel_rfl) rfl (by kernel_rfl) rfl (by decide) runs5
def h13 : EntH := ⟨5, [.int .i64 15], [(.int .i64 8), (.int .i64 9), (.int .i64 10)], (some 2), 3, 3, (.int .i64 0)⟩
theorem hran13 : entHRan (foracle E1 3000) H0 h13 = true := by kernel_rfl
theorem hok13 (w : World) (hw : TabAt 0 makersT w) : entHAt Tryz.prog w h13 := by
  obtain ⟨b, H', h, hb⟩ := entHRan_ok (foracle_sound E1 3000) hran13
  exact entH_at envOK1 (n := 3000) (startT hw).hrel (gRel0 _) h hb (by kernel_rfl) rfl (by kernel_rfl) rfl (by decide) runs5
def h14 : EntH := ⟨5, [.int .i64 18], [(.int .i64 11), (.int .i64 12), (.int .i64 13), (.int .i64 28), (.int .i64 29)], (some 2), 5, 5, (.int .i64 0)⟩
theorem hran14 : entHRan (foracle E1 3000) H0 h14 = true := by kernel_rfl
theorem hok14 (w : World) (hw : TabAt 0 makersT w) : entHAt Tryz.prog w h14 := by
  obtain ⟨b, H', h, hb⟩ := entHRan_ok (foracle_sound E1 3000) hran14
  exact entH_at envOK1 (n := 3000) (startT hw).hrel (gRel0 _) h hb (by kernel_rfl) rfl (by kernel_rfl) rfl (by decide) runs5
def h15 : EntH := ⟨5, [.int .i64 19], [(.int .i64 14), (.int .i64 15), (.int .i64 16), (.int .i64 17), (.int .i64 18), (.int .i64 30), (.int .i64 31)], (some 2), 7, 7, (.int .i64 0)⟩
theorem hran15 : entHRan (foracle E1 3000) H0 h15 = true := by kernel_rfl
theorem hok15 (w : World) (hw : TabAt 0 makersT w) : entHAt Tryz.prog w h15 := by
  obtain ⟨b, H', h, hb⟩ := entHRan_ok (foracle_sound E1 3000) hran15
  exact entH_at envOK1 (n := 3000) (startT hw).hrel (gRel0 _) h hb (by kernel_rfl) rfl (by kernel_rfl) rfl (by decide) runs5
def h16 : EntH := ⟨5, [.int .i64 20], [(.int .i64 19)], (some 2), 1, 1, (.int .i64 0)⟩
theorem hran16 : entHRan (foracle E1 3000) H0 h16 = true := by kernel_rfl
theorem hok16 (w : World) (hw : TabAt 0 makersT w) : entHAt Tryz.prog w h16 := by
  obtain ⟨b, H', h, hb⟩ := entHRan_ok (foracle_sound E1 3000) hran16
  exact entH_at envOK1 (n := 3000) (startT hw).hrel (gRel0 _) h hb (by kernel_rfl) rfl (by kernel_rfl) rfl (by decide) runs5
def h17 : EntH := ⟨5, [.int .i64 21], [(.int .i64 20)], (some 2), 1, 1, (.int .i64 0)⟩
theorem hran17 : entHRan (foracle E1 3000) H0 h17 = true := by kernel_rfl
theorem hok17 (w : World) (hw : TabAt 0 makersT w) : entHAt Tryz.prog w h17 := by
  obtain ⟨b, H', h, hb⟩ := entHRan_ok (foracle_sound E1 3000) hran17
  exact entH_at envOK1 (n := 3000) (startT hw).hrel (gRel0 _) h hb (by kernel_rfl) rfl (by kernel_rfl) rfl (by decide) runs5
def h18 : EntH := ⟨5, [.int .i64 22], [(.int .i64 21), (.int .i64 22), (.int .i64 23), (.int .i64 24)], (some 2), 4, 4, (.int .i64 0)⟩
theorem hran18 : entHRan (foracle E1 3000) H0 h18 = true := by kernel_rfl
theorem hok18 (w : World) (hw : TabAt 0 makersT w) : entHAt Tryz.prog w h18 := by
  obtain ⟨b, H', h, hb⟩ := entHRan_ok (foracle_sound E1 3000) hran18
  exact entH_at envOK1 (n := 3000) (startT hw).hrel (gRel0 _) h hb (by kernel_rfl) rfl (by kernel_rfl) rfl (by decide) runs5
def h19 : EntH := ⟨5, [.int .i64 23], [(.int .i64 25), (.int .i64 32), (.int .i64 33)], (some 2), 3, 3, (.int .i64 0)⟩
theorem hran19 : entHRan (foracle E1 3000) H0 h19 = true := by kernel_rfl
theorem hok19 (w : World) (hw : TabAt 0 makersT w) : entHAt Tryz.prog w h19 := by
  obtain ⟨b, H', h, hb⟩ := entHRan_ok (foracle_sound E1 3000) hran19
  exact entH_at envOK1 (n := 3000) (startT hw).hrel (gRel0 _) h hb (by kernel_rfl) rfl (by kernel_rfl) rfl (by decide) runs5
def g0 : EntF := ⟨4, [.int .i64 1], (.tuple #[(.slice none 0 0), (.int .i64 0)])⟩
theorem gran0 : entFRanT (foracle E1 3000) H0 g0 = true := by kernel_rfl
theorem gok0 (w : World) (hw : TabAt 0 makersT w) : entFAt Tryz.prog w g0 := by
  obtain ⟨H', h⟩ := entFRanT_ok (foracle_sound E1 3000) gran0
  exact entF_at envOK1 (n := 3000) (startT hw).hrel (gRel0 _) h (by kernel_rfl) (by simp [g0, Am.flat, Am.flat0]) rfl runs4
def g1 : EntF := ⟨4, [.int .i64 2], (.tuple #[(.slice none 0 0), (.int .i64 0)])⟩
theorem gran1 : entFRanT (foracle E1 3000) H0 g1 = true := by kernel_rfl
theorem gok1 (w : World) (hw : TabAt 0 makersT w) : entFAt Tryz.prog w g1 := by
  obtain ⟨H', h⟩ := entFRanT_ok (foracle_sound E1 3000) gran1
  exact entF_at envOK1 (n := 3000) (startT hw).hrel (gRel0 _) h (by kernel_rfl) (by simp [g1, Am.flat, Am.flat0]) rfl runs4
def g2 : EntF := ⟨4, [.int .i64 3], (.tuple #[(.slice none 0 0), (.int .i64 0)])⟩
theorem gran2 : entFRanT (foracle E1 3000) H0 g2 = true := by kernel_rfl
theorem gok2 (w : World) (hw : TabAt 0 makersT w) : entFAt Tryz.prog w g2 := by
  obtain ⟨H', h⟩ := entFRanT_ok (foracle_sound E1 3000) gran2
  exact entF_at envOK1 (n := 3000) (startT hw).hrel (gRel0 _) h (by kernel_rfl) (by simp [g2, Am.flat, Am.flat0]) rfl runs4
def g3 : EntF := ⟨4, [.int .i64 4], (.tuple #[(.slice none 0 0), (.int .i64 0)])⟩
theorem gran3 : entFRanT (foracle E1 3000) H0 g3 = true := by kernel_rfl
theorem gok3 (w : World) (hw : TabAt 0 makersT w) : entFAt Tryz.prog w g3 := by
  obtain ⟨H', h⟩ := entFRanT_ok (foracle_sound E1 3000) gran3
  exact entF_at envOK1 (n := 3000) (startT hw).hrel (gRel0 _) h (by kernel_rfl) (by simp [g3, Am.flat, Am.flat0]) rfl runs4
def g4 : EntF := ⟨4, [.int .i64 5], (.tuple #[(.slice none 0 0), (.int .i64 0)])⟩
theorem gran4 : entFRanT (foracle E1 3000) H0 g4 = true := by kernel_rfl
theorem gok4 (w : World) (hw : TabAt 0 makersT w) : entFAt Tryz.prog w g4 := by
  obtain ⟨H', h⟩ := entFRanT_ok (foracle_sound E1 3000) gran4
  exact entF_at envOK1 (n := 3000) (startT hw).hrel (gRel0 _) h (by kernel_rfl) (by simp [g4, Am.flat, Am.flat0]) rfl runs4
def g5 : EntF := ⟨4, [.int .i64 6], (.tuple #[(.slice none 0 0), (.int .i64 0)])⟩
theorem gran5 : entFRanT (foracle E1 3000) H0 g5 = true := by kernel_rfl
theorem gok5 (w : World) (hw : TabAt 0 makersT w) : entFAt Tryz.prog w g5 := by
  obtain ⟨H', h⟩ := entFRanT_ok (foracle_sound E1 3000) gran5
  exact entF_at envOK1 (n := 3000) (startT hw).hrel (gRel0 _) h (by kernel_rfl) (by simp [g5, Am.flat, Am.flat0]) rfl runs4
def g6 : EntF := ⟨4, [.int .i64 7], (.tuple #[(.slice none 0 0), (.int .i64 0)])⟩
theorem gran6 : entFRanT (foracle E1 3000) H0 g6 = true := by kernel_rfl
theorem gok6 (w : World) (hw : TabAt 0 makersT w) : entFAt Tryz.prog w g6 := by
  obtain ⟨H', h⟩ := entFRanT_ok (foracle_sound E1 3000) gran6
  exact entF_at envOK1 (n := 3000) (startT hw).hrel (gRel0 _) h (by kernel_rfl) (by simp [g6, Am.flat, Am.flat0]) rfl runs4
def g7 : EntF := ⟨4, [.int .i64 8], (.tuple #[(.slice none 0 0), (.int .i64 0)])⟩
theorem gran7 : entFRanT (foracle E1 3000) H0 g7 = true := by kernel_rfl
theorem gok7 (w : World) (hw : TabAt 0 makersT w) : entFAt Tryz.prog w g7 := by
  obtain ⟨H', h⟩ := entFRanT_ok (foracle_sound E1 3000) gran7
  exact entF_at envOK1 (n := 3000) (startT hw).hrel (gRel0 _) h (by kernel_rfl) (by simp [g7, Am.flat, Am.flat0]) rfl runs4
def g8 : EntF := ⟨4, [.int .i64 9], (.tuple #[(.slice none 0 0), (.int .i64 0)])⟩
theorem gran8 : entFRanT (foracle E1 3000) H0 g8 = true := by kernel_rfl
theorem gok8 (w : World) (hw : TabAt 0 makersT w) : entFAt Tryz.prog w g8 := by
  obtain ⟨H', h⟩ := entFRanT_ok (foracle_sound E1 3000) gran8
  exact entF_at envOK1 (n := 3000) (startT hw).hrel (gRel0 _) h (by kernel_rfl) (by simp [g8, Am.flat, Am.flat0]) rfl runs4
def g9 : EntF := ⟨4, [.int .i64 10], (.tuple #[(.slice none 0 0), (.int .i64 0)])⟩
theorem gran9 : entFRanT (foracle E1 3000) H0 g9 = true := by kernel_rfl
theorem gok9 (w : World) (hw : TabAt 0 makersT w) : entFAt Tryz.prog w g9 := by
  obtain ⟨H', h⟩ := entFRanT_ok (foracle_sound E1 3000) gran9
  exact entF_at envOK1 (n := 3000) (startT hw).hrel (gRel0 _) h (by kernel_rfl) (by simp [g9, Am.flat, Am.flat0]) rfl runs4
def g10 : EntF := ⟨4, [.int .i64 11], (.tuple #[(.slice none 0 0), (.int .i64 0)])⟩
theorem gran10 : entFRanT (foracle E1 3000) H0 g10 = true := by kernel_rfl
theorem gok10 (w : World) (hw : TabAt 0 makersT w) : entFAt Tryz.prog w g10 := by
  obtain ⟨H', h⟩ := entFRanT_ok (foracle_sound E1 3000) gran10
  exact entF_at envOK1 (n := 3000) (startT hw).hrel (gRel0 _) h (by kernel_rfl) (by simp [g10, Am.flat, Am.flat0]) rfl runs4
def g11 : EntF := ⟨4, [.int .i64 16], (.tuple #[(.slice none 0 0), (.int .i64 0)])⟩
theorem gran11 : entFRanT (foracle E1 3000) H0 g11 = true := by kernel_rfl
theorem gok11 (w : World) (hw : TabAt 0 makersT w) : entFAt Tryz.prog w g11 := by
  obtain ⟨H', h⟩ := entFRanT_ok (foracle_sound E1 3000) gran11
  exact entF_at envOK1 (n := 3000) (startT hw).hrel (gRel0 _) h (by kernel_rfl) (by simp [g11, Am.flat, Am.flat0]) rfl runs4
def g12 : EntF := ⟨4, [.int .i64 17], (.tuple #[(.slice none 0 0), (.int .i64 0)])⟩
theorem gran12 : entFRanT (foracle E1 3000) H0 g12 = true := by kernel_rfl
theorem gok12 (w : World) (hw : TabAt 0 makersT w) : entFAt Tryz.prog w g12 := by
  obtain ⟨H', h⟩ := entFRanT_ok (foracle_sound E1 3000) gran12
  exact entF_at envOK1 (n := 3000) (startT hw).hrel (gRel0 _) h (by kernel_rfl) (by simp [g12, Am.flat, Am.flat0]) rfl runs4
def g13 : EntF := ⟨4, [.int .i64 24], (.tuple #[(.slice none 0 0), (.int .i64 0)])⟩
theorem gran13 : entFRanT (foracle E1 3000) H0 g13 = true := by kernel_rfl
theorem gok13 (w : World) (hw : TabAt 0 makersT w) : entFAt Tryz.prog w g13 := by
  obtain ⟨H', h⟩ := entFRanT_ok (foracle_sound E1 3000) gran13
  exact entF_at envOK1 (n := 3000) (startT hw).hrel (gRel0 _) h (by kernel_rfl) (by simp [g13, Am.flat, Am.flat0]) rfl runs4
def g14 : EntF := ⟨5, [.int .i64 1], (.tuple #[(.slice none 0 0), (.int .i64 0)])⟩
theorem gran14 : entFRanT (foracle E1 3000) H0 g14 = true := by kernel_rfl
theorem gok14 (w : World) (hw : TabAt 0 makersT w) : entFAt Tryz.prog w g14 := by
  obtain ⟨H', h⟩ := entFRanT_ok (foracle_sound E1 3000) gran14
  exact entF_at envOK1 (n := 3000) (startT hw).hrel (gRel0 _) h (by kernel_rfl) (by simp [g14, Am.flat, Am.flat0]) rfl runs5
def g15 : EntF := ⟨5, [.int .i64 2], (.tuple #[(.slice none 0 0), (.int .i64 0)])⟩
theorem gran15 : entFRanT (foracle E1 3000) H0 g15 = true := by kernel_rfl
theorem gok15 (w : World) (hw : TabAt 0 makersT w) : entFAt Tryz.prog w g15 := by
  obtain ⟨H', h⟩ := entFRanT_ok (foracle_sound E1 3000) gran15
  exact entF_at envOK1 (n := 3000) (startT hw).hrel (gRel0 _) h (by kernel_rfl) (by simp [g15, Am.flat, Am.flat0]) rfl runs5
def g16 : EntF := ⟨5, [.int .i64 3], (.tuple #[(.slice none 0 0), (.int .i64 0)])⟩
theorem gran16 : entFRanT (foracle E1 3000) H0 g16 = true := by kernel_rfl
theorem gok16 (w : World) (hw : TabAt 0 makersT w) : entFAt Tryz.prog w g16 := by
  obtain ⟨H', h⟩ := entFRanT_ok (foracle_sound E1 3000) gran16
  exact entF_at envOK1 (n := 3000) (startT hw).hrel (gRel0 _) h (by kernel_rfl) (by simp [g16, Am.flat, Am.flat0]) rfl runs5
def g17 : EntF := ⟨5, [.int .i64 4], (.tuple #[(.slice none 0 0), (.int .i64 0)])⟩
theorem gran17 : entFRanT (foracle E1 3000) H0 g17 = true := by kernel_rfl
theorem gok17 (w : World) (hw : TabAt 0 makersT w) : entFAt Tryz.prog w g17 := by
  obtain ⟨H', h⟩ := entFRanT_ok (foracle_sound E1 3000) gran17
  exact entF_at envOK1 (n := 3000) (startT hw).hrel (gRel0 _) h (by kernel_rfl) (by simp [g17, Am.flat, Am.flat0]) rfl runs5
def g18 : EntF := ⟨5, [.int .i64 5], (.tuple #[(.slice none 0 0), (.int .i64 0)])⟩
theorem gran18 : entFRanT (foracle E1 3000) H0 g18 = true := by kernel_rfl
theorem gok18 (w : World) (hw : TabAt 0 makersT w) : entFAt Tryz.prog w g18 := by
  obtain ⟨H', h⟩ := entFRanT_ok (foracle_sound E1 3000) gran18
  exact entF_at envOK1 (n := 3000) (startT hw).hrel (gRel0 _) h (by kernel_rfl) (by simp [g18, Am.flat, Am.flat0]) rfl runs5
def g19 : EntF := ⟨5, [.int .i64 6], (.tuple #[(.slice none 0 0), (.int .i64 0)])⟩
theorem gran19 : entFRanT (foracle E1 3000) H0 g19 = true := by kernel_rfl
theorem gok19 (w : World) (hw : TabAt 0 makersT w) : entFAt Tryz.prog w g19 := by
  obtain ⟨H', h⟩ := entFRanT_ok (foracle_sound E1 3000) gran19
  exact entF_at envOK1 (n := 3000) (startT hw).hrel (gRel0 _) h (by kernel_rfl) (by simp [g19, Am.flat, Am.flat0]) rfl runs5
def g20 : EntF := ⟨5, [.int .i64 7], (.tuple #[(.slice none 0 0), (.int .i64 0)])⟩
theorem gran20 : entFRanT (foracle E1 3000) H0 g20 = true := by kernel_rfl
theorem gok20 (w : World) (hw : TabAt 0 makersT w) : entFAt Tryz.prog w g20 := by
  obtain ⟨H', h⟩ := entFRanT_ok (foracle_sound E1 3000) gran20
  exact entF_at envOK1 (n := 3000) (startT hw).hrel (gRel0 _) h (by kernel_rfl) (by simp [g20, Am.flat, Am.flat0]) rfl runs5
def g21 : EntF := ⟨5, [.int .i64 8], (.tuple #[(.slice none 0 0), (.int .i64 0)])⟩
theorem gran21 : entFRanT (foracle E1 3000) H0 g21 = true := by kernel_rfl
theorem gok21 (w : World) (hw : TabAt 0 makersT w) : entFAt Tryz.prog w g21 := by
  obtain ⟨H', h⟩ := entFRanT_ok (foracle_sound E1 3000) gran21
  exact entF_at envOK1 (n := 3000) (startT hw).hrel (gRel0 _) h (by kernel_rfl) (by simp [g21, Am.flat, Am.flat0]) rfl runs5
def g22 : EntF := ⟨5, [.int .i64 9], (.tuple #[(.slice none 0 0), (.int .i64 0)])⟩
theorem gran22 : entFRanT (foracle E1 3000) H0 g22 = true := by kernel_rfl
theorem gok22 (w : World) (hw : TabAt 0 makersT w) : entFAt Tryz.prog w g22 := by
  obtain ⟨H', h⟩ := entFRanT_ok (foracle_sound E1 3000) gran22
  exact entF_at envOK1 (n := 3000) (startT hw).hrel (gRel0 _) h (by kernel_rfl) (by simp [g22, Am.flat, Am.flat0]) rfl runs5
def g23 : EntF := ⟨5, [.int .i64 10], (.tuple #[(.slice none 0 0), (.int .i64 0)])⟩
theorem gran23 : entFRanT (foracle E1 3000) H0 g23 = true := by kernel_rfl
theorem gok23 (w : World) (hw : TabAt 0 makersT w) : entFAt Tryz.prog w g23 := by
  obtain ⟨H', h⟩ := entFRanT_ok (foracle_sound E1 3000) gran23
  exact entF_at envOK1 (n := 3000) (startT hw).hrel (gRel0 _) h (by kernel_rfl) (by simp [g23, Am.flat, Am.flat0]) rfl runs5
def g24 : EntF := ⟨5, [.int .i64 11], (.tuple #[(.slice none 0 0), (.int .i64 0)])⟩
theorem gran24 : entFRanT (foracle E1 3000) H0 g24 = true := by kernel_rfl
theorem gok24 (w : World) (hw : TabAt 0 makersT w) : entFAt Tryz.prog w g24 := by
  obtain ⟨H', h⟩ := entFRanT_ok (foracle_sound E1 3000) gran24
  exact entF_at envOK1 (n := 3000) (startT hw).hrel (gRel0 _) h (by kernel_rfl) (by simp [g24, Am.flat, Am.flat0]) rfl runs5
def g25 : EntF := ⟨5, [.int .i64 16], (.tuple #[(.slice none 0 0), (.int .i64 0)])⟩
theorem gran25 : entFRanT (foracle E1 3000) H0 g25 = true := by kernel_rfl
theorem gok25 (w : World) (hw : TabAt 0 makersT w) : entFAt Tryz.prog w g25 := by
  obtain ⟨H', h⟩ := entFRanT_ok (foracle_sound E1 3000) gran25
  exact entF_at envOK1 (n := 3000) (startT hw).hrel (gRel0 _) h (by kernel_rfl) (by simp [g25, Am.flat, Am.flat0]) rfl runs5
def g26 : EntF := ⟨5, [.int .i64 17], (.tuple #[(.slice none 0 0), (.int .i64 0)])⟩
theorem gran26 : entFRanT (foracle E1 3000) H0 g26 = true := by kernel_rfl
theorem gok26 (w : World) (hw : TabAt 0 makersT w) : entFAt Tryz.prog w g26 := by
  obtain ⟨H', h⟩ := entFRanT_ok (foracle_sound E1 3000) gran26
  exact entF_at envOK1 (n := 3000) (startT hw).hrel (gRel0 _) h (by kernel_rfl) (by simp [g26, Am.flat, Am.flat0]) rfl runs5
def g27 : EntF := ⟨5, [.int .i64 24], (.tuple #[(.slice none 0 0), (.int .i64 0)])⟩
theorem gran27 : entFRanT (foracle E1 3000) H0 g27 = true := by kernel_rfl
theorem gok27 (w : World) (hw : TabAt 0 makersT w) : entFAt Tryz.prog w g27 := by
  obtain ⟨H', h⟩ := entFRanT_ok (foracle_sound E1 3000) gran27
  exact entF_at envOK1 (n := 3000) (startT hw).hrel (gRel0 _) h (by kernel_rfl) (by simp [g27, Am.flat, Am.flat0]) rfl runs5
def tabH : List EntH := [h0, h1, h2, h3, h4, h5, h6, h7, h8, h9, h10, h11, h12, h13, h14, h15, h16, h17, h18, h19]
theorem tabH_ok : ∀ e ∈ tabH, ∀ w, TabAt 0 makersT w → entHAt Tryz.prog w e :=
  List.forall_mem_cons.2 ⟨hok0, List.forall_mem_cons.2 ⟨hok1, List.forall_mem_cons.2 ⟨hok2, List.forall_mem_cons.2 ⟨hok3, List.forall_mem_cons.2 ⟨hok4, List.forall_mem_cons.2 ⟨hok5, List.forall_mem_cons.2 ⟨hok6, List.forall_mem_cons.2 ⟨hok7, List.forall_mem_cons.2 ⟨hok8, List.forall_mem_cons.2 ⟨hok9, List.forall_mem_cons.2 ⟨hok10, List.forall_mem_cons.2 ⟨hok11, List.forall_mem_cons.2 ⟨hok12, List.forall_mem_cons.2 ⟨hok13, List.forall_mem_cons.2 ⟨hok14, List.forall_mem_cons.2 ⟨hok15, List.forall_mem_cons.2 ⟨hok16, List.forall_mem_cons.2 ⟨hok17, List.forall_mem_cons.2 ⟨hok18, List.forall_mem_cons.2 ⟨hok19, (fun _ h => by cases h)⟩⟩⟩⟩⟩⟩⟩⟩⟩⟩⟩⟩⟩⟩⟩⟩⟩⟩⟩⟩
def tabF : List EntF := [g0, g1, g2, g3, g4, g5, g6, g7, g8, g9, g10, g11, g12, g13, g14, g15, g16, g17, g18, g19, g20, g21, g22, g23, g24, g25, g26, g27]
theorem tabF_ok : ∀ e ∈ tabF, ∀ w, TabAt 0 makersT w → entFAt Tryz.prog w e :=
  List.forall_mem_cons.2 ⟨gok0, List.forall_mem_cons.2 ⟨gok1, List.forall_mem_cons.2 ⟨gok2, List.forall_mem_cons.2 ⟨gok3, List.forall_mem_cons.2 ⟨gok4, List.forall_mem_cons.2 ⟨gok5, List.forall_mem_cons.2 ⟨gok6, List.forall_mem_cons.2 ⟨gok7, List.forall_mem_cons.2 ⟨gok8, List.forall_mem_cons.2 ⟨gok9, List.forall_mem_cons.2 ⟨gok10, List.forall_mem_cons.2 ⟨gok11, List.forall_mem_cons.2 ⟨gok12, List.forall_mem_cons.2 ⟨gok13, List.forall_mem_cons.2 ⟨gok14, List.forall_mem_cons.2 ⟨gok15, List.forall_mem_cons.2 ⟨gok16, List.forall_mem_cons.2 ⟨gok17, List.forall_mem_cons.2 ⟨gok18, List.forall_mem_cons.2 ⟨gok19, List.forall_mem_cons.2 ⟨gok20, List.forall_mem_cons.2 ⟨gok21, List.forall_mem_cons.2 ⟨gok22, List.forall_mem_cons.2 ⟨gok23, List.forall_mem_cons.2 ⟨gok24, List.forall_mem_cons.2 ⟨gok25, List.forall_mem_cons.2 ⟨gok26, List.forall_mem_cons.2 ⟨gok27, (fun _ h => by cases h)⟩⟩⟩⟩⟩⟩⟩⟩⟩⟩⟩⟩⟩⟩⟩⟩⟩⟩⟩⟩⟩⟩⟩⟩⟩⟩⟩⟩
/-- kinds that are none: what the law ends with is known -/
noncomputable def Es : Env := ⟨cutCode [9] code.code, primX [] [c0] pb⟩
theorem px_ok {base : Nat} {f : FuncId} {args args' : Array Value} {H H' : Hp} {v : Value} (h : primX [] [c0] pb f args H = some (v, H')) {ρ : Ren} {w : World} (hH : HRel Tryz.prog base ρ H w) (ha : VsRel ρ args.toList args'.toList) : EnterOK Tryz.prog base ρ H w v H' (callFunc f args') :=
  primX_ok (fun _ h => by cases h) cs_ok (by intro _ _ _ _ _ _ h _ _ hH ha; exact pb_ok h hH ha) h hH ha
theorem envOKs (base : Nat) : EnvOK Tryz.prog base Es := by
  constructor
  · exact mixed
  · exact fun f cf h => code.code_ok f cf (cutCode_some h)
  · intro f args H v H' _ h ρ w args' hH _ ha
    exact px_ok h hH ha
  · intro f args H v H1 h
    rw [primX_low pb_low h]; exact LowOK.refl H
/-- kinds: their tags are known -/
noncomputable def Et : Env := ⟨cutCode [4, 5, 9] code.code, primT 0 makersT tabF tabH (primX [] [c0] pb)⟩
theorem envOKt (base : Nat) : EnvOK Tryz.prog base Et := by
  constructor
  · exact mixed
  · exact fun f cf h => code.code_ok f cf (cutCode_some h)
  · intro f args H v H' _ h ρ w args' hH hG ha
    exact primT_ok makers_flat (by rw [globals]; decide) tabF_ok tabH_ok (by intro _ _ _ _ _ _ h _ _ hH ha; exact px_ok h hH ha) h hH hG ha
  · intro f args H v H1 h
    exact primT_low (by intro _ _ _ _ _ h; rw [primX_low pb_low h]; exact LowOK.refl _) h
theorem int_cases {p : Int → Bool} (N : Nat) (h0 : p (.negSucc 0) = true) (h1 : ∀ m : Nat, p (.negSucc (m + 1)) = true) (h2 : (List.range N).all (fun n => p (.ofNat n)) = true) (h3 : ∀ m : Nat, p (.ofNat (m + N)) = true) (t : Int) : p t = true := by
  cases t with
  | negSucc m => cases m with
    | zero => exact h0
    | succ m => exact h1 m
  | ofNat n =>
    rcases Nat.lt_or_ge n N with h | h
    · exact List.all_eq_true.1 h2 n (List.mem_range.2 h)
    · obtain ⟨m, rfl⟩ : ∃ m, n = m + N := ⟨n - N, by omega⟩
      exact h3 m
noncomputable def ps (k t : Int) : Bool := fcall Es 3000 3 [.int .i64 k, .int .i64 t] H0
noncomputable def pt (k t : Int) : Bool := fcall Et 3000 3 [.int .i64 k, .int .i64 t] H0
end Go.Proofs.YtjmohjemgohlpaaGreatDoor.run
