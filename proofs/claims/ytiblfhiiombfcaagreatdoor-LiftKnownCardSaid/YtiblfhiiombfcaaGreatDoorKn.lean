/- Calls of the run that are known ahead: of functions that read one row of cells, or none, and hand back a value without an address. By an AI agent. No person has read it. -/
import Derived.Test.YtiblfhiiombfcaaGreatDoorCode
import Derived.Test.YtiblfhiiombfcaaGreatDoorAm5
namespace Go.Proofs.YtiblfhiiombfcaaGreatDoor.run
open Go Am
set_option maxRecDepth 100000
set_option maxHeartbeats 0
noncomputable def primB (f : FuncId) (args : Array Value) (H : Hp) : Option (Value × Hp) := cond (Nat.beq f 155) (primNE 155 f args H) (primIB 269 f args H)
theorem globals : Tryz.prog.globals.size = 7 := by kernel_rfl
theorem mixed : Tryz.prog.follows .mixedOrders = true := by kernel_rfl
theorem ib1 : (Tryz.f269.name == "runtime.NumGoroutine") = false := by kernel_rfl
theorem ib2 : Tryz.f269.body.isNone = true := by kernel_rfl
theorem ib3 : (Extern.findNext Tryz.f269).isNone = true := by kernel_rfl
theorem ib4 : Extern.find Tryz.f269 = some Extern.BytealgIndexByte.indexByte := by kernel_rfl
theorem ne1 : (Tryz.f155.name == "runtime.NumGoroutine") = false := by kernel_rfl
theorem ne2 : Tryz.f155.body.isNone = true := by kernel_rfl
theorem ne3 : (Extern.findNext Tryz.f155).isNone = true := by kernel_rfl
theorem ne4 : Extern.find Tryz.f155 = some Extern.AbiNoEscape.same := by kernel_rfl
theorem primB_ok {base : Nat} {f : FuncId} {args args' : Array Value} {H H' : Hp} {v : Value} (h : primB f args H = some (v, H')) {ρ : Ren} {w : World} (hH : HRel Tryz.prog base ρ H w) (ha : VsRel ρ args.toList args'.toList) : EnterOK Tryz.prog base ρ H w v H' (callFunc f args') := by
  unfold primB at h
  cases hb : Nat.beq f 155 with
  | true => rw [hb] at h; exact primNE_ok Tryz.func155 ne1 ne2 ne3 ne4 h hH ha
  | false => rw [hb] at h; exact primIB_ok Tryz.func269 ib1 ib2 ib3 ib4 h hH ha
theorem primB_low {f : FuncId} {args : Array Value} {H H' : Hp} {v : Value} (h : primB f args H = some (v, H')) : H' = H := by
  unfold primB at h
  cases hb : Nat.beq f 155 with
  | true => rw [hb] at h; exact primNE_low h
  | false => rw [hb] at h; exact primIB_low h
theorem runs {f : FuncId} {fn : Func} (hf : Tryz.prog.funcs[f]? = some fn) (hn : (fn.name == "runtime.NumGoroutine") = false) (hb : fn.body.isSome = true) (args : Array Value) (w : World) : (callFunc f args).run Tryz.prog w = .ok (.enter f args) w := by
  have hn' : ¬ fn.name = "runtime.NumGoroutine" := by simpa using hn
  obtain ⟨b, hb⟩ := Option.isSome_iff_exists.1 hb
  simp [callFunc, hf, hn', hb]
noncomputable def E1 : Env := ⟨code.code, primB⟩
theorem envOK1 (base : Nat) : EnvOK Tryz.prog base E1 := by
  constructor
  · exact mixed
  · exact code.code_ok
  · intro f args H v H' _ h ρ w args' hH _ ha
    exact primB_ok h hH ha
  · intro f args H v H1 h
    rw [primB_low h]; exact LowOK.refl H
theorem runs33 (args : Array Value) (w : World) : (callFunc 33 args).run Tryz.prog w = .ok (.enter 33 args) w := runs Tryz.func33 (by kernel_rfl) (by kernel_rfl) args w
theorem runs37 (args : Array Value) (w : World) : (callFunc 37 args).run Tryz.prog w = .ok (.enter 37 args) w := runs Tryz.func37 (by kernel_rfl) (by kernel_rfl) args w
theorem runs38 (args : Array Value) (w : World) : (callFunc 38 args).run Tryz.prog w = .ok (.enter 38 args) w := runs Tryz.func38 (by kernel_rfl) (by kernel_rfl) args w
theorem runs44 (args : Array Value) (w : World) : (callFunc 44 args).run Tryz.prog w = .ok (.enter 44 args) w := runs Tryz.func44 (by kernel_rfl) (by kernel_rfl) args w
theorem runs84 (args : Array Value) (w : World) : (callFunc 84 args).run Tryz.prog w = .ok (.enter 84 args) w := runs Tryz.func84 (by kernel_rfl) (by kernel_rfl) args w
theorem runs94 (args : Array Value) (w : World) : (callFunc 94 args).run Tryz.prog w = .ok (.enter 94 args) w := runs Tryz.func94 (by kernel_rfl) (by kernel_rfl) args w
theorem runs122 (args : Array Value) (w : World) : (callFunc 122 args).run Tryz.prog w = .ok (.enter 122 args) w := runs Tryz.func122 (by kernel_rfl) (by kernel_rfl) args w
def b0 : EntF := ⟨122, [(.string ⟨#[118]⟩)], (.bool true)⟩
theorem bran0 : entFRan (foracle E1 3000) 7 b0 = true := by kernel_rfl
theorem bok0 : entFOK Tryz.prog b0 := by
  obtain ⟨H', h⟩ := entFRan_ok (foracle_sound E1 3000) bran0
  exact entF_of_call envOK1 (n := 3000) (by rw [globals]; exact h) (by kernel_rfl) rfl rfl runs122
def b1 : EntF := ⟨122, [(.string ⟨#[120]⟩)], (.bool true)⟩
theorem bran1 : entFRan (foracle E1 3000) 7 b1 = true := by kernel_rfl
theorem bok1 : entFOK Tryz.prog b1 := by
  obtain ⟨H', h⟩ := entFRan_ok (foracle_sound E1 3000) bran1
  exact entF_of_call envOK1 (n := 3000) (by rw [globals]; exact h) (by kernel_rfl) rfl rfl runs122
def b2 : EntF := ⟨122, [(.string ⟨#[43]⟩)], (.bool true)⟩
theorem bran2 : entFRan (foracle E1 3000) 7 b2 = true := by kernel_rfl
theorem bok2 : entFOK Tryz.prog b2 := by
  obtain ⟨H', h⟩ := entFRan_ok (foracle_sound E1 3000) bran2
  exact entF_of_call envOK1 (n := 3000) (by rw [globals]; exact h) (by kernel_rfl) rfl rfl runs122
def tabF : List EntF := [b0, b1, b2]
theorem tabF_ok : ∀ e ∈ tabF, entFOK Tryz.prog e :=
  List.forall_mem_cons.2 ⟨bok0, List.forall_mem_cons.2 ⟨bok1, List.forall_mem_cons.2 ⟨bok2, (fun _ h => by cases h)⟩⟩⟩
noncomputable def E2 : Env := ⟨cutCode [122] code.code, primX [] tabF primB⟩
theorem envOK2 (base : Nat) : EnvOK Tryz.prog base E2 := by
  constructor
  · exact mixed
  · exact fun f cf h => code.code_ok f cf (cutCode_some h)
  · intro f args H v H' _ h ρ w args' hH _ ha
    exact primX_ok (fun _ h => by cases h) tabF_ok (by intro _ _ _ _ _ _ h _ _ hH ha; exact primB_ok h hH ha) h hH ha
  · intro f args H v H1 h
    rw [primX_low primB_low h]; exact LowOK.refl H
def a0 : Ent := ⟨33, 7, 1, [(.int .i64 1), (.int .i64 0), (.int .i64 3), (.string ⟨#[]⟩), (.int .i64 0), (.int .i64 0), (.int .i64 0)], [], (.tuple #[(.int .i64 0), (.int .i64 0)])⟩
theorem aran0 : entRan (foracle E2 3000) 7 a0 = true := by kernel_rfl
theorem aok0 : entOK Tryz.prog a0 := by
  obtain ⟨H', h⟩ := entRan_ok (foracle_sound E2 3000) aran0
  exact ent_of_call envOK2 (n := 3000) (by rw [globals]; exact h) (by kernel_rfl) (by simp [a0, Am.flat, Am.flat0]) (by kernel_rfl) (by simp [a0, Am.flat, Am.flat0]) (by kernel_rfl) (by decide) (by decide) runs33
def a1 : Ent := ⟨33, 7, 4, [(.int .i64 10), (.int .i64 3), (.int .i64 0), (.string ⟨#[]⟩), (.int .i64 0), (.int .i64 0), (.int .i64 0), (.int .i64 7), (.int .i64 0), (.int .i64 0), (.string ⟨#[43]⟩), (.int .i64 0), (.int .i64 0), (.int .i64 0), (.int .i64 1), (.int .i64 0), (.int .i64 1), (.string ⟨#[]⟩), (.int .i64 0), (.int .i64 0), (.int .i64 0), (.int .i64 1), (.int .i64 0), (.int .i64 2), (.string ⟨#[]⟩), (.int .i64 0), (.int .i64 0), (.int .i64 0)], [], (.tuple #[(.int .i64 0), (.int .i64 0)])⟩
theorem aran1 : entRan (foracle E2 3000) 7 a1 = true := by kernel_rfl
theorem aok1 : entOK Tryz.prog a1 := by
  obtain ⟨H', h⟩ := entRan_ok (foracle_sound E2 3000) aran1
  exact ent_of_call envOK2 (n := 3000) (by rw [globals]; exact h) (by kernel_rfl) (by simp [a1, Am.flat, Am.flat0]) (by kernel_rfl) (by simp [a1, Am.flat, Am.flat0]) (by kernel_rfl) (by decide) (by decide) runs33
def a2 : Ent := ⟨33, 7, 5, [(.int .i64 19), (.int .i64 1), (.int .i64 0), (.string ⟨#[]⟩), (.int .i64 0), (.int .i64 0), (.int .i64 0), (.int .i64 10), (.int .i64 3), (.int .i64 0), (.string ⟨#[]⟩), (.int .i64 0), (.int .i64 0), (.int .i64 0), (.int .i64 7), (.int .i64 0), (.int .i64 0), (.string ⟨#[43]⟩), (.int .i64 0), (.int .i64 0), (.int .i64 0), (.int .i64 1), (.int .i64 0), (.int .i64 1), (.string ⟨#[]⟩), (.int .i64 0), (.int .i64 0), (.int .i64 0), (.int .i64 1), (.int .i64 0), (.int .i64 2), (.string ⟨#[]⟩), (.int .i64 0), (.int .i64 0), (.int .i64 0)], [], (.tuple #[(.int .i64 0), (.int .i64 0)])⟩
theorem aran2 : entRan (foracle E2 3000) 7 a2 = true := by kernel_rfl
theorem aok2 : entOK Tryz.prog a2 := by
  obtain ⟨H', h⟩ := entRan_ok (foracle_sound E2 3000) aran2
  exact ent_of_call envOK2 (n := 3000) (by rw [globals]; exact h) (by kernel_rfl) (by simp [a2, Am.flat, Am.flat0]) (by kernel_rfl) (by simp [a2, Am.flat, Am.flat0]) (by kernel_rfl) (by decide) (by decide) runs33
def a3 : Ent := ⟨33, 7, 6, [(.int .i64 19), (.int .i64 2), (.int .i64 0), (.string ⟨#[]⟩), (.int .i64 0), (.int .i64 0), (.int .i64 0), (.int .i64 2), (.int .i64 0), (.int .i64 0), (.string ⟨#[]⟩), (.int .i64 0), (.int .i64 0), (.int .i64 0), (.int .i64 10), (.int .i64 3), (.int .i64 0), (.string ⟨#[]⟩), (.int .i64 0), (.int .i64 0), (.int .i64 0), (.int .i64 7), (.int .i64 0), (.int .i64 0), (.string ⟨#[43]⟩), (.int .i64 0), (.int .i64 0), (.int .i64 0), (.int .i64 1), (.int .i64 0), (.int .i64 1), (.string ⟨#[]⟩), (.int .i64 0), (.int .i64 0), (.int .i64 0), (.int .i64 1), (.int .i64 0), (.int .i64 2), (.string ⟨#[]⟩), (.int .i64 0), (.int .i64 0), (.int .i64 0)], [], (.tuple #[(.int .i64 0), (.int .i64 0)])⟩
theorem aran3 : entRan (foracle E2 3000) 7 a3 = true := by kernel_rfl
theorem aok3 : entOK Tryz.prog a3 := by
  obtain ⟨H', h⟩ := entRan_ok (foracle_sound E2 3000) aran3
  exact ent_of_call envOK2 (n := 3000) (by rw [globals]; exact h) (by kernel_rfl) (by simp [a3, Am.flat, Am.flat0]) (by kernel_rfl) (by simp [a3, Am.flat, Am.flat0]) (by kernel_rfl) (by decide) (by decide) runs33
def a4 : Ent := ⟨33, 7, 9, [(.int .i64 12), (.int .i64 3), (.int .i64 0), (.string ⟨#[]⟩), (.int .i64 0), (.int .i64 0), (.int .i64 0), (.int .i64 9), (.int .i64 0), (.int .i64 0), (.string ⟨#[118]⟩), (.int .i64 0), (.int .i64 0), (.int .i64 0), (.int .i64 1), (.int .i64 0), (.int .i64 1), (.string ⟨#[]⟩), (.int .i64 0), (.int .i64 0), (.int .i64 0), (.int .i64 19), (.int .i64 2), (.int .i64 0), (.string ⟨#[]⟩), (.int .i64 0), (.int .i64 0), (.int .i64 0), (.int .i64 2), (.int .i64 0), (.int .i64 0), (.string ⟨#[]⟩), (.int .i64 0), (.int .i64 0), (.int .i64 0), (.int .i64 10), (.int .i64 3), (.int .i64 0), (.string ⟨#[]⟩), (.int .i64 0), (.int .i64 0), (.int .i64 0), (.int .i64 7), (.int .i64 0), (.int .i64 0), (.string ⟨#[43]⟩), (.int .i64 0), (.int .i64 0), (.int .i64 0), (.int .i64 6), (.int .i64 0), (.int .i64 0), (.string ⟨#[118]⟩), (.int .i64 0), (.int .i64 0), (.int .i64 0), (.int .i64 1), (.int .i64 0), (.int .i64 2), (.string ⟨#[]⟩), (.int .i64 0), (.int .i64 0), (.int .i64 0)], [], (.tuple #[(.int .i64 0), (.int .i64 0)])⟩
theorem aran4 : entRan (foracle E2 3000) 7 a4 = true := by kernel_rfl
theorem aok4 : entOK Tryz.prog a4 := by
  obtain ⟨H', h⟩ := entRan_ok (foracle_sound E2 3000) aran4
  exact ent_of_call envOK2 (n := 3000) (by rw [globals]; exact h) (by kernel_rfl) (by simp [a4, Am.flat, Am.flat0]) (by kernel_rfl) (by simp [a4, Am.flat, Am.flat0]) (by kernel_rfl) (by decide) (by decide) runs33
def a5 : Ent := ⟨33, 7, 9, [(.int .i64 12), (.int .i64 3), (.int .i64 0), (.string ⟨#[]⟩), (.int .i64 0), (.int .i64 0), (.int .i64 0), (.int .i64 9), (.int .i64 0), (.int .i64 0), (.string ⟨#[120]⟩), (.int .i64 0), (.int .i64 0), (.int .i64 0), (.int .i64 1), (.int .i64 0), (.int .i64 1), (.string ⟨#[]⟩), (.int .i64 0), (.int .i64 0), (.int .i64 0), (.int .i64 19), (.int .i64 2), (.int .i64 0), (.string ⟨#[]⟩), (.int .i64 0), (.int .i64 0), (.int .i64 0), (.int .i64 2), (.int .i64 0), (.int .i64 0), (.string ⟨#[]⟩), (.int .i64 0), (.int .i64 0), (.int .i64 0), (.int .i64 10), (.int .i64 3), (.int .i64 0), (.string ⟨#[]⟩), (.int .i64 0), (.int .i64 0), (.int .i64 0), (.int .i64 7), (.int .i64 0), (.int .i64 0), (.string ⟨#[43]⟩), (.int .i64 0), (.int .i64 0), (.int .i64 0), (.int .i64 6), (.int .i64 0), (.int .i64 0), (.string ⟨#[120]⟩), (.int .i64 0), (.int .i64 0), (.int .i64 0), (.int .i64 1), (.int .i64 0), (.int .i64 2), (.string ⟨#[]⟩), (.int .i64 0), (.int .i64 0), (.int .i64 0)], [], (.tuple #[(.int .i64 0), (.int .i64 0)])⟩
theorem aran5 : entRan (foracle E2 3000) 7 a5 = true := by kernel_rfl
theorem aok5 : entOK Tryz.prog a5 := by
  obtain ⟨H', h⟩ := entRan_ok (foracle_sound E2 3000) aran5
  exact ent_of_call envOK2 (n := 3000) (by rw [globals]; exact h) (by kernel_rfl) (by simp [a5, Am.flat, Am.flat0]) (by kernel_rfl) (by simp [a5, Am.flat, Am.flat0]) (by kernel_rfl) (by decide) (by decide) runs33
def a6 : Ent := ⟨37, 6, 10, [(.int .i64 8), (.int .i64 1), (.int .i64 1), (.string ⟨#[]⟩), (.int .i32 17), (.int .i32 3), (.int .i64 10), (.int .i64 3), (.int .i64 0), (.string ⟨#[]⟩), (.int .i32 18), (.int .i32 3), (.int .i64 7), (.int .i64 0), (.int .i64 0), (.string ⟨#[]⟩), (.int .i32 0), (.int .i32 3), (.int .i64 7), (.int .i64 0), (.int .i64 0), (.string ⟨#[]⟩), (.int .i32 0), (.int .i32 3), (.int .i64 9), (.int .i64 1), (.int .i64 0), (.string ⟨#[]⟩), (.int .i32 14), (.int .i32 3), (.int .i64 8), (.int .i64 1), (.int .i64 0), (.string ⟨#[]⟩), (.int .i32 15), (.int .i32 3), (.int .i64 9), (.int .i64 3), (.int .i64 0), (.string ⟨#[]⟩), (.int .i32 0), (.int .i32 5), (.int .i64 6), (.int .i64 0), (.int .i64 0), (.string ⟨#[43]⟩), (.int .i32 0), (.int .i32 6), (.int .i64 1), (.int .i64 0), (.int .i64 1), (.string ⟨#[]⟩), (.int .i32 0), (.int .i32 2), (.int .i64 1), (.int .i64 0), (.int .i64 2), (.string ⟨#[]⟩), (.int .i32 0), (.int .i32 8)], [(.bool false)], (.tuple #[(.int .i64 0), (.int .i64 0)])⟩
theorem aran6 : entRan (foracle E2 3000) 7 a6 = true := by kernel_rfl
theorem aok6 : entOK Tryz.prog a6 := by
  obtain ⟨H', h⟩ := entRan_ok (foracle_sound E2 3000) aran6
  exact ent_of_call envOK2 (n := 3000) (by rw [globals]; exact h) (by kernel_rfl) (by simp [a6, Am.flat, Am.flat0]) (by kernel_rfl) (by simp [a6, Am.flat, Am.flat0]) (by kernel_rfl) (by decide) (by decide) runs37
def a7 : Ent := ⟨37, 6, 12, [(.int .i64 9), (.int .i64 2), (.int .i64 0), (.string ⟨#[]⟩), (.int .i32 16), (.int .i32 3), (.int .i64 8), (.int .i64 1), (.int .i64 1), (.string ⟨#[]⟩), (.int .i32 17), (.int .i32 3), (.int .i64 10), (.int .i64 3), (.int .i64 0), (.string ⟨#[]⟩), (.int .i32 18), (.int .i32 3), (.int .i64 7), (.int .i64 0), (.int .i64 0), (.string ⟨#[]⟩), (.int .i32 0), (.int .i32 3), (.int .i64 7), (.int .i64 0), (.int .i64 0), (.string ⟨#[]⟩), (.int .i32 0), (.int .i32 3), (.int .i64 9), (.int .i64 1), (.int .i64 0), (.string ⟨#[]⟩), (.int .i32 14), (.int .i32 3), (.int .i64 8), (.int .i64 1), (.int .i64 0), (.string ⟨#[]⟩), (.int .i32 15), (.int .i32 3), (.int .i64 9), (.int .i64 3), (.int .i64 0), (.string ⟨#[]⟩), (.int .i32 0), (.int .i32 5), (.int .i64 6), (.int .i64 0), (.int .i64 0), (.string ⟨#[43]⟩), (.int .i32 0), (.int .i32 6), (.int .i64 1), (.int .i64 0), (.int .i64 1), (.string ⟨#[]⟩), (.int .i32 0), (.int .i32 2), (.int .i64 1), (.int .i64 0), (.int .i64 2), (.string ⟨#[]⟩), (.int .i32 0), (.int .i32 8), (.int .i64 2), (.int .i64 0), (.int .i64 0), (.string ⟨#[]⟩), (.int .i32 0), (.int .i32 4)], [(.bool false)], (.tuple #[(.int .i64 0), (.int .i64 0)])⟩
theorem aran7 : entRan (foracle E2 3000) 7 a7 = true := by kernel_rfl
theorem aok7 : entOK Tryz.prog a7 := by
  obtain ⟨H', h⟩ := entRan_ok (foracle_sound E2 3000) aran7
  exact ent_of_call envOK2 (n := 3000) (by rw [globals]; exact h) (by kernel_rfl) (by simp [a7, Am.flat, Am.flat0]) (by kernel_rfl) (by simp [a7, Am.flat, Am.flat0]) (by kernel_rfl) (by decide) (by decide) runs37
def a8 : Ent := ⟨37, 6, 13, [(.int .i64 8), (.int .i64 1), (.int .i64 1), (.string ⟨#[]⟩), (.int .i32 2), (.int .i32 0), (.int .i64 9), (.int .i64 2), (.int .i64 0), (.string ⟨#[]⟩), (.int .i32 16), (.int .i32 3), (.int .i64 8), (.int .i64 1), (.int .i64 1), (.string ⟨#[]⟩), (.int .i32 17), (.int .i32 3), (.int .i64 10), (.int .i64 3), (.int .i64 0), (.string ⟨#[]⟩), (.int .i32 18), (.int .i32 3), (.int .i64 7), (.int .i64 0), (.int .i64 0), (.string ⟨#[]⟩), (.int .i32 0), (.int .i32 3), (.int .i64 7), (.int .i64 0), (.int .i64 0), (.string ⟨#[]⟩), (.int .i32 0), (.int .i32 3), (.int .i64 9), (.int .i64 1), (.int .i64 0), (.string ⟨#[]⟩), (.int .i32 14), (.int .i32 3), (.int .i64 8), (.int .i64 1), (.int .i64 0), (.string ⟨#[]⟩), (.int .i32 15), (.int .i32 3), (.int .i64 9), (.int .i64 3), (.int .i64 0), (.string ⟨#[]⟩), (.int .i32 0), (.int .i32 5), (.int .i64 6), (.int .i64 0), (.int .i64 0), (.string ⟨#[43]⟩), (.int .i32 0), (.int .i32 6), (.int .i64 7), (.int .i64 0), (.int .i64 1), (.string ⟨#[]⟩), (.int .i32 0), (.int .i32 7), (.int .i64 1), (.int .i64 0), (.int .i64 2), (.string ⟨#[]⟩), (.int .i32 0), (.int .i32 8), (.int .i64 2), (.int .i64 0), (.int .i64 0), (.string ⟨#[]⟩), (.int .i32 0), (.int .i32 4)], [(.bool false)], (.tuple #[(.int .i64 0), (.int .i64 0)])⟩
theorem aran8 : entRan (foracle E2 3000) 7 a8 = true := by kernel_rfl
theorem aok8 : entOK Tryz.prog a8 := by
  obtain ⟨H', h⟩ := entRan_ok (foracle_sound E2 3000) aran8
  exact ent_of_call envOK2 (n := 3000) (by rw [globals]; exact h) (by kernel_rfl) (by simp [a8, Am.flat, Am.flat0]) (by kernel_rfl) (by simp [a8, Am.flat, Am.flat0]) (by kernel_rfl) (by decide) (by decide) runs37
def a9 : Ent := ⟨37, 6, 15, [(.int .i64 9), (.int .i64 2), (.int .i64 0), (.string ⟨#[]⟩), (.int .i32 1), (.int .i32 0), (.int .i64 8), (.int .i64 1), (.int .i64 1), (.string ⟨#[]⟩), (.int .i32 2), (.int .i32 0), (.int .i64 9), (.int .i64 2), (.int .i64 0), (.string ⟨#[]⟩), (.int .i32 16), (.int .i32 3), (.int .i64 8), (.int .i64 1), (.int .i64 1), (.string ⟨#[]⟩), (.int .i32 17), (.int .i32 3), (.int .i64 10), (.int .i64 3), (.int .i64 0), (.string ⟨#[]⟩), (.int .i32 18), (.int .i32 3), (.int .i64 7), (.int .i64 0), (.int .i64 0), (.string ⟨#[]⟩), (.int .i32 0), (.int .i32 3), (.int .i64 7), (.int .i64 0), (.int .i64 0), (.string ⟨#[]⟩), (.int .i32 0), (.int .i32 3), (.int .i64 9), (.int .i64 1), (.int .i64 0), (.string ⟨#[]⟩), (.int .i32 14), (.int .i32 3), (.int .i64 8), (.int .i64 1), (.int .i64 0), (.string ⟨#[]⟩), (.int .i32 15), (.int .i32 3), (.int .i64 9), (.int .i64 3), (.int .i64 0), (.string ⟨#[]⟩), (.int .i32 0), (.int .i32 5), (.int .i64 6), (.int .i64 0), (.int .i64 0), (.string ⟨#[43]⟩), (.int .i32 0), (.int .i32 6), (.int .i64 7), (.int .i64 0), (.int .i64 1), (.string ⟨#[]⟩), (.int .i32 0), (.int .i32 7), (.int .i64 1), (.int .i64 0), (.int .i64 2), (.string ⟨#[]⟩), (.int .i32 0), (.int .i32 8), (.int .i64 2), (.int .i64 0), (.int .i64 0), (.string ⟨#[]⟩), (.int .i32 0), (.int .i32 4), (.int .i64 1), (.int .i64 0), (.int .i64 1), (.string ⟨#[]⟩), (.int .i32 0), (.int .i32 2)], [(.bool false)], (.tuple #[(.int .i64 0), (.int .i64 0)])⟩
theorem aran9 : entRan (foracle E2 3000) 7 a9 = true := by kernel_rfl
theorem aok9 : entOK Tryz.prog a9 := by
  obtain ⟨H', h⟩ := entRan_ok (foracle_sound E2 3000) aran9
  exact ent_of_call envOK2 (n := 3000) (by rw [globals]; exact h) (by kernel_rfl) (by simp [a9, Am.flat, Am.flat0]) (by kernel_rfl) (by simp [a9, Am.flat, Am.flat0]) (by kernel_rfl) (by decide) (by decide) runs37
def a10 : Ent := ⟨37, 6, 1, [(.int .i64 1), (.int .i64 0), (.int .i64 1), (.string ⟨#[]⟩), (.int .i32 0), (.int .i32 2)], [(.bool false)], (.tuple #[(.int .i64 0), (.int .i64 0)])⟩
theorem aran10 : entRan (foracle E2 3000) 7 a10 = true := by kernel_rfl
theorem aok10 : entOK Tryz.prog a10 := by
  obtain ⟨H', h⟩ := entRan_ok (foracle_sound E2 3000) aran10
  exact ent_of_call envOK2 (n := 3000) (by rw [globals]; exact h) (by kernel_rfl) (by simp [a10, Am.flat, Am.flat0]) (by kernel_rfl) (by simp [a10, Am.flat, Am.flat0]) (by kernel_rfl) (by decide) (by decide) runs37
def a11 : Ent := ⟨37, 6, 1, [(.int .i64 1), (.int .i64 0), (.int .i64 2), (.string ⟨#[]⟩), (.int .i32 0), (.int .i32 8)], [(.bool false)], (.tuple #[(.int .i64 0), (.int .i64 0)])⟩
theorem aran11 : entRan (foracle E2 3000) 7 a11 = true := by kernel_rfl
theorem aok11 : entOK Tryz.prog a11 := by
  obtain ⟨H', h⟩ := entRan_ok (foracle_sound E2 3000) aran11
  exact ent_of_call envOK2 (n := 3000) (by rw [globals]; exact h) (by kernel_rfl) (by simp [a11, Am.flat, Am.flat0]) (by kernel_rfl) (by simp [a11, Am.flat, Am.flat0]) (by kernel_rfl) (by decide) (by decide) runs37
def a12 : Ent := ⟨37, 6, 1, [(.int .i64 1), (.int .i64 0), (.int .i64 3), (.string ⟨#[]⟩), (.int .i32 0), (.int .i32 5)], [(.bool false)], (.tuple #[(.int .i64 0), (.int .i64 0)])⟩
theorem aran12 : entRan (foracle E2 3000) 7 a12 = true := by kernel_rfl
theorem aok12 : entOK Tryz.prog a12 := by
  obtain ⟨H', h⟩ := entRan_ok (foracle_sound E2 3000) aran12
  exact ent_of_call envOK2 (n := 3000) (by rw [globals]; exact h) (by kernel_rfl) (by simp [a12, Am.flat, Am.flat0]) (by kernel_rfl) (by simp [a12, Am.flat, Am.flat0]) (by kernel_rfl) (by decide) (by decide) runs37
def a13 : Ent := ⟨37, 6, 1, [(.int .i64 2), (.int .i64 0), (.int .i64 0), (.string ⟨#[]⟩), (.int .i32 0), (.int .i32 4)], [(.bool false)], (.tuple #[(.int .i64 0), (.int .i64 0)])⟩
theorem aran13 : entRan (foracle E2 3000) 7 a13 = true := by kernel_rfl
theorem aok13 : entOK Tryz.prog a13 := by
  obtain ⟨H', h⟩ := entRan_ok (foracle_sound E2 3000) aran13
  exact ent_of_call envOK2 (n := 3000) (by rw [globals]; exact h) (by kernel_rfl) (by simp [a13, Am.flat, Am.flat0]) (by kernel_rfl) (by simp [a13, Am.flat, Am.flat0]) (by kernel_rfl) (by decide) (by decide) runs37
def a14 : Ent := ⟨37, 6, 4, [(.int .i64 9), (.int .i64 3), (.int .i64 0), (.string ⟨#[]⟩), (.int .i32 0), (.int .i32 5), (.int .i64 6), (.int .i64 0), (.int .i64 0), (.string ⟨#[43]⟩), (.int .i32 0), (.int .i32 6), (.int .i64 1), (.int .i64 0), (.int .i64 1), (.string ⟨#[]⟩), (.int .i32 0), (.int .i32 2), (.int .i64 1), (.int .i64 0), (.int .i64 2), (.string ⟨#[]⟩), (.int .i32 0), (.int .i32 8)], [(.bool false)], (.tuple #[(.int .i64 0), (.int .i64 0)])⟩
theorem aran14 : entRan (foracle E2 3000) 7 a14 = true := by kernel_rfl
theorem aok14 : entOK Tryz.prog a14 := by
  obtain ⟨H', h⟩ := entRan_ok (foracle_sound E2 3000) aran14
  exact ent_of_call envOK2 (n := 3000) (by rw [globals]; exact h) (by kernel_rfl) (by simp [a14, Am.flat, Am.flat0]) (by kernel_rfl) (by simp [a14, Am.flat, Am.flat0]) (by kernel_rfl) (by decide) (by decide) runs37
def a15 : Ent := ⟨37, 6, 5, [(.int .i64 8), (.int .i64 1), (.int .i64 0), (.string ⟨#[]⟩), (.int .i32 15), (.int .i32 3), (.int .i64 9), (.int .i64 3), (.int .i64 0), (.string ⟨#[]⟩), (.int .i32 0), (.int .i32 5), (.int .i64 6), (.int .i64 0), (.int .i64 0), (.string ⟨#[43]⟩), (.int .i32 0), (.int .i32 6), (.int .i64 1), (.int .i64 0), (.int .i64 1), (.string ⟨#[]⟩), (.int .i32 0), (.int .i32 2), (.int .i64 1), (.int .i64 0), (.int .i64 2), (.string ⟨#[]⟩), (.int .i32 0), (.int .i32 8)], [(.bool false)], (.tuple #[(.int .i64 0), (.int .i64 0)])⟩
theorem aran15 : entRan (foracle E2 3000) 7 a15 = true := by kernel_rfl
theorem aok15 : entOK Tryz.prog a15 := by
  obtain ⟨H', h⟩ := entRan_ok (foracle_sound E2 3000) aran15
  exact ent_of_call envOK2 (n := 3000) (by rw [globals]; exact h) (by kernel_rfl) (by simp [a15, Am.flat, Am.flat0]) (by kernel_rfl) (by simp [a15, Am.flat, Am.flat0]) (by kernel_rfl) (by decide) (by decide) runs37
def a16 : Ent := ⟨37, 6, 6, [(.int .i64 9), (.int .i64 1), (.int .i64 0), (.string ⟨#[]⟩), (.int .i32 14), (.int .i32 3), (.int .i64 8), (.int .i64 1), (.int .i64 0), (.string ⟨#[]⟩), (.int .i32 15), (.int .i32 3), (.int .i64 9), (.int .i64 3), (.int .i64 0), (.string ⟨#[]⟩), (.int .i32 0), (.int .i32 5), (.int .i64 6), (.int .i64 0), (.int .i64 0), (.string ⟨#[43]⟩), (.int .i32 0), (.int .i32 6), (.int .i64 1), (.int .i64 0), (.int .i64 1), (.string ⟨#[]⟩), (.int .i32 0), (.int .i32 2), (.int .i64 1), (.int .i64 0), (.int .i64 2), (.string ⟨#[]⟩), (.int .i32 0), (.int .i32 8)], [(.bool false)], (.tuple #[(.int .i64 0), (.int .i64 0)])⟩
theorem aran16 : entRan (foracle E2 3000) 7 a16 = true := by kernel_rfl
theorem aok16 : entOK Tryz.prog a16 := by
  obtain ⟨H', h⟩ := entRan_ok (foracle_sound E2 3000) aran16
  exact ent_of_call envOK2 (n := 3000) (by rw [globals]; exact h) (by kernel_rfl) (by simp [a16, Am.flat, Am.flat0]) (by kernel_rfl) (by simp [a16, Am.flat, Am.flat0]) (by kernel_rfl) (by decide) (by decide) runs37
def a17 : Ent := ⟨37, 6, 9, [(.int .i64 10), (.int .i64 3), (.int .i64 0), (.string ⟨#[]⟩), (.int .i32 18), (.int .i32 3), (.int .i64 2), (.int .i64 0), (.int .i64 0), (.string ⟨#[]⟩), (.int .i32 0), (.int .i32 4), (.int .i64 2), (.int .i64 0), (.int .i64 0), (.string ⟨#[]⟩), (.int .i32 0), (.int .i32 4), (.int .i64 9), (.int .i64 1), (.int .i64 0), (.string ⟨#[]⟩), (.int .i32 14), (.int .i32 3), (.int .i64 8), (.int .i64 1), (.int .i64 0), (.string ⟨#[]⟩), (.int .i32 15), (.int .i32 3), (.int .i64 9), (.int .i64 3), (.int .i64 0), (.string ⟨#[]⟩), (.int .i32 0), (.int .i32 5), (.int .i64 6), (.int .i64 0), (.int .i64 0), (.string ⟨#[43]⟩), (.int .i32 0), (.int .i32 6), (.int .i64 1), (.int .i64 0), (.int .i64 1), (.string ⟨#[]⟩), (.int .i32 0), (.int .i32 2), (.int .i64 1), (.int .i64 0), (.int .i64 2), (.string ⟨#[]⟩), (.int .i32 0), (.int .i32 8)], [(.bool false)], (.tuple #[(.int .i64 0), (.int .i64 0)])⟩
theorem aran17 : entRan (foracle E2 3000) 7 a17 = true := by kernel_rfl
theorem aok17 : entOK Tryz.prog a17 := by
  obtain ⟨H', h⟩ := entRan_ok (foracle_sound E2 3000) aran17
  exact ent_of_call envOK2 (n := 3000) (by rw [globals]; exact h) (by kernel_rfl) (by simp [a17, Am.flat, Am.flat0]) (by kernel_rfl) (by simp [a17, Am.flat, Am.flat0]) (by kernel_rfl) (by decide) (by decide) runs37
def a18 : Ent := ⟨38, 6, 15, [(.int .i64 9), (.int .i64 2), (.int .i64 0), (.string ⟨#[]⟩), (.int .i32 1), (.int .i32 0), (.int .i64 8), (.int .i64 1), (.int .i64 1), (.string ⟨#[]⟩), (.int .i32 2), (.int .i32 0), (.int .i64 9), (.int .i64 2), (.int .i64 0), (.string ⟨#[]⟩), (.int .i32 16), (.int .i32 3), (.int .i64 8), (.int .i64 1), (.int .i64 1), (.string ⟨#[]⟩), (.int .i32 17), (.int .i32 3), (.int .i64 10), (.int .i64 3), (.int .i64 0), (.string ⟨#[]⟩), (.int .i32 18), (.int .i32 3), (.int .i64 7), (.int .i64 0), (.int .i64 0), (.string ⟨#[]⟩), (.int .i32 0), (.int .i32 3), (.int .i64 7), (.int .i64 0), (.int .i64 0), (.string ⟨#[]⟩), (.int .i32 0), (.int .i32 3), (.int .i64 9), (.int .i64 1), (.int .i64 0), (.string ⟨#[]⟩), (.int .i32 14), (.int .i32 3), (.int .i64 8), (.int .i64 1), (.int .i64 0), (.string ⟨#[]⟩), (.int .i32 15), (.int .i32 3), (.int .i64 9), (.int .i64 3), (.int .i64 0), (.string ⟨#[]⟩), (.int .i32 0), (.int .i32 5), (.int .i64 6), (.int .i64 0), (.int .i64 0), (.string ⟨#[43]⟩), (.int .i32 0), (.int .i32 6), (.int .i64 7), (.int .i64 0), (.int .i64 1), (.string ⟨#[]⟩), (.int .i32 0), (.int .i32 7), (.int .i64 1), (.int .i64 0), (.int .i64 2), (.string ⟨#[]⟩), (.int .i32 0), (.int .i32 8), (.int .i64 2), (.int .i64 0), (.int .i64 0), (.string ⟨#[]⟩), (.int .i32 0), (.int .i32 4), (.int .i64 1), (.int .i64 0), (.int .i64 1), (.string ⟨#[]⟩), (.int .i32 0), (.int .i32 2)], [(.int .i64 100)], (.int .i64 0)⟩
theorem aran18 : entRan (foracle E2 3000) 7 a18 = true := by kernel_rfl
theorem aok18 : entOK Tryz.prog a18 := by
  obtain ⟨H', h⟩ := entRan_ok (foracle_sound E2 3000) aran18
  exact ent_of_call envOK2 (n := 3000) (by rw [globals]; exact h) (by kernel_rfl) (by simp [a18, Am.flat, Am.flat0]) (by kernel_rfl) (by simp [a18, Am.flat, Am.flat0]) (by kernel_rfl) (by decide) (by decide) runs38
def a19 : Ent := ⟨38, 6, 15, [(.int .i64 9), (.int .i64 2), (.int .i64 0), (.string ⟨#[]⟩), (.int .i32 1), (.int .i32 0), (.int .i64 8), (.int .i64 1), (.int .i64 1), (.string ⟨#[]⟩), (.int .i32 2), (.int .i32 0), (.int .i64 9), (.int .i64 2), (.int .i64 0), (.string ⟨#[]⟩), (.int .i32 16), (.int .i32 3), (.int .i64 8), (.int .i64 1), (.int .i64 1), (.string ⟨#[]⟩), (.int .i32 17), (.int .i32 3), (.int .i64 10), (.int .i64 3), (.int .i64 0), (.string ⟨#[]⟩), (.int .i32 18), (.int .i32 3), (.int .i64 7), (.int .i64 0), (.int .i64 0), (.string ⟨#[]⟩), (.int .i32 0), (.int .i32 3), (.int .i64 7), (.int .i64 0), (.int .i64 0), (.string ⟨#[]⟩), (.int .i32 0), (.int .i32 3), (.int .i64 9), (.int .i64 1), (.int .i64 0), (.string ⟨#[]⟩), (.int .i32 14), (.int .i32 3), (.int .i64 8), (.int .i64 1), (.int .i64 0), (.string ⟨#[]⟩), (.int .i32 15), (.int .i32 3), (.int .i64 9), (.int .i64 3), (.int .i64 0), (.string ⟨#[]⟩), (.int .i32 0), (.int .i32 5), (.int .i64 6), (.int .i64 0), (.int .i64 0), (.string ⟨#[43]⟩), (.int .i32 0), (.int .i32 6), (.int .i64 7), (.int .i64 0), (.int .i64 1), (.string ⟨#[]⟩), (.int .i32 0), (.int .i32 7), (.int .i64 1), (.int .i64 0), (.int .i64 2), (.string ⟨#[]⟩), (.int .i32 0), (.int .i32 8), (.int .i64 2), (.int .i64 0), (.int .i64 0), (.string ⟨#[]⟩), (.int .i32 0), (.int .i32 4), (.int .i64 1), (.int .i64 0), (.int .i64 1), (.string ⟨#[]⟩), (.int .i32 0), (.int .i32 2)], [(.int .i64 2)], (.int .i64 0)⟩
theorem aran19 : entRan (foracle E2 3000) 7 a19 = true := by kernel_rfl
theorem aok19 : entOK Tryz.prog a19 := by
  obtain ⟨H', h⟩ := entRan_ok (foracle_sound E2 3000) aran19
  exact ent_of_call envOK2 (n := 3000) (by rw [globals]; exact h) (by kernel_rfl) (by simp [a19, Am.flat, Am.flat0]) (by kernel_rfl) (by simp [a19, Am.flat, Am.flat0]) (by kernel_rfl) (by decide) (by decide) runs38
def a20 : Ent := ⟨44, 6, 12, [(.int .i64 9), (.int .i64 2), (.int .i64 0), (.string ⟨#[]⟩), (.int .i32 16), (.int .i32 3), (.int .i64 8), (.int .i64 1), (.int .i64 1), (.string ⟨#[]⟩), (.int .i32 17), (.int .i32 3), (.int .i64 10), (.int .i64 3), (.int .i64 0), (.string ⟨#[]⟩), (.int .i32 18), (.int .i32 3), (.int .i64 7), (.int .i64 0), (.int .i64 0), (.string ⟨#[]⟩), (.int .i32 0), (.int .i32 3), (.int .i64 7), (.int .i64 0), (.int .i64 0), (.string ⟨#[]⟩), (.int .i32 0), (.int .i32 3), (.int .i64 9), (.int .i64 1), (.int .i64 0), (.string ⟨#[]⟩), (.int .i32 14), (.int .i32 3), (.int .i64 8), (.int .i64 1), (.int .i64 0), (.string ⟨#[]⟩), (.int .i32 15), (.int .i32 3), (.int .i64 9), (.int .i64 3), (.int .i64 0), (.string ⟨#[]⟩), (.int .i32 0), (.int .i32 5), (.int .i64 6), (.int .i64 0), (.int .i64 0), (.string ⟨#[43]⟩), (.int .i32 0), (.int .i32 6), (.int .i64 1), (.int .i64 0), (.int .i64 1), (.string ⟨#[]⟩), (.int .i32 0), (.int .i32 2), (.int .i64 1), (.int .i64 0), (.int .i64 2), (.string ⟨#[]⟩), (.int .i32 0), (.int .i32 8), (.int .i64 2), (.int .i64 0), (.int .i64 0), (.string ⟨#[]⟩), (.int .i32 0), (.int .i32 4)], [], (.tuple #[(.int .i64 0), (.int .i64 0)])⟩
theorem aran20 : entRan (foracle E2 3000) 7 a20 = true := by kernel_rfl
theorem aok20 : entOK Tryz.prog a20 := by
  obtain ⟨H', h⟩ := entRan_ok (foracle_sound E2 3000) aran20
  exact ent_of_call envOK2 (n := 3000) (by rw [globals]; exact h) (by kernel_rfl) (by simp [a20, Am.flat, Am.flat0]) (by kernel_rfl) (by simp [a20, Am.flat, Am.flat0]) (by kernel_rfl) (by decide) (by decide) runs44
def a21 : Ent := ⟨44, 6, 15, [(.int .i64 9), (.int .i64 2), (.int .i64 0), (.string ⟨#[]⟩), (.int .i32 1), (.int .i32 0), (.int .i64 8), (.int .i64 1), (.int .i64 1), (.string ⟨#[]⟩), (.int .i32 2), (.int .i32 0), (.int .i64 9), (.int .i64 2), (.int .i64 0), (.string ⟨#[]⟩), (.int .i32 16), (.int .i32 3), (.int .i64 8), (.int .i64 1), (.int .i64 1), (.string ⟨#[]⟩), (.int .i32 17), (.int .i32 3), (.int .i64 10), (.int .i64 3), (.int .i64 0), (.string ⟨#[]⟩), (.int .i32 18), (.int .i32 3), (.int .i64 7), (.int .i64 0), (.int .i64 0), (.string ⟨#[]⟩), (.int .i32 0), (.int .i32 3), (.int .i64 7), (.int .i64 0), (.int .i64 0), (.string ⟨#[]⟩), (.int .i32 0), (.int .i32 3), (.int .i64 9), (.int .i64 1), (.int .i64 0), (.string ⟨#[]⟩), (.int .i32 14), (.int .i32 3), (.int .i64 8), (.int .i64 1), (.int .i64 0), (.string ⟨#[]⟩), (.int .i32 15), (.int .i32 3), (.int .i64 9), (.int .i64 3), (.int .i64 0), (.string ⟨#[]⟩), (.int .i32 0), (.int .i32 5), (.int .i64 6), (.int .i64 0), (.int .i64 0), (.string ⟨#[43]⟩), (.int .i32 0), (.int .i32 6), (.int .i64 7), (.int .i64 0), (.int .i64 1), (.string ⟨#[]⟩), (.int .i32 0), (.int .i32 7), (.int .i64 1), (.int .i64 0), (.int .i64 2), (.string ⟨#[]⟩), (.int .i32 0), (.int .i32 8), (.int .i64 2), (.int .i64 0), (.int .i64 0), (.string ⟨#[]⟩), (.int .i32 0), (.int .i32 4), (.int .i64 1), (.int .i64 0), (.int .i64 1), (.string ⟨#[]⟩), (.int .i32 0), (.int .i32 2)], [], (.tuple #[(.int .i64 0), (.int .i64 0)])⟩
theorem aran21 : entRan (foracle E2 3000) 7 a21 = true := by kernel_rfl
theorem aok21 : entOK Tryz.prog a21 := by
  obtain ⟨H', h⟩ := entRan_ok (foracle_sound E2 3000) aran21
  exact ent_of_call envOK2 (n := 3000) (by rw [globals]; exact h) (by kernel_rfl) (by simp [a21, Am.flat, Am.flat0]) (by kernel_rfl) (by simp [a21, Am.flat, Am.flat0]) (by kernel_rfl) (by decide) (by decide) runs44
def a22 : Ent := ⟨44, 6, 1, [(.int .i64 1), (.int .i64 0), (.int .i64 3), (.string ⟨#[]⟩), (.int .i32 0), (.int .i32 5)], [], (.tuple #[(.int .i64 0), (.int .i64 9)])⟩
theorem aran22 : entRan (foracle E2 3000) 7 a22 = true := by kernel_rfl
theorem aok22 : entOK Tryz.prog a22 := by
  obtain ⟨H', h⟩ := entRan_ok (foracle_sound E2 3000) aran22
  exact ent_of_call envOK2 (n := 3000) (by rw [globals]; exact h) (by kernel_rfl) (by simp [a22, Am.flat, Am.flat0]) (by kernel_rfl) (by simp [a22, Am.flat, Am.flat0]) (by kernel_rfl) (by decide) (by decide) runs44
def a23 : Ent := ⟨44, 6, 4, [(.int .i64 9), (.int .i64 3), (.int .i64 0), (.string ⟨#[]⟩), (.int .i32 0), (.int .i32 5), (.int .i64 6), (.int .i64 0), (.int .i64 0), (.string ⟨#[43]⟩), (.int .i32 0), (.int .i32 6), (.int .i64 1), (.int .i64 0), (.int .i64 1), (.string ⟨#[]⟩), (.int .i32 0), (.int .i32 2), (.int .i64 1), (.int .i64 0), (.int .i64 2), (.string ⟨#[]⟩), (.int .i32 0), (.int .i32 8)], [], (.tuple #[(.int .i64 0), (.int .i64 0)])⟩
theorem aran23 : entRan (foracle E2 3000) 7 a23 = true := by kernel_rfl
theorem aok23 : entOK Tryz.prog a23 := by
  obtain ⟨H', h⟩ := entRan_ok (foracle_sound E2 3000) aran23
  exact ent_of_call envOK2 (n := 3000) (by rw [globals]; exact h) (by kernel_rfl) (by simp [a23, Am.flat, Am.flat0]) (by kernel_rfl) (by simp [a23, Am.flat, Am.flat0]) (by kernel_rfl) (by decide) (by decide) runs44
def a24 : Ent := ⟨44, 6, 6, [(.int .i64 9), (.int .i64 1), (.int .i64 0), (.string ⟨#[]⟩), (.int .i32 14), (.int .i32 3), (.int .i64 8), (.int .i64 1), (.int .i64 0), (.string ⟨#[]⟩), (.int .i32 15), (.int .i32 3), (.int .i64 9), (.int .i64 3), (.int .i64 0), (.string ⟨#[]⟩), (.int .i32 0), (.int .i32 5), (.int .i64 6), (.int .i64 0), (.int .i64 0), (.string ⟨#[43]⟩), (.int .i32 0), (.int .i32 6), (.int .i64 1), (.int .i64 0), (.int .i64 1), (.string ⟨#[]⟩), (.int .i32 0), (.int .i32 2), (.int .i64 1), (.int .i64 0), (.int .i64 2), (.string ⟨#[]⟩), (.int .i32 0), (.int .i32 8)], [], (.tuple #[(.int .i64 0), (.int .i64 0)])⟩
theorem aran24 : entRan (foracle E2 3000) 7 a24 = true := by kernel_rfl
theorem aok24 : entOK Tryz.prog a24 := by
  obtain ⟨H', h⟩ := entRan_ok (foracle_sound E2 3000) aran24
  exact ent_of_call envOK2 (n := 3000) (by rw [globals]; exact h) (by kernel_rfl) (by simp [a24, Am.flat, Am.flat0]) (by kernel_rfl) (by simp [a24, Am.flat, Am.flat0]) (by kernel_rfl) (by decide) (by decide) runs44
def a25 : Ent := ⟨44, 6, 9, [(.int .i64 10), (.int .i64 3), (.int .i64 0), (.string ⟨#[]⟩), (.int .i32 18), (.int .i32 3), (.int .i64 2), (.int .i64 0), (.int .i64 0), (.string ⟨#[]⟩), (.int .i32 0), (.int .i32 4), (.int .i64 2), (.int .i64 0), (.int .i64 0), (.string ⟨#[]⟩), (.int .i32 0), (.int .i32 4), (.int .i64 9), (.int .i64 1), (.int .i64 0), (.string ⟨#[]⟩), (.int .i32 14), (.int .i32 3), (.int .i64 8), (.int .i64 1), (.int .i64 0), (.string ⟨#[]⟩), (.int .i32 15), (.int .i32 3), (.int .i64 9), (.int .i64 3), (.int .i64 0), (.string ⟨#[]⟩), (.int .i32 0), (.int .i32 5), (.int .i64 6), (.int .i64 0), (.int .i64 0), (.string ⟨#[43]⟩), (.int .i32 0), (.int .i32 6), (.int .i64 1), (.int .i64 0), (.int .i64 1), (.string ⟨#[]⟩), (.int .i32 0), (.int .i32 2), (.int .i64 1), (.int .i64 0), (.int .i64 2), (.string ⟨#[]⟩), (.int .i32 0), (.int .i32 8)], [], (.tuple #[(.int .i64 0), (.int .i64 0)])⟩
theorem aran25 : entRan (foracle E2 3000) 7 a25 = true := by kernel_rfl
theorem aok25 : entOK Tryz.prog a25 := by
  obtain ⟨H', h⟩ := entRan_ok (foracle_sound E2 3000) aran25
  exact ent_of_call envOK2 (n := 3000) (by rw [globals]; exact h) (by kernel_rfl) (by simp [a25, Am.flat, Am.flat0]) (by kernel_rfl) (by simp [a25, Am.flat, Am.flat0]) (by kernel_rfl) (by decide) (by decide) runs44
def a26 : Ent := ⟨84, 6, 12, [(.int .i64 9), (.int .i64 2), (.int .i64 0), (.string ⟨#[]⟩), (.int .i32 16), (.int .i32 3), (.int .i64 8), (.int .i64 1), (.int .i64 1), (.string ⟨#[]⟩), (.int .i32 17), (.int .i32 3), (.int .i64 10), (.int .i64 3), (.int .i64 0), (.string ⟨#[]⟩), (.int .i32 18), (.int .i32 3), (.int .i64 7), (.int .i64 0), (.int .i64 0), (.string ⟨#[]⟩), (.int .i32 0), (.int .i32 3), (.int .i64 7), (.int .i64 0), (.int .i64 0), (.string ⟨#[]⟩), (.int .i32 0), (.int .i32 3), (.int .i64 9), (.int .i64 1), (.int .i64 0), (.string ⟨#[]⟩), (.int .i32 14), (.int .i32 3), (.int .i64 8), (.int .i64 1), (.int .i64 0), (.string ⟨#[]⟩), (.int .i32 15), (.int .i32 3), (.int .i64 9), (.int .i64 3), (.int .i64 0), (.string ⟨#[]⟩), (.int .i32 0), (.int .i32 5), (.int .i64 6), (.int .i64 0), (.int .i64 0), (.string ⟨#[43]⟩), (.int .i32 0), (.int .i32 6), (.int .i64 1), (.int .i64 0), (.int .i64 1), (.string ⟨#[]⟩), (.int .i32 0), (.int .i32 2), (.int .i64 1), (.int .i64 0), (.int .i64 2), (.string ⟨#[]⟩), (.int .i32 0), (.int .i32 8), (.int .i64 2), (.int .i64 0), (.int .i64 0), (.string ⟨#[]⟩), (.int .i32 0), (.int .i32 4)], [(.bool false)], (.tuple #[(.slice none 0 0), (.int .i64 0)])⟩
theorem aran26 : entRan (foracle E2 3000) 7 a26 = true := by kernel_rfl
theorem aok26 : entOK Tryz.prog a26 := by
  obtain ⟨H', h⟩ := entRan_ok (foracle_sound E2 3000) aran26
  exact ent_of_call envOK2 (n := 3000) (by rw [globals]; exact h) (by kernel_rfl) (by simp [a26, Am.flat, Am.flat0]) (by kernel_rfl) (by simp [a26, Am.flat, Am.flat0]) (by kernel_rfl) (by decide) (by decide) runs84
def a27 : Ent := ⟨84, 6, 15, [(.int .i64 9), (.int .i64 2), (.int .i64 0), (.string ⟨#[]⟩), (.int .i32 1), (.int .i32 0), (.int .i64 8), (.int .i64 1), (.int .i64 1), (.string ⟨#[]⟩), (.int .i32 2), (.int .i32 0), (.int .i64 9), (.int .i64 2), (.int .i64 0), (.string ⟨#[]⟩), (.int .i32 16), (.int .i32 3), (.int .i64 8), (.int .i64 1), (.int .i64 1), (.string ⟨#[]⟩), (.int .i32 17), (.int .i32 3), (.int .i64 10), (.int .i64 3), (.int .i64 0), (.string ⟨#[]⟩), (.int .i32 18), (.int .i32 3), (.int .i64 7), (.int .i64 0), (.int .i64 0), (.string ⟨#[]⟩), (.int .i32 0), (.int .i32 3), (.int .i64 7), (.int .i64 0), (.int .i64 0), (.string ⟨#[]⟩), (.int .i32 0), (.int .i32 3), (.int .i64 9), (.int .i64 1), (.int .i64 0), (.string ⟨#[]⟩), (.int .i32 14), (.int .i32 3), (.int .i64 8), (.int .i64 1), (.int .i64 0), (.string ⟨#[]⟩), (.int .i32 15), (.int .i32 3), (.int .i64 9), (.int .i64 3), (.int .i64 0), (.string ⟨#[]⟩), (.int .i32 0), (.int .i32 5), (.int .i64 6), (.int .i64 0), (.int .i64 0), (.string ⟨#[43]⟩), (.int .i32 0), (.int .i32 6), (.int .i64 7), (.int .i64 0), (.int .i64 1), (.string ⟨#[]⟩), (.int .i32 0), (.int .i32 7), (.int .i64 1), (.int .i64 0), (.int .i64 2), (.string ⟨#[]⟩), (.int .i32 0), (.int .i32 8), (.int .i64 2), (.int .i64 0), (.int .i64 0), (.string ⟨#[]⟩), (.int .i32 0), (.int .i32 4), (.int .i64 1), (.int .i64 0), (.int .i64 1), (.string ⟨#[]⟩), (.int .i32 0), (.int .i32 2)], [(.bool false)], (.tuple #[(.slice none 0 0), (.int .i64 0)])⟩
theorem aran27 : entRan (foracle E2 3000) 7 a27 = true := by kernel_rfl
theorem aok27 : entOK Tryz.prog a27 := by
  obtain ⟨H', h⟩ := entRan_ok (foracle_sound E2 3000) aran27
  exact ent_of_call envOK2 (n := 3000) (by rw [globals]; exact h) (by kernel_rfl) (by simp [a27, Am.flat, Am.flat0]) (by kernel_rfl) (by simp [a27, Am.flat, Am.flat0]) (by kernel_rfl) (by decide) (by decide) runs84
def a28 : Ent := ⟨84, 6, 1, [(.int .i64 1), (.int .i64 0), (.int .i64 3), (.string ⟨#[]⟩), (.int .i32 0), (.int .i32 5)], [(.bool false)], (.tuple #[(.slice none 0 0), (.int .i64 0)])⟩
theorem aran28 : entRan (foracle E2 3000) 7 a28 = true := by kernel_rfl
theorem aok28 : entOK Tryz.prog a28 := by
  obtain ⟨H', h⟩ := entRan_ok (foracle_sound E2 3000) aran28
  exact ent_of_call envOK2 (n := 3000) (by rw [globals]; exact h) (by kernel_rfl) (by simp [a28, Am.flat, Am.flat0]) (by kernel_rfl) (by simp [a28, Am.flat, Am.flat0]) (by kernel_rfl) (by decide) (by decide) runs84
def a29 : Ent := ⟨84, 6, 4, [(.int .i64 9), (.int .i64 3), (.int .i64 0), (.string ⟨#[]⟩), (.int .i32 0), (.int .i32 5), (.int .i64 6), (.int .i64 0), (.int .i64 0), (.string ⟨#[43]⟩), (.int .i32 0), (.int .i32 6), (.int .i64 1), (.int .i64 0), (.int .i64 1), (.string ⟨#[]⟩), (.int .i32 0), (.int .i32 2), (.int .i64 1), (.int .i64 0), (.int .i64 2), (.string ⟨#[]⟩), (.int .i32 0), (.int .i32 8)], [(.bool false)], (.tuple #[(.slice none 0 0), (.int .i64 0)])⟩
theorem aran29 : entRan (foracle E2 3000) 7 a29 = true := by kernel_rfl
theorem aok29 : entOK Tryz.prog a29 := by
  obtain ⟨H', h⟩ := entRan_ok (foracle_sound E2 3000) aran29
  exact ent_of_call envOK2 (n := 3000) (by rw [globals]; exact h) (by kernel_rfl) (by simp [a29, Am.flat, Am.flat0]) (by kernel_rfl) (by simp [a29, Am.flat, Am.flat0]) (by kernel_rfl) (by decide) (by decide) runs84
def a30 : Ent := ⟨84, 6, 6, [(.int .i64 9), (.int .i64 1), (.int .i64 0), (.string ⟨#[]⟩), (.int .i32 14), (.int .i32 3), (.int .i64 8), (.int .i64 1), (.int .i64 0), (.string ⟨#[]⟩), (.int .i32 15), (.int .i32 3), (.int .i64 9), (.int .i64 3), (.int .i64 0), (.string ⟨#[]⟩), (.int .i32 0), (.int .i32 5), (.int .i64 6), (.int .i64 0), (.int .i64 0), (.string ⟨#[43]⟩), (.int .i32 0), (.int .i32 6), (.int .i64 1), (.int .i64 0), (.int .i64 1), (.string ⟨#[]⟩), (.int .i32 0), (.int .i32 2), (.int .i64 1), (.int .i64 0), (.int .i64 2), (.string ⟨#[]⟩), (.int .i32 0), (.int .i32 8)], [(.bool false)], (.tuple #[(.slice none 0 0), (.int .i64 0)])⟩
theorem aran30 : entRan (foracle E2 3000) 7 a30 = true := by kernel_rfl
theorem aok30 : entOK Tryz.prog a30 := by
  obtain ⟨H', h⟩ := entRan_ok (foracle_sound E2 3000) aran30
  exact ent_of_call envOK2 (n := 3000) (by rw [globals]; exact h) (by kernel_rfl) (by simp [a30, Am.flat, Am.flat0]) (by kernel_rfl) (by simp [a30, Am.flat, Am.flat0]) (by kernel_rfl) (by decide) (by decide) runs84
def a31 : Ent := ⟨84, 6, 9, [(.int .i64 10), (.int .i64 3), (.int .i64 0), (.string ⟨#[]⟩), (.int .i32 18), (.int .i32 3), (.int .i64 2), (.int .i64 0), (.int .i64 0), (.string ⟨#[]⟩), (.int .i32 0), (.int .i32 4), (.int .i64 2), (.int .i64 0), (.int .i64 0), (.string ⟨#[]⟩), (.int .i32 0), (.int .i32 4), (.int .i64 9), (.int .i64 1), (.int .i64 0), (.string ⟨#[]⟩), (.int .i32 14), (.int .i32 3), (.int .i64 8), (.int .i64 1), (.int .i64 0), (.string ⟨#[]⟩), (.int .i32 15), (.int .i32 3), (.int .i64 9), (.int .i64 3), (.int .i64 0), (.string ⟨#[]⟩), (.int .i32 0), (.int .i32 5), (.int .i64 6), (.int .i64 0), (.int .i64 0), (.string ⟨#[43]⟩), (.int .i32 0), (.int .i32 6), (.int .i64 1), (.int .i64 0), (.int .i64 1), (.string ⟨#[]⟩), (.int .i32 0), (.int .i32 2), (.int .i64 1), (.int .i64 0), (.int .i64 2), (.string ⟨#[]⟩), (.int .i32 0), (.int .i32 8)], [(.bool false)], (.tuple #[(.slice none 0 0), (.int .i64 0)])⟩
theorem aran31 : entRan (foracle E2 3000) 7 a31 = true := by kernel_rfl
theorem aok31 : entOK Tryz.prog a31 := by
  obtain ⟨H', h⟩ := entRan_ok (foracle_sound E2 3000) aran31
  exact ent_of_call envOK2 (n := 3000) (by rw [globals]; exact h) (by kernel_rfl) (by simp [a31, Am.flat, Am.flat0]) (by kernel_rfl) (by simp [a31, Am.flat, Am.flat0]) (by kernel_rfl) (by decide) (by decide) runs84
def a32 : Ent := ⟨94, 6, 12, [(.int .i64 9), (.int .i64 2), (.int .i64 0), (.string ⟨#[]⟩), (.int .i32 16), (.int .i32 3), (.int .i64 8), (.int .i64 1), (.int .i64 1), (.string ⟨#[]⟩), (.int .i32 17), (.int .i32 3), (.int .i64 10), (.int .i64 3), (.int .i64 0), (.string ⟨#[]⟩), (.int .i32 18), (.int .i32 3), (.int .i64 7), (.int .i64 0), (.int .i64 0), (.string ⟨#[]⟩), (.int .i32 0), (.int .i32 3), (.int .i64 7), (.int .i64 0), (.int .i64 0), (.string ⟨#[]⟩), (.int .i32 0), (.int .i32 3), (.int .i64 9), (.int .i64 1), (.int .i64 0), (.string ⟨#[]⟩), (.int .i32 14), (.int .i32 3), (.int .i64 8), (.int .i64 1), (.int .i64 0), (.string ⟨#[]⟩), (.int .i32 15), (.int .i32 3), (.int .i64 9), (.int .i64 3), (.int .i64 0), (.string ⟨#[]⟩), (.int .i32 0), (.int .i32 5), (.int .i64 6), (.int .i64 0), (.int .i64 0), (.string ⟨#[43]⟩), (.int .i32 0), (.int .i32 6), (.int .i64 1), (.int .i64 0), (.int .i64 1), (.string ⟨#[]⟩), (.int .i32 0), (.int .i32 2), (.int .i64 1), (.int .i64 0), (.int .i64 2), (.string ⟨#[]⟩), (.int .i32 0), (.int .i32 8), (.int .i64 2), (.int .i64 0), (.int .i64 0), (.string ⟨#[]⟩), (.int .i32 0), (.int .i32 4)], [], (.tuple #[(.bool false), (.int .i64 0)])⟩
theorem aran32 : entRan (foracle E2 3000) 7 a32 = true := by kernel_rfl
theorem aok32 : entOK Tryz.prog a32 := by
  obtain ⟨H', h⟩ := entRan_ok (foracle_sound E2 3000) aran32
  exact ent_of_call envOK2 (n := 3000) (by rw [globals]; exact h) (by kernel_rfl) (by simp [a32, Am.flat, Am.flat0]) (by kernel_rfl) (by simp [a32, Am.flat, Am.flat0]) (by kernel_rfl) (by decide) (by decide) runs94
def a33 : Ent := ⟨94, 6, 15, [(.int .i64 9), (.int .i64 2), (.int .i64 0), (.string ⟨#[]⟩), (.int .i32 1), (.int .i32 0), (.int .i64 8), (.int .i64 1), (.int .i64 1), (.string ⟨#[]⟩), (.int .i32 2), (.int .i32 0), (.int .i64 9), (.int .i64 2), (.int .i64 0), (.string ⟨#[]⟩), (.int .i32 16), (.int .i32 3), (.int .i64 8), (.int .i64 1), (.int .i64 1), (.string ⟨#[]⟩), (.int .i32 17), (.int .i32 3), (.int .i64 10), (.int .i64 3), (.int .i64 0), (.string ⟨#[]⟩), (.int .i32 18), (.int .i32 3), (.int .i64 7), (.int .i64 0), (.int .i64 0), (.string ⟨#[]⟩), (.int .i32 0), (.int .i32 3), (.int .i64 7), (.int .i64 0), (.int .i64 0), (.string ⟨#[]⟩), (.int .i32 0), (.int .i32 3), (.int .i64 9), (.int .i64 1), (.int .i64 0), (.string ⟨#[]⟩), (.int .i32 14), (.int .i32 3), (.int .i64 8), (.int .i64 1), (.int .i64 0), (.string ⟨#[]⟩), (.int .i32 15), (.int .i32 3), (.int .i64 9), (.int .i64 3), (.int .i64 0), (.string ⟨#[]⟩), (.int .i32 0), (.int .i32 5), (.int .i64 6), (.int .i64 0), (.int .i64 0), (.string ⟨#[43]⟩), (.int .i32 0), (.int .i32 6), (.int .i64 7), (.int .i64 0), (.int .i64 1), (.string ⟨#[]⟩), (.int .i32 0), (.int .i32 7), (.int .i64 1), (.int .i64 0), (.int .i64 2), (.string ⟨#[]⟩), (.int .i32 0), (.int .i32 8), (.int .i64 2), (.int .i64 0), (.int .i64 0), (.string ⟨#[]⟩), (.int .i32 0), (.int .i32 4), (.int .i64 1), (.int .i64 0), (.int .i64 1), (.string ⟨#[]⟩), (.int .i32 0), (.int .i32 2)], [], (.tuple #[(.bool false), (.int .i64 0)])⟩
theorem aran33 : entRan (foracle E2 3000) 7 a33 = true := by kernel_rfl
theorem aok33 : entOK Tryz.prog a33 := by
  obtain ⟨H', h⟩ := entRan_ok (foracle_sound E2 3000) aran33
  exact ent_of_call envOK2 (n := 3000) (by rw [globals]; exact h) (by kernel_rfl) (by simp [a33, Am.flat, Am.flat0]) (by kernel_rfl) (by simp [a33, Am.flat, Am.flat0]) (by kernel_rfl) (by decide) (by decide) runs94
def a34 : Ent := ⟨94, 6, 1, [(.int .i64 1), (.int .i64 0), (.int .i64 1), (.string ⟨#[]⟩), (.int .i32 0), (.int .i32 2)], [], (.tuple #[(.bool false), (.int .i64 0)])⟩
theorem aran34 : entRan (foracle E2 3000) 7 a34 = true := by kernel_rfl
theorem aok34 : entOK Tryz.prog a34 := by
  obtain ⟨H', h⟩ := entRan_ok (foracle_sound E2 3000) aran34
  exact ent_of_call envOK2 (n := 3000) (by rw [globals]; exact h) (by kernel_rfl) (by simp [a34, Am.flat, Am.flat0]) (by kernel_rfl) (by simp [a34, Am.flat, Am.flat0]) (by kernel_rfl) (by decide) (by decide) runs94
def a35 : Ent := ⟨94, 6, 1, [(.int .i64 1), (.int .i64 0), (.int .i64 2), (.string ⟨#[]⟩), (.int .i32 0), (.int .i32 8)], [], (.tuple #[(.bool false), (.int .i64 0)])⟩
theorem aran35 : entRan (foracle E2 3000) 7 a35 = true := by kernel_rfl
theorem aok35 : entOK Tryz.prog a35 := by
  obtain ⟨H', h⟩ := entRan_ok (foracle_sound E2 3000) aran35
  exact ent_of_call envOK2 (n := 3000) (by rw [globals]; exact h) (by kernel_rfl) (by simp [a35, Am.flat, Am.flat0]) (by kernel_rfl) (by simp [a35, Am.flat, Am.flat0]) (by kernel_rfl) (by decide) (by decide) runs94
def a36 : Ent := ⟨94, 6, 1, [(.int .i64 1), (.int .i64 0), (.int .i64 3), (.string ⟨#[]⟩), (.int .i32 0), (.int .i32 5)], [], (.tuple #[(.bool false), (.int .i64 0)])⟩
theorem aran36 : entRan (foracle E2 3000) 7 a36 = true := by kernel_rfl
theorem aok36 : entOK Tryz.prog a36 := by
  obtain ⟨H', h⟩ := entRan_ok (foracle_sound E2 3000) aran36
  exact ent_of_call envOK2 (n := 3000) (by rw [globals]; exact h) (by kernel_rfl) (by simp [a36, Am.flat, Am.flat0]) (by kernel_rfl) (by simp [a36, Am.flat, Am.flat0]) (by kernel_rfl) (by decide) (by decide) runs94
def a37 : Ent := ⟨94, 6, 4, [(.int .i64 9), (.int .i64 3), (.int .i64 0), (.string ⟨#[]⟩), (.int .i32 0), (.int .i32 5), (.int .i64 6), (.int .i64 0), (.int .i64 0), (.string ⟨#[43]⟩), (.int .i32 0), (.int .i32 6), (.int .i64 1), (.int .i64 0), (.int .i64 1), (.string ⟨#[]⟩), (.int .i32 0), (.int .i32 2), (.int .i64 1), (.int .i64 0), (.int .i64 2), (.string ⟨#[]⟩), (.int .i32 0), (.int .i32 8)], [], (.tuple #[(.bool false), (.int .i64 0)])⟩
theorem aran37 : entRan (foracle E2 3000) 7 a37 = true := by kernel_rfl
theorem aok37 : entOK Tryz.prog a37 := by
  obtain ⟨H', h⟩ := entRan_ok (foracle_sound E2 3000) aran37
  exact ent_of_call envOK2 (n := 3000) (by rw [globals]; exact h) (by kernel_rfl) (by simp [a37, Am.flat, Am.flat0]) (by kernel_rfl) (by simp [a37, Am.flat, Am.flat0]) (by kernel_rfl) (by decide) (by decide) runs94
def a38 : Ent := ⟨94, 6, 6, [(.int .i64 9), (.int .i64 1), (.int .i64 0), (.string ⟨#[]⟩), (.int .i32 14), (.int .i32 3), (.int .i64 8), (.int .i64 1), (.int .i64 0), (.string ⟨#[]⟩), (.int .i32 15), (.int .i32 3), (.int .i64 9), (.int .i64 3), (.int .i64 0), (.string ⟨#[]⟩), (.int .i32 0), (.int .i32 5), (.int .i64 6), (.int .i64 0), (.int .i64 0), (.string ⟨#[43]⟩), (.int .i32 0), (.int .i32 6), (.int .i64 1), (.int .i64 0), (.int .i64 1), (.string ⟨#[]⟩), (.int .i32 0), (.int .i32 2), (.int .i64 1), (.int .i64 0), (.int .i64 2), (.string ⟨#[]⟩), (.int .i32 0), (.int .i32 8)], [], (.tuple #[(.bool false), (.int .i64 0)])⟩
theorem aran38 : entRan (foracle E2 3000) 7 a38 = true := by kernel_rfl
theorem aok38 : entOK Tryz.prog a38 := by
  obtain ⟨H', h⟩ := entRan_ok (foracle_sound E2 3000) aran38
  exact ent_of_call envOK2 (n := 3000) (by rw [globals]; exact h) (by kernel_rfl) (by simp [a38, Am.flat, Am.flat0]) (by kernel_rfl) (by simp [a38, Am.flat, Am.flat0]) (by kernel_rfl) (by decide) (by decide) runs94
def a39 : Ent := ⟨94, 6, 9, [(.int .i64 10), (.int .i64 3), (.int .i64 0), (.string ⟨#[]⟩), (.int .i32 18), (.int .i32 3), (.int .i64 2), (.int .i64 0), (.int .i64 0), (.string ⟨#[]⟩), (.int .i32 0), (.int .i32 4), (.int .i64 2), (.int .i64 0), (.int .i64 0), (.string ⟨#[]⟩), (.int .i32 0), (.int .i32 4), (.int .i64 9), (.int .i64 1), (.int .i64 0), (.string ⟨#[]⟩), (.int .i32 14), (.int .i32 3), (.int .i64 8), (.int .i64 1), (.int .i64 0), (.string ⟨#[]⟩), (.int .i32 15), (.int .i32 3), (.int .i64 9), (.int .i64 3), (.int .i64 0), (.string ⟨#[]⟩), (.int .i32 0), (.int .i32 5), (.int .i64 6), (.int .i64 0), (.int .i64 0), (.string ⟨#[43]⟩), (.int .i32 0), (.int .i32 6), (.int .i64 1), (.int .i64 0), (.int .i64 1), (.string ⟨#[]⟩), (.int .i32 0), (.int .i32 2), (.int .i64 1), (.int .i64 0), (.int .i64 2), (.string ⟨#[]⟩), (.int .i32 0), (.int .i32 8)], [], (.tuple #[(.bool false), (.int .i64 0)])⟩
theorem aran39 : entRan (foracle E2 3000) 7 a39 = true := by kernel_rfl
theorem aok39 : entOK Tryz.prog a39 := by
  obtain ⟨H', h⟩ := entRan_ok (foracle_sound E2 3000) aran39
  exact ent_of_call envOK2 (n := 3000) (by rw [globals]; exact h) (by kernel_rfl) (by simp [a39, Am.flat, Am.flat0]) (by kernel_rfl) (by simp [a39, Am.flat, Am.flat0]) (by kernel_rfl) (by decide) (by decide) runs94
def tabE : List Ent := [a0, a1, a2, a3, a4, a5, a6, a7, a8, a9, a10, a11, a12, a13, a14, a15, a16, a17, a18, a19, a20, a21, a22, a23, a24, a25, a26, a27, a28, a29, a30, a31, a32, a33, a34, a35, a36, a37, a38, a39]
theorem tabE_ok : ∀ e ∈ tabE, entOK Tryz.prog e :=
  List.forall_mem_cons.2 ⟨aok0, List.forall_mem_cons.2 ⟨aok1, List.forall_mem_cons.2 ⟨aok2, List.forall_mem_cons.2 ⟨aok3, List.forall_mem_cons.2 ⟨aok4, List.forall_mem_cons.2 ⟨aok5, List.forall_mem_cons.2 ⟨aok6, List.forall_mem_cons.2 ⟨aok7, List.forall_mem_cons.2 ⟨aok8, List.forall_mem_cons.2 ⟨aok9, List.forall_mem_cons.2 ⟨aok10, List.forall_mem_cons.2 ⟨aok11, List.forall_mem_cons.2 ⟨aok12, List.forall_mem_cons.2 ⟨aok13, List.forall_mem_cons.2 ⟨aok14, List.forall_mem_cons.2 ⟨aok15, List.forall_mem_cons.2 ⟨aok16, List.forall_mem_cons.2 ⟨aok17, List.forall_mem_cons.2 ⟨aok18, List.forall_mem_cons.2 ⟨aok19, List.forall_mem_cons.2 ⟨aok20, List.forall_mem_cons.2 ⟨aok21, List.forall_mem_cons.2 ⟨aok22, List.forall_mem_cons.2 ⟨aok23, List.forall_mem_cons.2 ⟨aok24, List.forall_mem_cons.2 ⟨aok25, List.forall_mem_cons.2 ⟨aok26, List.forall_mem_cons.2 ⟨aok27, List.forall_mem_cons.2 ⟨aok28, List.forall_mem_cons.2 ⟨aok29, List.forall_mem_cons.2 ⟨aok30, List.forall_mem_cons.2 ⟨aok31, List.forall_mem_cons.2 ⟨aok32, List.forall_mem_cons.2 ⟨aok33, List.forall_mem_cons.2 ⟨aok34, List.forall_mem_cons.2 ⟨aok35, List.forall_mem_cons.2 ⟨aok36, List.forall_mem_cons.2 ⟨aok37, List.forall_mem_cons.2 ⟨aok38, List.forall_mem_cons.2 ⟨aok39, (fun _ h => by cases h)⟩⟩⟩⟩⟩⟩⟩⟩⟩⟩⟩⟩⟩⟩⟩⟩⟩⟩⟩⟩⟩⟩⟩⟩⟩⟩⟩⟩⟩⟩⟩⟩⟩⟩⟩⟩⟩⟩⟩⟩
end Go.Proofs.YtiblfhiiombfcaaGreatDoor.run
