/- The check that the law ends with, run by the interpreter by itself. By an AI agent. No person has read it. -/
import Derived.Test.YtfonnebpnobomaaDoorCode
import Derived.Test.YtfonnebpnobomaaDoorAm5
namespace Go.Proofs.YtfonnebpnobomaaDoor.run
open Go Am
set_option maxRecDepth 100000
set_option maxHeartbeats 0
noncomputable def E1 : Env := ⟨code.code, primIB 96⟩
def H0 : Hp := { tr := .leaf, size := 3, low := 3 }
theorem ran1 : fcall E1 3000 9 [] H0 = true := by kernel_rfl
theorem globals : Tryd.prog.globals.size = 3 := by kernel_rfl
theorem mixed : Tryd.prog.follows .mixedOrders = true := by kernel_rfl
theorem ib1 : (Tryd.f96.name == "runtime.NumGoroutine") = false := by kernel_rfl
theorem ib2 : Tryd.f96.body.isNone = true := by kernel_rfl
theorem ib3 : (Extern.findNext Tryd.f96).isNone = true := by kernel_rfl
theorem ib4 : Extern.find Tryd.f96 = some Extern.BytealgIndexByte.indexByte := by kernel_rfl
theorem envOK1 (base : Nat) : EnvOK Tryd.prog base E1 := by
  constructor
  · exact mixed
  · exact code.code_ok
  · intro f args H v H' _ h ρ w args' hH _ ha
    exact primIB_ok Tryd.func96 ib1 ib2 ib3 ib4 h hH ha
  · intro f args H v H1 h
    rw [primIB_low h]; exact LowOK.refl H
theorem known : Known Tryd.prog 9 #[] (.bool true) := by
  obtain ⟨H', h⟩ := fcall_true ran1
  exact known_of_call envOK1 (by rw [globals]; exact h) (by kernel_rfl) (by simp) rfl
end Go.Proofs.YtfonnebpnobomaaDoor.run
