/- The law CoreKnown, run by the interpreter: it comes to true. By an AI agent. No person has read it. -/
import Derived.Test.YtoknkolaajlhbaaGreatDoorCode
import Derived.Test.YtoknkolaajlhbaaGreatDoorJoin
namespace Go.Proofs.YtoknkolaajlhbaaGreatDoor.run
open Go Am
set_option maxRecDepth 100000
set_option maxHeartbeats 0
def prim (f : FuncId) (args : Array Value) (H : Hp) : Option (Value × Hp) := cond (Nat.beq f 21) (primJoin 21 f args H) (primIB 119 f args H)
noncomputable def E : Env := ⟨code.code, prim⟩
def H0 : Hp := { tr := .leaf, size := 6, low := 6 }
theorem ran : fcall E 3000 3 [] H0 = true := by kernel_rfl
theorem comes : ∃ H', call E 3000 3 #[] H0 = some (.bool true, H') := fcall_true ran
theorem globals : Tryz.prog.globals.size = 6 := by kernel_rfl
theorem mixed : Tryz.prog.follows .mixedOrders = true := by kernel_rfl
theorem ib1 : (Tryz.f119.name == "runtime.NumGoroutine") = false := by kernel_rfl
theorem ib2 : Tryz.f119.body.isNone = true := by kernel_rfl
theorem ib3 : (Extern.findNext Tryz.f119).isNone = true := by kernel_rfl
theorem ib4 : Extern.find Tryz.f119 = some Extern.BytealgIndexByte.indexByte := by kernel_rfl
theorem envOK (base : Nat) : EnvOK Tryz.prog base E := by
  constructor
  · exact mixed
  · exact code.code_ok
  · intro f args H v H' _ h ρ w args' hH _ ha
    have h' : prim f args H = some (v, H') := h
    unfold prim at h'
    cases hb : Nat.beq f 21 with
    | false => rw [hb] at h'; exact primIB_ok Tryz.func119 ib1 ib2 ib3 ib4 h' hH ha
    | true => rw [hb] at h'; exact primJoin_ok join.ok h' hH ha
  · intro f args H v H1 h
    have h' : prim f args H = some (v, H1) := h
    unfold prim at h'
    cases hb : Nat.beq f 21 with
    | false => rw [hb] at h'; rw [primIB_low h']; exact LowOK.refl H
    | true => rw [hb] at h'; rw [primJoin_low h']; exact LowOK.refl H
theorem calls (w : World) : Calls Tryz.prog 3 #[] w fun e w' => e = .returned (.bool true) ∧ Kept w w' := by
  obtain ⟨H', h⟩ := comes
  exact call_bare envOK (by rw [globals]; exact h) (by kernel_rfl) (by simp) rfl w
end Go.Proofs.YtoknkolaajlhbaaGreatDoor.run
