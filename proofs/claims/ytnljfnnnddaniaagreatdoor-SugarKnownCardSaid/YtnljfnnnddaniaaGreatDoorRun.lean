/- The law SugarKnown, run by the interpreter: it comes to true, and it takes no more than that to know. By an AI agent. No person has read it. -/
import Derived.Test.YtnljfnnnddaniaaGreatDoorCode
namespace Go.Proofs.YtnljfnnnddaniaaGreatDoor.run
open Go Am
set_option maxRecDepth 100000
set_option maxHeartbeats 0
noncomputable def E : Env := ⟨code.code, fun _ _ _ => none⟩
def H0 : Hp := { tr := .leaf, size := 3, low := 3 }
theorem ran : fcall E 3000 3 [] H0 = true := by kernel_rfl
theorem comes : ∃ H', call E 3000 3 #[] H0 = some (.bool true, H') := fcall_true ran
theorem globals : Tryz.prog.globals.size = 3 := by kernel_rfl
theorem mixed : Tryz.prog.follows .mixedOrders = true := by kernel_rfl
theorem envOK (base : Nat) : EnvOK Tryz.prog base E := by
  constructor
  · exact mixed
  · exact code.code_ok
  all_goals (intros; simp_all [E])
theorem calls (w : World) : Calls Tryz.prog 3 #[] w fun e w' => e = .returned (.bool true) ∧ Kept w w' := by
  obtain ⟨H', h⟩ := comes
  exact call_bare envOK (by rw [globals]; exact h) (by kernel_rfl) (by simp) rfl w
end Go.Proofs.YtnljfnnnddaniaaGreatDoor.run
