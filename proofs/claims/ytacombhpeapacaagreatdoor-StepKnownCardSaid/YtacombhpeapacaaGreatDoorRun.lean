/- The law StepKnown, run by the interpreter: it comes to true. By an AI agent. No person has read it. -/
import Derived.Test.YtacombhpeapacaaGreatDoorAwake
namespace Go.Proofs.YtacombhpeapacaaGreatDoor.run
open Go Am
set_option maxRecDepth 100000
set_option maxHeartbeats 0
noncomputable def code2 (f : FuncId) : Option CF := @Bool.rec (fun _ => Option CF) (code.code f) none (Nat.beq f 17)
def prim2 (f : FuncId) (args : Array Value) (H : Hp) : Option (Value × Hp) := cond (Nat.beq f 17) (match args.toList with | [] => some (.bool true, H) | _ => none) (primIB 151 f args H)
noncomputable def E : Env := ⟨code2, prim2⟩
theorem ran : fcall E 3000 3 [] H0 = true := by kernel_rfl
theorem comes : ∃ H', call E 3000 3 #[] H0 = some (.bool true, H') := fcall_true ran
theorem enters (w : World) : (callFunc 17 #[]).run Tryz.prog w = .ok (.enter 17 #[]) w := by
  have hn : ¬ Tryz.f17.name = "runtime.NumGoroutine" := by
    have h : (Tryz.f17.name == "runtime.NumGoroutine") = false := by kernel_rfl
    simpa using h
  have hb : Tryz.f17.body.isSome = true := by kernel_rfl
  obtain ⟨b, hb⟩ := Option.isSome_iff_exists.1 hb
  simp [callFunc, Tryz.func17, hn, hb]
theorem envOK (base : Nat) : EnvOK Tryz.prog base E := by
  constructor
  · exact mixed
  · intro f cf h
    have h' : @Bool.rec (fun _ => Option CF) (code.code f) none (Nat.beq f 17) = some cf := h
    cases hb : Nat.beq f 17 with
    | true => rw [hb] at h'; cases h'
    | false => rw [hb] at h'; exact code.code_ok f cf h'
  · intro f args H v H' _ h ρ w args' hH _ ha
    have h' : prim2 f args H = some (v, H') := h
    unfold prim2 at h'
    cases hb : Nat.beq f 17 with
    | false => rw [hb] at h'; exact primIB_ok Tryz.func151 ib1 ib2 ib3 ib4 h' hH ha
    | true =>
      rw [hb] at h'
      simp only [cond] at h'
      split at h'
      · rename_i hargs
        cases h'
        rw [hargs] at ha
        have e : f = 17 := Nat.eq_of_beq_eq_true hb
        have e2 : args' = #[] := by
          have := ha.eq_of_flat0 rfl
          cases args'; simp_all
        subst e2
        rw [e]
        exact known.enter rfl enters hH
      · cases h'
  · intro f args H v H1 h
    have h' : prim2 f args H = some (v, H1) := h
    unfold prim2 at h'
    cases hb : Nat.beq f 17 with
    | false => rw [hb] at h'; rw [primIB_low h']; exact LowOK.refl H
    | true =>
      rw [hb] at h'
      simp only [cond] at h'
      split at h'
      · cases h'; exact LowOK.refl H
      · cases h'
theorem calls (w : World) : Calls Tryz.prog 3 #[] w fun e w' => e = .returned (.bool true) ∧ Kept w w' := by
  obtain ⟨H', h⟩ := comes
  exact call_bare envOK (by rw [globals]; exact h) (by kernel_rfl) (by simp) rfl w
end Go.Proofs.YtacombhpeapacaaGreatDoor.run
