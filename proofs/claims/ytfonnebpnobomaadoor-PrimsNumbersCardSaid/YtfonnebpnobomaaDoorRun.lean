/- The law PrimsNumbers, by the calculus: it comes to true, whatever its numbers are. By an AI agent. No person has read it. -/
import Derived.Test.YtfonnebpnobomaaDoorAwake
import Derived.Test.YtfonnebpnobomaaDoorWb
namespace Go.Proofs.YtfonnebpnobomaaDoor.run
open Go Am
set_option maxRecDepth 100000
set_option maxHeartbeats 0
noncomputable def code2 (f : FuncId) : Option CF := @Bool.rec (fun _ => Option CF) (code.code f) none (Nat.beq f 9)
def prim2 (f : FuncId) (args : Array Value) (H : Hp) : Option (Value × Hp) := cond (Nat.beq f 9) (match args.toList with | [] => some (.bool true, H) | _ => none) (primIB 96 f args H)
noncomputable def E : Env := ⟨code2, prim2⟩
theorem enters (w : World) : (callFunc 9 #[]).run Tryd.prog w = .ok (.enter 9 #[]) w := by
  have hn : ¬ Tryd.f9.name = "runtime.NumGoroutine" := by
    have h : (Tryd.f9.name == "runtime.NumGoroutine") = false := by kernel_rfl
    simpa using h
  have hb : Tryd.f9.body.isSome = true := by kernel_rfl
  obtain ⟨b, hb⟩ := Option.isSome_iff_exists.1 hb
  simp [callFunc, Tryd.func9, hn, hb]
theorem envOK (base : Nat) : EnvOK Tryd.prog base E := by
  constructor
  · exact mixed
  · intro f cf h
    have h' : @Bool.rec (fun _ => Option CF) (code.code f) none (Nat.beq f 9) = some cf := h
    cases hb : Nat.beq f 9 with
    | true => rw [hb] at h'; cases h'
    | false => rw [hb] at h'; exact code.code_ok f cf h'
  · intro f args H v H' _ h ρ w args' hH _ ha
    have h' : prim2 f args H = some (v, H') := h
    unfold prim2 at h'
    cases hb : Nat.beq f 9 with
    | false => rw [hb] at h'; exact primIB_ok Tryd.func96 ib1 ib2 ib3 ib4 h' hH ha
    | true =>
      rw [hb] at h'
      simp only [cond] at h'
      split at h'
      · rename_i hargs
        cases h'
        rw [hargs] at ha
        have e : f = 9 := Nat.eq_of_beq_eq_true hb
        have e2 : args' = #[] := by
          have := ha.eq_of_flat0 rfl
          cases args'; simp_all
        subst e2
        rw [e]
        exact known.enter rfl enters hH
      · cases h'
  · intro f args H v H1 h
    have h' : prim2 f args H = some (v, H1) := h
    unfold prim2 at h'
    cases hb : Nat.beq f 9 with
    | false => rw [hb] at h'; rw [primIB_low h']; exact LowOK.refl H
    | true =>
      rw [hb] at h'
      simp only [cond] at h'
      split at h'
      · cases h'; exact LowOK.refl H
      · cases h'
theorem has : W.Has E where
  h34 := by kernel_rfl
  h35 := by kernel_rfl
  h26 := by kernel_rfl
  h27 := by kernel_rfl
  h7 := by kernel_rfl
  h15 := by kernel_rfl
  h17 := by kernel_rfl
  h36 := by kernel_rfl
  h38 := by kernel_rfl
  h40 := by kernel_rfl
  h37 := by kernel_rfl
  h39 := by kernel_rfl
  h41 := by kernel_rfl
  h53 := by kernel_rfl
  h54 := by kernel_rfl
  h52 := by kernel_rfl
  h60 := by kernel_rfl
  h18 := by kernel_rfl
  h23 := by kernel_rfl
  h13 := by kernel_rfl
  h21 := by kernel_rfl
  h20 := by kernel_rfl
  h8 := by kernel_rfl
  h10 := by kernel_rfl
  h49 := by kernel_rfl
  h29 := by kernel_rfl
  h30 := by kernel_rfl
  h32 := by kernel_rfl
  h33 := by kernel_rfl
  h28 := by kernel_rfl
  h55 := by kernel_rfl
  h42 := by kernel_rfl
  h48 := by kernel_rfl
  h43 := by kernel_rfl
  h58 := by kernel_rfl
  h57 := by kernel_rfl
  h45 := by kernel_rfl
  h44 := by kernel_rfl
  h46 := by kernel_rfl
  h24 := by kernel_rfl
  h59 := by kernel_rfl
  h47 := by kernel_rfl
  h25 := by kernel_rfl
  h19 := by kernel_rfl
  h22 := by kernel_rfl
  h11 := by kernel_rfl
  h31 := by kernel_rfl
  h50 := by kernel_rfl
  h51 := by kernel_rfl
  h3 := by kernel_rfl
theorem awakes (H : Hp) : Sc E 9 [] H [] fun v _ => v = .bool true := by
  refine .mk ⟨.bool true, H, ⟨1, fun n hn => ?_⟩, [], St.refl H [], rfl⟩
  obtain ⟨n, rfl⟩ : ∃ m, n = m + 1 := ⟨n - 1, by omega⟩
  have h1 : E.code 9 = none := by kernel_rfl
  have h2 : E.prim 9 #[] H = some (.bool true, H) := rfl
  show (match E.code 9 with
    | some cf => callBody (oracle E n) n cf #[] H
    | none => E.prim 9 #[] H) = _
  rw [h1]; exact h2
theorem in64 {z : Int} (h : (Lit.int .i64 z).wf = true) : W.In64 z := by
  have h' : (decide (IntKind.i64.min ≤ z) && decide (z ≤ IntKind.i64.max)) = true := h
  rw [Bool.and_eq_true] at h'
  have h1 := of_decide_eq_true h'.1
  have h2 := of_decide_eq_true h'.2
  have e1 : IntKind.i64.min = -9223372036854775808 := by decide
  have e2 : IntKind.i64.max = 9223372036854775807 := by decide
  rw [e1] at h1; rw [e2] at h2
  exact ⟨h1, h2⟩
theorem calls (x0 : Int) (hx0 : W.In64 x0) (x1 : Int) (hx1 : W.In64 x1) (w : World) : Calls Tryd.prog 3 #[.int .i64 x0, .int .i64 x1] w fun e w' => e = .returned (.bool true) ∧ Kept w w' := by
  obtain ⟨v, H', ⟨N, hN⟩, M1, _, rfl⟩ := (W.PrimsNumbers_spec has awakes x0 x1 hx0 hx1 { tr := .leaf, size := Tryd.prog.globals.size, low := Tryd.prog.globals.size }).run
  exact call_bare envOK (hN N (Nat.le_refl _)) (by kernel_rfl) (by simp [W.I64, Am.flat, flat0]) rfl w
end Go.Proofs.YtfonnebpnobomaaDoor.run
