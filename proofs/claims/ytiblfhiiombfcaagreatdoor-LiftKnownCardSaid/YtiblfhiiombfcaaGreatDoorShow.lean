/- The function show, by the interpreter: it defers a closure that recovers. By an AI agent. No person has read it. -/
import Derived.Test.YtiblfhiiombfcaaGreatDoorShow0
import Derived.Test.YtiblfhiiombfcaaGreatDoorAm6
import Derived.Test.YtiblfhiiombfcaaGreatDoorCode
namespace Go.Proofs.YtiblfhiiombfcaaGreatDoor.shw
open Go Am
set_option maxRecDepth 100000
set_option maxHeartbeats 2000000
theorem hinv (v : Value) (w : World) : (invoke (.fn (.func 85) #[v]) #[]).run Tryz.prog w = .ok (.enter 85 #[v]) w := by
  have hn : ¬ Tryz.f85.name = "runtime.NumGoroutine" := by decide
  have hb : Tryz.f85.body.isSome = true := rfl
  obtain ⟨b, hb⟩ := Option.isSome_iff_exists.1 hb
  simp [invoke, callFunc, Tryz.func85, hn, hb]
theorem hrun (args : Array Value) (w : World) : (callFunc 43 args).run Tryz.prog w = .ok (.enter 43 args) w := by
  have hn : ¬ Tryz.f43.name = "runtime.NumGoroutine" := by decide
  have hb : Tryz.f43.body.isSome = true := rfl
  obtain ⟨b, hb⟩ := Option.isSome_iff_exists.1 hb
  simp [callFunc, Tryz.func43, hn, hb]
theorem hneed (args : Array Value) (w : World) : (callFunc 131 args).run Tryz.prog w = .ok (.enter 131 args) w := by
  have hn : ¬ Tryz.f131.name = "runtime.NumGoroutine" := by decide
  have hb : Tryz.f131.body.isSome = true := rfl
  obtain ⟨b, hb⟩ := Option.isSome_iff_exists.1 hb
  simp [callFunc, Tryz.func131, hn, hb]
noncomputable def regs : Code → List (Array Oper)
  | .seq (.region _ p _) r => p :: regs r
  | _ => []
noncomputable def rs : List (Array Oper) := match Tryz.f43.body with | some c => regs c | none => []
noncomputable def R (k : Nat) : Array Oper := rs.getD k #[]
theorem hbody : Tryz.f43.body = some (.seq (.region 0 (R 0) false) (.seq (.region 1 (R 1) false) (.seq (.region 2 (R 2) false) (.seq (.region 3 (R 3) false) (.seq (.region 4 (R 4) false) .ret))))) := rfl
theorem hd3 : ∀ o ∈ (R 2).toList, o.dst ≠ some 2 := by
  have h : ((R 2).toList.map (·.dst)) = [some 6, some 7] := rfl
  intro o ho e
  have : o.dst ∈ ((R 2).toList.map (·.dst)) := List.mem_map.2 ⟨o, ho, rfl⟩
  rw [h, e] at this
  simp at this
theorem wpOps_cons {F : Fence} {n : Nat} {P : Program} {ops : Array Oper} {Q : Exit → Act → World → Prop} {i : Nat} {rest : List Nat} {a : Act} {w : World} {o : Oper} (ho : ops[i]? = some o) (hw : Region.wanted o (yielded ops a.tmps) = true) (h : o.wpIn F n P a w (wpOpsIn F n P ops Q rest) Q) : wpOpsIn F n P ops Q (i :: rest) a w := by
  simp only [wpOpsIn, ho, hw, if_true]; exact h
theorem h2 (a : Act) (w : World) (Q : Exit → Act → World → Prop) (hs : 5 < a.tmps.size) (h : Q .normal { (a.put (some 5) (.func (.func 85) #[] #[a.tmps.getD 2 undef])) with defers := { target := .fn (.func 85) #[a.tmps.getD 2 undef], args := #[] } :: a.defers } w) : (Code.region 1 (R 1) false).wpIn (WF none) 0 Tryz.prog Q a w := by
  refine wpIn_region ?_
  show wpOpsIn (WF none) 0 Tryz.prog (R 1) Q [0, 1] a w
  obtain ⟨t0, p0, f0, e0⟩ : ∃ t p f, (R 1)[0]? = some { dst := some 5, op := .makeFunc (.func 85) #[] #[.tmp 2], type := t, pos := p, after := f, guard := none } := ⟨_, _, _, rfl⟩
  obtain ⟨t1, p1, f1, e1⟩ : ∃ t p f, (R 1)[1]? = some { dst := none, op := .defer { callee := .value (.tmp 5), args := #[], argTypes := #[] }, type := t, pos := p, after := f, guard := none } := ⟨_, _, _, rfl⟩
  have q2 : a.eval (.tmp 2) = a.tmps.getD 2 undef := rfl
  refine wpOps_cons e0 rfl ⟨fun _ _ => trivial, ?_⟩
  rw [show Oper.semAt (WF none).round a.eval { dst := some 5, op := .makeFunc (.func 85) #[] #[.tmp 2], type := t0, pos := p0, after := f0, guard := none } = (do pure (.value (← Instr.makeFunc (.func 85) #[] #[a.eval (.tmp 2)])) : Sem Next) by simp [Oper.semAt, WF, execOp]]
  show wpOpsIn (WF none) 0 Tryz.prog (R 1) Q [1] (a.put (some 5) (.func (.func 85) #[] #[a.tmps.getD 2 undef])) w
  generalize hb : a.put (some 5) (.func (.func 85) #[] #[a.tmps.getD 2 undef]) = b at h
  have q5 : b.eval (.tmp 5) = .func (.func 85) #[] #[a.tmps.getD 2 undef] := by
    rw [← hb]
    simp [Act.eval, Act.put, hs]
  have qd : b.defers = a.defers := by rw [← hb]; rfl
  refine wpOps_cons e1 rfl ⟨fun _ _ => trivial, ?_⟩
  rw [show Oper.semAt (WF none).round b.eval { dst := none, op := .defer { callee := .value (.tmp 5), args := #[], argTypes := #[] }, type := t1, pos := p1, after := f1, guard := none } = (do pure (.defer (← Deferred.ofValue (b.eval (.tmp 5)) #[])) : Sem Next) by simp [Oper.semAt, WF, Fence.wide, execOp, resolve]]
  rw [q5]
  show Q .normal { b with defers := { target := .fn (.func 85) #[a.tmps.getD 2 undef], args := #[] } :: b.defers } w
  rw [qd]; exact h
def l0 : List CO := [⟨(some 2), none, .newz [(.bool false)]⟩]
def l1 : List CO := [⟨(some 5), none, .fn 85 [] [(.tmp 2)]⟩, ⟨none, none, .bad⟩]
def l2 : List CO := [⟨(some 6), none, .mov (.tmp 0)⟩, ⟨(some 7), none, .call (.func 86) [(.tmp 6), (.const (.int .i64 0)), (.const (.slice none 0 0))]⟩]
def l3 : List CO := [⟨(some 9), none, .mov (.tmp 0)⟩, ⟨(some 10), none, .nilck (.tmp 9)⟩, ⟨(some 11), none, .fad (.tmp 10) 3⟩, ⟨(some 12), none, .fad (.tmp 11) 0⟩, ⟨(some 13), none, .ld1 (.tmp 12)⟩, ⟨(some 14), none, .call (.func 33) [(.tmp 13)]⟩, ⟨(some 8), none, .mov (.tmp 14)⟩, ⟨(some 15), none, .ext (.tmp 8) 0⟩, ⟨(some 16), none, .ext (.tmp 8) 1⟩, ⟨(some 3), none, .mov (.tmp 15)⟩, ⟨(some 4), none, .mov (.tmp 16)⟩]
def l4 : List CO := [⟨(some 17), none, .mov (.tmp 4)⟩, ⟨(some 18), none, .bin .eql (.tmp 17) (.const (.int .i64 0))⟩, ⟨none, none, .st 1 (.tmp 2) (.tmp 18)⟩]
theorem k0 : compOps Tryz.prog (R 0) (R 0).toList = some l0 := by kernel_rfl
theorem k2 : compOps Tryz.prog (R 2) (R 2).toList = some l2 := by kernel_rfl
theorem k3 : compOps Tryz.prog (R 3) (R 3).toList = some l3 := by kernel_rfl
theorem k4 : compOps Tryz.prog (R 4) (R 4).toList = some l4 := by kernel_rfl
theorem hrs : compRs Tryz.prog Tryz.f43.results.toList = some [.cell1 2] := by kernel_rfl
theorem need_panics {base : Nat} {H : Hp} {ρ : Ren} {w : World} (hH : HRel Tryz.prog base ρ H w) : PanicOK Tryz.prog base V ρ H w H 131 #[.bool false] :=
  ⟨hneed _ w, callsIn_wide.2 ((need_calls w).mono fun e w' ⟨h1, h2⟩ => by subst h2; exact ⟨h1, ρ, Sim.refl hH⟩)⟩
/-- the call of show -/
theorem show_sim {base : Nat} {O : Oracle} {pf : PF} (hO : OSound Tryz.prog base O) (hP : PSound Tryz.prog base V pf) {args args' : Array Value} {H H' : Hp} {v : Value} (hv : showA O pf 19 85 l0 l2 l3 l4 args H = some (v, H')) {ρ : Ren} {w : World} (hH : HRel Tryz.prog base ρ H w) (hG : GRel Tryz.prog ρ) (ha : VsRel ρ args.toList args'.toList) : EnterOK Tryz.prog base ρ H w v H' (callFunc 43 args') :=
  showA_sim hO hP Tryz.func43 hrun hbody hrs k0 k2 k3 k4 hd3 h2 hinv clo_panics clo_idle hv hH hG ha
end Go.Proofs.YtiblfhiiombfcaaGreatDoor.shw
