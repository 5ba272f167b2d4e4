/- A calculus of what the interpreter comes to: symbolic states, statements, operations, calls. By an AI agent. No person has read it. -/
import Derived.Test.YtfonnebpnobomaaDoorAm3
import Derived.Lib.RuneCount
/- A calculus of what the interpreter comes to: statements, operations, calls. -/
namespace Go.Proofs.YtfonnebpnobomaaDoor.Am
open Go

/-- the computation comes to r, whatever the fuel is beyond some number -/
def Comes {α : Type} (f : Nat → Option α) (r : α) : Prop := ∃ N, ∀ n, N ≤ n → f n = some r

theorem Comes.of {α : Type} {f : Nat → Option α} {r : α} (h : ∀ n, f n = some r) : Comes f r := ⟨0, fun n _ => h n⟩
theorem Comes.two {α β γ : Type} {f : Nat → Option α} {g : Nat → Option β} {k : Nat → Option γ} {r : α} {s : β} {t : γ} (hf : Comes f r) (hg : Comes g s) (h : ∀ n, f n = some r → g n = some s → k n = some t) : Comes k t := by
  obtain ⟨N, hN⟩ := hf
  obtain ⟨M, hM⟩ := hg
  exact ⟨N + M, fun n hn => h n (hN n (by omega)) (hM n (by omega))⟩
theorem Comes.one {α γ : Type} {f : Nat → Option α} {k : Nat → Option γ} {r : α} {t : γ} (hf : Comes f r) (h : ∀ n, f n = some r → k n = some t) : Comes k t := by
  obtain ⟨N, hN⟩ := hf
  exact ⟨N, fun n hn => h n (hN n hn)⟩

def Wp (E : Env) (c : CC) (F : Fr) (H : Hp) (Q : Ex → Fr → Hp → Prop) : Prop :=
  ∃ e F' H', Comes (fun n => exec (oracle E n) n c F H) (e, F', H') ∧ Q e F' H'
def WpO (E : Env) (l : List CO) (F : Fr) (H : Hp) (Q : Fr → Hp → Prop) : Prop :=
  ∃ F' H', Comes (fun n => opsA (oracle E n) l F H) (F', H') ∧ Q F' H'
def WpD (E : Env) (l : List CO) (F : Fr) (H : Hp) (Q : List Did → Fr → Hp → Prop) : Prop :=
  ∃ d F' H', Comes (fun n => drawA (oracle E n) l F H) (d, F', H') ∧ Q d F' H'
def WpC (E : Env) (f : FuncId) (args : Array Value) (H : Hp) (Q : Value → Hp → Prop) : Prop :=
  ∃ v H', Comes (fun n => call E n f args H) (v, H') ∧ Q v H'
def WpV (E : Env) (fv : Value) (args : List Value) (H : Hp) (Q : Value → Hp → Prop) : Prop :=
  ∃ v H', Comes (fun n => callV (oracle E n) H fv args) (v, H') ∧ Q v H'

variable {E : Env}

theorem Wp.mono {c F H} {Q Q' : Ex → Fr → Hp → Prop} (h : Wp E c F H Q) (hq : ∀ e F' H', Q e F' H' → Q' e F' H') : Wp E c F H Q' := by
  obtain ⟨e, F', H', h1, h2⟩ := h
  exact ⟨e, F', H', h1, hq _ _ _ h2⟩
theorem WpO.mono {c F H} {Q Q' : Fr → Hp → Prop} (h : WpO E c F H Q) (hq : ∀ F' H', Q F' H' → Q' F' H') : WpO E c F H Q' := by
  obtain ⟨F', H', h1, h2⟩ := h
  exact ⟨F', H', h1, hq _ _ h2⟩
theorem WpC.mono {f args H} {Q Q' : Value → Hp → Prop} (h : WpC E f args H Q) (hq : ∀ v H', Q v H' → Q' v H') : WpC E f args H Q' := by
  obtain ⟨v, H', h1, h2⟩ := h
  exact ⟨v, H', h1, hq _ _ h2⟩
theorem WpV.mono {f args H} {Q Q' : Value → Hp → Prop} (h : WpV E f args H Q) (hq : ∀ v H', Q v H' → Q' v H') : WpV E f args H Q' := by
  obtain ⟨v, H', h1, h2⟩ := h
  exact ⟨v, H', h1, hq _ _ h2⟩

/-! ### Statements -/
def kSeq (E : Env) (b : CC) (Q : Ex → Fr → Hp → Prop) : Ex → Fr → Hp → Prop
  | .normal, F, H => Wp E b F H Q
  | e, F, H => Q e F H
def kBlock (id : Nat) (Q : Ex → Fr → Hp → Prop) : Ex → Fr → Hp → Prop
  | .exit id', F, H => cond (Nat.beq id' id) (Q .normal F H) (Q (.exit id') F H)
  | e, F, H => Q e F H
def kLoop (I : Nat → Fr → Hp → Prop) (k : Nat) (Q : Ex → Fr → Hp → Prop) : Ex → Fr → Hp → Prop
  | .normal, F, H => ∃ j, j < k ∧ I j F H
  | e, F, H => Q e F H
def kScope (Q : Ex → Fr → Hp → Prop) : Ex → Fr → Hp → Prop
  | .goto _, _, _ => False
  | e, F, H => Q e F H

section
variable {b : CC} {Q : Ex → Fr → Hp → Prop} {F : Fr} {H : Hp}
theorem kSeq_normal (h : Wp E b F H Q) : kSeq E b Q .normal F H := h
theorem kSeq_exit {i : Nat} (h : Q (.exit i) F H) : kSeq E b Q (.exit i) F H := h
theorem kSeq_ret (h : Q .ret F H) : kSeq E b Q .ret F H := h
theorem kSeq_goto {i : Nat} (h : Q (.goto i) F H) : kSeq E b Q (.goto i) F H := h
theorem kBlock_normal {id : Nat} (h : Q .normal F H) : kBlock id Q .normal F H := h
theorem kBlock_ret {id : Nat} (h : Q .ret F H) : kBlock id Q .ret F H := h
theorem kBlock_goto {id i : Nat} (h : Q (.goto i) F H) : kBlock id Q (.goto i) F H := h
theorem kBlock_exit {id : Nat} (h : Q .normal F H) : kBlock id Q (.exit id) F H := by
  have : Nat.beq id id = true := by simp
  simp only [kBlock, this]; exact h
theorem kBlock_out {id i : Nat} (hi : Nat.beq i id = false) (h : Q (.exit i) F H) : kBlock id Q (.exit i) F H := by
  simp only [kBlock, hi]; exact h
theorem kLoop_normal {I : Nat → Fr → Hp → Prop} {k : Nat} (j : Nat) (hj : j < k) (h : I j F H) : kLoop I k Q .normal F H := ⟨j, hj, h⟩
theorem kLoop_exit {I : Nat → Fr → Hp → Prop} {k : Nat} {i : Nat} (h : Q (.exit i) F H) : kLoop I k Q (.exit i) F H := h
theorem kLoop_ret {I : Nat → Fr → Hp → Prop} {k : Nat} (h : Q .ret F H) : kLoop I k Q .ret F H := h
theorem kScope_normal (h : Q .normal F H) : kScope Q .normal F H := h
theorem kScope_ret (h : Q .ret F H) : kScope Q .ret F H := h
theorem kScope_exit {i : Nat} (h : Q (.exit i) F H) : kScope Q (.exit i) F H := h

theorem wp_skip (h : Q .normal F H) : Wp E .skip F H Q := ⟨_, _, _, .of fun _ => rfl, h⟩
theorem wp_label {l} (h : Q .normal F H) : Wp E (.label l) F H Q := ⟨_, _, _, .of fun _ => rfl, h⟩
theorem wp_ret (h : Q .ret F H) : Wp E .ret F H Q := ⟨_, _, _, .of fun _ => rfl, h⟩
theorem wp_exit {i} (h : Q (.exit i) F H) : Wp E (.exit i) F H Q := ⟨_, _, _, .of fun _ => rfl, h⟩
theorem wp_goto {i} (h : Q (.goto i) F H) : Wp E (.goto i) F H Q := ⟨_, _, _, .of fun _ => rfl, h⟩

theorem wp_seq {a : CC} (h : Wp E a F H (kSeq E b Q)) : Wp E (.seq a b) F H Q := by
  obtain ⟨e, F1, H1, h1, h2⟩ := h
  cases e with
  | normal =>
    obtain ⟨e2, F2, H2, h3, h4⟩ := h2
    exact ⟨e2, F2, H2, h1.two h3 fun n x y => by simp only [exec, x]; exact y, h4⟩
  | exit i => exact ⟨_, _, _, h1.one fun n x => by simp only [exec, x], h2⟩
  | goto i => exact ⟨_, _, _, h1.one fun n x => by simp only [exec, x], h2⟩
  | ret => exact ⟨_, _, _, h1.one fun n x => by simp only [exec, x], h2⟩

theorem wp_true {c : Operand} {a : CC} (hc : F.eval c = .bool true) (h : Wp E a F H Q) : Wp E (.cond c a b) F H Q := by
  obtain ⟨e, F1, H1, h1, h2⟩ := h
  exact ⟨e, F1, H1, h1.one fun n x => by simp only [exec, hc]; exact x, h2⟩
theorem wp_false {c : Operand} {a : CC} (hc : F.eval c = .bool false) (h : Wp E b F H Q) : Wp E (.cond c a b) F H Q := by
  obtain ⟨e, F1, H1, h1, h2⟩ := h
  exact ⟨e, F1, H1, h1.one fun n x => by simp only [exec, hc]; exact x, h2⟩
theorem wp_cond {c : Operand} {a : CC} {p : Bool} (hc : F.eval c = .bool p) (h1 : p = true → Wp E a F H Q) (h2 : p = false → Wp E b F H Q) : Wp E (.cond c a b) F H Q := by
  cases p
  · exact wp_false hc (h2 rfl)
  · exact wp_true hc (h1 rfl)

theorem wp_block {id : Nat} {c : CC} (h : Wp E c F H (kBlock id Q)) : Wp E (.block id c) F H Q := by
  obtain ⟨e, F1, H1, h1, h2⟩ := h
  cases e with
  | normal => exact ⟨_, _, _, h1.one fun n x => by simp only [exec, x], h2⟩
  | exit i =>
    simp only [kBlock] at h2
    cases hi : Nat.beq i id with
    | true => simp only [hi] at h2; exact ⟨_, _, _, h1.one fun n x => by simp only [exec, x, hi]; rfl, h2⟩
    | false => simp only [hi] at h2; exact ⟨_, _, _, h1.one fun n x => by simp only [exec, x, hi]; rfl, h2⟩
  | goto i => exact ⟨_, _, _, h1.one fun n x => by simp only [exec, x], h2⟩
  | ret => exact ⟨_, _, _, h1.one fun n x => by simp only [exec, x], h2⟩

theorem wp_scope {c : CC} (h : Wp E c F H (kScope Q)) : Wp E (.scope c) F H Q := by
  obtain ⟨e, F1, H1, h1, h2⟩ := h
  cases e with
  | normal => exact ⟨_, _, _, h1.one fun n x => by simp only [exec, x], h2⟩
  | exit i => exact ⟨_, _, _, h1.one fun n x => by simp only [exec, x], h2⟩
  | goto i => exact h2.elim
  | ret => exact ⟨_, _, _, h1.one fun n x => by simp only [exec, x], h2⟩

theorem iter_comes {c : CC} (I : Nat → Fr → Hp → Prop)
    (step : ∀ k F H, I k F H → Wp E c F H (kLoop I k Q)) : ∀ k F H, I k F H →
    ∃ e F' H', (∃ N, ∀ n, N ≤ n → ∀ m, N ≤ m → iterA (exec (oracle E n) n c) m F H = some (e, F', H')) ∧ Q e F' H' := by
  intro k
  induction k using Nat.strongRecOn with
  | ind k ih =>
    intro F H hI
    obtain ⟨e, F1, H1, ⟨N, hN⟩, h2⟩ := step k F H hI
    have other : Q e F1 H1 → e ≠ .normal → ∃ e F' H', (∃ N, ∀ n, N ≤ n → ∀ m, N ≤ m → iterA (exec (oracle E n) n c) m F H = some (e, F', H')) ∧ Q e F' H' := by
      intro hq hne
      refine ⟨e, F1, H1, ⟨N + 1, fun n hn m hm => ?_⟩, hq⟩
      obtain ⟨m, rfl⟩ : ∃ m', m = m' + 1 := ⟨m - 1, by omega⟩
      have := hN n (by omega)
      simp only at this
      simp only [iterA, this]
      try (split <;> simp_all)
    cases e with
    | normal =>
      obtain ⟨j, hj, hI1⟩ := h2
      obtain ⟨e2, F2, H2, ⟨M, hM⟩, hq⟩ := ih j hj F1 H1 hI1
      refine ⟨e2, F2, H2, ⟨N + M + 1, fun n hn m hm => ?_⟩, hq⟩
      obtain ⟨m, rfl⟩ : ∃ m', m = m' + 1 := ⟨m - 1, by omega⟩
      have := hN n (by omega)
      simp only at this
      simp only [iterA, this]
      exact hM n (by omega) m (by omega)
    | exit i => exact other h2 (by simp)
    | goto i => exact other h2 (by simp)
    | ret => exact other h2 (by simp)

/-- a loop: the measure goes down -/
theorem wp_loop {c : CC} (I : Nat → Fr → Hp → Prop) (k : Nat) (h0 : I k F H)
    (step : ∀ k F H, I k F H → Wp E c F H (kLoop I k Q)) : Wp E (.loop c) F H Q := by
  obtain ⟨e, F1, H1, ⟨N, hN⟩, h2⟩ := iter_comes I step k F H h0
  exact ⟨e, F1, H1, ⟨N, fun n hn => by simp only [exec]; exact hN n hn n hn⟩, h2⟩

theorem wp_ops {l : List CO} (h : WpO E l F H (fun F1 H1 => Q .normal F1 H1)) : Wp E (.ops l) F H Q := by
  obtain ⟨F1, H1, h1, h2⟩ := h
  exact ⟨_, _, _, h1.one fun n x => by simp only [exec, x], h2⟩
theorem wp_draw {l : List CO} {un : List (Nat × Nat)} (h : WpD E l F H (fun d F1 H1 => apart un d = true ∧ Q .normal F1 H1)) : Wp E (.draw l un) F H Q := by
  obtain ⟨d, F1, H1, h1, h2, h3⟩ := h
  exact ⟨_, _, _, h1.one fun n x => by simp only [exec, x, h2, if_true], h3⟩
end

/-! ### Operations -/
def COp.isCall : COp → Bool
  | .call _ _ => true
  | _ => false
/-- an operation that is no call -/
def opN (F : Fr) (H : Hp) (o : COp) : Option (Value × Hp) := if o.isPure then (pureOp F o).map fun v => (v, H) else memOp F H o
theorem opA_of_opN {O : Oracle} {F : Fr} {H : Hp} {o : COp} {r : Value × Hp} (h : opN F H o = some r) : opA O F H o = some r := by
  cases o <;> first | exact h | (simp [opN, COp.isPure, memOp] at h)

section
variable {F : Fr} {H : Hp} {dst : Option Nat} {o : COp} {r : List CO} {Q : Fr → Hp → Prop}
theorem wpO_nil (h : Q F H) : WpO E [] F H Q := ⟨_, _, .of fun _ => rfl, h⟩
theorem wpO_op {v : Value} {H1 : Hp} {F1 : Fr} (ho : opN F H o = some (v, H1)) (hd : F.put dst v = some F1) (h : WpO E r F1 H1 Q) : WpO E (⟨dst, none, o⟩ :: r) F H Q := by
  obtain ⟨F2, H2, h1, h2⟩ := h
  exact ⟨F2, H2, h1.one fun n x => by simp only [opsA, wanted, opA_of_opN ho, hd]; exact x, h2⟩
theorem wpO_guard_op {d : Nat} {b : Bool} {v : Value} {H1 : Hp} {F1 : Fr} (hg : F.get d = .bool b) (ho : opN F H o = some (v, H1)) (hd : F.put dst v = some F1) (h : WpO E r F1 H1 Q) : WpO E (⟨dst, some (d, b), o⟩ :: r) F H Q := by
  obtain ⟨F2, H2, h1, h2⟩ := h
  exact ⟨F2, H2, h1.one fun n x => by simp only [opsA, wanted, hg, beq_self_eq_true, opA_of_opN ho, hd]; exact x, h2⟩
theorem wpO_guard_not {d : Nat} {b : Bool} {F1 : Fr} (hg : F.get d = .bool !b) (hd : F.put dst undef = some F1) (h : WpO E r F1 H Q) : WpO E (⟨dst, some (d, b), o⟩ :: r) F H Q := by
  obtain ⟨F2, H2, h1, h2⟩ := h
  have : ((!b) == b) = false := by cases b <;> rfl
  exact ⟨F2, H2, h1.one fun n x => by simp only [opsA, wanted, hg, this, hd]; exact x, h2⟩
theorem wpO_call {f : Operand} {as : List Operand} (h : WpV E (F.eval f) (as.map F.eval) H (fun v H1 => ∃ F1, F.put dst v = some F1 ∧ WpO E r F1 H1 Q)) : WpO E (⟨dst, none, .call f as⟩ :: r) F H Q := by
  obtain ⟨v, H1, h1, F1, h2, F2, H2, h3, h4⟩ := h
  exact ⟨F2, H2, h1.two h3 fun n x y => by simp only [opsA, wanted, opA, x, h2]; exact y, h4⟩
theorem wpO_guard_call {d : Nat} {b : Bool} {f : Operand} {as : List Operand} (hg : F.get d = .bool b) (h : WpV E (F.eval f) (as.map F.eval) H (fun v H1 => ∃ F1, F.put dst v = some F1 ∧ WpO E r F1 H1 Q)) : WpO E (⟨dst, some (d, b), .call f as⟩ :: r) F H Q := by
  obtain ⟨v, H1, h1, F1, h2, F2, H2, h3, h4⟩ := h
  exact ⟨F2, H2, h1.two h3 fun n x y => by simp only [opsA, wanted, hg, beq_self_eq_true, opA, x, h2]; exact y, h4⟩
end

/-- a heap whose writes are counted from here on -/
def Hp.fresh (H : Hp) : Hp := { tr := H.tr, size := H.size, low := H.size }
def Hp.lower (H : Hp) (l : Nat) : Hp := { tr := H.tr, size := H.size, low := Nat.min l H.low }
section
variable {F : Fr} {H : Hp} {dst : Option Nat} {o : COp} {r : List CO} {Q : List Did → Fr → Hp → Prop}
theorem wpD_nil (h : Q [] F H) : WpD E [] F H Q := ⟨_, _, _, .of fun _ => rfl, h⟩
theorem wpD_op {v : Value} {H1 : Hp} {F1 : Fr} (ho : opN F H.fresh o = some (v, H1)) (hd : F.put dst v = some F1)
    (h : WpD E r F1 (H1.lower H.low) fun d => Q (didOf F H.size H1.low o :: d)) : WpD E (⟨dst, none, o⟩ :: r) F H Q := by
  obtain ⟨d, F2, H2, h1, h2⟩ := h
  refine ⟨_, F2, H2, h1.one fun n x => ?_, h2⟩
  have := opA_of_opN (O := oracle E n) ho
  simp only [Hp.fresh] at this
  simp only [drawA, wanted, this, hd]
  rw [show ({ tr := H1.tr, size := H1.size, low := H.low.min H1.low } : Hp) = H1.lower H.low from rfl, x]
theorem wpD_guard_op {g : Nat} {b : Bool} {v : Value} {H1 : Hp} {F1 : Fr} (hg : F.get g = .bool b) (ho : opN F H.fresh o = some (v, H1)) (hd : F.put dst v = some F1)
    (h : WpD E r F1 (H1.lower H.low) fun d => Q (didOf F H.size H1.low o :: d)) : WpD E (⟨dst, some (g, b), o⟩ :: r) F H Q := by
  obtain ⟨d, F2, H2, h1, h2⟩ := h
  refine ⟨_, F2, H2, h1.one fun n x => ?_, h2⟩
  have := opA_of_opN (O := oracle E n) ho
  simp only [Hp.fresh] at this
  simp only [drawA, wanted, hg, beq_self_eq_true, this, hd]
  rw [show ({ tr := H1.tr, size := H1.size, low := H.low.min H1.low } : Hp) = H1.lower H.low from rfl, x]
theorem wpD_guard_not {g : Nat} {b : Bool} {F1 : Fr} (hg : F.get g = .bool !b) (hd : F.put dst undef = some F1)
    (h : WpD E r F1 H fun d => Q (.quiet :: d)) : WpD E (⟨dst, some (g, b), o⟩ :: r) F H Q := by
  obtain ⟨d, F2, H2, h1, h2⟩ := h
  have hb : ((!b) == b) = false := by cases b <;> rfl
  exact ⟨_, F2, H2, h1.one fun n x => by simp only [drawA, wanted, hg, hb, hd, x], h2⟩
theorem wpD_call {f : Operand} {as : List Operand}
    (h : WpV E (F.eval f) (as.map F.eval) H.fresh (fun v H1 => ∃ F1, F.put dst v = some F1 ∧ WpD E r F1 (H1.lower H.low) fun d => Q (didOf F H.size H1.low (.call f as) :: d))) : WpD E (⟨dst, none, .call f as⟩ :: r) F H Q := by
  obtain ⟨v, H1, h1, F1, h2, d, F2, H2, h3, h4⟩ := h
  refine ⟨_, F2, H2, h1.two h3 fun n x y => ?_, h4⟩
  simp only [Hp.fresh] at x
  simp only [drawA, wanted, opA, x, h2]
  rw [show ({ tr := H1.tr, size := H1.size, low := H.low.min H1.low } : Hp) = H1.lower H.low from rfl, y]
theorem wpD_guard_call {g : Nat} {b : Bool} {f : Operand} {as : List Operand} (hg : F.get g = .bool b)
    (h : WpV E (F.eval f) (as.map F.eval) H.fresh (fun v H1 => ∃ F1, F.put dst v = some F1 ∧ WpD E r F1 (H1.lower H.low) fun d => Q (didOf F H.size H1.low (.call f as) :: d))) : WpD E (⟨dst, some (g, b), .call f as⟩ :: r) F H Q := by
  obtain ⟨v, H1, h1, F1, h2, d, F2, H2, h3, h4⟩ := h
  refine ⟨_, F2, H2, h1.two h3 fun n x y => ?_, h4⟩
  simp only [Hp.fresh] at x
  simp only [drawA, wanted, hg, beq_self_eq_true, opA, x, h2]
  rw [show ({ tr := H1.tr, size := H1.size, low := H.low.min H1.low } : Hp) = H1.lower H.low from rfl, y]
end

/-! ### Calls -/
theorem wpV_func {g : FuncId} {first cap : Array Value} {args : List Value} {H : Hp} {Q : Value → Hp → Prop} (h : WpC E g (first ++ args.toArray ++ cap) H Q) : WpV E (.func (.func g) first cap) args H Q := h

def kCall (rs : List CR) (Q : Value → Hp → Prop) : Ex → Fr → Hp → Prop := fun e F1 H1 => (e = .normal ∨ e = .ret) ∧ ∃ v H2, leaveA rs F1 H1 = some (v, H2) ∧ Q v H2
theorem kCall_normal {rs : List CR} {Q : Value → Hp → Prop} {F : Fr} {H H2 : Hp} {v : Value} (h : leaveA rs F H = some (v, H2)) (hq : Q v H2) : kCall rs Q .normal F H := ⟨.inl rfl, _, _, h, hq⟩
theorem kCall_ret {rs : List CR} {Q : Value → Hp → Prop} {F : Fr} {H H2 : Hp} {v : Value} (h : leaveA rs F H = some (v, H2)) (hq : Q v H2) : kCall rs Q .ret F H := ⟨.inr rfl, _, _, h, hq⟩

theorem wpC_body {f : FuncId} {cf : CF} {args : Array Value} {H : Hp} {Q : Value → Hp → Prop} (hc : E.code f = some cf) (hs : args.size ≤ cf.n)
    (h : Wp E cf.body (Fr.ofArgs args cf.n) H (kCall cf.rs Q)) : WpC E f args H Q := by
  obtain ⟨e, F1, H1, ⟨N, hN⟩, he, v, H2, hl, hq⟩ := h
  refine ⟨v, H2, ⟨N + 1, fun n hn => ?_⟩, hq⟩
  obtain ⟨m, rfl⟩ : ∃ m, n = m + 1 := ⟨n - 1, by omega⟩
  have hm := hN m (by omega)
  simp only at hm
  simp only [call, oracle, hc, callBody, Nat.not_lt.mpr hs, if_false, hm]
  rcases he with rfl | rfl <;> exact hl

theorem wpC_prim {f : FuncId} {args : Array Value} {H H1 : Hp} {v : Value} {Q : Value → Hp → Prop} (hc : E.code f = none) (hp : E.prim f args H = some (v, H1)) (hq : Q v H1) : WpC E f args H Q :=
  ⟨v, H1, ⟨1, fun n hn => by
    obtain ⟨m, rfl⟩ : ∃ m, n = m + 1 := ⟨n - 1, by omega⟩
    simp only [call, oracle, hc, hp]⟩, hq⟩
end Go.Proofs.YtfonnebpnobomaaDoor.Am
/- Symbolic states: what is known of a frame (a list) and of the memory that is the call's own (a list). Rules, one for one. -/
namespace Go.Proofs.YtfonnebpnobomaaDoor.Am
open Go

abbrev Ls := List (Nat × Value)
abbrev Ms := List (Nat × Blk)
def look : Ls → Nat → Option Value
  | [], _ => none
  | (j, v) :: r, k => cond (Nat.beq j k) (some v) (look r k)
def evL (L : Ls) : Operand → Option Value
  | .tmp t => look L t
  | .const v => some v
  | .global g => some (.pointer (some ⟨g, 0, none⟩))
  | .func f => some (.func (.func f) #[] #[])

/-- what is known of a frame -/
structure SF (F : Fr) (n : Nat) (L : Ls) : Prop where
  n : F.n = n
  marks : F.marks = []
  round : F.round = false
  val : ∀ k v, look L k = some v → F.get k = v

/-- what has become of the memory H0: the blocks of S may be other ones, and of the blocks M (those of S among them, and new ones) this is known -/
structure St (H0 : Hp) (S : List Nat) (H : Hp) (M : Ms) : Prop where
  size : H0.size ≤ H.size
  old : ∀ b, b < H0.size → b ∉ S → H.get b = H0.get b
  low : ∀ l, l ≤ H0.low → l ≤ H0.size → (∀ s ∈ S, l ≤ s) → l ≤ H.low
  here : ∀ b x, (b, x) ∈ M → H.get b = x ∧ b < H.size ∧ (H0.size ≤ b ∨ b ∈ S)
  diff : (M.map Prod.fst).Nodup

theorem St.refl (H : Hp) (S : List Nat) : St H S H [] := ⟨Nat.le_refl _, fun _ _ _ => rfl, fun _ h _ _ => h, fun _ _ h => (by cases h), .nil⟩

theorem SF.ev {F : Fr} {n : Nat} {L : Ls} (h : SF F n L) {x : Operand} {v : Value} (hx : evL L x = some v) : F.eval x = v := by
  cases x with
  | tmp t => exact h.val t v hx
  | const c => cases hx; rfl
  | global g => cases hx; rfl
  | func f => cases hx; rfl
theorem SF.set {F : Fr} {n : Nat} {L : Ls} (h : SF F n L) {d : Nat} {v : Value} (hd : Nat.blt d n = true) : F.put (some d) v = some (F.set d v) ∧ SF (F.set d v) n ((d, v) :: L) := by
  have hd' : d < F.n := by rw [h.n]; exact Nat.le_of_ble_eq_true hd
  refine ⟨by rw [Fr.put_some, if_pos hd'], by rw [Fr.n_set]; exact h.n, by rw [Fr.marks_set]; exact h.marks, by rw [Fr.round_set]; exact h.round, fun k w hk => ?_⟩
  rw [Fr.get_set]
  simp only [look] at hk
  by_cases e : d = k
  · subst e
    have : Nat.beq d d = true := by simp
    rw [this] at hk; cases hk; simp
  · have : Nat.beq d k = false := by
      cases hb : Nat.beq d k with
      | false => rfl
      | true => exact absurd (Nat.eq_of_beq_eq_true hb) e
    rw [this] at hk
    rw [if_neg (fun h => e h.symm)]
    exact h.val k w hk
theorem SF.mono {F : Fr} {n : Nat} {L L' : Ls} (h : SF F n L) (hl : ∀ x ∈ L', look L x.1 = some x.2) : SF F n L' := by
  refine ⟨h.n, h.marks, h.round, fun k v hk => h.val k v ?_⟩
  have : ∀ (l : Ls), look l k = some v → (k, v) ∈ l := by
    intro l
    induction l with
    | nil => intro h; cases h
    | cons x r ih =>
      obtain ⟨j, w⟩ := x
      intro h
      simp only [look] at h
      cases hb : Nat.beq j k with
      | true => rw [hb] at h; cases h; have := Nat.eq_of_beq_eq_true hb; subst this; exact List.mem_cons_self
      | false => rw [hb] at h; exact List.mem_cons_of_mem _ (ih h)
  exact hl _ (this L' hk)

/-! ### Judgements -/
/-- an operation that has written nothing that lay there -/
def calm : Did → Bool
  | .quiet => true
  | .known _ none => true
  | .other false => true
  | _ => false
theorem compat_calm {x y : Did} (hx : calm x = true) (hy : calm y = true) : compat x y = true := by
  cases x with
  | quiet => rfl
  | known t w => cases w with
    | some b => cases hx
    | none => cases y with
      | quiet => rfl
      | known t' w' => cases w' with
        | some b => cases hy
        | none => rfl
      | other b => cases b with
        | true => cases hy
        | false => rfl
  | other b => cases b with
    | true => cases hx
    | false => cases y with
      | quiet => rfl
      | known t' w' => cases w' with
        | some b => cases hy
        | none => rfl
      | other b => cases b with
        | true => cases hy
        | false => rfl
theorem apart_calm {un : List (Nat × Nat)} {l : List Did} (hl : ∀ x ∈ l, calm x = true) (hu : ∀ p ∈ un, p.1 < l.length ∧ p.2 < l.length) : apart un l = true := by
  unfold apart
  rw [List.all_eq_true]
  rintro ⟨i, j⟩ hp
  obtain ⟨h1, h2⟩ := hu _ hp
  simp only [List.getElem?_eq_getElem h1, List.getElem?_eq_getElem h2]
  exact compat_calm (hl _ (List.getElem_mem h1)) (hl _ (List.getElem_mem h2))
/-- a region that draws: which of its operations must have written nothing that lay there -/
abbrev Dr := Option (List Bool)
def Dr.next : Dr → Dr
  | none => none
  | some fl => some fl.tail
def CalmL : List Bool → List Did → Prop
  | _, [] => True
  | [], d :: ds => calm d = true ∧ CalmL [] ds
  | f :: fl, d :: ds => (f = true → calm d = true) ∧ CalmL fl ds
theorem CalmL.cons {fl : List Bool} {d : Did} {ds : List Did} (h : calm d = true) (k : CalmL fl.tail ds) : CalmL fl (d :: ds) := by
  cases fl with
  | nil => exact ⟨h, k⟩
  | cons f fl => exact ⟨fun _ => h, k⟩
theorem CalmL.free {fl : List Bool} {d : Did} {ds : List Did} (h : fl.headD true = false) (k : CalmL fl.tail ds) : CalmL fl (d :: ds) := by
  cases fl with
  | nil => cases h
  | cons f fl =>
    simp only [List.headD_cons] at h
    exact ⟨fun e => (by rw [h] at e; cases e), k⟩
theorem CalmL.get : ∀ {fl : List Bool} {ds : List Did} {i : Nat} {d : Did}, CalmL fl ds → fl[i]? = some true → ds[i]? = some d → calm d = true := by
  intro fl ds
  induction ds generalizing fl with
  | nil => intro i d _ _ h; simp at h
  | cons x ds ih =>
    intro i d h h1 h2
    cases fl with
    | nil => simp at h1
    | cons f fl =>
      cases i with
      | zero =>
        simp only [List.getElem?_cons_zero, Option.some.injEq] at h1 h2
        subst h1; subst h2; exact h.1 rfl
      | succ i =>
        simp only [List.getElem?_cons_succ] at h1 h2
        exact ih h.2 h1 h2
theorem apart_flags {un : List (Nat × Nat)} {fl : List Bool} {l : List Did} (hl : CalmL fl l) (hu : ∀ p ∈ un, p.1 < l.length ∧ p.2 < l.length ∧ fl[p.1]? = some true ∧ fl[p.2]? = some true) : apart un l = true := by
  unfold apart
  rw [List.all_eq_true]
  rintro ⟨i, j⟩ hp
  obtain ⟨h1, h2, h3, h4⟩ := hu _ hp
  have g1 := List.getElem?_eq_getElem h1
  have g2 := List.getElem?_eq_getElem h2
  simp only [g1, g2]
  exact compat_calm (hl.get h3 g1) (hl.get h4 g2)
section
variable (E : Env) (n : Nat) (H0 : Hp) (S : List Nat)
/-- operations; in a region that draws ('dr') none may write what lay there -/
structure So (dr : Dr) (l : List CO) (L : Ls) (M : Ms) (Q : Ls → Ms → Prop) : Prop where
  run : ∀ F H, SF F n L → St H0 S H M → match dr with
    | none => WpO E l F H fun F1 H1 => ∃ L1 M1, SF F1 n L1 ∧ St H0 S H1 M1 ∧ Q L1 M1
    | some fl => WpD E l F H fun ds F1 H1 => CalmL fl ds ∧ ds.length = l.length ∧ ∃ L1 M1, SF F1 n L1 ∧ St H0 S H1 M1 ∧ Q L1 M1
structure Ss (c : CC) (L : Ls) (M : Ms) (Q : Ex → Ls → Ms → Prop) : Prop where
  run : ∀ F H, SF F n L → St H0 S H M → Wp E c F H fun e F1 H1 => ∃ L1 M1, SF F1 n L1 ∧ St H0 S H1 M1 ∧ Q e L1 M1
end
/-- a call: from the memory H0 on, in which S may be written -/
structure Sc (E : Env) (f : FuncId) (args : List Value) (H0 : Hp) (S : List Nat) (Q : Value → Ms → Prop) : Prop where
  run : WpC E f args.toArray H0 fun v H1 => ∃ M1, St H0 S H1 M1 ∧ Q v M1

def sSeq (E : Env) (n : Nat) (H0 : Hp) (S : List Nat) (b : CC) (Q : Ex → Ls → Ms → Prop) : Ex → Ls → Ms → Prop
  | .normal, L, M => Ss E n H0 S b L M Q
  | e, L, M => Q e L M
def sBlock (id : Nat) (Q : Ex → Ls → Ms → Prop) : Ex → Ls → Ms → Prop
  | .exit id', L, M => cond (Nat.beq id' id) (Q .normal L M) (Q (.exit id') L M)
  | e, L, M => Q e L M
def sLoop (I : Nat → Ls → Ms → Prop) (k : Nat) (Q : Ex → Ls → Ms → Prop) : Ex → Ls → Ms → Prop
  | .normal, L, M => ∃ j L' M', j < k ∧ (∀ x ∈ L', look L x.1 = some x.2) ∧ (∀ x ∈ M', x ∈ M) ∧ (M'.map Prod.fst).Nodup ∧ I j L' M'
  | e, L, M => Q e L M

variable {E : Env} {n : Nat} {H0 : Hp} {S : List Nat} {L : Ls} {M : Ms}

section
variable {b : CC} {Q : Ex → Ls → Ms → Prop}
theorem sSeq_normal (h : Ss E n H0 S b L M Q) : sSeq E n H0 S b Q .normal L M := h
theorem sSeq_exit {i : Nat} (h : Q (.exit i) L M) : sSeq E n H0 S b Q (.exit i) L M := h
theorem sSeq_ret (h : Q .ret L M) : sSeq E n H0 S b Q .ret L M := h
theorem sBlock_normal {id : Nat} (h : Q .normal L M) : sBlock id Q .normal L M := h
theorem sBlock_ret {id : Nat} (h : Q .ret L M) : sBlock id Q .ret L M := h
theorem sBlock_exit {id : Nat} (h : Q .normal L M) : sBlock id Q (.exit id) L M := by
  have : Nat.beq id id = true := by simp
  simp only [sBlock, this]; exact h
theorem sBlock_out {id i : Nat} (hi : Nat.beq i id = false) (h : Q (.exit i) L M) : sBlock id Q (.exit i) L M := by
  simp only [sBlock, hi]; exact h
theorem sLoop_exit {I : Nat → Ls → Ms → Prop} {k i : Nat} (h : Q (.exit i) L M) : sLoop I k Q (.exit i) L M := h
theorem sLoop_ret {I : Nat → Ls → Ms → Prop} {k : Nat} (h : Q .ret L M) : sLoop I k Q .ret L M := h
theorem sLoop_next {I : Nat → Ls → Ms → Prop} {k : Nat} (j : Nat) (L' : Ls) (M' : Ms) (hj : j < k) (hL : ∀ x ∈ L', look L x.1 = some x.2) (hM : ∀ x ∈ M', x ∈ M) (hN : (M'.map Prod.fst).Nodup) (h : I j L' M') : sLoop I k Q .normal L M := ⟨j, L', M', hj, hL, hM, hN, h⟩

theorem Ss.mono {c : CC} {Q Q' : Ex → Ls → Ms → Prop} (h : Ss E n H0 S c L M Q) (hq : ∀ e L M, Q e L M → Q' e L M) : Ss E n H0 S c L M Q' := .mk fun F H hF hH =>
  (h.run F H hF hH).mono fun e F1 H1 ⟨L1, M1, h1, h2, h3⟩ => ⟨L1, M1, h1, h2, hq _ _ _ h3⟩
theorem St.sub {H : Hp} {M' : Ms} (h : St H0 S H M) (hM : ∀ x ∈ M', x ∈ M) (hN : (M'.map Prod.fst).Nodup) : St H0 S H M' := ⟨h.size, h.old, h.low, fun b x hx => h.here b x (hM _ hx), hN⟩
theorem Ss.weaken {c : CC} {L' : Ls} {M' : Ms} (h : Ss E n H0 S c L' M' Q) (hL : ∀ x ∈ L', look L x.1 = some x.2) (hM : ∀ x ∈ M', x ∈ M) (hN : (M'.map Prod.fst).Nodup) : Ss E n H0 S c L M Q   := .mk fun F H hF hH => h.run F H (hF.mono hL) (hH.sub hM hN)

theorem s_skip (h : Q .normal L M) : Ss E n H0 S .skip L M Q := .mk fun _ _ hF hH => wp_skip ⟨L, M, hF, hH, h⟩
theorem s_ret (h : Q .ret L M) : Ss E n H0 S .ret L M Q := .mk fun _ _ hF hH => wp_ret ⟨L, M, hF, hH, h⟩
theorem s_exit {i : Nat} (h : Q (.exit i) L M) : Ss E n H0 S (.exit i) L M Q := .mk fun _ _ hF hH => wp_exit ⟨L, M, hF, hH, h⟩
theorem s_label {i : Nat} (h : Q .normal L M) : Ss E n H0 S (.label i) L M Q := .mk fun _ _ hF hH => wp_label ⟨L, M, hF, hH, h⟩
theorem s_seq {a : CC} (h : Ss E n H0 S a L M (sSeq E n H0 S b Q)) : Ss E n H0 S (.seq a b) L M Q := .mk fun F H hF hH => by
  refine wp_seq ((h.run F H hF hH).mono fun e F1 H1 ⟨L1, M1, h1, h2, h3⟩ => ?_)
  cases e with
  | normal => exact h3.run F1 H1 h1 h2
  | exit i => exact ⟨L1, M1, h1, h2, h3⟩
  | goto i => exact ⟨L1, M1, h1, h2, h3⟩
  | ret => exact ⟨L1, M1, h1, h2, h3⟩
theorem s_block {id : Nat} {c : CC} (h : Ss E n H0 S c L M (sBlock id Q)) : Ss E n H0 S (.block id c) L M Q := .mk fun F H hF hH => by
  refine wp_block ((h.run F H hF hH).mono fun e F1 H1 ⟨L1, M1, h1, h2, h3⟩ => ?_)
  cases e with
  | normal => exact ⟨L1, M1, h1, h2, h3⟩
  | exit i =>
    simp only [sBlock] at h3
    simp only [kBlock]
    cases hb : Nat.beq i id with
    | true => rw [hb] at h3; exact ⟨L1, M1, h1, h2, h3⟩
    | false => rw [hb] at h3; exact ⟨L1, M1, h1, h2, h3⟩
  | goto i => exact ⟨L1, M1, h1, h2, h3⟩
  | ret => exact ⟨L1, M1, h1, h2, h3⟩
theorem s_cond {c : Operand} {a : CC} {p : Bool} (hc : evL L c = some (.bool p)) (h1 : p = true → Ss E n H0 S a L M Q) (h2 : p = false → Ss E n H0 S b L M Q) : Ss E n H0 S (.cond c a b) L M Q := .mk fun F H hF hH =>
  wp_cond (hF.ev hc) (fun e => (h1 e).run F H hF hH) (fun e => (h2 e).run F H hF hH)
theorem s_loop {c : CC} (I : Nat → Ls → Ms → Prop) (k : Nat) (L' : Ls) (M' : Ms) (hL : ∀ x ∈ L', look L x.1 = some x.2) (hM : ∀ x ∈ M', x ∈ M) (hN : (M'.map Prod.fst).Nodup) (h0 : I k L' M')
    (step : ∀ k L M, I k L M → Ss E n H0 S c L M (sLoop I k Q)) : Ss E n H0 S (.loop c) L M Q := .mk fun F H hF hH => by
  refine wp_loop (fun k F H => ∃ L M, SF F n L ∧ St H0 S H M ∧ I k L M) k ⟨L', M', hF.mono hL, hH.sub hM hN, h0⟩ ?_
  rintro k F H ⟨L, M, h1, h2, h3⟩
  refine ((step k L M h3).run F H h1 h2).mono fun e F1 H1 ⟨L1, M1, h4, h5, h6⟩ => ?_
  cases e with
  | normal =>
    obtain ⟨j, L2, M2, hj, g1, g2, g3, g4⟩ := h6
    exact ⟨j, hj, L2, M2, h4.mono g1, h5.sub g2 g3, g4⟩
  | exit i => exact ⟨L1, M1, h4, h5, h6⟩
  | goto i => exact ⟨L1, M1, h4, h5, h6⟩
  | ret => exact ⟨L1, M1, h4, h5, h6⟩
theorem s_ops {l : List CO} (h : So E n H0 S none l L M fun L1 M1 => Q .normal L1 M1) : Ss E n H0 S (.ops l) L M Q := .mk fun F H hF hH =>
  wp_ops ((h.run F H hF hH).mono fun _ _ h => h)
theorem s_draw (fl : List Bool) {l : List CO} {un : List (Nat × Nat)} (hu : (un.all fun p => Nat.blt p.1 l.length && Nat.blt p.2 l.length && (fl[p.1]?.getD false && fl[p.2]?.getD false)) = true) (h : So E n H0 S (some fl) l L M fun L1 M1 => Q .normal L1 M1) : Ss E n H0 S (.draw l un) L M Q := .mk fun F H hF hH => by
  obtain ⟨d, F1, H1, h1, h2, h3, h4⟩ := h.run F H hF hH
  have get : ∀ {o : Option Bool}, o.getD false = true → o = some true := fun {o} h => by cases o with
    | none => cases h
    | some b => cases b with
      | true => rfl
      | false => cases h
  refine wp_draw ⟨d, F1, H1, h1, apart_flags h2 fun p hp => ?_, h4⟩
  have := List.all_eq_true.1 hu p hp
  rw [Bool.and_eq_true, Bool.and_eq_true, Bool.and_eq_true] at this
  rw [h3]
  exact ⟨Nat.le_of_ble_eq_true this.1.1, Nat.le_of_ble_eq_true this.1.2, get this.2.1, get this.2.2⟩
end

/-! ### Operations -/
theorem St.fresh {H : Hp} (h : St H0 S H M) : St H0 S H.fresh M := ⟨h.size, h.old, fun _ _ h2 _ => Nat.le_trans h2 h.size, h.here, h.diff⟩
theorem St.lower {H H1 : Hp} {M1 : Ms} (h : St H0 S H M) (h1 : St H0 S H1 M1) : St H0 S (H1.lower H.low) M1 := ⟨h1.size, h1.old, fun l a b c => by
  have h2 := h.low l a b c
  have h3 := h1.low l a b c
  show l ≤ min H.low H1.low
  omega, h1.here, h1.diff⟩
section
variable {dr : Dr} {d : Nat} {r : List CO} {Q : Ls → Ms → Prop} {x y : Operand} {v : Value}
theorem o_nil (h : Q L M) : So E n H0 S dr [] L M Q := .mk fun _ _ hF hH => by
  cases dr
  · exact wpO_nil ⟨L, M, hF, hH, h⟩
  · exact wpD_nil ⟨trivial, rfl, L, M, hF, hH, h⟩
theorem WpD.mono {l : List CO} {F : Fr} {H : Hp} {Q Q' : List Did → Fr → Hp → Prop} (h : WpD E l F H Q) (hq : ∀ d F' H', Q d F' H' → Q' d F' H') : WpD E l F H Q' := by
  obtain ⟨d, F', H', h1, h2⟩ := h
  exact ⟨d, F', H', h1, hq _ _ _ h2⟩
theorem blt_self (m : Nat) : Nat.blt m m = false := by
  cases h : Nat.blt m m with
  | false => rfl
  | true => exact absurd (Nat.le_of_ble_eq_true h) (Nat.lt_irrefl _)
theorem noG (F : Fr) : wanted F none = true := rfl
theorem lookAll (L : Ls) : ∀ x ∈ ([] : Ls), look L x.1 = some x.2 := fun _ h => (by cases h)
/-- an operation that looks at no memory -/
theorem o_same {o : COp} {g : Option (Nat × Bool)} (hg : ∀ F, SF F n L → wanted F g = true) (hv : ∀ F H, SF F n L → St H0 S H M → opN F H o = some (v, H)) (hd : Nat.blt d n = true) (h : So E n H0 S dr.next r ((d, v) :: L) M Q) : So E n H0 S dr (⟨some d, g, o⟩ :: r) L M Q := .mk fun F H hF hH => by
  cases dr with
  | none =>
    obtain ⟨h1, h2⟩ := hF.set (v := v) hd
    obtain ⟨F2, H2, h5, h6⟩ := h.run _ _ h2 hH
    exact ⟨F2, H2, h5.one fun n x => by simp only [opsA, hg F hF, opA_of_opN (hv F H hF hH), h1]; exact x, h6⟩
  | some fl =>
    obtain ⟨h1, h2⟩ := hF.set (v := v) hd
    have h3 := hv F H.fresh hF hH.fresh
    obtain ⟨ds, F2, H2, h6, h7, h8, h9⟩ := h.run _ _ h2 (hH.lower hH.fresh)
    refine ⟨didOf F H.size H.fresh.low o :: ds, F2, H2, h6.one fun n x => ?_, ?_, by simp [h8], h9⟩
    · have := opA_of_opN (O := oracle E n) h3
      simp only [Hp.fresh] at this
      simp only [drawA, hg F hF, this, h1]
      rw [show ({ tr := H.tr, size := H.size, low := H.low.min H.size } : Hp) = H.fresh.lower H.low from rfl, x]; rfl
    · refine .cons ?_ h7
      have hb : Nat.blt H.fresh.low H.size = false := blt_self _
      unfold didOf
      split
      · rfl
      · split
        · rw [hb]; rfl
        · rw [hb]; rfl
theorem o_pure {o : COp} (ho : o.isPure = true) (hv : ∀ F, SF F n L → pureOp F o = some v) (hd : Nat.blt d n = true) (h : So E n H0 S dr.next r ((d, v) :: L) M Q) : So E n H0 S dr (⟨some d, none, o⟩ :: r) L M Q :=
  o_same (fun F _ => noG F) (fun F H hF _ => by rw [opN, if_pos ho, hv F hF]; rfl) hd h
theorem o_mov (hx : evL L x = some v) (hd : Nat.blt d n = true) (h : So E n H0 S dr.next r ((d, v) :: L) M Q) : So E n H0 S dr (⟨some d, none, .mov x⟩ :: r) L M Q :=
  o_pure rfl (fun F hF => by simp only [pureOp, hF.ev hx]) hd h
theorem o_bin {op : BinOp} {a b : Value} (hx : evL L x = some a) (hy : evL L y = some b) (hv : binV op a b = some v) (hd : Nat.blt d n = true) (h : So E n H0 S dr.next r ((d, v) :: L) M Q) : So E n H0 S dr (⟨some d, none, .bin op x y⟩ :: r) L M Q :=
  o_pure rfl (fun F hF => by simp only [pureOp, hF.ev hx, hF.ev hy, hv]) hd h
theorem o_un {op : UnOp} {a : Value} (hx : evL L x = some a) (hv : unV op a = some v) (hd : Nat.blt d n = true) (h : So E n H0 S dr.next r ((d, v) :: L) M Q) : So E n H0 S dr (⟨some d, none, .un op x⟩ :: r) L M Q :=
  o_pure rfl (fun F hF => by simp only [pureOp, hF.ev hx, hv]) hd h
theorem o_cvi {k k' : IntKind} {z : Int} (hx : evL L x = some (.int k' z)) (hd : Nat.blt d n = true) (h : So E n H0 S dr.next r ((d, .int k (k.wrap z)) :: L) M Q) : So E n H0 S dr (⟨some d, none, .cvi k x⟩ :: r) L M Q :=
  o_pure rfl (fun F hF => by simp only [pureOp, hF.ev hx]) hd h
theorem o_fad {a : Addr} {off : Nat} (hx : evL L x = some (.pointer (some a))) (hd : Nat.blt d n = true) (h : So E n H0 S dr.next r ((d, .pointer (some ⟨a.block, a.off + off, none⟩)) :: L) M Q) : So E n H0 S dr (⟨some d, none, .fad x off⟩ :: r) L M Q :=
  o_pure rfl (fun F hF => by simp only [pureOp, hF.ev hx]) hd h
theorem o_nilck {a : Addr} (hx : evL L x = some (.pointer (some a))) (hd : Nat.blt d n = true) (h : So E n H0 S dr.next r ((d, .pointer (some a)) :: L) M Q) : So E n H0 S dr (⟨some d, none, .nilck x⟩ :: r) L M Q :=
  o_pure rfl (fun F hF => by simp only [pureOp, hF.ev hx]) hd h
theorem o_lns {s : ByteArray} (hx : evL L x = some (.string s)) (hd : Nat.blt d n = true) (h : So E n H0 S dr.next r ((d, .int .i64 s.size) :: L) M Q) : So E n H0 S dr (⟨some d, none, .lns x⟩ :: r) L M Q :=
  o_pure rfl (fun F hF => by simp only [pureOp, hF.ev hx]) hd h
theorem o_lnl {ob : Option Addr} {len cap : Nat} (hx : evL L x = some (.slice ob len cap)) (hd : Nat.blt d n = true) (h : So E n H0 S dr.next r ((d, .int .i64 len) :: L) M Q) : So E n H0 S dr (⟨some d, none, .lnl x⟩ :: r) L M Q :=
  o_pure rfl (fun F hF => by simp only [pureOp, hF.ev hx]) hd h
theorem o_ext {l : List Value} {i : Nat} (hx : evL L x = some (.tuple ⟨l⟩)) (hv : l[i]? = some v) (hd : Nat.blt d n = true) (h : So E n H0 S dr.next r ((d, v) :: L) M Q) : So E n H0 S dr (⟨some d, none, .ext x i⟩ :: r) L M Q :=
  o_pure rfl (fun F hF => by simp only [pureOp, hF.ev hx]; simpa using hv) hd h
theorem o_pick {c : Operand} {p : Bool} (hc : evL L c = some (.bool p)) (hx : p = true → evL L x = some v) (hy : p = false → evL L y = some v) (hd : Nat.blt d n = true) (h : So E n H0 S dr.next r ((d, v) :: L) M Q) : So E n H0 S dr (⟨some d, none, .pick c x y⟩ :: r) L M Q :=
  o_pure rfl (fun F hF => by
    cases p
    · simp only [pureOp, hF.ev hc, hF.ev (hy rfl)]
    · simp only [pureOp, hF.ev hc, hF.ev (hx rfl)]) hd h
/-- where the i-th element of a slice lies -/
def adr (ob : Option Addr) (size i : Nat) : Addr := ⟨(ob.getD default).block, (ob.getD default).off + i * size, none⟩
theorem o_iad {ob : Option Addr} {size len cap i : Nat} {k : IntKind} (hx : evL L x = some (.slice ob len cap)) (hy : evL L y = some (.int k i)) (hi : i < len) (ho : ob.isSome = true) (hd : Nat.blt d n = true)
    (h : So E n H0 S dr.next r ((d, .pointer (some (adr ob size i))) :: L) M Q) : So E n H0 S dr (⟨some d, none, .iad size x y⟩ :: r) L M Q :=
  o_pure rfl (fun F hF => by
    cases ob with
    | none => cases ho
    | some a =>
      simp only [pureOp, hF.ev hx, hF.ev hy]
      rw [if_pos ⟨by omega, by omega⟩]
      simp [adr]) hd h
theorem o_fld1 {l : List Value} {off : Nat} (hx : evL L x = some (.agg ⟨l⟩)) (hv : l[off]? = some v) (hd : Nat.blt d n = true) (h : So E n H0 S dr.next r ((d, v) :: L) M Q) : So E n H0 S dr (⟨some d, none, .fld1 x off⟩ :: r) L M Q :=
  o_pure rfl (fun F hF => by simp only [pureOp, hF.ev hx]; exact hv) hd h

/-- what looks at memory, and changes nothing -/
theorem o_read {o : COp} (hv : ∀ F H, SF F n L → St H0 S H M → opN F H o = some (v, H)) (hd : Nat.blt d n = true) (h : So E n H0 S dr.next r ((d, v) :: L) M Q) : So E n H0 S dr (⟨some d, none, o⟩ :: r) L M Q :=
  o_same (fun F _ => noG F) hv hd h
/-- a row of the own memory, and of the old one -/
theorem St.row {H : Hp} (h : St H0 S H M) {b : Nat} {y : Blk} (hm : (b, y) ∈ M) : H.get b = y := (h.here b y hm).1
theorem cell_of_row {H : Hp} {a : Addr} {c : List Value} {own : Bool} {v : Value} (h : H.get a.block = .row c own) (hv : c[a.off]? = some v) : H.cell? a = some v := by simp only [Hp.cell?, h, hv]
theorem o_ld1 {a : Addr} {c : List Value} {own : Bool} (hx : evL L x = some (.pointer (some a))) (hm : (a.block, Blk.row c own) ∈ M) (hv : c[a.off]? = some v) (hd : Nat.blt d n = true) (h : So E n H0 S dr.next r ((d, v) :: L) M Q) : So E n H0 S dr (⟨some d, none, .ld1 x⟩ :: r) L M Q :=
  o_read (fun F H hF hH => by
    show memOp F H (.ld1 x) = _
    simp only [memOp, hF.ev hx, cell_of_row (hH.row hm) hv, Option.map_some]) hd h
theorem o_ld1_old {a : Addr} (hx : evL L x = some (.pointer (some a))) (hb : a.block < H0.size) (hS : a.block ∉ S) (hv : H0.cell? a = some v) (hd : Nat.blt d n = true) (h : So E n H0 S dr.next r ((d, v) :: L) M Q) : So E n H0 S dr (⟨some d, none, .ld1 x⟩ :: r) L M Q :=
  o_read (fun F H hF hH => by
    show memOp F H (.ld1 x) = _
    have : H.cell? a = some v := by rw [← hv]; simp only [Hp.cell?, hH.old _ hb hS]
    simp only [memOp, hF.ev hx, this, Option.map_some]) hd h
theorem o_ld_old {a : Addr} {k : Nat} {c : List Value} (hx : evL L x = some (.pointer (some a))) (hb : a.block < H0.size) (hS : a.block ∉ S) (hv : H0.cells? a k = some c) (hd : Nat.blt d n = true) (h : So E n H0 S dr.next r ((d, .agg ⟨c⟩) :: L) M Q) : So E n H0 S dr (⟨some d, none, .ld k x⟩ :: r) L M Q :=
  o_read (fun F H hF hH => by
    show memOp F H (.ld k x) = _
    have : H.cells? a k = some c := by rw [← hv]; simp only [Hp.cells?, hH.old _ hb hS]
    simp only [memOp, hF.ev hx, this, Option.map_some]) hd h
theorem o_ld {a : Addr} {k : Nat} {c : List Value} {own : Bool} (hx : evL L x = some (.pointer (some a))) (hm : (a.block, Blk.row c own) ∈ M) (hk : a.off + k ≤ c.length) (hd : Nat.blt d n = true) (h : So E n H0 S dr.next r ((d, .agg ⟨(c.drop a.off).take k⟩) :: L) M Q) : So E n H0 S dr (⟨some d, none, .ld k x⟩ :: r) L M Q :=
  o_read (fun F H hF hH => by
    show memOp F H (.ld k x) = _
    have : H.cells? a k = some ((c.drop a.off).take k) := by simp only [Hp.cells?, hH.row hm, if_pos hk]
    simp only [memOp, hF.ev hx, this, Option.map_some]) hd h

/-! new blocks -/
theorem St.new {H : Hp} (h : St H0 S H M) (y : Blk) : St H0 S (H.new y) ((H.size, y) :: M) := by
  refine ⟨by rw [Hp.size_new]; exact Nat.le_succ_of_le h.size, fun b hb hs => ?_, fun l h1 h2 h3 => by rw [Hp.low_new]; exact h.low l h1 h2 h3, fun b x hx => ?_, ?_⟩
  · have := h.size
    rw [Hp.get_new, if_neg (by omega)]; exact h.old b hb hs
  · rw [Hp.size_new, Hp.get_new]
    cases hx with
    | head => exact ⟨by simp, by omega, .inl h.size⟩
    | tail _ hx =>
      obtain ⟨h1, h2, h3⟩ := h.here b x hx
      exact ⟨by rw [if_neg (by omega)]; exact h1, by omega, h3⟩
  · refine List.nodup_cons.2 ⟨?_, h.diff⟩
    intro hm
    obtain ⟨⟨b, x⟩, hx, rfl⟩ := List.mem_map.1 hm
    exact absurd (h.here _ _ hx).2.1 (Nat.lt_irrefl _)
theorem o_new {o : COp} {y : Blk} (V : Nat → Value) (hv : ∀ F H, SF F n L → St H0 S H M → opN F H o = some (V H.size, H.new y)) (hd : Nat.blt d n = true)
    (h : ∀ b, So E n H0 S dr.next r ((d, V b) :: L) ((b, y) :: M) Q) : So E n H0 S dr (⟨some d, none, o⟩ :: r) L M Q := .mk fun F H hF hH => by
  cases dr with
  | none =>
    obtain ⟨h1, h2⟩ := hF.set (v := V H.size) hd
    obtain ⟨F2, H2, h5, h6⟩ := (h H.size).run _ _ h2 (hH.new y)
    exact ⟨F2, H2, h5.one fun n x => by simp only [opsA, noG F, opA_of_opN (hv F H hF hH), h1]; exact x, h6⟩
  | some fl =>
    obtain ⟨h1, h2⟩ := hF.set (v := V H.size) hd
    have h3 := hv F H.fresh hF hH.fresh
    obtain ⟨ds, F2, H2, h6, h7, h8, h9⟩ := (h H.size).run _ _ h2 (hH.lower (hH.fresh.new y))
    refine ⟨didOf F H.size H.size o :: ds, F2, H2, h6.one fun n x => ?_, ?_, by simp [h8], h9⟩
    · have := opA_of_opN (O := oracle E n) h3
      simp only [Hp.fresh] at this
      simp only [drawA, noG F, this, h1]
      rw [show ({ tr := (Hp.new ⟨H.tr, H.size, H.size⟩ y).tr, size := (Hp.new ⟨H.tr, H.size, H.size⟩ y).size, low := H.low.min (Hp.new ⟨H.tr, H.size, H.size⟩ y).low } : Hp) = (H.fresh.new y).lower H.low from rfl, x]; rfl
    · refine .cons ?_ h7
      have hb : Nat.blt H.size H.size = false := blt_self _
      unfold didOf
      split
      · rfl
      · split
        · rw [hb]; rfl
        · rw [hb]; rfl
theorem o_newz {z : List Value} (hd : Nat.blt d n = true) (h : ∀ b, So E n H0 S dr.next r ((d, .pointer (some ⟨b, 0, none⟩)) :: L) ((b, .row z true) :: M) Q) : So E n H0 S dr (⟨some d, none, .newz z⟩ :: r) L M Q :=
  o_new (fun b => .pointer (some ⟨b, 0, none⟩)) (fun _ _ _ _ => rfl) hd h
theorem o_box {c : List Value} (hx : evL L x = some v) (hc : v.cells.toList = c) (hd : Nat.blt d n = true) (h : ∀ b, So E n H0 S dr.next r ((d, .pointer (some ⟨b, 0, none⟩)) :: L) ((b, .row c true) :: M) Q) : So E n H0 S dr (⟨some d, none, .box x⟩ :: r) L M Q :=
  o_new (fun b => .pointer (some ⟨b, 0, none⟩)) (fun F H hF _ => by show memOp F H (.box x) = _; simp only [memOp, hF.ev hx, hc, newRow]) hd h
theorem o_lits {z : List Value} {k : Nat} {ps : List (Nat × Nat × Operand)} {c : List Value} (hv : ∀ F, SF F n L → fillA z (ps.map fun (o, s, x) => (o, s, F.eval x)) = some c) (hd : Nat.blt d n = true)
    (h : ∀ b, So E n H0 S dr.next r ((d, .slice (some ⟨b, 0, some 0⟩) k k) :: L) ((b, .row c true) :: M) Q) : So E n H0 S dr (⟨some d, none, .lits z k ps⟩ :: r) L M Q :=
  o_new (fun b => .slice (some ⟨b, 0, some 0⟩) k k) (fun F H hF _ => by show memOp F H (.lits z k ps) = _; simp only [memOp, hv F hF, Option.map_some, exact]) hd h

/-! writing -/
theorem St.upd {H : Hp} {M1 M2 : Ms} {b : Nat} {y z : Blk} (h : St H0 S H (M1 ++ (b, y) :: M2)) : St H0 S (H.upd b z) (M1 ++ (b, z) :: M2) := by
  have hb := h.here b y (by simp)
  have hd := h.diff
  rw [List.map_append, List.map_cons] at hd
  refine ⟨by rw [Hp.size_upd]; exact h.size, fun c hc hs => ?_, fun l h1 h2 h3 => ?_, fun c x hx => ?_, by rw [List.map_append, List.map_cons]; exact hd⟩
  · rw [Hp.get_upd, if_neg ?_]
    · exact h.old c hc hs
    · rintro rfl
      rcases hb.2.2 with h1 | h1
      · omega
      · exact hs h1
  · have h4 := h.low l h1 h2 h3
    rw [Hp.low_upd]
    rcases hb.2.2 with h5 | h5
    · omega
    · have := h3 _ h5; omega
  · rw [Hp.size_upd, Hp.get_upd]
    have key : (c, x) ∈ M1 ++ M2 ∨ (c, x) = (b, z) := by
      rcases List.mem_append.1 hx with h1 | h1
      · exact .inl (by simp [h1])
      · rcases List.mem_cons.1 h1 with h2 | h2
        · exact .inr h2
        · exact .inl (by simp [h2])
    rcases key with h1 | h1
    · have hne : c ≠ b := by
        rintro rfl
        have hd1 := List.nodup_append.1 hd
        have hd2 := List.nodup_cons.1 hd1.2.1
        rcases List.mem_append.1 h1 with h2 | h2
        · exact hd1.2.2 c (List.mem_map.2 ⟨_, h2, rfl⟩) c (by simp) rfl
        · exact hd2.1 (List.mem_map.2 ⟨_, h2, rfl⟩)
      rw [if_neg hne]
      exact h.here c x (by rcases List.mem_append.1 h1 with h2 | h2 <;> simp [h2])
    · cases h1
      rw [if_pos rfl]
      exact ⟨rfl, hb.2⟩
theorem o_st {a : Addr} {k : Nat} {M1 M2 : Ms} {c : List Value} (hx : evL L x = some (.pointer (some a))) (hy : evL L y = some v) (hk : v.cells.toList.length = k) (hm : M = M1 ++ (a.block, .row c true) :: M2) (hl : a.off + v.cells.toList.length ≤ c.length) (ho : v.cells.toList.all oneCell = true)
    (hd : Nat.blt d n = true) (h : So E n H0 S none r ((d, undef) :: L) (M1 ++ (a.block, .row (setAll c a.off v.cells.toList) true) :: M2) Q) : So E n H0 S none (⟨some d, none, .st k x y⟩ :: r) L M Q := .mk fun F H hF hH => by
  subst hm
  obtain ⟨h1, h2⟩ := hF.set (v := undef) hd
  refine wpO_op ?_ h1 (h.run _ _ h2 (St.upd hH))
  show memOp F H (.st k x y) = _
  have hr := hH.row (b := a.block) (y := .row c true) (by simp)
  simp only [memOp, hF.ev hx, hF.ev hy, if_pos hk, Hp.setCells, hr]
  rw [if_pos ⟨hl, ho⟩]; rfl
end
end Go.Proofs.YtfonnebpnobomaaDoor.Am
/- Symbolic states: guards, calls, appending, a function's entry and return. -/
namespace Go.Proofs.YtfonnebpnobomaaDoor.Am
open Go

variable {E : Env} {n : Nat} {H0 : Hp} {S : List Nat} {L : Ls} {M : Ms} {dr : Dr} {d : Nat} {r : List CO} {Q : Ls → Ms → Prop} {x y : Operand} {v : Value}

/-! ### Guards -/
/-- a value that is there under a condition -/
def gv (w : Bool) (v : Value) : Value := cond w v undef
theorem gv_true {w : Bool} {v : Value} (h : w = true) : gv w v = v := by subst h; rfl
theorem evG {w : Bool} {a : Value} (h : evL L x = some (gv w a)) (hw : w = true) : evL L x = some a := by rw [h, gv_true hw]
theorem evG2 {w c : Bool} {a : Value} (h : evL L x = some (gv w a)) (hw : (w && c) = true) : evL L x = some a := by
  rw [h, gv_true]; cases w
  · cases hw
  · rfl
theorem evG3 {w c e : Bool} {a : Value} (h : evL L x = some (gv w a)) (hw : (w && c && e) = true) : evL L x = some a := by
  rw [h, gv_true]; cases w
  · cases hw
  · rfl

/-- an operation that may be left out -/
theorem o_when {o : COp} {g : Option (Nat × Bool)} {w : Bool} (hg : ∀ F, SF F n L → wanted F g = w) (hv : w = true → ∀ F H, SF F n L → St H0 S H M → opN F H o = some (v, H)) (hd : Nat.blt d n = true) (h : So E n H0 S dr.next r ((d, gv w v) :: L) M Q) : So E n H0 S dr (⟨some d, g, o⟩ :: r) L M Q := by
  cases w with
  | true => exact o_same hg (hv rfl) hd h
  | false =>
    refine .mk fun F H hF hH => ?_
    obtain ⟨h1, h2⟩ := hF.set (v := undef) hd
    cases dr with
    | none =>
      obtain ⟨F2, H2, h5, h6⟩ := h.run _ _ h2 hH
      exact ⟨F2, H2, h5.one fun n x => by simp only [opsA, hg F hF, h1]; exact x, h6⟩
    | some fl =>
      obtain ⟨ds, F2, H2, h6, h7, h8, h9⟩ := h.run _ _ h2 hH
      exact ⟨.quiet :: ds, F2, H2, h6.one fun n x => by simp only [drawA, hg F hF, h1, x], .cons rfl h7, by simp [h8], h9⟩
theorem wanted_b {j : Nat} {c b : Bool} (hj : look L j = some (.bool c)) : ∀ F, SF F n L → wanted F (some (j, b)) = (c == b) := fun F hF => by simp only [wanted, hF.val j _ hj]
theorem wanted_g {j : Nat} {w c b : Bool} (hj : look L j = some (gv w (.bool c))) : ∀ F, SF F n L → wanted F (some (j, b)) = (w && (c == b)) := fun F hF => by
  simp only [wanted, hF.val j _ hj]
  cases w <;> rfl

section
variable {g : Option (Nat × Bool)} {w : Bool}
theorem g_pure {o : COp} (ho : o.isPure = true) (hg : ∀ F, SF F n L → wanted F g = w) (hv : w = true → ∀ F, SF F n L → pureOp F o = some v) (hd : Nat.blt d n = true) (h : So E n H0 S dr.next r ((d, gv w v) :: L) M Q) : So E n H0 S dr (⟨some d, g, o⟩ :: r) L M Q :=
  o_when hg (fun hw F H hF _ => by rw [opN, if_pos ho, hv hw F hF]; rfl) hd h
theorem g_mov (hg : ∀ F, SF F n L → wanted F g = w) (hx : w = true → evL L x = some v) (hd : Nat.blt d n = true) (h : So E n H0 S dr.next r ((d, gv w v) :: L) M Q) : So E n H0 S dr (⟨some d, g, .mov x⟩ :: r) L M Q :=
  g_pure rfl hg (fun hw F hF => by simp only [pureOp, hF.ev (hx hw)]) hd h
theorem g_bin {op : BinOp} {a b : Value} (hg : ∀ F, SF F n L → wanted F g = w) (hx : w = true → evL L x = some a) (hy : w = true → evL L y = some b) (hv : w = true → binV op a b = some v) (hd : Nat.blt d n = true) (h : So E n H0 S dr.next r ((d, gv w v) :: L) M Q) : So E n H0 S dr (⟨some d, g, .bin op x y⟩ :: r) L M Q :=
  g_pure rfl hg (fun hw F hF => by simp only [pureOp, hF.ev (hx hw), hF.ev (hy hw), hv hw]) hd h
theorem g_not {p : Bool} (hg : ∀ F, SF F n L → wanted F g = w) (hx : w = true → evL L x = some (.bool p)) (hd : Nat.blt d n = true) (h : So E n H0 S dr.next r ((d, gv w (.bool !p)) :: L) M Q) : So E n H0 S dr (⟨some d, g, .un .not x⟩ :: r) L M Q :=
  g_pure rfl hg (fun hw F hF => by simp only [pureOp, hF.ev (hx hw), unV]) hd h
theorem g_fad {a : Addr} {off : Nat} (hg : ∀ F, SF F n L → wanted F g = w) (hx : w = true → evL L x = some (.pointer (some a))) (hd : Nat.blt d n = true) (h : So E n H0 S dr.next r ((d, gv w (.pointer (some ⟨a.block, a.off + off, none⟩))) :: L) M Q) : So E n H0 S dr (⟨some d, g, .fad x off⟩ :: r) L M Q :=
  g_pure rfl hg (fun hw F hF => by simp only [pureOp, hF.ev (hx hw)]) hd h
theorem g_lns {s : ByteArray} (hg : ∀ F, SF F n L → wanted F g = w) (hx : w = true → evL L x = some (.string s)) (hd : Nat.blt d n = true) (h : So E n H0 S dr.next r ((d, gv w (.int .i64 s.size)) :: L) M Q) : So E n H0 S dr (⟨some d, g, .lns x⟩ :: r) L M Q :=
  g_pure rfl hg (fun hw F hF => by simp only [pureOp, hF.ev (hx hw)]) hd h
theorem g_lnl {ob : Option Addr} {len cap : Nat} (hg : ∀ F, SF F n L → wanted F g = w) (hx : w = true → evL L x = some (.slice ob len cap)) (hd : Nat.blt d n = true) (h : So E n H0 S dr.next r ((d, gv w (.int .i64 len)) :: L) M Q) : So E n H0 S dr (⟨some d, g, .lnl x⟩ :: r) L M Q :=
  g_pure rfl hg (fun hw F hF => by simp only [pureOp, hF.ev (hx hw)]) hd h
/-- what is picked: a truth value -/
theorem g_pick {c : Operand} {p a b : Bool} (hg : ∀ F, SF F n L → wanted F g = w) (hc : w = true → evL L c = some (.bool p)) (hx : w = true → p = true → evL L x = some (.bool a)) (hy : w = true → p = false → evL L y = some (.bool b)) (hd : Nat.blt d n = true)
    (h : So E n H0 S dr.next r ((d, gv w (.bool (cond p a b))) :: L) M Q) : So E n H0 S dr (⟨some d, g, .pick c x y⟩ :: r) L M Q :=
  g_pure rfl hg (fun hw F hF => by
    cases p
    · simp only [pureOp, hF.ev (hc hw), hF.ev (hy hw rfl), cond]
    · simp only [pureOp, hF.ev (hc hw), hF.ev (hx hw rfl), cond]) hd h
theorem o_pickB {c : Operand} {p a b : Bool} (hc : evL L c = some (.bool p)) (hx : p = true → evL L x = some (.bool a)) (hy : p = false → evL L y = some (.bool b)) (hd : Nat.blt d n = true)
    (h : So E n H0 S dr.next r ((d, .bool (cond p a b)) :: L) M Q) : So E n H0 S dr (⟨some d, none, .pick c x y⟩ :: r) L M Q :=
  o_pure rfl (fun F hF => by
    cases p
    · simp only [pureOp, hF.ev hc, hF.ev (hy rfl), cond]
    · simp only [pureOp, hF.ev hc, hF.ev (hx rfl), cond]) hd h
theorem g_ld1 {a : Addr} {c : List Value} {own : Bool} (hg : ∀ F, SF F n L → wanted F g = w) (hx : w = true → evL L x = some (.pointer (some a))) (hm : (a.block, Blk.row c own) ∈ M) (hv : c[a.off]? = some v) (hd : Nat.blt d n = true) (h : So E n H0 S dr.next r ((d, gv w v) :: L) M Q) : So E n H0 S dr (⟨some d, g, .ld1 x⟩ :: r) L M Q :=
  o_when hg (fun hw F H hF hH => by
    show memOp F H (.ld1 x) = _
    simp only [memOp, hF.ev (hx hw), cell_of_row (hH.row hm) hv, Option.map_some]) hd h
end

/-! ### Calls -/
theorem Sc.mono {f : FuncId} {args : List Value} {Q Q' : Value → Ms → Prop} (h : Sc E f args H0 S Q) (hq : ∀ v M, Q v M → Q' v M) : Sc E f args H0 S Q' :=
  ⟨WpC.mono h.run fun _ _ ⟨M1, h1, h2⟩ => ⟨M1, h1, hq _ _ h2⟩⟩
/-- the memory behind a call -/
theorem St.call {H H1 : Hp} {S' : List Nat} {M1 Mr : Ms} (h : St H0 S H M) (h1 : St H S' H1 M1) (hS : ∀ b ∈ S', b ∈ S ∨ H0.size ≤ b) (hr : ∀ x ∈ Mr, x ∈ M ∧ x.1 ∉ S') (hn : (Mr.map Prod.fst).Nodup) : St H0 S H1 (M1 ++ Mr) := by
  have hMr : ∀ b x, (b, x) ∈ Mr → H.get b = x ∧ b < H.size ∧ (H0.size ≤ b ∨ b ∈ S) ∧ b ∉ S' := fun b x hx => by
    obtain ⟨g1, g2, g3⟩ := h.here b x (hr _ hx).1
    exact ⟨g1, g2, g3, (hr _ hx).2⟩
  refine ⟨Nat.le_trans h.size h1.size, fun b hb hs => ?_, fun l a b c => ?_, fun b x hx => ?_, ?_⟩
  · have : b ∉ S' := fun hb' => by
      rcases hS b hb' with h2 | h2
      · exact hs h2
      · omega
    rw [h1.old b (Nat.lt_of_lt_of_le hb h.size) this]; exact h.old b hb hs
  · refine h1.low l (h.low l a b c) (Nat.le_trans b h.size) fun s hs => ?_
    rcases hS s hs with h2 | h2
    · exact c s h2
    · omega
  · rcases List.mem_append.1 hx with h2 | h2
    · obtain ⟨h3, h4, h5⟩ := h1.here b x h2
      refine ⟨h3, h4, ?_⟩
      rcases h5 with h6 | h6
      · exact .inl (Nat.le_trans h.size h6)
      · exact (hS b h6).symm
    · obtain ⟨h3, h4, h5, h6⟩ := hMr b x h2
      exact ⟨by rw [h1.old b h4 h6]; exact h3, Nat.lt_of_lt_of_le h4 h1.size, h5⟩
  · rw [List.map_append]
    refine List.nodup_append.2 ⟨h1.diff, hn, ?_⟩
    intro b hb c hc hbc
    subst hbc
    obtain ⟨⟨b1, x1⟩, h2, rfl⟩ := List.mem_map.1 hb
    obtain ⟨⟨b2, x2⟩, h3, h4⟩ := List.mem_map.1 hc
    simp only at h4; subst h4
    obtain ⟨_, g1, _, g2⟩ := hMr _ _ h3
    rcases (h1.here _ _ h2).2.2 with h5 | h5
    · omega
    · exact g2 h5
theorem o_call {f : Operand} {as : List Operand} {gf : FuncId} {fst cap : Array Value} {args : List Value} (hf : evL L f = some (.func (.func gf) fst cap)) (ha : ∀ F, SF F n L → as.map F.eval = args) (hd : Nat.blt d n = true)
    (hc : ∀ H, St H0 S H M → ∃ S' Mr, (∀ b ∈ S', b ∈ S ∨ H0.size ≤ b) ∧ (∀ x ∈ Mr, x ∈ M ∧ x.1 ∉ S') ∧ (Mr.map Prod.fst).Nodup ∧ Sc E gf (fst.toList ++ (args ++ cap.toList)) H S' fun v M1 => So E n H0 S none r ((d, v) :: L) (M1 ++ Mr) Q) :
    So E n H0 S none (⟨some d, none, .call f as⟩ :: r) L M Q := .mk fun F H hF hH => by
  obtain ⟨S', Mr, h1, h2, h3, ⟨v, H1, h4, M1, h5, h6⟩⟩ := hc H hH
  obtain ⟨h7, h8⟩ := hF.set (v := v) hd
  refine wpO_call ?_
  rw [hF.ev hf, ha F hF]
  refine wpV_func ⟨v, H1, ?_, _, h7, h6.run _ _ h8 (hH.call h5 h1 h2 h3)⟩
  have : fst ++ args.toArray ++ cap = (fst.toList ++ (args ++ cap.toList)).toArray := by
    obtain ⟨a⟩ := fst; obtain ⟨c⟩ := cap; simp
  rw [this]; exact h4
/-- a call that changes nothing, of which the value alone is kept -/
theorem o_call0 {f : Operand} {as : List Operand} {gf : FuncId} {fst cap : Array Value} {args : List Value} (hf : evL L f = some (.func (.func gf) fst cap)) (ha : ∀ F, SF F n L → as.map F.eval = args) (hd : Nat.blt d n = true)
    (hc : ∀ H, St H0 S H M → Sc E gf (fst.toList ++ (args ++ cap.toList)) H [] fun v' _ => v' = v) (h : So E n H0 S dr.next r ((d, v) :: L) M Q) : So E n H0 S dr (⟨some d, none, .call f as⟩ :: r) L M Q := .mk fun F H hF hH => by
  have hargs : fst ++ args.toArray ++ cap = (fst.toList ++ (args ++ cap.toList)).toArray := by
    obtain ⟨a⟩ := fst; obtain ⟨c⟩ := cap; simp
  have keep : ∀ {H H1 : Hp} {M1 : Ms}, St H0 S H M → St H [] H1 M1 → St H0 S H1 M := fun h h1 => by
    have := h.call h1 (fun _ h => (by cases h)) (fun x hx => ⟨hx, fun h => (by cases h)⟩) h.diff
    exact this.sub (fun x hx => List.mem_append_right _ hx) h.diff
  obtain ⟨h7, h8⟩ := hF.set (v := v) hd
  cases dr with
  | none =>
    obtain ⟨⟨v', H1, h4, M1, h5, rfl⟩⟩ := hc H hH
    refine wpO_call ?_
    rw [hF.ev hf, ha F hF]
    refine wpV_func ⟨v', H1, ?_, _, h7, h.run _ _ h8 (keep hH h5)⟩
    rw [hargs]; exact h4
  | some fl =>
    obtain ⟨⟨v', H1, h4, M1, h5, rfl⟩⟩ := hc H.fresh hH.fresh
    have hlow : H.size ≤ H1.low := h5.low H.size (Nat.le_refl _) (Nat.le_refl _) (fun _ h => (by cases h))
    obtain ⟨ds, F2, H2, g1, g2, g3, g4⟩ := h.run _ _ h8 (hH.lower (keep hH.fresh h5))
    refine wpD_call ?_
    rw [hF.ev hf, ha F hF]
    refine wpV_func ⟨v', H1, ?_, _, h7, ds, F2, H2, g1, ?_, by simp [g3], g4⟩
    · rw [hargs]; exact h4
    · refine .cons ?_ g2
      have hb : Nat.blt H1.low H.size = false := by
        cases e : Nat.blt H1.low H.size with
        | false => rfl
        | true => have : H1.low < H.size := Nat.le_of_ble_eq_true e; omega
      show calm (.other (Nat.blt H1.low H.size)) = true
      rw [hb]; rfl

/-! ### Entry and return -/
def lsOf : Nat → List Value → Ls
  | _, [] => []
  | i, v :: r => (i, v) :: lsOf (i + 1) r
theorem sf_args {n : Nat} : ∀ (l : List Value) (i : Nat) (t : Tr Value), ∀ k v, look (lsOf i l) k = some v → (setArgs t i l).get k = some v := by
  have low : ∀ (l : List Value) (i : Nat) (t : Tr Value) (k : Nat), k < i → (setArgs t i l).get k = t.get k := by
    intro l
    induction l with
    | nil => intro i t k _; rfl
    | cons x l ih =>
      intro i t k hk
      show (setArgs (t.set i x) (i + 1) l).get k = _
      rw [ih (i + 1) _ k (by omega), Tr.get_set, if_neg (by omega)]
  intro l
  induction l with
  | nil => intro i t k v h; cases h
  | cons x l ih =>
    intro i t k v h
    simp only [lsOf, look] at h
    show (setArgs (t.set i x) (i + 1) l).get k = _
    cases hb : Nat.beq i k with
    | true =>
      rw [hb] at h; cases h
      have := Nat.eq_of_beq_eq_true hb
      subst this
      rw [low l _ _ _ (by omega), Tr.get_set, if_pos rfl]
    | false => rw [hb] at h; exact ih _ _ k v h
theorem sf_ofArgs (args : List Value) (n : Nat) : SF (Fr.ofArgs args.toArray n) n (lsOf 0 args) := ⟨rfl, rfl, rfl, fun k v h => by
  have := sf_args (n := n) args 0 .leaf k v h
  simp only [Fr.get, Fr.ofArgs, this, Option.getD_some]⟩
def resL (L : Ls) (M : Ms) : CR → Value → Prop
  | .tmp t, v => look L t = some v
  | .cell1 t, v => ∃ b c own, look L t = some (.pointer (some ⟨b, 0, none⟩)) ∧ (b, Blk.row c own) ∈ M ∧ c[0]? = some v
  | .cells t k, v => ∃ b c own, look L t = some (.pointer (some ⟨b, 0, none⟩)) ∧ (b, Blk.row c own) ∈ M ∧ k ≤ c.length ∧ v = .agg ⟨c.take k⟩
def ressL (L : Ls) (M : Ms) : List CR → List Value → Prop
  | [], [] => True
  | r :: rs, v :: vs => resL L M r v ∧ ressL L M rs vs
  | _, _ => False
def sRet (rs : List CR) (Q : Value → Ms → Prop) : Ex → Ls → Ms → Prop := fun e L M => (e = .normal ∨ e = .ret) ∧ ∃ vs, ressL L M rs vs ∧ Q (tupled vs) M
theorem sRet_ret {rs : List CR} {Q : Value → Ms → Prop} (vs : List Value) (h : ressL L M rs vs) (hq : Q (tupled vs) M) : sRet rs Q .ret L M := ⟨.inr rfl, vs, h, hq⟩
theorem sRet_normal {rs : List CR} {Q : Value → Ms → Prop} (vs : List Value) (h : ressL L M rs vs) (hq : Q (tupled vs) M) : sRet rs Q .normal L M := ⟨.inl rfl, vs, h, hq⟩
theorem ress_sound {F : Fr} {H : Hp} (hF : SF F n L) (hH : St H0 S H M) : ∀ {rs : List CR} {vs : List Value}, ressL L M rs vs → resultsA F H rs = some vs := by
  intro rs
  induction rs with
  | nil => intro vs h; cases vs with
    | nil => rfl
    | cons => exact h.elim
  | cons c rs ih =>
    intro vs h
    cases vs with
    | nil => exact h.elim
    | cons v vs =>
      obtain ⟨h1, h2⟩ := h
      have : resultA F H c = some v := by
        cases c with
        | tmp t => simp only [resultA, hF.val t v h1]
        | cell1 t =>
          obtain ⟨b, c, own, g1, g2, g3⟩ := h1
          simp only [resultA, hF.val t _ g1]
          exact cell_of_row (a := ⟨b, 0, none⟩) (hH.row g2) g3
        | cells t k =>
          obtain ⟨b, c, own, g1, g2, g3, rfl⟩ := h1
          simp only [resultA, hF.val t _ g1, Hp.cells?, hH.row g2, Nat.zero_add, if_pos g3, List.drop_zero, Option.map_some]
      simp only [resultsA, this, ih h2]
/-- a function, from its code -/
theorem sc_body {f : FuncId} {cf : CF} {args : List Value} {Q : Value → Ms → Prop} (hc : E.code f = some cf) (hs : Nat.ble args.length cf.n = true) (h : Ss E cf.n H0 S cf.body (lsOf 0 args) [] (sRet cf.rs Q)) : Sc E f args H0 S Q := by
  refine .mk (wpC_body hc (by simpa using Nat.le_of_ble_eq_true hs) ?_)
  refine (h.run _ _ (sf_ofArgs args cf.n) (St.refl H0 S)).mono fun e F1 H1 ⟨L1, M1, h1, h2, h3, vs, h4, h5⟩ => ⟨h3, tupled vs, H1, ?_, M1, h2, h5⟩
  simp only [leaveA, h1.marks, killAll, ress_sound h1 h2 h4, Option.map_some]
end Go.Proofs.YtfonnebpnobomaaDoor.Am
/- Symbolic states: where ways meet, and loops. -/
namespace Go.Proofs.YtfonnebpnobomaaDoor.Am
open Go
variable {E : Env} {n : Nat} {H0 : Hp} {S : List Nat} {L : Ls} {M : Ms} {Q : Ex → Ls → Ms → Prop} {α : Type}

theorem Ss.weak {c : CC} {L' : Ls} {M' : Ms} (h : Ss E n H0 S c L' M' Q) (hL : ∀ x ∈ L', look L x.1 = some x.2) (hM : List.Sublist M' M) : Ss E n H0 S c L M Q :=
  .mk fun F H hF hH => h.run F H (hF.mono hL) (hH.sub (fun _ hx => hM.subset hx) ((hM.map _).nodup hH.diff))

/-- the ways that go on meet in a state of a family -/
def sMid (Lm : α → Ls) (Mm : α → Ms) (φ : α → Prop) (Q : Ex → Ls → Ms → Prop) : Ex → Ls → Ms → Prop
  | .normal, L, M => ∃ a, (∀ x ∈ Lm a, look L x.1 = some x.2) ∧ List.Sublist (Mm a) M ∧ φ a
  | e, L, M => Q e L M
section
variable {Lm : α → Ls} {Mm : α → Ms} {φ : α → Prop}
theorem sMid_normal (a : α) (hL : ∀ x ∈ Lm a, look L x.1 = some x.2) (hM : List.Sublist (Mm a) M) (h : φ a) : sMid Lm Mm φ Q .normal L M := ⟨a, hL, hM, h⟩
theorem sMid_exit {i : Nat} (h : Q (.exit i) L M) : sMid Lm Mm φ Q (.exit i) L M := h
theorem sMid_ret (h : Q .ret L M) : sMid Lm Mm φ Q .ret L M := h
end
theorem s_mid (Lm : α → Ls) (Mm : α → Ms) (φ : α → Prop) {a b : CC} (h : Ss E n H0 S a L M (sMid Lm Mm φ Q)) (k : ∀ z, φ z → Ss E n H0 S b (Lm z) (Mm z) Q) : Ss E n H0 S (.seq a b) L M Q := by
  refine s_seq (.mk fun F H hF hH => (h.run F H hF hH).mono fun e F1 H1 ⟨L1, M1, h1, h2, h3⟩ => ?_)
  cases e with
  | normal =>
    obtain ⟨z, g1, g2, g3⟩ := h3
    exact ⟨_, _, h1.mono g1, h2.sub (fun _ hx => g2.subset hx) ((g2.map _).nodup h2.diff), k z g3⟩
  | exit i => exact ⟨L1, M1, h1, h2, h3⟩
  | goto i => exact ⟨L1, M1, h1, h2, h3⟩
  | ret => exact ⟨L1, M1, h1, h2, h3⟩

def sIter (μ : α → Nat) (Lm : α → Ls) (Mm : α → Ms) (φ : α → Prop) (z : α) (Q : Ex → Ls → Ms → Prop) : Ex → Ls → Ms → Prop
  | .normal, L, M => ∃ z', μ z' < μ z ∧ (∀ x ∈ Lm z', look L x.1 = some x.2) ∧ List.Sublist (Mm z') M ∧ φ z'
  | e, L, M => Q e L M
section
variable {μ : α → Nat} {Lm : α → Ls} {Mm : α → Ms} {φ : α → Prop} {z : α}
theorem sIter_next (z' : α) (hk : μ z' < μ z) (hL : ∀ x ∈ Lm z', look L x.1 = some x.2) (hM : List.Sublist (Mm z') M) (h : φ z') : sIter μ Lm Mm φ z Q .normal L M := ⟨z', hk, hL, hM, h⟩
theorem sIter_exit {i : Nat} (h : Q (.exit i) L M) : sIter μ Lm Mm φ z Q (.exit i) L M := h
theorem sIter_ret (h : Q .ret L M) : sIter μ Lm Mm φ z Q .ret L M := h
end
/-- a loop, over a family of states -/
theorem s_iter (μ : α → Nat) (Lm : α → Ls) (Mm : α → Ms) (φ : α → Prop) (z : α) {c : CC} (hL : ∀ x ∈ Lm z, look L x.1 = some x.2) (hM : List.Sublist (Mm z) M) (h0 : φ z)
    (step : ∀ z, φ z → Ss E n H0 S c (Lm z) (Mm z) (sIter μ Lm Mm φ z Q)) : Ss E n H0 S (.loop c) L M Q := .mk fun F H hF hH => by
  refine wp_loop (fun k F H => ∃ z, μ z = k ∧ SF F n (Lm z) ∧ St H0 S H (Mm z) ∧ φ z) (μ z) ⟨z, rfl, hF.mono hL, hH.sub (fun _ hx => hM.subset hx) ((hM.map _).nodup hH.diff), h0⟩ ?_
  rintro k F H ⟨z, rfl, h1, h2, h3⟩
  refine ((step z h3).run F H h1 h2).mono fun e F1 H1 ⟨L1, M1, h4, h5, h6⟩ => ?_
  cases e with
  | normal =>
    obtain ⟨z', hk, g1, g2, g3⟩ := h6
    exact ⟨_, hk, z', rfl, h4.mono g1, h5.sub (fun _ hx => g2.subset hx) ((g2.map _).nodup h5.diff), g3⟩
  | exit i => exact ⟨L1, M1, h4, h5, h6⟩
  | goto i => exact ⟨L1, M1, h4, h5, h6⟩
  | ret => exact ⟨L1, M1, h4, h5, h6⟩

theorem subNil {L : Ls} : ∀ x ∈ ([] : Ls), look L x.1 = some x.2 := fun _ h => (by cases h)
theorem subCons {L L' : Ls} {k : Nat} {v : Value} (h : look L k = some v) (hl : ∀ x ∈ L', look L x.1 = some x.2) : ∀ x ∈ (k, v) :: L', look L x.1 = some x.2 := List.forall_mem_cons.2 ⟨h, hl⟩

theorem subEq {L L' : Ls} {k : Nat} {v v' : Value} (h : look L k = some v') (e : v' = v) (hl : ∀ x ∈ L', look L x.1 = some x.2) : ∀ x ∈ (k, v) :: L', look L x.1 = some x.2 := subCons (e ▸ h) hl

/-! the elements of a slice that is not the call's own -/
structure Sl (H : Hp) (size : Nat) (sv : Value) (cs : List Value) : Prop where
  is : ∃ ob len cap, sv = .slice ob len cap ∧ cs.length = len * size ∧ len ≤ cap ∧ (ob = none → cap = 0) ∧ ∀ a, ob = some a → a.block < H.size ∧ ∃ row own, H.get a.block = .row row own ∧ a.off + len * size ≤ row.length ∧ (row.drop a.off).take (len * size) = cs
end Go.Proofs.YtfonnebpnobomaaDoor.Am
/- Symbolic states: slices, stores, appending, maps, loops that are unrolled. -/
namespace Go.Proofs.YtfonnebpnobomaaDoor.Am
open Go
variable {E : Env} {n : Nat} {H0 : Hp} {S : List Nat} {L : Ls} {M : Ms} {dr : Dr} {d : Nat} {r : List CO} {Q : Ls → Ms → Prop} {x y : Operand} {v : Value}

/-- a slice's elements, each of so many cells -/
structure SlE (H : Hp) (size : Nat) (ob : Option Addr) (es : List (List Value)) : Prop where
  len : ∀ e ∈ es, e.length = size
  all : es ≠ [] → ∃ a, ob = some a ∧ a.block < H.size ∧ ∃ row own, H.get a.block = .row row own ∧ a.off + es.length * size ≤ row.length ∧ (row.drop a.off).take (es.length * size) = es.flatten

theorem flatten_at {size : Nat} : ∀ {es : List (List Value)}, (∀ e ∈ es, e.length = size) → ∀ {i : Nat} (hi : i < es.length), (es.flatten.drop (i * size)).take size = es[i] := by
  intro es
  induction es with
  | nil => intro _ i hi; cases hi
  | cons e es ih =>
    intro h i hi
    have he : e.length = size := h e (by simp)
    cases i with
    | zero => simp [he.symm]
    | succ i =>
      have h1 : (i + 1) * size = size + i * size := by rw [Nat.add_mul, Nat.one_mul, Nat.add_comm]
      have h2 : (e ++ es.flatten).drop size = es.flatten := by
        rw [List.drop_append_of_le_length (by omega), List.drop_of_length_le (by omega), List.nil_append]
      rw [List.flatten_cons, h1, ← List.drop_drop, h2]
      simp only [List.getElem_cons_succ]
      exact ih (fun e he => h e (by simp [he])) (by simpa using hi)
theorem SlE.get {H : Hp} {size : Nat} {ob : Option Addr} {es : List (List Value)} (h : SlE H size ob es) {i : Nat} (hi : i < es.length) :
    ob.isSome = true ∧ (adr ob size i).block < H.size ∧ H.cells? (adr ob size i) size = some es[i] := by
  obtain ⟨a, rfl, h1, row, own, h2, h3, h4⟩ := h.all (by intro e; rw [e] at hi; cases hi)
  have hle : i * size + size ≤ es.length * size := by
    have : (i + 1) * size ≤ es.length * size := Nat.mul_le_mul_right _ hi
    rw [Nat.add_mul, Nat.one_mul] at this; exact this
  refine ⟨rfl, h1, ?_⟩
  show (match H.get a.block with | .row c _ => if a.off + i * size + size ≤ c.length then some ((c.drop (a.off + i * size)).take size) else none | _ => none) = _
  rw [h2]
  simp only
  rw [if_pos (by omega)]
  have : (row.drop (a.off + i * size)).take size = (((row.drop a.off).take (es.length * size)).drop (i * size)).take size := by
    rw [List.drop_take, List.take_take, List.drop_drop, Nat.min_eq_left (by omega)]
  rw [this, h4, flatten_at h.len hi]
theorem SlE.cell {H : Hp} {size : Nat} {ob : Option Addr} {es : List (List Value)} (h : SlE H size ob es) {i j : Nat} (hi : i < es.length) {v : Value} (hv : es[i][j]? = some v) :
    H.cell? ⟨(adr ob size i).block, (adr ob size i).off + j, none⟩ = some v := by
  obtain ⟨_, _, h3⟩ := h.get hi
  simp only [Hp.cells?] at h3
  simp only [Hp.cell?]
  cases hg : H.get (adr ob size i).block with
  | row c own =>
    rw [hg] at h3
    simp only at h3 ⊢
    split at h3
    · rw [← hv]
      have hj : j < size := by
        have := h.len _ (List.getElem_mem hi)
        have := (List.getElem?_eq_some_iff.1 hv).1
        omega
      have e : es[i] = (c.drop (adr ob size i).off).take size := (Option.some.inj h3).symm
      rw [e, List.getElem?_take, if_pos hj, List.getElem?_drop]
    · cases h3
  | _ => rw [hg] at h3; cases h3
theorem SlE.mono {H H1 : Hp} {size : Nat} {ob : Option Addr} {es : List (List Value)} (h : SlE H size ob es) (h1 : St H S H1 M) (hb : ∀ a, ob = some a → a.block ∉ S) : SlE H1 size ob es := by
  refine ⟨h.len, fun he => ?_⟩
  obtain ⟨a, rfl, g1, row, own, g2, g3⟩ := h.all he
  exact ⟨a, rfl, Nat.lt_of_lt_of_le g1 h1.size, row, own, by rw [h1.old _ g1 (hb a rfl)]; exact g2, g3⟩
theorem SlE.own {H : Hp} {size b : Nat} {sp : Option Nat} {es : List (List Value)} {rest : List Value} {own : Bool} (hl : ∀ e ∈ es, e.length = size) (hb : b < H.size) (hg : H.get b = .row (es.flatten ++ rest) own) : SlE H size (some ⟨b, 0, sp⟩) es := by
  have hlen : es.flatten.length = es.length * size := by
    clear hg
    induction es with
    | nil => simp
    | cons e es ih => rw [List.flatten_cons, List.length_append, ih (fun e he => hl e (by simp [he])), hl e (by simp), List.length_cons, Nat.add_mul, Nat.one_mul, Nat.add_comm]
  refine ⟨hl, fun _ => ⟨_, rfl, hb, _, own, hg, ?_, ?_⟩⟩
  · show 0 + _ ≤ _
    rw [List.length_append, hlen]; omega
  · rw [List.drop_zero, List.take_append_of_le_length (by omega), List.take_of_length_le (by omega)]

/-! the arguments of a call -/
theorem ha0 : ∀ F, SF F n L → ([] : List Operand).map F.eval = [] := fun _ _ => rfl
theorem ha1 {x1 : Operand} {a1 : Value} (h1 : evL L x1 = some a1) : ∀ F, SF F n L → [x1].map F.eval = [a1] := fun F hF => by simp only [List.map, hF.ev h1]
theorem ha2 {x1 x2 : Operand} {a1 a2 : Value} (h1 : evL L x1 = some a1) (h2 : evL L x2 = some a2) : ∀ F, SF F n L → [x1, x2].map F.eval = [a1, a2] := fun F hF => by simp only [List.map, hF.ev h1, hF.ev h2]
theorem ha3 {x1 x2 x3 : Operand} {a1 a2 a3 : Value} (h1 : evL L x1 = some a1) (h2 : evL L x2 = some a2) (h3 : evL L x3 = some a3) : ∀ F, SF F n L → [x1, x2, x3].map F.eval = [a1, a2, a3] := fun F hF => by simp only [List.map, hF.ev h1, hF.ev h2, hF.ev h3]
theorem ha4 {x1 x2 x3 x4 : Operand} {a1 a2 a3 a4 : Value} (h1 : evL L x1 = some a1) (h2 : evL L x2 = some a2) (h3 : evL L x3 = some a3) (h4 : evL L x4 = some a4) : ∀ F, SF F n L → [x1, x2, x3, x4].map F.eval = [a1, a2, a3, a4] := fun F hF => by simp only [List.map, hF.ev h1, hF.ev h2, hF.ev h3, hF.ev h4]

/-- an operation whose outcome nobody takes -/
theorem SF.putN {F : Fr} (v : Value) : F.put none v = some F := rfl
def okW : Dr → Bool
  | none => true
  | some fl => !(fl.headD true)
/-- an operation that may write -/
theorem o_eff {o : COp} {dst : Option Nat} {L' : Ls} {M' : Ms} (v : Value) (HH : Hp → Hp) (hfree : okW dr = true) (hv : ∀ F H, SF F n L → St H0 S H M → opN F H o = some (v, HH H) ∧ St H0 S (HH H) M') (hd : ∀ F, SF F n L → ∃ F1, F.put dst v = some F1 ∧ SF F1 n L') (h : So E n H0 S dr.next r L' M' Q) :
    So E n H0 S dr (⟨dst, none, o⟩ :: r) L M Q := .mk fun F H hF hH => by
  obtain ⟨F1, h1, h2⟩ := hd F hF
  cases dr with
  | none =>
    obtain ⟨h3, h4⟩ := hv F H hF hH
    exact wpO_op h3 h1 (h.run _ _ h2 h4)
  | some fl =>
    obtain ⟨h3, h4⟩ := hv F H.fresh hF hH.fresh
    obtain ⟨ds, F2, H2, h6, h7, h8, h9⟩ := h.run _ _ h2 (hH.lower h4)
    refine ⟨didOf F H.size (HH H.fresh).low o :: ds, F2, H2, h6.one fun n x => ?_, .free (by simpa [okW] using hfree) h7, by simp [h8], h9⟩
    have := opA_of_opN (O := oracle E n) h3
    simp only [Hp.fresh] at this
    simp only [drawA, wanted, this, h1]
    rw [show ({ tr := (HH ⟨H.tr, H.size, H.size⟩).tr, size := (HH ⟨H.tr, H.size, H.size⟩).size, low := H.low.min (HH ⟨H.tr, H.size, H.size⟩).low } : Hp) = (HH H.fresh).lower H.low from rfl, x]; rfl
theorem o_stN {a : Addr} {k : Nat} {M1 M2 : Ms} {c cn : List Value} (hx : evL L x = some (.pointer (some a))) (hy : evL L y = some v) (hk : v.cells.toList.length = k) (hm : M = M1 ++ (a.block, .row c true) :: M2) (hl : a.off + v.cells.toList.length ≤ c.length) (ho : v.cells.toList.all oneCell = true)
    (hc : setAll c a.off v.cells.toList = cn) (h : So E n H0 S dr.next r L (M1 ++ (a.block, .row cn true) :: M2) Q) (hfree : okW dr = true := by rfl) : So E n H0 S dr (⟨none, none, .st k x y⟩ :: r) L M Q := by
  subst hm
  subst hc
  refine o_eff undef (fun H => H.upd a.block (.row (setAll c a.off v.cells.toList) true)) hfree (fun F H hF hH => ⟨?_, St.upd hH⟩) (fun F hF => ⟨F, rfl, hF⟩) h
  show memOp F H (.st k x y) = _
  have hr := hH.row (b := a.block) (y := .row c true) (by simp)
  simp only [memOp, hF.ev hx, hF.ev hy, if_pos hk, Hp.setCells, hr]
  rw [if_pos ⟨hl, ho⟩]; rfl
theorem o_agg {z : List Value} {ps : List (Nat × Nat × Operand)} {c : List Value} (hv : ∀ F, SF F n L → fillA z (ps.map fun (o, s, x) => (o, s, F.eval x)) = some c) (hd : Nat.blt d n = true) (h : So E n H0 S dr.next r ((d, .agg ⟨c⟩) :: L) M Q) : So E n H0 S dr (⟨some d, none, .agg z ps⟩ :: r) L M Q :=
  o_pure rfl (fun F hF => by simp only [pureOp, hv F hF, Option.map_some]) hd h
theorem o_eqb {neg p q : Bool} (hx : evL L x = some (.bool p)) (hy : evL L y = some (.bool q)) (hd : Nat.blt d n = true) (h : So E n H0 S dr.next r ((d, .bool (if neg then !(p == q) else p == q)) :: L) M Q) : So E n H0 S dr (⟨some d, none, .eqb neg x y⟩ :: r) L M Q :=
  o_pure rfl (fun F hF => by simp only [pureOp, hF.ev hx, hF.ev hy]) hd h
theorem o_eqc {neg c : Bool} {ks : List Nat} {xs ys : List Value} (hx : evL L x = some (.agg ⟨xs⟩)) (hy : evL L y = some (.agg ⟨ys⟩)) (hv : cellsEq ks xs ys = some c) (hd : Nat.blt d n = true) (h : So E n H0 S dr.next r ((d, .bool (if neg then !c else c)) :: L) M Q) : So E n H0 S dr (⟨some d, none, .eqc neg ks x y⟩ :: r) L M Q :=
  o_pure rfl (fun F hF => by simp only [pureOp, hF.ev hx, hF.ev hy, hv, Option.map_some]) hd h
theorem o_fn {f : FuncId} {first cap : List Operand} {a c : List Value} (ha : ∀ F, SF F n L → first.map F.eval = a) (hc : ∀ F, SF F n L → cap.map F.eval = c) (hd : Nat.blt d n = true) (h : So E n H0 S dr.next r ((d, .func (.func f) ⟨a⟩ ⟨c⟩) :: L) M Q) : So E n H0 S dr (⟨some d, none, .fn f first cap⟩ :: r) L M Q :=
  o_pure rfl (fun F hF => by simp only [pureOp, ha F hF, hc F hF]) hd h

/-- the end of a slice is left away -/
theorem o_slTo {a : Addr} {size len cap m : Nat} {k : IntKind} (hx : evL L x = some (.slice (some a) len cap)) (hy : evL L y = some (.int k m)) (hm : m ≤ cap) (hs : isExact a = true ∨ isRoomy a size = true) (hd : Nat.blt d n = true)
    (h : So E n H0 S dr.next r ((d, .slice (some a) m cap) :: L) M Q) : So E n H0 S dr (⟨some d, none, .sl size x none (some y) none⟩ :: r) L M Q :=
  o_pure rfl (fun F hF => by
    have e : (if (isExact a || isRoomy a size) = true then a.spot else none) = a.spot := by rcases hs with h | h <;> simp [h]
    simp only [pureOp, hF.ev hx, Option.map_none, Option.map_some, hF.ev hy, sliceV, bounds, bound]
    have h1 : (0 : Int) ≤ (m : Int) ∧ (m : Int) ≤ (cap : Int) := by omega
    simp only [h1, and_self, if_true, Option.isSome_none, Bool.false_and, Bool.false_eq_true, if_false, Int.toNat_natCast, Nat.zero_le, Nat.sub_zero, Nat.zero_mul, Nat.add_zero, e, ite_self]) hd h

/-! appending -/
/-- a slice that is the call's own, and begins where its block does -/
def Own (size : Nat) (sv : Value) (cs : List Value) (Mo : Ms) : Prop :=
  (Mo = [] ∧ sv = .slice none 0 0 ∧ cs = []) ∨ ∃ b len cap sp row, Mo = [(b, .row row true)] ∧ sv = .slice (some ⟨b, 0, some sp⟩) len cap ∧ cs.length = len * size ∧ row.take (len * size) = cs ∧ len * size ≤ row.length ∧ ((sp = 0 ∧ cap = len) ∨ (sp = size + 1 ∧ 0 < cap ∧ len ≤ cap))
theorem o_app {size bytes : Nat} {sv : Value} {cs new : List Value} {Mo Mr : Ms} {xa : Addr} {k cap len : Nat} (hs : evL L x = some sv) (hy : evL L y = some (.slice (some xa) k cap)) (hO : Own size sv cs Mo) (hlen : cs.length = len * size) (hsz : 0 < size) (hk : k ≠ 0)
    (hnew : ∀ H, St H0 S H M → H.cells? xa (k * size) = some new) (hone : new.all oneCell = true) (hb : (4 * (len + k) + 4096) * bytes ≤ 140737488355328) (hM : List.Sublist (Mo ++ Mr) M) (hd : Nat.blt d n = true)
    (h : ∀ b, So E n H0 S none r ((d, .slice (some ⟨b, 0, some (size + 1)⟩) (len + k) (len + k)) :: L) ((b, .row (cs ++ new) true) :: Mr) Q) : So E n H0 S none (⟨some d, none, .app size bytes x y⟩ :: r) L M Q := .mk fun F H hF hH => by
  have hn := hnew H hH
  have hb' : ¬ 2 ^ 47 < (4 * (len + k) + 4096) * bytes := by omega
  have hH' : St H0 S H (Mo ++ Mr) := hH.sub (fun _ hx => hM.subset hx) ((hM.map _).nodup hH.diff)
  have go : ∀ H1 H2 : Hp, memOp F H (.app size bytes x y) = some (.slice (some ⟨H1.size, 0, some (size + 1)⟩) (len + k) (len + k), H1.new (.row (cs ++ new) true)) → St H0 S H1 Mr → WpO E (⟨some d, none, .app size bytes x y⟩ :: r) F H fun F1 H1 => ∃ L1 M1, SF F1 n L1 ∧ St H0 S H1 M1 ∧ Q L1 M1 := by
    intro H1 _ hm hS
    obtain ⟨h1, h2⟩ := hF.set (v := .slice (some ⟨H1.size, 0, some (size + 1)⟩) (len + k) (len + k)) hd
    exact wpO_op hm h1 ((h H1.size).run _ _ h2 (hS.new _))
  rcases hO with ⟨rfl, rfl, rfl⟩ | ⟨b, len', cap', sp, row, rfl, rfl, h1, h2, h3, h4⟩
  · have hl : len = 0 := by
      have : len * size = 0 := hlen.symm
      rcases Nat.mul_eq_zero.1 this with h | h
      · exact h
      · omega
    subst hl
    refine go H H ?_ hH'
    have hb2 : ¬ 2 ^ 47 < (4 * k + 4096) * bytes := by rw [Nat.zero_add] at hb'; exact hb'
    simp only [memOp, hF.ev hy, hF.ev hs, if_neg hk, hn, Option.bind_some, hone, if_true, appendTo, Nat.zero_add, if_neg hb2, oldCells, roomy, List.nil_append]
  · have hl : len' = len := by
      have : len' * size = len * size := by rw [← h1, hlen]
      exact Nat.eq_of_mul_eq_mul_right hsz this
    subst hl
    have hrow : H.get b = .row row true := hH'.row (b := b) (y := .row row true) (by simp)
    have hold : oldCells H size (some ⟨b, 0, some sp⟩) len' = some cs := by
      simp only [oldCells]
      split
      · rename_i e; subst e
        simp at h1; rw [h1]
      · simp only [Hp.cells?, hrow, Nat.zero_add, if_pos h3, List.drop_zero, h2]
    rcases h4 with ⟨rfl, rfl⟩ | ⟨rfl, h5, h6⟩
    · refine go H H ?_ (hH'.sub (fun _ hx => by simp [hx]) (List.nodup_cons.1 hH'.diff).2)
      have hc : cap' < cap' + k := by omega
      simp only [memOp, hF.ev hy, hF.ev hs, if_neg hk, hn, Option.bind_some, hone, if_true, appendTo, if_neg hb', hold, isExact, if_pos hc, roomy]
    · have hS : St H0 S (H.upd b .dead) Mr := by
        have := St.upd (M1 := []) (M2 := Mr) (b := b) (y := .row row true) (z := .dead) hH'
        exact this.sub (fun _ hx => by simp [hx]) (List.nodup_cons.1 hH'.diff).2
      refine go (H.upd b .dead) H ?_ hS
      have hr : isRoomy (⟨b, 0, some (size + 1)⟩ : Addr) size = true := by simp [isRoomy]
      have hcap : Nat.blt 0 cap' = true := Nat.ble_eq_true_of_le h5
      simp only [memOp, hF.ev hy, hF.ev hs, if_neg hk, hn, Option.bind_some, hone, if_true, appendTo, if_neg hb', hold, isExact, Bool.false_eq_true, if_false, hr, hcap, Bool.and_self, hrow, roomy, Hp.size_upd]

/-- a function that may write blocks of which it is known what lies there -/
theorem sc_bodyM {f : FuncId} {cf : CF} {args : List Value} {M0 : Ms} {Q : Value → Ms → Prop} (hM : ∀ b x, (b, x) ∈ M0 → H0.get b = x ∧ b < H0.size ∧ b ∈ S) (hN : (M0.map Prod.fst).Nodup) (hc : E.code f = some cf) (hs : Nat.ble args.length cf.n = true)
    (h : Ss E cf.n H0 S cf.body (lsOf 0 args) M0 (sRet cf.rs Q)) : Sc E f args H0 S Q := by
  have h0 : St H0 S H0 M0 := ⟨Nat.le_refl _, fun _ _ _ => rfl, fun _ h _ _ => h, fun b x hx => ⟨(hM b x hx).1, (hM b x hx).2.1, .inr (hM b x hx).2.2⟩, hN⟩
  refine .mk (wpC_body hc (by simpa using Nat.le_of_ble_eq_true hs) ?_)
  refine (h.run _ _ (sf_ofArgs args cf.n) h0).mono fun e F1 H1 ⟨L1, M1, h1, h2, h3, vs, h4, h5⟩ => ⟨h3, tupled vs, H1, ?_, M1, h2, h5⟩
  simp only [leaveA, h1.marks, killAll, ress_sound h1 h2 h4, Option.map_some]
theorem setAll_one : ∀ (c : List Value) (i : Nat) (v : Value), i < c.length → setAll c i [v] = c.set i v := by
  intro c
  induction c with
  | nil => intro i v h; cases h
  | cons x c ih =>
    intro i v h
    cases i with
    | zero => simp [setAll]
    | succ i => simp only [setAll, List.set_cons_succ]; rw [ih i v (by simpa using h)]
theorem setAll_whole (c vs : List Value) (h : vs.length = c.length) : setAll c 0 vs = vs := by simp [setAll, h]

theorem o_mks {bytes : Nat} {z : List Value} {k1 k2 : IntKind} {l c : Nat} (hx : evL L x = some (.int k1 l)) (hy : evL L y = some (.int k2 c)) (h1 : l ≤ c) (h2 : c ≤ 1073741824) (h3 : bytes ≤ 1024) (hd : Nat.blt d n = true)
    (h : ∀ b, So E n H0 S dr.next r ((d, .slice (some ⟨b, 0, some 0⟩) l c) :: L) ((b, .row (zeroCells z c) true) :: M) Q) : So E n H0 S dr (⟨some d, none, .mks bytes z x y⟩ :: r) L M Q :=
  o_new (fun b => .slice (some ⟨b, 0, some 0⟩) l c) (fun F H hF _ => by
    show memOp F H (.mks bytes z x y) = _
    simp only [memOp, hF.ev hx, hF.ev hy]
    rw [if_pos ⟨by omega, by omega, by omega, by omega⟩]
    simp [exact]) hd h
theorem So.weak {l : List CO} {L' : Ls} {M' : Ms} (h : So E n H0 S dr l L' M' Q) (hL : ∀ x ∈ L', look L x.1 = some x.2) (hM : List.Sublist M' M) : So E n H0 S dr l L M Q :=
  .mk fun F H hF hH => h.run F H (hF.mono hL) (hH.sub (fun _ hx => hM.subset hx) ((hM.map _).nodup hH.diff))
theorem So.weakM {l : List CO} {M' : Ms} (h : So E n H0 S dr l L M' Q) (hM : List.Sublist M' M) : So E n H0 S dr l L M Q :=
  .mk fun F H hF hH => h.run F H hF (hH.sub (fun _ hx => hM.subset hx) ((hM.map _).nodup hH.diff))
theorem St.lt {H : Hp} {b : Nat} {x : Blk} (h : St H0 S H M) (hm : (b, x) ∈ M) : b < H.size := (h.here b x hm).2.1
theorem St.ge {H : Hp} {b : Nat} {x : Blk} (h : St H0 [] H M) (hm : (b, x) ∈ M) : H0.size ≤ b := by
  rcases (h.here b x hm).2.2 with h1 | h1
  · exact h1
  · cases h1

theorem o_max2 {k : IntKind} {a b : Int} (hx : evL L x = some (.int k a)) (hy : evL L y = some (.int k b)) (hd : Nat.blt d n = true) (h : So E n H0 S dr.next r ((d, .int k (if b > a then b else a)) :: L) M Q) : So E n H0 S dr (⟨some d, none, .mnx true [x, y]⟩ :: r) L M Q :=
  o_pure rfl (fun F hF => by simp only [pureOp, List.map, hF.ev hx, hF.ev hy, mnxV, mnxF, mnx2, if_true]) hd h

theorem wrap64 {z : Int} (h1 : -9223372036854775808 ≤ z) (h2 : z ≤ 9223372036854775807) : IntKind.wrap .i64 z = z := by
  simp only [IntKind.wrap, IntKind.bits, IntKind.signed]
  simp
  omega
end Go.Proofs.YtfonnebpnobomaaDoor.Am
/- Symbolic states: maps from numbers to 'true'. -/
namespace Go.Proofs.YtfonnebpnobomaaDoor.Am
open Go
variable {E : Env} {n : Nat} {H0 : Hp} {S : List Nat} {L : Ls} {M : Ms} {dr : Dr} {d : Nat} {r : List CO} {Q : Ls → Ms → Prop} {x y : Operand} {v : Value}

/-- a map that has just these numbers, with 'true' -/
def IntSet (es : Array MapEntry) (seen : List Int) : Prop := es.toList.map (fun e => (e.key, e.val)) = seen.map fun z => (Value.int .i64 z, Value.bool true)
theorem findNow_set (z : Int) : ∀ (l : List MapEntry) (seen : List Int) (i : Nat), l.map (fun e => (e.key, e.val)) = seen.map (fun z => (Value.int .i64 z, Value.bool true)) →
    (z ∈ seen ∧ ∃ j e, Instr.findNow (.int .i64) (.int .i64 z) l i = some (some (i + j, .bool true)) ∧ l[j]? = some e ∧ e.key = .int .i64 z ∧ e.val = .bool true) ∨ (z ∉ seen ∧ Instr.findNow (.int .i64) (.int .i64 z) l i = some none) := by
  intro l
  induction l with
  | nil =>
    intro seen i h
    cases seen with
    | nil => exact .inr ⟨by simp, rfl⟩
    | cons a b => simp at h
  | cons e l ih =>
    intro seen i h
    cases seen with
    | nil => simp at h
    | cons a seen =>
      simp only [List.map_cons, List.cons.injEq, Prod.mk.injEq] at h
      obtain ⟨⟨h1, h2⟩, h3⟩ := h
      by_cases e1 : z = a
      · subst e1
        exact .inl ⟨by simp, 0, e, by simp [Instr.findNow, Instr.sameNow, h1, h2], by simp, h1, h2⟩
      · have h4 : Instr.findNow (.int .i64) (.int .i64 z) (e :: l) i = Instr.findNow (.int .i64) (.int .i64 z) l (i + 1) := by
          have : (z == a) = false := by simpa using e1
          simp [Instr.findNow, Instr.sameNow, h1, this]
        rcases ih seen (i + 1) h3 with ⟨g1, j, e', g2, g3, g4, g5⟩ | ⟨g1, g2⟩
        · exact .inl ⟨by simp [g1], j + 1, e', by rw [h4, g2]; congr 3; omega, by simpa using g3, g4, g5⟩
        · exact .inr ⟨by simp [e1, g1], by rw [h4, g2]⟩

theorem o_mkm (hd : Nat.blt d n = true) (h : ∀ b, So E n H0 S dr.next r ((d, .map (some b)) :: L) ((b, .map #[] 0) :: M) Q) : So E n H0 S dr (⟨some d, none, .mkm⟩ :: r) L M Q :=
  o_new (fun b => .map (some b)) (fun _ _ _ _ => rfl) hd h
theorem g_lkp {g : Option (Nat × Bool)} {w : Bool} {b clock : Nat} {es : Array MapEntry} {seen : List Int} {z : Int} (hg : ∀ F, SF F n L → wanted F g = w) (hx : w = true → evL L x = some (.map (some b))) (hy : w = true → evL L y = some (.int .i64 z))
    (hm : (b, Blk.map es clock) ∈ M) (hs : IntSet es seen) (hd : Nat.blt d n = true) (h : So E n H0 S dr.next r ((d, gv w (.bool (seen.contains z))) :: L) M Q) : So E n H0 S dr (⟨some d, g, .lkp (.int .i64) (.bool false) x y false⟩ :: r) L M Q :=
  o_when hg (fun hw F H hF hH => by
    show memOp F H (.lkp (.int .i64) (.bool false) x y false) = _
    have he : entries H (.map (some b)) = some es := by simp only [entries, hH.row hm]
    simp only [memOp, hF.ev (hx hw), hF.ev (hy hw), he]
    rcases findNow_set z es.toList seen 0 hs with ⟨g1, j, e, g2, _⟩ | ⟨g1, g2⟩
    · rw [g2]; simp [g1]
    · rw [g2]; simp [g1]) hd h
theorem intSet_push {es : Array MapEntry} {seen : List Int} (h : IntSet es seen) (z : Int) (c : Nat) : IntSet (es.push ⟨.int .i64 z, .bool true, c⟩) (seen ++ [z]) := by
  unfold IntSet at h ⊢
  rw [Array.toList_push, List.map_append, List.map_append, h]; rfl
theorem o_mupN {b clock : Nat} {es : Array MapEntry} {seen : List Int} {z : Int} {c : Operand} {M1 M2 : Ms} (hx : evL L x = some (.map (some b))) (hy : evL L y = some (.int .i64 z)) (hc : evL L c = some (.bool true)) (hm : M = M1 ++ (b, .map es clock) :: M2) (hs : IntSet es seen)
    (h : ∀ es' clock', IntSet es' (if z ∈ seen then seen else seen ++ [z]) → So E n H0 S none r L (M1 ++ (b, .map es' clock') :: M2) Q) : So E n H0 S none (⟨none, none, .mup (.int .i64) x y c⟩ :: r) L M Q := .mk fun F H hF hH => by
  subst hm
  have hr := hH.row (b := b) (y := .map es clock) (by simp)
  rcases findNow_set z es.toList seen 0 hs with ⟨g1, j, e, g2, g3, g4, g5⟩ | ⟨g1, g2⟩
  · have hi : IntSet (es.modify j fun e => { e with key := .int .i64 z, val := .bool true }) seen := by
      unfold IntSet at hs ⊢
      rw [← hs]
      apply List.ext_getElem?
      intro k
      have hj : j < es.size := by
        have := (List.getElem?_eq_some_iff.1 g3).1
        simpa using this
      by_cases hk : k = j
      · subst hk
        have e1 : es[k]? = some e := by simpa using g3
        simp [Array.getElem?_modify, e1, g4, g5]
      · simp [Array.getElem?_modify, Ne.symm hk]
    have := h _ clock (by rw [if_pos g1]; exact hi)
    refine wpO_op (v := undef) (F1 := F) ?_ rfl (this.run _ _ hF (St.upd hH))
    show memOp F H (.mup (.int .i64) x y c) = _
    simp only [memOp, hF.ev hx, hF.ev hy, hF.ev hc, hr, flat0, if_true, g2, Nat.zero_add]
  · have := h (es.push ⟨.int .i64 z, .bool true, clock⟩) (clock + 1) (by rw [if_neg g1]; exact intSet_push hs z clock)
    refine wpO_op (v := undef) (F1 := F) ?_ rfl (this.run _ _ hF (St.upd hH))
    show memOp F H (.mup (.int .i64) x y c) = _
    simp only [memOp, hF.ev hx, hF.ev hy, hF.ev hc, hr, flat0, if_true, g2]
theorem g_eqb {g : Option (Nat × Bool)} {w neg p q : Bool} (hg : ∀ F, SF F n L → wanted F g = w) (hx : w = true → evL L x = some (.bool p)) (hy : w = true → evL L y = some (.bool q)) (hd : Nat.blt d n = true) (h : So E n H0 S dr.next r ((d, gv w (.bool (if neg then !(p == q) else p == q))) :: L) M Q) : So E n H0 S dr (⟨some d, g, .eqb neg x y⟩ :: r) L M Q :=
  g_pure rfl hg (fun hw F hF => by simp only [pureOp, hF.ev (hx hw), hF.ev (hy hw)]) hd h
theorem g_iad {g : Option (Nat × Bool)} {w : Bool} {ob : Option Addr} {size len cap i : Nat} {k : IntKind} (hg : ∀ F, SF F n L → wanted F g = w) (hx : w = true → evL L x = some (.slice ob len cap)) (hy : w = true → evL L y = some (.int k i)) (hi : w = true → i < len) (ho : w = true → ob.isSome = true) (hd : Nat.blt d n = true)
    (h : So E n H0 S dr.next r ((d, gv w (.pointer (some (adr ob size i)))) :: L) M Q) : So E n H0 S dr (⟨some d, g, .iad size x y⟩ :: r) L M Q :=
  g_pure rfl hg (fun hw F hF => by
    cases ob with
    | none => have := ho hw; cases this
    | some a =>
      have := hi hw
      simp only [pureOp, hF.ev (hx hw), hF.ev (hy hw)]
      rw [if_pos ⟨by omega, by omega⟩]
      simp [adr]) hd h
theorem g_ld1w {g : Option (Nat × Bool)} {w : Bool} {a : Addr} (hg : ∀ F, SF F n L → wanted F g = w) (hx : w = true → evL L x = some (.pointer (some a))) (hv : w = true → ∃ c own, (a.block, Blk.row c own) ∈ M ∧ c[a.off]? = some v) (hd : Nat.blt d n = true) (h : So E n H0 S dr.next r ((d, gv w v) :: L) M Q) : So E n H0 S dr (⟨some d, g, .ld1 x⟩ :: r) L M Q :=
  o_when hg (fun hw F H hF hH => by
    obtain ⟨c, own, h1, h2⟩ := hv hw
    show memOp F H (.ld1 x) = _
    simp only [memOp, hF.ev (hx hw), cell_of_row (hH.row h1) h2, Option.map_some]) hd h
/-- a slice that is new: its elements -/
def NewE (size : Nat) (v : Value) (es : List (List Value)) (M : Ms) : Prop := ∃ b sp cap row, v = .slice (some ⟨b, 0, sp⟩) es.length cap ∧ (b, Blk.row row true) ∈ M ∧ es.length ≤ cap ∧ ∃ rest, row = es.flatten ++ rest
theorem flatten_len {size : Nat} : ∀ {es : List (List Value)}, (∀ e ∈ es, e.length = size) → es.flatten.length = es.length * size := by
  intro es
  induction es with
  | nil => intro _; simp
  | cons e es ih => intro h; rw [List.flatten_cons, List.length_append, ih (fun e he => h e (by simp [he])), h e (by simp), List.length_cons, Nat.add_mul, Nat.one_mul, Nat.add_comm]
theorem SlE.cells {H : Hp} {size : Nat} {ob : Option Addr} {es : List (List Value)} (h : SlE H size ob es) (hne : es ≠ []) : ∃ a, ob = some a ∧ a.block < H.size ∧ H.cells? a (es.length * size) = some es.flatten := by
  obtain ⟨a, h1, h2, row, own, h3, h4, h5⟩ := h.all hne
  exact ⟨a, h1, h2, by simp only [Hp.cells?, h3, if_pos h4, h5]⟩
/-- a copy: appended to an empty slice -/
theorem o_copy {size bytes b : Nat} {Mr : Ms} {ob : Option Addr} {cap : Nat} {es : List (List Value)} (hs : evL L x = some (.slice (some ⟨b, 0, some 0⟩) 0 0)) (hy : evL L y = some (.slice ob es.length cap)) (hsz : 0 < size) (hsl : SlE H0 size ob es) (hS : ∀ a, ob = some a → a.block ∉ S)
    (hone : es.flatten.all oneCell = true) (hb : (4 * es.length + 4096) * bytes ≤ 140737488355328) (hM : M = (b, .row [] true) :: Mr) (hd : Nat.blt d n = true)
    (h : ∀ v M', NewE size v es M' → (∀ z ∈ Mr, z ∈ M') → So E n H0 S none r ((d, v) :: L) M' Q) : So E n H0 S none (⟨some d, none, .app size bytes x y⟩ :: r) L M Q := by
  subst hM
  by_cases he : es = []
  · subst he
    refine o_same (fun F _ => noG F) (fun F H hF hH => ?_) hd (h (.slice (some ⟨b, 0, some 0⟩) 0 0) _ ⟨b, some 0, 0, [], rfl, .head _, Nat.le_refl _, [], rfl⟩ fun z hz => List.mem_cons_of_mem _ hz)
    show memOp F H (.app size bytes x y) = _
    cases ob with
    | none => simp [memOp, hF.ev hy, hF.ev hs, appendTo]
    | some a => simp [memOp, hF.ev hy, hF.ev hs, appendTo]
  · obtain ⟨a, rfl, h1, h2⟩ := hsl.cells he
    have hpos : 0 < es.length := List.length_pos_iff.2 he
    refine o_app (cs := []) (Mo := [(b, .row [] true)]) (Mr := Mr) (len := 0) (new := es.flatten) hs hy (.inr ⟨b, 0, 0, 0, [], rfl, rfl, by simp, by simp, by simp, .inl ⟨rfl, rfl⟩⟩) (by simp) hsz (by omega) (fun H hH => ?_) hone (by rw [Nat.zero_add]; exact hb) (.refl _) hd (fun b' => ?_)
    · rw [← h2]; simp only [Hp.cells?, hH.old _ h1 (hS a rfl)]
    · exact h _ _ ⟨b', _, 0 + es.length, _, by rw [Nat.zero_add], .head _, by omega, [], by simp⟩ fun z hz => List.mem_cons_of_mem _ hz
theorem o_eqnil {ob : Option Addr} {len cap : Nat} (hx : evL L x = some (.slice ob len cap)) (hd : Nat.blt d n = true) (h : So E n H0 S dr.next r ((d, .bool ob.isNone) :: L) M Q) : So E n H0 S dr (⟨some d, none, .eqn 1 false true x (.const (.slice none 0 0))⟩ :: r) L M Q :=
  o_pure rfl (fun F hF => by
    simp only [pureOp, hF.ev hx, hF.ev (x := .const (.slice none 0 0)) rfl]
    cases ob <;> rfl) hd h
/-- a call that changes nothing; what it has made is kept -/
theorem o_call1 {f : Operand} {as : List Operand} {gf : FuncId} {fst cap : Array Value} {args : List Value} (hf : evL L f = some (.func (.func gf) fst cap)) (ha : ∀ F, SF F n L → as.map F.eval = args) (hd : Nat.blt d n = true)
    (hc : ∀ H, St H0 S H M → Sc E gf (fst.toList ++ (args ++ cap.toList)) H [] fun v M1 => So E n H0 S dr.next r ((d, v) :: L) (M1 ++ M) Q) : So E n H0 S dr (⟨some d, none, .call f as⟩ :: r) L M Q := .mk fun F H hF hH => by
  have hargs : fst ++ args.toArray ++ cap = (fst.toList ++ (args ++ cap.toList)).toArray := by
    obtain ⟨a⟩ := fst; obtain ⟨c⟩ := cap; simp
  have keep : ∀ {H H1 : Hp} {M1 : Ms}, St H0 S H M → St H [] H1 M1 → St H0 S H1 (M1 ++ M) := fun h h1 =>
    h.call h1 (fun _ h => (by cases h)) (fun x hx => ⟨hx, fun h => (by cases h)⟩) h.diff
  cases dr with
  | none =>
    obtain ⟨⟨v, H1, h4, M1, h5, h6⟩⟩ := hc H hH
    obtain ⟨h7, h8⟩ := hF.set (v := v) hd
    refine wpO_call ?_
    rw [hF.ev hf, ha F hF]
    refine wpV_func ⟨v, H1, ?_, _, h7, h6.run _ _ h8 (keep hH h5)⟩
    rw [hargs]; exact h4
  | some fl =>
    obtain ⟨⟨v, H1, h4, M1, h5, h6⟩⟩ := hc H.fresh hH.fresh
    obtain ⟨h7, h8⟩ := hF.set (v := v) hd
    have hlow : H.size ≤ H1.low := h5.low H.size (Nat.le_refl _) (Nat.le_refl _) (fun _ h => (by cases h))
    obtain ⟨ds, F2, H2, g1, g2, g3, g4⟩ := h6.run _ _ h8 (hH.lower (keep hH.fresh h5))
    refine wpD_call ?_
    rw [hF.ev hf, ha F hF]
    refine wpV_func ⟨v, H1, ?_, _, h7, ds, F2, H2, g1, ?_, by simp [g3], g4⟩
    · rw [hargs]; exact h4
    · refine .cons ?_ g2
      have hb : Nat.blt H1.low H.size = false := by
        cases e : Nat.blt H1.low H.size with
        | false => rfl
        | true => have : H1.low < H.size := Nat.le_of_ble_eq_true e; omega
      show calm (.other (Nat.blt H1.low H.size)) = true
      rw [hb]; rfl
/-- a guarded call that changes nothing -/
theorem g_call0 {g : Option (Nat × Bool)} {w : Bool} {f : Operand} {as : List Operand} {gf : FuncId} {args : List Value} (hg : ∀ F, SF F n L → wanted F g = w) (hf : evL L f = some (.func (.func gf) #[] #[])) (ha : w = true → ∀ F, SF F n L → as.map F.eval = args) (hd : Nat.blt d n = true)
    (hc : w = true → ∀ H, St H0 S H M → Sc E gf args H [] fun v' _ => v' = v) (h : So E n H0 S none r ((d, gv w v) :: L) M Q) : So E n H0 S none (⟨some d, g, .call f as⟩ :: r) L M Q := by
  cases w with
  | false =>
    refine .mk fun F H hF hH => ?_
    obtain ⟨h1, h2⟩ := hF.set (v := undef) hd
    obtain ⟨F2, H2, h5, h6⟩ := h.run _ _ h2 hH
    exact ⟨F2, H2, h5.one fun n x => by simp only [opsA, hg F hF, h1]; exact x, h6⟩
  | true =>
    have e : gv true v = v := rfl
    rw [e] at h
    have := (o_call0 (dr := none) (fst := #[]) (cap := #[]) hf (ha rfl) hd (fun H hH => by simpa using hc rfl H hH) h)
    refine .mk fun F H hF hH => ?_
    obtain ⟨F2, H2, h5, h6⟩ := this.run F H hF hH
    refine ⟨F2, H2, h5.one fun n x => ?_, h6⟩
    rw [← x]
    unfold opsA
    rw [hg F hF]; rfl
/-! a part of a slice -/
def subAdr (a : Addr) (l cap size : Nat) : Addr := if cap = l then a else ⟨a.block, a.off + l * size, if isExact a || isRoomy a size then a.spot else none⟩
theorem o_slSub {a : Addr} {size len cap l m : Nat} {k1 k2 : IntKind} {z : Operand} (hx : evL L x = some (.slice (some a) len cap)) (hy : evL L y = some (.int k1 l)) (hz : evL L z = some (.int k2 m)) (h1 : l ≤ m) (h2 : m ≤ cap) (hd : Nat.blt d n = true)
    (h : So E n H0 S dr.next r ((d, .slice (some (subAdr a l cap size)) (m - l) (cap - l)) :: L) M Q) : So E n H0 S dr (⟨some d, none, .sl size x (some y) (some z) none⟩ :: r) L M Q :=
  o_pure rfl (fun F hF => by
    have g1 : (0 : Int) ≤ (m : Int) ∧ (m : Int) ≤ (cap : Int) := by omega
    have g2 : (0 : Int) ≤ (l : Int) ∧ (l : Int) ≤ (m : Int) := by omega
    simp only [pureOp, hF.ev hx, Option.map_none, Option.map_some, hF.ev hy, hF.ev hz, sliceV, bounds, bound, Option.isSome_none, Bool.false_and, Bool.false_eq_true, if_false, g1, g2, and_self, if_true, Int.toNat_natCast]
    rfl) hd h
theorem o_slFrom {a : Addr} {size len cap l : Nat} {k1 : IntKind} (hx : evL L x = some (.slice (some a) len cap)) (hy : evL L y = some (.int k1 l)) (h1 : l ≤ len) (h2 : len ≤ cap) (hd : Nat.blt d n = true)
    (h : So E n H0 S dr.next r ((d, .slice (some (subAdr a l cap size)) (len - l) (cap - l)) :: L) M Q) : So E n H0 S dr (⟨some d, none, .sl size x (some y) none none⟩ :: r) L M Q :=
  o_pure rfl (fun F hF => by
    have g2 : (0 : Int) ≤ (l : Int) ∧ (l : Int) ≤ (len : Int) := by omega
    simp only [pureOp, hF.ev hx, Option.map_none, Option.map_some, hF.ev hy, sliceV, bounds, bound, Option.isSome_none, Bool.false_and, Bool.false_eq_true, if_false, g2, and_self, if_true, Int.toNat_natCast]
    rfl) hd h
theorem flatten_part {size : Nat} : ∀ {es : List (List Value)}, (∀ e ∈ es, e.length = size) → ∀ (l k : Nat), (es.flatten.drop (l * size)).take (k * size) = ((es.drop l).take k).flatten := by
  have hd : ∀ {es : List (List Value)}, (∀ e ∈ es, e.length = size) → ∀ l, es.flatten.drop (l * size) = (es.drop l).flatten := by
    intro es
    induction es with
    | nil => intro _ l; simp
    | cons e es ih =>
      intro h l
      have he := h e (by simp)
      cases l with
      | zero => simp
      | succ l =>
        have h1 : (l + 1) * size = size + l * size := by rw [Nat.add_mul, Nat.one_mul, Nat.add_comm]
        have h2 : (e ++ es.flatten).drop size = es.flatten := by
          rw [List.drop_append_of_le_length (by omega), List.drop_of_length_le (by omega), List.nil_append]
        rw [List.flatten_cons, h1, ← List.drop_drop, h2, List.drop_succ_cons]
        exact ih (fun e he => h e (by simp [he])) l
  have ht : ∀ {es : List (List Value)}, (∀ e ∈ es, e.length = size) → ∀ k, es.flatten.take (k * size) = (es.take k).flatten := by
    intro es
    induction es with
    | nil => intro _ l; simp
    | cons e es ih =>
      intro h k
      have he := h e (by simp)
      cases k with
      | zero => simp
      | succ k =>
        have h1 : (k + 1) * size = size + k * size := by rw [Nat.add_mul, Nat.one_mul, Nat.add_comm]
        rw [List.flatten_cons, h1, List.take_append, List.take_of_length_le (by omega), he, Nat.add_sub_cancel_left, List.take_succ_cons, List.flatten_cons, ih (fun e he => h e (by simp [he])) k]
  intro es h l k
  rw [hd h l]
  exact ht (fun e he => h e (List.mem_of_mem_drop he)) k
theorem SlE.sub {H : Hp} {size : Nat} {a : Addr} {es : List (List Value)} (h : SlE H size (some a) es) {l m cap : Nat} (h1 : l ≤ m) (h2 : m ≤ es.length) (h3 : es.length ≤ cap) : SlE H size (some (subAdr a l cap size)) ((es.drop l).take (m - l)) := by
  refine ⟨fun e he => h.len e (List.mem_of_mem_drop (List.mem_of_mem_take he)), fun hne => ?_⟩
  have hlm : l < m := by
    rcases Nat.lt_or_ge l m with g | g
    · exact g
    · exact absurd (by rw [show m - l = 0 by omega]; simp) hne
  obtain ⟨a', e, g1, row, own, g2, g3, g4⟩ := h.all (by intro e; rw [e] at h2; simp at h2; omega)
  cases e
  have hc : ¬ cap = l := by omega
  unfold subAdr
  rw [if_neg hc]
  have hlen : ((es.drop l).take (m - l)).length = m - l := by rw [List.length_take, List.length_drop]; omega
  have hle : m * size ≤ es.length * size := Nat.mul_le_mul_right _ h2
  have hsub : (m - l) * size = m * size - l * size := Nat.sub_mul _ _ _
  have hlm2 : l * size ≤ m * size := Nat.mul_le_mul_right _ h1
  refine ⟨_, rfl, g1, row, own, g2, ?_, ?_⟩
  · rw [hlen]
    show a.off + l * size + (m - l) * size ≤ _
    omega
  · rw [hlen, ← flatten_part h.len, ← g4]
    show (row.drop (a.off + l * size)).take _ = _
    rw [List.drop_take, List.take_take, List.drop_drop, Nat.min_eq_left (by omega)]
end Go.Proofs.YtfonnebpnobomaaDoor.Am
/- Symbolic states: maps from strings. -/
namespace Go.Proofs.YtfonnebpnobomaaDoor.Am
open Go
variable {E : Env} {n : Nat} {H0 : Hp} {S : List Nat} {L : Ls} {M : Ms} {dr : Dr} {d : Nat} {r : List CO} {Q : Ls → Ms → Prop} {x y : Operand} {v : Value}

/-- a map with these entries, one behind the other -/
def StrMap (es : Array MapEntry) (ps : List (ByteArray × Value)) : Prop := es.toList.map (fun e => (e.key, e.val)) = ps.map fun p => (Value.string p.1, p.2)
def lookP (s : ByteArray) : List (ByteArray × Value) → Option Value
  | [] => none
  | p :: ps => if (s == p.1) = true then some p.2 else lookP s ps
theorem findNow_strm (s : ByteArray) : ∀ (l : List MapEntry) (ps : List (ByteArray × Value)) (i : Nat), l.map (fun e => (e.key, e.val)) = ps.map (fun p => (Value.string p.1, p.2)) →
    match lookP s ps with
    | none => Instr.findNow .string (.string s) l i = some none
    | some v => ∃ j, Instr.findNow .string (.string s) l i = some (some (j, v)) := by
  intro l
  induction l with
  | nil =>
    intro ps i h
    cases ps with
    | nil => rfl
    | cons a b => simp at h
  | cons e l ih =>
    intro ps i h
    cases ps with
    | nil => simp at h
    | cons a ps =>
      simp only [List.map_cons, List.cons.injEq, Prod.mk.injEq] at h
      obtain ⟨⟨h1, h2⟩, h3⟩ := h
      unfold lookP
      cases e1 : (s == a.1) with
      | true =>
        rw [if_pos rfl]
        exact ⟨i, by simp [Instr.findNow, Instr.sameNow, h1, h2, e1]⟩
      | false =>
        rw [if_neg (by simp)]
        have h4 : Instr.findNow .string (.string s) (e :: l) i = Instr.findNow .string (.string s) l (i + 1) := by
          simp [Instr.findNow, Instr.sameNow, h1, e1]
        rw [h4]
        exact ih ps (i + 1) h3
theorem o_lkpS {b clock : Nat} {es : Array MapEntry} {ps : List (ByteArray × Value)} {s : ByteArray} {z : Value} (hx : evL L x = some (.map (some b))) (hy : evL L y = some (.string s)) (hm : (b, Blk.map es clock) ∈ M) (hs : StrMap es ps) (hd : Nat.blt d n = true)
    (h : So E n H0 S dr.next r ((d, .tuple ⟨[(lookP s ps).getD z, .bool (lookP s ps).isSome]⟩) :: L) M Q) : So E n H0 S dr (⟨some d, none, .lkp .string z x y true⟩ :: r) L M Q :=
  o_read (fun F H hF hH => by
    show memOp F H (.lkp .string z x y true) = _
    have he : entries H (.map (some b)) = some es := by simp only [entries, hH.row hm]
    have := findNow_strm s es.toList ps 0 hs
    simp only [memOp, hF.ev hx, hF.ev hy, he]
    cases hl : lookP s ps with
    | none => rw [hl] at this; simp only at this; rw [this]; rfl
    | some w => rw [hl] at this; obtain ⟨j, hj⟩ := this; rw [hj]; rfl) hd h
theorem o_mupS {b clock : Nat} {es : Array MapEntry} {ps : List (ByteArray × Value)} {s : ByteArray} {w : Value} {c : Operand} {M1 M2 : Ms} (hx : evL L x = some (.map (some b))) (hy : evL L y = some (.string s)) (hc : evL L c = some w) (hm : M = M1 ++ (b, .map es clock) :: M2) (hs : StrMap es ps) (hno : lookP s ps = none)
    (h : ∀ es' clock', StrMap es' (ps ++ [(s, w)]) → So E n H0 S none r L (M1 ++ (b, .map es' clock') :: M2) Q) : So E n H0 S none (⟨none, none, .mup .string x y c⟩ :: r) L M Q := .mk fun F H hF hH => by
  subst hm
  have hr := hH.row (b := b) (y := .map es clock) (by simp)
  have hf := findNow_strm s es.toList ps 0 hs
  rw [hno] at hf
  simp only at hf
  have := h (es.push ⟨.string s, w, clock⟩) (clock + 1) (by unfold StrMap at hs ⊢; rw [Array.toList_push, List.map_append, List.map_append, hs]; rfl)
  refine wpO_op (v := undef) (F1 := F) ?_ rfl (this.run _ _ hF (St.upd hH))
  show memOp F H (.mup .string x y c) = _
  simp only [memOp, hF.ev hx, hF.ev hy, hF.ev hc, hr, flat0, if_true, hf]
theorem g_ldOld {g : Option (Nat × Bool)} {w : Bool} {a : Addr} (hg : ∀ F, SF F n L → wanted F g = w) (hx : w = true → evL L x = some (.pointer (some a))) (hb : a.block < H0.size) (hS : a.block ∉ S) (hv : H0.cell? a = some v) (hd : Nat.blt d n = true) (h : So E n H0 S dr.next r ((d, gv w v) :: L) M Q) : So E n H0 S dr (⟨some d, g, .ld1 x⟩ :: r) L M Q :=
  o_when hg (fun hw F H hF hH => by
    show memOp F H (.ld1 x) = _
    have : H.cell? a = some v := by rw [← hv]; simp only [Hp.cell?, hH.old _ hb hS]
    simp only [memOp, hF.ev (hx hw), this, Option.map_some]) hd h
theorem o_ldV {a : Addr} {k : Nat} {c c' : List Value} {own : Bool} (hx : evL L x = some (.pointer (some a))) (hm : (a.block, Blk.row c own) ∈ M) (hk : a.off + k ≤ c.length) (hc : (c.drop a.off).take k = c') (hd : Nat.blt d n = true) (h : So E n H0 S dr.next r ((d, .agg ⟨c'⟩) :: L) M Q) : So E n H0 S dr (⟨some d, none, .ld k x⟩ :: r) L M Q := by
  subst hc; exact o_ld hx hm hk hd h
end Go.Proofs.YtfonnebpnobomaaDoor.Am
/- Regions that draw in which operations write what lay there: what each has done is kept. -/
namespace Go.Proofs.YtfonnebpnobomaaDoor.Am
open Go
variable {E : Env} {n : Nat} {H0 : Hp} {S : List Nat} {L : Ls} {M : Ms} {d : Nat} {r : List CO} {x y : Operand} {v : Value}

structure Sd (E : Env) (n : Nat) (H0 : Hp) (S : List Nat) (l : List CO) (L : Ls) (M : Ms) (Q : List Did → Ls → Ms → Prop) : Prop where
  run : ∀ F H, SF F n L → St H0 S H M → WpD E l F H fun ds F1 H1 => ∃ L1 M1, SF F1 n L1 ∧ St H0 S H1 M1 ∧ Q ds L1 M1
theorem s_drawX {l : List CO} {un : List (Nat × Nat)} {Q : Ex → Ls → Ms → Prop} (h : Sd E n H0 S l L M fun ds L1 M1 => apart un ds = true ∧ Q .normal L1 M1) : Ss E n H0 S (.draw l un) L M Q := .mk fun F H hF hH => by
  obtain ⟨d, F1, H1, h1, L1, M1, h2, h3, h4, h5⟩ := h.run F H hF hH
  exact wp_draw ⟨d, F1, H1, h1, h4, L1, M1, h2, h3, h5⟩
theorem d_nil {Q : List Did → Ls → Ms → Prop} (h : Q [] L M) : Sd E n H0 S [] L M Q := .mk fun _ _ hF hH => wpD_nil ⟨L, M, hF, hH, h⟩
/-- what is known of an operation's Did -/
theorem d_step {o : CO} {Q : List Did → Ls → Ms → Prop} (K : Did → Prop)
    (hk : ∀ F H d F1 H1 n1, SF F n L → St H0 S H M → drawA (oracle E n1) [o] F H = some ([d], F1, H1) → calm d = true → K d)
    (h : So E n H0 S (some [true]) [o] L M fun L1 M1 => ∀ d, K d → Sd E n H0 S r L1 M1 fun ds => Q (d :: ds)) : Sd E n H0 S (o :: r) L M Q := .mk fun F H hF hH => by
  obtain ⟨ds, F1, H1, ⟨N, hN⟩, hc, hl, L1, M1, h3, h4, h5⟩ := h.run F H hF hH
  obtain ⟨d, rfl⟩ : ∃ d, ds = [d] := by
    match ds, hl with
    | [d], _ => exact ⟨d, rfl⟩
  obtain ⟨ds2, F2, H2, ⟨N2, hN2⟩, L2, M2, g3, g4, g5⟩ := (h5 d (hk F H d F1 H1 N hF hH (hN N (Nat.le_refl _)) (hc.1 rfl))).run F1 H1 h3 h4
  refine ⟨d :: ds2, F2, H2, ⟨N + N2, fun k hk => ?_⟩, L2, M2, g3, g4, g5⟩
  have a1 := hN k (by omega)
  have a2 := hN2 k (by omega)
  simp only at a1 a2 ⊢
  unfold drawA at a1 ⊢
  cases hw : wanted F o.guard with
  | true =>
    rw [hw] at a1
    simp only at a1 ⊢
    split at a1
    · rename_i v1 H3 e1
      split at a1
      · rename_i F3 e2
        simp only [drawA, Option.some.injEq, Prod.mk.injEq, List.cons.injEq] at a1
        obtain ⟨⟨rfl, _⟩, rfl, rfl⟩ := a1
        rw [a2]
      · cases a1
    · cases a1
  | false =>
    rw [hw] at a1
    simp only at a1 ⊢
    split at a1
    · rename_i F3 e2
      simp only [drawA, Option.some.injEq, Prod.mk.injEq, List.cons.injEq] at a1 ⊢
      obtain ⟨⟨rfl, _⟩, rfl, rfl⟩ := a1
      rw [a2]
    · cases a1
theorem d_calm {o : CO} {Q : List Did → Ls → Ms → Prop} (h : So E n H0 S (some [true]) [o] L M fun L1 M1 => ∀ d, calm d = true → Sd E n H0 S r L1 M1 fun ds => Q (d :: ds)) : Sd E n H0 S (o :: r) L M Q :=
  d_step (fun d => calm d = true) (fun _ _ _ _ _ _ _ _ _ h => h) h
theorem draw_one {O : Oracle} {o : CO} {F F1 : Fr} {H H1 : Hp} {d : Did} (h : drawA O [o] F H = some ([d], F1, H1)) : d = .quiet ∨ ∃ m, d = didOf F H.size m o.op := by
  unfold drawA at h
  cases hw : wanted F o.guard with
  | true =>
    rw [hw] at h
    simp only at h
    split at h
    · split at h
      · simp only [drawA, Option.some.injEq, Prod.mk.injEq, List.cons.injEq] at h
        exact .inr ⟨_, h.1.1.symm⟩
      · cases h
    · cases h
  | false =>
    rw [hw] at h
    simp only at h
    split at h
    · simp only [drawA, Option.some.injEq, Prod.mk.injEq, List.cons.injEq] at h
      exact .inl h.1.1.symm
    · cases h
theorem d_pure {o : CO} {Q : List Did → Ls → Ms → Prop} (hp : o.op.isPure = true) (h : So E n H0 S (some [true]) [o] L M fun L1 M1 => Sd E n H0 S r L1 M1 fun ds => Q (.quiet :: ds)) : Sd E n H0 S (o :: r) L M Q := by
  refine d_step (fun d => d = .quiet) (fun F H d F1 H1 n1 _ _ h _ => ?_) (.mk fun F H hF hH => ?_)
  · rcases draw_one h with h | ⟨m, h⟩
    · exact h
    · rw [h, didOf, if_pos hp]
  · obtain ⟨ds, F1, H1, h1, h2, h3, L1, M1, h4, h5, h6⟩ := h.run F H hF hH
    exact ⟨ds, F1, H1, h1, h2, h3, L1, M1, h4, h5, fun d hd => (by subst hd; exact h6)⟩
/-- a reading operation of which the blocks are known that it looks at -/
theorem d_read {o : CO} {Q : List Did → Ls → Ms → Prop} (t : List Nat) (ht : ∀ F, SF F n L → touch F o.op = some t) (h : So E n H0 S (some [true]) [o] L M fun L1 M1 => ∀ d, (d = .quiet ∨ d = .known t none) → Sd E n H0 S r L1 M1 fun ds => Q (d :: ds)) : Sd E n H0 S (o :: r) L M Q := by
  refine d_step (fun d => d = .quiet ∨ d = .known t none) (fun F H d F1 H1 n1 hF _ h hc => ?_) h
  rcases draw_one h with h | ⟨m, h⟩
  · exact .inl h
  · unfold didOf at h
    split at h
    · exact .inl h
    · rw [ht F hF] at h
      simp only at h
      subst h
      split at hc
      · cases hc
      · rename_i hb
        right; rw [if_neg hb]
theorem t_ld1 {a : Addr} (hx : evL L x = some (.pointer (some a))) : ∀ F, SF F n L → touch F (.ld1 x) = some [a.block] := fun F hF => by simp only [touch, hF.ev hx, blockOf]
theorem t_ld {a : Addr} {k : Nat} (hx : evL L x = some (.pointer (some a))) : ∀ F, SF F n L → touch F (.ld k x) = some [a.block] := fun F hF => by simp only [touch, hF.ev hx, blockOf]
/-- a store into the own memory -/
theorem d_st {a : Addr} {k : Nat} {M1 M2 : Ms} {c cn : List Value} {Q : List Did → Ls → Ms → Prop} (hx : evL L x = some (.pointer (some a))) (hy : evL L y = some v) (hk : v.cells.toList.length = k) (hm : M = M1 ++ (a.block, .row c true) :: M2) (hl : a.off + v.cells.toList.length ≤ c.length) (ho : v.cells.toList.all oneCell = true)
    (hc : setAll c a.off v.cells.toList = cn) (h : Sd E n H0 S r L (M1 ++ (a.block, .row cn true) :: M2) fun ds => Q (.known [a.block] (some a.block) :: ds)) : Sd E n H0 S (⟨none, none, .st k x y⟩ :: r) L M Q := .mk fun F H hF hH => by
  subst hm; subst hc
  have hr := hH.row (b := a.block) (y := .row c true) (by simp)
  have hlt := (hH.here a.block (.row c true) (by simp)).2.1
  have hop : memOp F H.fresh (.st k x y) = some (undef, H.fresh.upd a.block (.row (setAll c a.off v.cells.toList) true)) := by
    have hr' : H.fresh.get a.block = .row c true := hr
    simp only [memOp, hF.ev hx, hF.ev hy, if_pos hk, Hp.setCells, hr']
    rw [if_pos ⟨hl, ho⟩]; rfl
  have h3 : opN F H.fresh (.st k x y) = some (undef, H.fresh.upd a.block (.row (setAll c a.off v.cells.toList) true)) := hop
  obtain ⟨ds, F2, H2, h6, L1, M1', h8, h9, h10⟩ := h.run _ _ hF (hH.lower (St.upd hH.fresh))
  refine ⟨.known [a.block] (some a.block) :: ds, F2, H2, h6.one fun n x2 => ?_, L1, M1', h8, h9, h10⟩
  have := opA_of_opN (O := oracle E n) h3
  simp only [Hp.fresh] at this
  have hd : didOf F H.size (Hp.upd ⟨H.tr, H.size, H.size⟩ a.block (.row (setAll c a.off v.cells.toList) true)).low (.st k x y) = .known [a.block] (some a.block) := by
    have hlow : (Hp.upd ⟨H.tr, H.size, H.size⟩ a.block (.row (setAll c a.off v.cells.toList) true)).low = a.block := by
      rw [Hp.low_upd]; show min H.size a.block = a.block; omega
    have hb : Nat.blt a.block H.size = true := Nat.ble_eq_true_of_le hlt
    rw [hlow]
    simp only [didOf, COp.isPure, touch, hF.ev hx, blockOf, hb, if_true, Bool.false_eq_true, if_false]
  simp only [drawA, wanted, this, Fr.put]
  rw [show ({ tr := (Hp.upd ⟨H.tr, H.size, H.size⟩ a.block (.row (setAll c a.off v.cells.toList) true)).tr, size := (Hp.upd ⟨H.tr, H.size, H.size⟩ a.block (.row (setAll c a.off v.cells.toList) true)).size, low := H.low.min (Hp.upd ⟨H.tr, H.size, H.size⟩ a.block (.row (setAll c a.off v.cells.toList) true)).low } : Hp) = (H.fresh.upd a.block (.row (setAll c a.off v.cells.toList) true)).lower H.low from rfl, x2]
  simp only [hd]
/-- what is known from the memory -/
theorem s_know {c : CC} {Q : Ex → Ls → Ms → Prop} {P : Prop} (hp : ∀ H, St H0 S H M → P) (h : P → Ss E n H0 S c L M Q) : Ss E n H0 S c L M Q := .mk fun F H hF hH => (h (hp H hH)).run F H hF hH
theorem d_know {l : List CO} {Q : List Did → Ls → Ms → Prop} {P : Prop} (hp : ∀ H, St H0 S H M → P) (h : P → Sd E n H0 S l L M Q) : Sd E n H0 S l L M Q := .mk fun F H hF hH => (h (hp H hH)).run F H hF hH
theorem o_know {dr : Dr} {l : List CO} {Q : Ls → Ms → Prop} {P : Prop} (hp : ∀ H, St H0 S H M → P) (h : P → So E n H0 S dr l L M Q) : So E n H0 S dr l L M Q := .mk fun F H hF hH => (h (hp H hH)).run F H hF hH
theorem draw_one' {O : Oracle} {d : Option Nat} {o : COp} {F F1 : Fr} {H H1 : Hp} {x : Did} (h : drawA O [⟨d, none, o⟩] F H = some ([x], F1, H1)) : ∃ m, x = didOf F H.size m o := by
  unfold drawA at h
  simp only [wanted] at h
  split at h
  · split at h
    · simp only [drawA, Option.some.injEq, Prod.mk.injEq, List.cons.injEq] at h
      exact ⟨_, h.1.1.symm⟩
    · cases h
  · cases h
/-- as d_read, where the operation has no guard -/
theorem d_readN {d : Option Nat} {o : COp} {Q : List Did → Ls → Ms → Prop} (t : List Nat) (hp : o.isPure = false) (ht : ∀ F, SF F n L → touch F o = some t) (h : So E n H0 S (some [true]) [⟨d, none, o⟩] L M fun L1 M1 => Sd E n H0 S r L1 M1 fun ds => Q (.known t none :: ds)) : Sd E n H0 S (⟨d, none, o⟩ :: r) L M Q := by
  refine d_step (fun x => x = .known t none) (fun F H x F1 H1 n1 hF _ h hc => ?_) (.mk fun F H hF hH => ?_)
  · obtain ⟨m, h⟩ := draw_one' h
    unfold didOf at h
    rw [hp, ht F hF] at h
    simp only [Bool.false_eq_true, if_false] at h
    subst h
    split at hc
    · cases hc
    · rename_i hb
      rw [if_neg hb]
  · obtain ⟨ds, F1, H1, h1, h2, h3, L1, M1, h4, h5, h6⟩ := h.run F H hF hH
    exact ⟨ds, F1, H1, h1, h2, h3, L1, M1, h4, h5, fun d hd => (by subst hd; exact h6)⟩
/-! guards that are known -/
theorem g_on {dr : Dr} {d : Option Nat} {g : Option (Nat × Bool)} {o : COp} {Q : Ls → Ms → Prop} (hg : ∀ F, SF F n L → wanted F g = true) (h : So E n H0 S dr (⟨d, none, o⟩ :: r) L M Q) : So E n H0 S dr (⟨d, g, o⟩ :: r) L M Q := .mk fun F H hF hH => by
  have hh := h.run F H hF hH
  cases dr with
  | none =>
    obtain ⟨F1, H1, h1, h2⟩ := hh
    refine ⟨F1, H1, h1.one fun n x => ?_, h2⟩
    rw [← x]; unfold opsA; rw [hg F hF]; rfl
  | some fl =>
    obtain ⟨ds, F1, H1, h1, h2⟩ := hh
    refine ⟨ds, F1, H1, h1.one fun n x => ?_, h2⟩
    rw [← x]; unfold drawA; rw [hg F hF]; rfl
theorem g_off {dr : Dr} {d : Nat} {g : Option (Nat × Bool)} {o : COp} {Q : Ls → Ms → Prop} (hg : ∀ F, SF F n L → wanted F g = false) (hd : Nat.blt d n = true) (h : So E n H0 S dr.next r ((d, undef) :: L) M Q) : So E n H0 S dr (⟨some d, g, o⟩ :: r) L M Q := .mk fun F H hF hH => by
  obtain ⟨h1, h2⟩ := hF.set (v := undef) hd
  cases dr with
  | none =>
    obtain ⟨F2, H2, h5, h6⟩ := h.run _ _ h2 hH
    exact ⟨F2, H2, h5.one fun n x => by simp only [opsA, hg F hF, h1]; exact x, h6⟩
  | some fl =>
    obtain ⟨ds, F2, H2, h6, h7, h8, h9⟩ := h.run _ _ h2 hH
    exact ⟨.quiet :: ds, F2, H2, h6.one fun n x => by simp only [drawA, hg F hF, h1, x], .cons rfl h7, by simp [h8], h9⟩
theorem wantedT {j : Nat} {c b : Bool} (hj : look L j = some (.bool c)) (h : c = b) : ∀ F, SF F n L → wanted F (some (j, b)) = true := fun F hF => by subst h; rw [wanted_b hj F hF]; simp
theorem wantedF {j : Nat} {c b : Bool} (hj : look L j = some (.bool c)) (h : c = !b) : ∀ F, SF F n L → wanted F (some (j, b)) = false := fun F hF => by subst h; rw [wanted_b hj F hF]; cases b <;> rfl
end Go.Proofs.YtfonnebpnobomaaDoor.Am
/- Range over functions: a frame's marks, and whether it is a round's, change nothing in what it computes; calls of yield; the loop. -/
namespace Go.Proofs.YtfonnebpnobomaaDoor.Am
open Go

def Fr.wm (F : Fr) (ms : List Nat) (rd : Bool) : Fr := { tr := F.tr, n := F.n, marks := ms, round := rd }
theorem eval_wm (F : Fr) (ms : List Nat) (rd : Bool) (x : Operand) : (F.wm ms rd).eval x = F.eval x := by cases x <;> rfl
theorem put_wm (F : Fr) (ms : List Nat) (rd : Bool) (d : Option Nat) (v : Value) : (F.wm ms rd).put d v = (F.put d v).map fun F1 => F1.wm ms rd := by
  cases d with
  | none => rfl
  | some d =>
    rw [Fr.put_some, Fr.put_some]
    show (if d < F.n then _ else _) = _
    by_cases h : d < F.n
    · rw [if_pos h, if_pos h]; rfl
    · rw [if_neg h, if_neg h]; rfl
theorem wanted_wm (F : Fr) (ms : List Nat) (rd : Bool) (g : Option (Nat × Bool)) : wanted (F.wm ms rd) g = wanted F g := by cases g <;> rfl
theorem opA_wm (O : Oracle) (F : Fr) (ms : List Nat) (rd : Bool) (H : Hp) (o : COp) : opA O (F.wm ms rd) H o = opA O F H o := by
  have he : (F.wm ms rd).eval = F.eval := funext (eval_wm F ms rd)
  cases o <;> simp only [opA, pureOp, memOp, he]
theorem opsA_wm (O : Oracle) (ms : List Nat) (rd : Bool) : ∀ (l : List CO) (F : Fr) (H : Hp), opsA O l (F.wm ms rd) H = (opsA O l F H).map fun x => (x.1.wm ms rd, x.2) := by
  intro l
  induction l with
  | nil => intro F H; rfl
  | cons o r ih =>
    intro F H
    unfold opsA
    rw [wanted_wm, opA_wm]
    cases wanted F o.guard with
    | true =>
      simp only
      cases opA O F H o.op with
      | none => rfl
      | some x =>
        obtain ⟨v, H1⟩ := x
        simp only [put_wm]
        cases F.put o.dst v with
        | none => rfl
        | some F1 => simp only [Option.map_some]; exact ih F1 H1
    | false =>
      simp only [put_wm]
      cases F.put o.dst undef with
      | none => rfl
      | some F1 => simp only [Option.map_some]; exact ih F1 H
theorem didOf_wm (F : Fr) (ms : List Nat) (rd : Bool) (n low : Nat) (o : COp) : didOf (F.wm ms rd) n low o = didOf F n low o := by
  have he : (F.wm ms rd).eval = F.eval := funext (eval_wm F ms rd)
  have ht : touch (F.wm ms rd) o = touch F o := by cases o <;> simp only [touch, he]
  unfold didOf; rw [ht]
theorem drawA_wm (O : Oracle) (ms : List Nat) (rd : Bool) : ∀ (l : List CO) (F : Fr) (H : Hp), drawA O l (F.wm ms rd) H = (drawA O l F H).map fun x => (x.1, x.2.1.wm ms rd, x.2.2) := by
  intro l
  induction l with
  | nil => intro F H; rfl
  | cons o r ih =>
    intro F H
    unfold drawA
    rw [wanted_wm, opA_wm]
    cases wanted F o.guard with
    | true =>
      simp only
      cases opA O F { tr := H.tr, size := H.size, low := H.size } o.op with
      | none => rfl
      | some x =>
        obtain ⟨v, H1⟩ := x
        simp only [put_wm]
        cases F.put o.dst v with
        | none => rfl
        | some F1 =>
          simp only [Option.map_some, ih, didOf_wm]
          cases drawA O r F1 { tr := H1.tr, size := H1.size, low := Nat.min H.low H1.low } with
          | none => rfl
          | some y => rfl
    | false =>
      simp only [put_wm]
      cases F.put o.dst undef with
      | none => rfl
      | some F1 =>
        simp only [Option.map_some, ih]
        cases drawA O r F1 H with
        | none => rfl
        | some y => rfl
/-- no range over a function, no gotos -/
def noR : CC → Bool
  | .seq a b => noR a && noR b
  | .cond _ a b => noR a && noR b
  | .block _ c => noR c
  | .loop c => noR c
  | .scope _ => false
  | .rangeF .. => false
  | _ => true
def wmX (ms : List Nat) (rd : Bool) (x : Ex × Fr × Hp) : Ex × Fr × Hp := (x.1, x.2.1.wm ms rd, x.2.2)
theorem iterA_wm (ms : List Nat) (rd : Bool) {f : Fr → Hp → Option (Ex × Fr × Hp)} (hf : ∀ F H, f (F.wm ms rd) H = (f F H).map (wmX ms rd)) : ∀ (n : Nat) (F : Fr) (H : Hp), iterA f n (F.wm ms rd) H = (iterA f n F H).map (wmX ms rd) := by
  intro n
  induction n with
  | zero => intro F H; rfl
  | succ n ih =>
    intro F H
    unfold iterA
    rw [hf]
    cases f F H with
    | none => rfl
    | some x =>
      obtain ⟨e, F1, H1⟩ := x
      cases e with
      | normal => simp only [Option.map_some, wmX]; exact ih F1 H1
      | _ => rfl
theorem exec_wm (O : Oracle) (n : Nat) (ms : List Nat) (rd : Bool) : ∀ (c : CC), noR c = true → ∀ (F : Fr) (H : Hp), exec O n c (F.wm ms rd) H = (exec O n c F H).map (wmX ms rd) := by
  intro c
  induction c with
  | ops l =>
    intro _ F H
    simp only [exec, opsA_wm]
    cases opsA O l F H with
    | none => rfl
    | some x => rfl
  | draw l un =>
    intro _ F H
    simp only [exec, drawA_wm]
    cases drawA O l F H with
    | none => rfl
    | some x =>
      obtain ⟨d, F1, H1⟩ := x
      simp only [Option.map_some]
      by_cases hap : apart un d = true
      · rw [if_pos hap, if_pos hap]; rfl
      · rw [if_neg hap, if_neg hap]; rfl
  | seq a b iha ihb =>
    intro h F H
    simp only [noR, Bool.and_eq_true] at h
    simp only [exec, iha h.1]
    cases exec O n a F H with
    | none => rfl
    | some x =>
      obtain ⟨e, F1, H1⟩ := x
      cases e with
      | normal => simp only [Option.map_some, wmX]; exact ihb h.2 F1 H1
      | _ => rfl
  | cond c a b iha ihb =>
    intro h F H
    simp only [noR, Bool.and_eq_true] at h
    simp only [exec, eval_wm]
    split
    · exact iha h.1 F H
    · exact ihb h.2 F H
    · rfl
  | block id c ih =>
    intro h F H
    simp only [noR] at h
    simp only [exec, ih h]
    cases exec O n c F H with
    | none => rfl
    | some x =>
      obtain ⟨e, F1, H1⟩ := x
      cases e with
      | exit i => simp only [Option.map_some, wmX]; cases Nat.beq i id <;> rfl
      | _ => rfl
  | loop c ih =>
    intro h F H
    simp only [noR] at h
    simp only [exec]
    exact iterA_wm ms rd (ih h) n F H
  | scope c _ => intro h; cases h
  | rangeF f ps as bd _ _ => intro h; cases h
  | skip => intro _ F H; rfl
  | label l => intro _ F H; rfl
  | ret => intro _ F H; rfl
  | exit i => intro _ F H; rfl
  | goto l => intro _ F H; rfl
  | bad => intro _ F H; rfl
end Go.Proofs.YtfonnebpnobomaaDoor.Am
/- Range over functions: calls of yield, the loop, functions that have one. -/
namespace Go.Proofs.YtfonnebpnobomaaDoor.Am
open Go
variable {E : Env} {n : Nat} {H0 : Hp} {S : List Nat} {L : Ls} {M : Ms}

theorem wp_wm {c : CC} (hc : noR c = true) {F : Fr} {H : Hp} {Q : Ex → Fr → Hp → Prop} (ms : List Nat) (rd : Bool) (h : Wp E c F H Q) : Wp E c (F.wm ms rd) H fun e F1 H1 => ∃ F2, F1 = F2.wm ms rd ∧ Q e F2 H1 := by
  obtain ⟨e, F1, H1, h1, h2⟩ := h
  refine ⟨e, F1.wm ms rd, H1, h1.one fun n x => ?_, F1, rfl, h2⟩
  rw [exec_wm _ _ _ _ _ hc, x]; rfl
abbrev yieldV (l : Nat) : Value := .func (.yield l) #[] #[]
theorem wpV_yield {l : Nat} {args : List Value} {H : Hp} {Q : Value → Hp → Prop} {pend : Option Ex} {F0 F : Fr} {ps : List Nat} {as bd : CC} (hl : H.get l = .loop .ready pend F0 ps as bd) (hp : setParams { tr := F0.tr, n := F0.n, marks := [], round := true } ps args = some F)
    (h : Wp E as F H fun e F1 H1 => e = .normal ∧ ∃ p1 f1 q1 a1 b1, H1.get l = .loop .ready p1 f1 q1 a1 b1 ∧ Wp E bd F1 (H1.upd l (.loop .busy p1 f1 q1 a1 b1)) fun e2 _ H2 => ∃ st p f q a b, H2.get l = .loop st p f q a b ∧ Q (.bool (endOf e2).2.2) (H2.upd l (.loop (endOf e2).1 (endOf e2).2.1 f q a b))) : WpV E (yieldV l) args H Q := by
  obtain ⟨e, F1, H1, ⟨N, hN⟩, rfl, p1, f1, q1, a1, b1, h2, e2, F2, H2, ⟨N2, hN2⟩, st, p, f, q, a, b, h3, h4⟩ := h
  refine ⟨_, _, ⟨N + N2 + 1, fun k hk => ?_⟩, h4⟩
  obtain ⟨m, rfl⟩ : ∃ m, k = m + 1 := ⟨k - 1, by omega⟩
  have x1 := hN m (by omega)
  have x2 := hN2 m (by omega)
  simp only at x1 x2
  show roundBody (oracle E m) m l (#[] ++ args.toArray) H = _
  have ha : (#[] ++ args.toArray : Array Value).toList = args := by simp
  unfold roundBody
  rw [hl]
  simp only [ha, hp, x1, h2, x2, h3]
/-- a round of the loop, from the memory that the function that is ranged over has -/
def YieldOK (E : Env) (l : Nat) (H0 : Hp) (S : List Nat) (N : Nat) (A : List Value → Prop) (J : Nat → Ms → Prop) : Prop :=
  ∀ k args M H, k < N → A args → J k M → St H0 S H M → WpV E (yieldV l) args H fun v H1 => v = .bool true ∧ ∃ M1, J (k + 1) M1 ∧ St H0 S H1 M1
theorem St.row' {H : Hp} (h : St H0 S H M) {b : Nat} {y : Blk} (hm : (b, y) ∈ M) : H.get b = y := (h.here b y hm).1
/-- a round, from what its statements do -/
theorem yield_ok {l N n0 : Nat} {A : List Value → Prop} {J : Nat → Ms → Prop} {F0 : Fr} {ps : List Nat} {asg bd : CC} (hn : F0.n = n0) (ha : noR asg = true) (hb : noR bd = true)
    (hJ : ∀ k args M, k < N → A args → J k M → ∃ M1 M2 F Lp, M = M1 ++ (l, .loop .ready none F0 ps asg bd) :: M2 ∧ setParams { tr := F0.tr, n := F0.n, marks := [], round := true } ps args = some F ∧ SF (F.wm [] false) n0 Lp ∧
      Ss E n0 H0 S asg Lp M fun e L1 M1' => e = .normal ∧ M1' = M ∧ Ss E n0 H0 S bd L1 (M1 ++ (l, .loop .busy none F0 ps asg bd) :: M2) fun e2 _ M3 => e2 = .normal ∧ ∃ C D, M3 = C ++ (l, .loop .busy none F0 ps asg bd) :: D ∧ J (k + 1) (C ++ (l, .loop .ready none F0 ps asg bd) :: D)) : YieldOK E l H0 S N A J := by
  intro k args M H hk hA hM hS
  obtain ⟨M1, M2, F, Lp, rfl, hp, hF, hs⟩ := hJ k args M hk hA hM
  have hl := hS.row' (b := l) (y := .loop .ready none F0 ps asg bd) (by simp)
  have hFw : F = (F.wm [] false).wm [] true := by
    have : F.marks = [] ∧ F.round = true := by
      clear hs hF hl hS hM hA
      have key : ∀ (ps : List Nat) (args : List Value) (G G' : Fr), setParams G ps args = some G' → G'.marks = G.marks ∧ G'.round = G.round := by
        intro ps
        induction ps with
        | nil => intro args G G' h; cases args with
          | nil => cases h; exact ⟨rfl, rfl⟩
          | cons => cases h
        | cons p ps ih =>
          intro args G G' h
          cases args with
          | nil => cases h
          | cons a args =>
            simp only [setParams] at h
            rw [Fr.put_some] at h
            split at h
            · rename_i G1 hG
              split at hG
              · cases hG
                have := ih args _ _ h
                exact this
              · cases hG
            · cases h
      exact key ps args _ _ hp
    obtain ⟨h1, h2⟩ := this
    cases F; simp only [Fr.wm] at *; subst h1 h2; rfl
  refine wpV_yield hl hp ?_
  rw [hFw]
  obtain ⟨e, _, H1, x1, F1, rfl, L1, M1', x2, x3, rfl, rfl, x4⟩ := wp_wm ha [] true (hs.run _ _ hF hS)
  have hl1 := x3.row' (b := l) (y := .loop .ready none F0 ps asg bd) (by simp)
  refine ⟨.normal, F1.wm [] true, H1, x1, rfl, none, F0, ps, asg, bd, hl1, ?_⟩
  obtain ⟨e2, F3, H2, y1, F4, rfl, L2, M3, y2, y3, rfl, C, D, rfl, y5⟩ := wp_wm hb [] true (x4.run F1 _ x2 (St.upd x3))
  have hl2 := y3.row' (b := l) (y := .loop .busy none F0 ps asg bd) (by simp)
  exact ⟨.normal, _, H2, y1, .busy, none, F0, ps, asg, bd, hl2, rfl, _, y5, St.upd y3⟩
/-- a call of yield -/
theorem o_yield {r : List CO} {d : Nat} {Q : Ls → Ms → Prop} {f : Operand} {as : List Operand} {args : List Value} {l N k : Nat} {A : List Value → Prop} {J : Nat → Ms → Prop} (hf : evL L f = some (yieldV l)) (ha : ∀ F, SF F n L → as.map F.eval = args) (hd : Nat.blt d n = true) (hy : YieldOK E l H0 S N A J) (hk : k < N) (hA : A args) (hJ : J k M)
    (h : ∀ M1, J (k + 1) M1 → So E n H0 S none r ((d, .bool true) :: L) M1 Q) : So E n H0 S none (⟨some d, none, .call f as⟩ :: r) L M Q := .mk fun F H hF hH => by
  refine wpO_call ?_
  rw [hF.ev hf, ha F hF]
  obtain ⟨v, H1, h1, rfl, M1, h2, h3⟩ := hy k args M H hk hA hJ hH
  obtain ⟨h7, h8⟩ := hF.set (v := .bool true) hd
  exact ⟨_, H1, h1, _, h7, (h M1 h2).run _ _ h8 h3⟩

/-! ### Functions with such a loop -/
/-- as Ss; the frame's marks are kept -/
structure Sm (E : Env) (n : Nat) (H0 : Hp) (S : List Nat) (c : CC) (L : Ls) (M : Ms) (ms : List Nat) (Q : Ex → Ls → Ms → List Nat → Prop) : Prop where
  run : ∀ F H, SF F n L → St H0 S H M → Wp E c (F.wm ms false) H fun e F1 H1 => ∃ F2 L1 M1 ms1, F1 = Fr.wm F2 ms1 false ∧ SF F2 n L1 ∧ St H0 S H1 M1 ∧ Q e L1 M1 ms1
theorem sm_of {c : CC} {ms : List Nat} {Q : Ex → Ls → Ms → List Nat → Prop} (hc : noR c = true) (h : Ss E n H0 S c L M fun e L M => Q e L M ms) : Sm E n H0 S c L M ms Q := .mk fun F H hF hH => by
  refine (wp_wm hc ms false (h.run F H hF hH)).mono ?_
  rintro e F1 H1 ⟨F2, rfl, L1, M1, h1, h2, h3⟩
  exact ⟨F2, L1, M1, ms, rfl, h1, h2, h3⟩
def smSeq (E : Env) (n : Nat) (H0 : Hp) (S : List Nat) (b : CC) (Q : Ex → Ls → Ms → List Nat → Prop) : Ex → Ls → Ms → List Nat → Prop
  | .normal, L, M, ms => Sm E n H0 S b L M ms Q
  | e, L, M, ms => Q e L M ms
theorem smSeq_normal {b : CC} {ms : List Nat} {Q : Ex → Ls → Ms → List Nat → Prop} (h : Sm E n H0 S b L M ms Q) : smSeq E n H0 S b Q .normal L M ms := h
theorem smSeq_ret {b : CC} {ms : List Nat} {Q : Ex → Ls → Ms → List Nat → Prop} (h : Q .ret L M ms) : smSeq E n H0 S b Q .ret L M ms := h
theorem sm_seq {a b : CC} {ms : List Nat} {Q : Ex → Ls → Ms → List Nat → Prop} (h : Sm E n H0 S a L M ms (smSeq E n H0 S b Q)) : Sm E n H0 S (.seq a b) L M ms Q := .mk fun F H hF hH => by
  refine wp_seq ((h.run F H hF hH).mono ?_)
  rintro e F1 H1 ⟨F2, L1, M1, ms1, rfl, h2, h3, h4⟩
  cases e with
  | normal => exact h4.run F2 H1 h2 h3
  | exit i => exact ⟨F2, L1, M1, ms1, rfl, h2, h3, h4⟩
  | goto i => exact ⟨F2, L1, M1, ms1, rfl, h2, h3, h4⟩
  | ret => exact ⟨F2, L1, M1, ms1, rfl, h2, h3, h4⟩
/-- the loop: the iterator's function is g -/
theorem sm_range {id : Nat} {f : Operand} {ps : List Nat} {as bd : CC} {g : FuncId} {cap : List Value} {Q : Ex → Ls → Ms → List Nat → Prop} (hf : evL L f = some (.func (.func g) #[] ⟨cap⟩)) (hown : (E.code g).isSome = true)
    (h : ∀ F H m, SF F n L → St H0 S H M → H0.size ≤ m → m = H.size → ∃ (S' : List Nat) (Mr : Ms) (J : Ms → Prop), (∀ b ∈ S', b = m + 1 ∨ b ∈ S ∨ H0.size ≤ b) ∧ m ∉ S' ∧ (∀ x ∈ Mr, x ∈ M ∧ x.1 ∉ S') ∧ (Mr.map Prod.fst).Nodup ∧
      Sc E g (yieldV (m + 1) :: cap) ((H.new .deferred).new (.loop .ready none (F.wm [] false) ps as bd)) S' (fun _ M1 => J M1) ∧
      ∀ M1, J M1 → ∃ C D, M1 = C ++ (m + 1, .loop .ready none (F.wm [] false) ps as bd) :: D ∧ Q .normal L (C ++ (m + 1, .loop .exhausted none (F.wm [] false) ps as bd) :: D ++ (m, .deferred) :: Mr) [m]) :
    Sm E n H0 S (.block id (.rangeF f ps as bd)) L M [] Q := .mk fun F H hF hH => by
  have hFw : F.wm [] false = F := by
    have h1 := hF.marks; have h2 := hF.round
    cases F; simp only at h1 h2; subst h1 h2; rfl
  obtain ⟨S', Mr, J, s1, s2, s3, s4, ⟨v, H3, ⟨N, hN⟩, M1, s5, s6⟩, s7⟩ := h F H H.size hF hH hH.size rfl
  obtain ⟨C, D, rfl, s8⟩ := s7 M1 s6
  have hl3 := s5.row' (b := H.size + 1) (y := .loop .ready none (F.wm [] false) ps as bd) (by simp)
  have hS2 : St H0 S ((H.new .deferred).new (.loop .ready none (F.wm [] false) ps as bd)) ((H.size + 1, .loop .ready none (F.wm [] false) ps as bd) :: (H.size, .deferred) :: M) := (hH.new .deferred).new _
  have hS3 := hS2.call (Mr := (H.size, .deferred) :: Mr) s5 (fun b hb => by
    rcases s1 b hb with h | h | h
    · right; have := hH.size; omega
    · exact .inl h
    · exact .inr h) (fun x hx => by
      rcases List.mem_cons.1 hx with rfl | hx
      · exact ⟨by simp, s2⟩
      · exact ⟨by simp [(s3 x hx).1], (s3 x hx).2⟩) (by
      rw [List.map_cons]
      refine List.nodup_cons.2 ⟨fun hm => ?_, s4⟩
      obtain ⟨⟨b, y⟩, hx, he⟩ := List.mem_map.1 hm
      simp only at he; subst he
      have := (hH.here _ _ (s3 _ hx).1).2.1
      omega)
  have hS4 : St H0 S (H3.upd (H.size + 1) (.loop .exhausted none (F.wm [] false) ps as bd)) (C ++ (H.size + 1, .loop .exhausted none (F.wm [] false) ps as bd) :: (D ++ (H.size, .deferred) :: Mr)) := by
    refine St.upd (y := .loop .ready none (F.wm [] false) ps as bd) ?_
    rw [List.append_assoc, List.cons_append] at hS3
    exact hS3
  refine wp_block ⟨.normal, { tr := F.tr, n := F.n, marks := [H.size], round := false }, H3.upd (H.size + 1) (.loop .exhausted none (F.wm [] false) ps as bd), ⟨N + 1, fun k hk => ?_⟩, F, L, _, [H.size], rfl, hF, hS4, ?_⟩
  · obtain ⟨j, rfl⟩ : ∃ j, k = j + 1 := ⟨k - 1, by omega⟩
    have hx := hN (j + 1) (by omega)
    simp only at hx
    have hev : (F.wm [] false).eval f = .func (.func g) #[] ⟨cap⟩ := by rw [eval_wm]; exact hF.ev hf
    have hown' : (oracle E (j + 1)).own g = true := hown
    have hc : callV (oracle E (j + 1)) ((H.new .deferred).new (.loop .ready none (F.wm [] false) ps as bd)) (.func (.func g) #[] ⟨cap⟩) [yieldV (H.size + 1)] = some (v, H3) := by
      show (oracle E (j + 1)).cf g (#[] ++ [yieldV (H.size + 1)].toArray ++ ⟨cap⟩) _ = _
      have ea : (#[] ++ [yieldV (H.size + 1)].toArray ++ ⟨cap⟩ : Array Value) = (yieldV (H.size + 1) :: cap).toArray := by simp
      rw [ea]; exact hx
    simp only [exec, rangeA, hev]
    have hr : ((F.wm [] false).round || !ownV (oracle E (j + 1)) (.func (.func g) #[] ⟨cap⟩)) = false := by
      show (false || !(oracle E (j + 1)).own g) = false
      rw [hown']; rfl
    rw [hr]
    simp only [Bool.false_eq_true, if_false]
    have hc' := hc
    simp only [yieldV] at hc'
    rw [hc']
    simp only [hl3]
    rfl
  · rw [List.append_assoc, List.cons_append] at s8; exact s8
/-- what such a function hands back -/
def smRet (rs : List CR) (Q : Value → Ms → Prop) : Ex → Ls → Ms → List Nat → Prop := fun e L M ms => (e = .normal ∨ e = .ret) ∧ ((ms = [] ∧ ∃ vs, ressL L M rs vs ∧ Q (tupled vs) M) ∨ ∃ m C D, ms = [m] ∧ M = C ++ (m, .deferred) :: D ∧ ∃ vs, ressL L (C ++ (m, .dead) :: D) rs vs ∧ Q (tupled vs) (C ++ (m, .dead) :: D))
theorem sc_bodyX {f : FuncId} {cf : CF} {args : List Value} {Q : Value → Ms → Prop} (hc : E.code f = some cf) (hs : Nat.ble args.length cf.n = true) (h : Sm E cf.n H0 S cf.body (lsOf 0 args) [] [] (smRet cf.rs Q)) : Sc E f args H0 S Q := by
  refine .mk (wpC_body hc (by simpa using Nat.le_of_ble_eq_true hs) ?_)
  have hF := sf_ofArgs args cf.n
  have hFw : (Fr.ofArgs args.toArray cf.n).wm [] false = Fr.ofArgs args.toArray cf.n := rfl
  have := h.run _ _ hF (St.refl H0 S)
  rw [hFw] at this
  refine this.mono ?_
  rintro e F1 H1 ⟨F2, L1, M1, ms, rfl, h1, h2, h3, h4⟩
  have hres : ∀ {H : Hp} {M : Ms} {vs : List Value} (m : List Nat), St H0 S H M → ressL L1 M cf.rs vs → resultsA (F2.wm m false) H cf.rs = some vs := by
    intro H M vs m hH hr
    have e1 := ress_sound h1 hH hr
    rw [← e1]
    generalize cf.rs = rs
    induction rs with
    | nil => rfl
    | cons c rs ih =>
      simp only [resultsA]
      rw [ih]
      cases c <;> rfl
  rcases h4 with ⟨rfl, vs, h5, h6⟩ | ⟨m, C, D, rfl, rfl, vs, h5, h6⟩
  · exact ⟨h3, tupled vs, H1, by simp only [leaveA, Fr.wm, killAll]; rw [show ({ tr := F2.tr, n := F2.n, marks := [], round := false } : Fr) = F2.wm [] false from rfl, hres [] h2 h5]; rfl, M1, h2, h6⟩
  · have hd := h2.row' (b := m) (y := .deferred) (by simp)
    have h7 : St H0 S (H1.upd m .dead) (C ++ (m, .dead) :: D) := St.upd h2
    refine ⟨h3, tupled vs, H1.upd m .dead, ?_, _, h7, h6⟩
    have hk : killAll H1 [m] = some (H1.upd m .dead) := by simp only [killAll, hd]
    simp only [leaveA, Fr.wm, hk]
    rw [show ({ tr := F2.tr, n := F2.n, marks := [m], round := false } : Fr) = F2.wm [m] false from rfl, hres [m] h7 h5]; rfl
end Go.Proofs.YtfonnebpnobomaaDoor.Am
/- Symbolic states: strings, arrays, tables, calls of which something is known of the value. -/
namespace Go.Proofs.YtfonnebpnobomaaDoor.Am
open Go
variable {E : Env} {n : Nat} {H0 : Hp} {S : List Nat} {L : Ls} {M : Ms} {dr : Dr} {d : Nat} {r : List CO} {Q : Ls → Ms → Prop} {x y : Operand} {v : Value}

theorem o_iaa {a : Addr} {len size : Nat} {k : IntKind} {i : Int} (hx : evL L x = some (.pointer (some a))) (hy : evL L y = some (.int k i)) (h0 : 0 ≤ i) (h1 : i < len) (hd : Nat.blt d n = true) (h : So E n H0 S dr.next r ((d, .pointer (some ⟨a.block, a.off + i.toNat * size, none⟩)) :: L) M Q) : So E n H0 S dr (⟨some d, none, .iaa len size x y⟩ :: r) L M Q :=
  o_pure rfl (fun F hF => by simp only [pureOp, hF.ev hx, hF.ev hy]; rw [if_pos ⟨h0, h1⟩]) hd h
theorem o_ida1 {cs : List Value} {len size : Nat} {k : IntKind} {i : Int} (hx : evL L x = some (.agg ⟨cs⟩)) (hy : evL L y = some (.int k i)) (h0 : 0 ≤ i) (h1 : i < len) (hv : cs[i.toNat * size]? = some v) (hd : Nat.blt d n = true) (h : So E n H0 S dr.next r ((d, v) :: L) M Q) : So E n H0 S dr (⟨some d, none, .ida1 len size x y⟩ :: r) L M Q :=
  o_pure rfl (fun F hF => by simp only [pureOp, hF.ev hx, hF.ev hy]; rw [if_pos ⟨h0, h1⟩]; exact hv) hd h
theorem o_cvb {s : ByteArray} (hx : evL L x = some (.string s)) (hd : Nat.blt d n = true) (h : ∀ b, So E n H0 S dr.next r ((d, .slice (some ⟨b, 0, some 2⟩) s.size s.size) :: L) ((b, .row (s.data.toList.map fun c => .int .u8 c.toNat) true) :: M) Q) : So E n H0 S dr (⟨some d, none, .cvb x⟩ :: r) L M Q :=
  o_new (fun b => .slice (some ⟨b, 0, some 2⟩) s.size s.size) (fun F H hF _ => by show memOp F H (.cvb x) = _; simp only [memOp, hF.ev hx]; rfl) hd h
theorem o_itr {s : ByteArray} (hx : evL L x = some (.string s)) (hd : Nat.blt d n = true) (h : ∀ b, So E n H0 S dr.next r ((d, .pointer (some ⟨b, 0, none⟩)) :: L) ((b, .iter s 0) :: M) Q) : So E n H0 S dr (⟨some d, none, .itr x⟩ :: r) L M Q :=
  o_new (fun b => .pointer (some ⟨b, 0, none⟩)) (fun F H hF _ => by show memOp F H (.itr x) = _; simp only [memOp, hF.ev hx]) hd h
/-- the next rune of a string, or its end -/
theorem o_nxt {s : ByteArray} {b pos : Nat} {M1 M2 : Ms} (hx : evL L x = some (.pointer (some ⟨b, 0, none⟩))) (hm : M = M1 ++ (b, .iter s pos) :: M2) (hd : Nat.blt d n = true)
    (h1 : ∀ w, pos < s.size → pos < w → So E n H0 S none r ((d, .tuple ⟨[.bool true, .int .i64 (pos : Nat), .int .i32 (Utf8.decode s pos).1]⟩) :: L) (M1 ++ (b, .iter s w) :: M2) Q)
    (h2 : ¬ pos < s.size → So E n H0 S none r ((d, .tuple ⟨[.bool false]⟩) :: L) M Q) : So E n H0 S none (⟨some d, none, .nxt x⟩ :: r) L M Q := .mk fun F H hF hH => by
  subst hm
  have hr := hH.row (b := b) (y := .iter s pos) (by simp)
  by_cases hp : pos < s.size
  · obtain ⟨g1, g2⟩ := hF.set (v := .tuple ⟨[.bool true, .int .i64 (pos : Nat), .int .i32 (Utf8.decode s pos).1]⟩) hd
    have hw := Lib.decode_width_pos s pos hp
    refine wpO_op (H1 := H.upd b (.iter s (pos + (Utf8.decode s pos).2))) ?_ g1 ((h1 _ hp (by omega)).run _ _ g2 (St.upd hH))
    show memOp F H (.nxt x) = _
    simp only [memOp, hF.ev hx, hr, if_pos hp]
  · obtain ⟨g1, g2⟩ := hF.set (v := .tuple ⟨[.bool false]⟩) hd
    refine wpO_op (H1 := H) ?_ g1 ((h2 hp).run _ _ g2 hH)
    show memOp F H (.nxt x) = _
    simp only [memOp, hF.ev hx, hr, if_neg hp]
theorem o_nxtB {s : ByteArray} {b pos : Nat} {M1 M2 : Ms} (hx : evL L x = some (.pointer (some ⟨b, 0, none⟩))) (hm : M = M1 ++ (b, .iter s pos) :: M2) (hd : Nat.blt d n = true)
    (h : ∀ (p : Bool) (w : Nat) (c : Int), (p = true → pos < w ∧ pos < s.size) → So E n H0 S none r ((d, .tuple ⟨.bool p :: cond p [.int .i64 (pos : Nat), .int .i32 c] []⟩) :: L) (M1 ++ (b, .iter s w) :: M2) Q) : So E n H0 S none (⟨some d, none, .nxt x⟩ :: r) L M Q :=
  o_nxt hx hm hd (fun w h1 h2 => h true w _ fun _ => ⟨h2, h1⟩) (fun h1 => by subst hm; exact h false pos 0 fun e => (by cases e))
/-- a call that changes nothing, and of whose value something is known -/
theorem o_callE {P : Value → Prop} {f : Operand} {as : List Operand} {gf : FuncId} {fst cap : Array Value} {args : List Value} (hf : evL L f = some (.func (.func gf) fst cap)) (ha : ∀ F, SF F n L → as.map F.eval = args) (hd : Nat.blt d n = true)
    (hc : ∀ H, St H0 S H M → Sc E gf (fst.toList ++ (args ++ cap.toList)) H [] fun v' _ => P v') (h : ∀ v, P v → So E n H0 S dr.next r ((d, v) :: L) M Q) : So E n H0 S dr (⟨some d, none, .call f as⟩ :: r) L M Q :=
  o_call1 hf ha hd fun H hH => (hc H hH).mono fun v M1 hv => .mk fun F H hF hH => (h v hv).run F H hF (hH.sub (fun x hx => List.mem_append_right _ hx) (by
    have := hH.diff
    rw [List.map_append] at this
    exact (List.nodup_append.1 this).2.1))
theorem g_ldOldW {g : Option (Nat × Bool)} {w : Bool} {a : Addr} (hg : ∀ F, SF F n L → wanted F g = w) (hx : w = true → evL L x = some (.pointer (some a))) (hv : w = true → a.block < H0.size ∧ a.block ∉ S ∧ H0.cell? a = some v) (hd : Nat.blt d n = true) (h : So E n H0 S dr.next r ((d, gv w v) :: L) M Q) : So E n H0 S dr (⟨some d, g, .ld1 x⟩ :: r) L M Q :=
  o_when hg (fun hw F H hF hH => by
    obtain ⟨h1, h2, h3⟩ := hv hw
    show memOp F H (.ld1 x) = _
    have : H.cell? a = some v := by rw [← h3]; simp only [Hp.cell?, hH.old _ h1 h2]
    simp only [memOp, hF.ev (hx hw), this, Option.map_some]) hd h
/-- a guarded call that comes to a truth value -/
theorem g_callB {g : Option (Nat × Bool)} {w : Bool} {f : Operand} {as : List Operand} {gf : FuncId} {args : List Value} (hg : ∀ F, SF F n L → wanted F g = w) (hf : evL L f = some (.func (.func gf) #[] #[])) (ha : w = true → ∀ F, SF F n L → as.map F.eval = args) (hd : Nat.blt d n = true)
    (hc : w = true → ∀ H, St H0 S H M → Sc E gf args H [] fun v' _ => ∃ p, v' = .bool p) (h : ∀ p, So E n H0 S none r ((d, gv w (.bool p)) :: L) M Q) : So E n H0 S none (⟨some d, g, .call f as⟩ :: r) L M Q := by
  cases w with
  | false => exact g_off hg hd (h false)
  | true => exact g_on hg (o_callE (dr := none) (P := fun v => ∃ p, v = .bool p) (fst := #[]) (cap := #[]) hf (ha rfl) hd (fun H hH => by simpa using hc rfl H hH) (fun v hv => by obtain ⟨p, rfl⟩ := hv; exact h p))
/-- a call of yield, under a guard -/
theorem g_yield {g : Option (Nat × Bool)} {w : Bool} {f : Operand} {as : List Operand} {args : List Value} {l N k : Nat} {A : List Value → Prop} {J : Nat → Ms → Prop} (hg : ∀ F, SF F n L → wanted F g = w) (hf : w = true → evL L f = some (yieldV l)) (ha : w = true → ∀ F, SF F n L → as.map F.eval = args) (hd : Nat.blt d n = true) (hy : YieldOK E l H0 S N A J) (hk : w = true → k < N) (hA : w = true → A args) (hJ : J k M)
    (h : ∀ M1 k', (k' = k ∨ (w = true ∧ k' = k + 1)) → J k' M1 → So E n H0 S none r ((d, gv w (.bool true)) :: L) M1 Q) : So E n H0 S none (⟨some d, g, .call f as⟩ :: r) L M Q := by
  cases w with
  | false => exact g_off hg hd (h M k (.inl rfl) hJ)
  | true => exact g_on hg (o_yield (hf rfl) (ha rfl) hd hy (hk rfl) (hA rfl) hJ fun M1 hM1 => h M1 (k + 1) (.inr ⟨rfl, rfl⟩) hM1)
theorem wantedU {j : Nat} {b : Bool} (hj : look L j = some undef) : ∀ F, SF F n L → wanted F (some (j, b)) = false := fun F hF => by simp only [wanted, hF.val j _ hj]; rfl
/-- a function that is known by contract -/
theorem sc_prim {f : FuncId} {args : List Value} {H : Hp} (h1 : E.code f = none) (h2 : E.prim f args.toArray H = some (v, H)) : Sc E f args H [] fun v' _ => v' = v := by
  refine .mk ⟨v, H, ⟨1, fun n hn => ?_⟩, [], St.refl H [], rfl⟩
  obtain ⟨n, rfl⟩ : ∃ m, n = m + 1 := ⟨n - 1, by omega⟩
  show (match E.code f with
    | some cf => callBody (oracle E n) n cf args.toArray H
    | none => E.prim f args.toArray H) = _
  rw [h1]; exact h2
theorem sc_primB {f : FuncId} {args : List Value} {H : Hp} {p : Bool} (h1 : E.code f = none) (h2 : E.prim f args.toArray H = some (.bool p, H)) : Sc E f args H [] fun v' _ => ∃ p, v' = .bool p := (sc_prim h1 h2).mono fun v M h => ⟨p, h⟩
/-- what is asked of the parameters' frame -/
theorem setP2 {F : Fr} {p1 p2 : Nat} {a1 a2 : Value} (hF : SF F n L) (h1 : Nat.blt p1 n = true) (h2 : Nat.blt p2 n = true) : ∃ F1, setParams { tr := F.tr, n := F.n, marks := [], round := true } [p1, p2] [a1, a2] = some F1 ∧ SF (F1.wm [] false) n ((p2, a2) :: (p1, a1) :: L) := by
  obtain ⟨e1, g1⟩ := hF.set (v := a1) h1
  obtain ⟨e2, g2⟩ := g1.set (v := a2) h2
  have hn := hF.n
  have b1 : p1 < F.n := by rw [hn]; exact Nat.le_of_ble_eq_true h1
  have b2 : p2 < F.n := by rw [hn]; exact Nat.le_of_ble_eq_true h2
  refine ⟨Fr.wm ((F.set p1 a1).set p2 a2) [] true, ?_, ?_⟩
  · simp only [setParams]
    rw [Fr.put_some, if_pos b1]
    have b2' : p2 < (Fr.set { tr := F.tr, n := F.n, marks := [], round := true } p1 a1).n := b2
    simp only [Fr.put_some, if_pos b2']
    rfl
  · have e : (Fr.wm ((F.set p1 a1).set p2 a2) [] true).wm [] false = (F.set p1 a1).set p2 a2 := by
      have m1 := g2.marks; have m2 := g2.round
      cases hh : (F.set p1 a1).set p2 a2
      rw [hh] at m1 m2
      simp only at m1 m2
      subst m1 m2; rfl
    rw [e]; exact g2
end Go.Proofs.YtfonnebpnobomaaDoor.Am
/- Symbolic states: appending a part that may be empty; growing an empty slice. -/
namespace Go.Proofs.YtfonnebpnobomaaDoor.Am
open Go
variable {E : Env} {n : Nat} {H0 : Hp} {S : List Nat} {L : Ls} {M : Ms} {dr : Dr} {d : Nat} {r : List CO} {Q : Ls → Ms → Prop} {x y : Operand} {v : Value}

theorem o_capnil {len cap : Nat} (hx : evL L x = some (.slice none len cap)) (hd : Nat.blt d n = true) (h : So E n H0 S dr.next r ((d, .int .i64 cap) :: L) M Q) : So E n H0 S dr (⟨some d, none, .cap x⟩ :: r) L M Q :=
  o_pure rfl (fun F hF => by simp only [pureOp, hF.ev hx]) hd h
theorem o_slnil {size : Nat} {k : IntKind} (hx : evL L x = some (.slice none 0 0)) (hy : evL L y = some (.int k 0)) (hd : Nat.blt d n = true) (h : So E n H0 S dr.next r ((d, .slice none 0 0) :: L) M Q) : So E n H0 S dr (⟨some d, none, .sl size x none (some y) none⟩ :: r) L M Q :=
  o_pure rfl (fun F hF => by simp [pureOp, hF.ev hx, hF.ev hy, sliceV, bounds, bound]) hd h
theorem o_apz {bytes m : Nat} {z : List Value} (hx : evL L x = some (.slice none 0 0)) (hy : evL L y = some (.int .i64 (m : Nat))) (h0 : 0 < m) (h1 : m ≤ 1073741824) (h2 : bytes ≤ 1024) (hd : Nat.blt d n = true)
    (h : ∀ b, So E n H0 S dr.next r ((d, .slice (some ⟨b, 0, some (z.length + 1)⟩) m m) :: L) ((b, .row (zeroCells z m) true) :: M) Q) : So E n H0 S dr (⟨some d, none, .apz bytes z x y⟩ :: r) L M Q :=
  o_new (fun b => .slice (some ⟨b, 0, some (z.length + 1)⟩) m m) (fun F H hF _ => by
    show memOp F H (.apz bytes z x y) = _
    simp only [memOp, hF.ev hx, hF.ev hy]
    rw [if_pos ⟨by omega, by omega, by omega⟩]
    simp [roomy]) hd h
theorem Own.form {size : Nat} {sv : Value} {cs : List Value} {Mo : Ms} (h : Own size sv cs Mo) : ∃ ob len cap, sv = .slice ob len cap ∧ len ≤ cap := by
  rcases h with ⟨_, rfl, _⟩ | ⟨b, len, cap, sp, row, _, rfl, _, _, _, h6⟩
  · exact ⟨none, 0, 0, rfl, Nat.le_refl _⟩
  · refine ⟨_, len, cap, rfl, ?_⟩
    rcases h6 with ⟨_, rfl⟩ | ⟨_, _, h⟩
    · exact Nat.le_refl _
    · exact h
theorem o_appO {size bytes len : Nat} {sv : Value} {cs : List Value} {Mo Mr : Ms} {ob : Option Addr} {cap : Nat} {es : List (List Value)} (hs : evL L x = some sv) (hy : evL L y = some (.slice ob es.length cap)) (hO : Own size sv cs Mo) (hlen : cs.length = len * size) (hsz : 0 < size) (hsl : SlE H0 size ob es) (hS : ∀ a, ob = some a → a.block ∉ S)
    (hone : es.flatten.all oneCell = true) (hb : (4 * (len + es.length) + 4096) * bytes ≤ 140737488355328) (hM : List.Sublist (Mo ++ Mr) M) (hd : Nat.blt d n = true)
    (h : ∀ sv' Mo', Own size sv' (cs ++ es.flatten) Mo' → So E n H0 S none r ((d, sv') :: L) (Mo' ++ Mr) Q) : So E n H0 S none (⟨some d, none, .app size bytes x y⟩ :: r) L M Q := by
  by_cases he : es = []
  · subst he
    obtain ⟨os, ls, cp, rfl, hle⟩ := hO.form
    have h' := h _ Mo (by simpa using hO)
    refine .mk fun F H hF hH => ?_
    have hH' : St H0 S H (Mo ++ Mr) := hH.sub (fun _ hx => hM.subset hx) ((hM.map _).nodup hH.diff)
    obtain ⟨h1, h2⟩ := hF.set (v := .slice os ls cp) hd
    refine wpO_op (v := .slice os ls cp) (H1 := H) ?_ h1 (h'.run _ _ h2 hH')
    show memOp F H (.app size bytes x y) = _
    cases ob with
    | none => simp [memOp, hF.ev hy, hF.ev hs, appendTo, hle]
    | some a => simp [memOp, hF.ev hy, hF.ev hs, appendTo, hle]
  · obtain ⟨a, rfl, h1, h2⟩ := hsl.cells he
    have hpos : 0 < es.length := List.length_pos_iff.2 he
    have hfl := flatten_len hsl.len
    refine o_app (new := es.flatten) (len := len) hs hy hO hlen hsz (by omega) (fun H hH => ?_) hone hb hM hd (fun b' => ?_)
    · rw [← h2]; simp only [Hp.cells?, hH.old _ h1 (hS a rfl)]
    · refine h _ [(b', .row (cs ++ es.flatten) true)] (.inr ⟨b', len + es.length, len + es.length, size + 1, _, rfl, rfl, ?_, ?_, ?_, .inr ⟨rfl, by omega, Nat.le_refl _⟩⟩)
      · rw [List.length_append, hlen, hfl, Nat.add_mul]
      · rw [List.take_of_length_le]; rw [List.length_append, hlen, hfl, Nat.add_mul]; exact Nat.le_refl _
      · rw [List.length_append, hlen, hfl, Nat.add_mul]; exact Nat.le_refl _
end Go.Proofs.YtfonnebpnobomaaDoor.Am
