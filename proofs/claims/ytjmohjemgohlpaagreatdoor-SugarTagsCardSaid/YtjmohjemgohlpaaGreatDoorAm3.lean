/- The interpreter is sound: what it comes to, the model's calls come to; what lay in memory stays. By an AI agent. No person has read it. -/
import Derived.Test.YtjmohjemgohlpaaGreatDoorAm2
import Derived.RegionIn
import Derived.RangeFuncLeaves
import Derived.ChangeSame

/- The abstract machine: operations in the text's order, and the forms of code. -/
namespace Go.Proofs.YtjmohjemgohlpaaGreatDoor.Am
open Go

/-- no bound; in a round, or not -/
def WF (r : Option Nat) : Fence := { Fence.wide with round := r }
def GRel (P : Program) (ρ : Ren) : Prop := ∀ g, g < P.globals.size → ρ g = some (g, 0)
theorem GRel.mono {P : Program} {ρ ρ' : Ren} (h : GRel P ρ) (hl : Ren.le ρ ρ') : GRel P ρ' := fun g hg => hl.1 _ _ (h g hg)

def MRel (ρ : Ren) : List Nat → List Deferred → Prop
  | [], [] => True
  | m :: ms, d :: ds => (∃ g, ρ m = some (g, 0) ∧ d = { target := .collected g, args := #[] }) ∧ MRel ρ ms ds
  | _, _ => False
theorem MRel.mono {ρ ρ' : Ren} (hl : Ren.le ρ ρ') : ∀ {ms : List Nat} {ds : List Deferred}, MRel ρ ms ds → MRel ρ' ms ds
  | [], [], _ => trivial
  | _ :: _, _ :: _, ⟨⟨g, h1, h2⟩, h3⟩ => ⟨⟨g, hl.1 _ _ h1, h2⟩, MRel.mono hl h3⟩

structure SRel (ρ : Ren) (F : Fr) (a : Act) : Prop where
  fr : FRel ρ F a.tmps
  marks : MRel ρ F.marks a.defers
theorem SRel.mono {ρ ρ' : Ren} (hl : Ren.le ρ ρ') {F : Fr} {a : Act} (h : SRel ρ F a) : SRel ρ' F a := ⟨h.fr.mono hl, h.marks.mono hl⟩

theorem FRel.put {ρ : Ren} {F F1 : Fr} {tmps : Array Value} (h : FRel ρ F tmps) {d : Nat} {v v' : Value} (hv : VRel ρ v v') (hp : F.put (some d) v = some F1) : FRel ρ F1 (tmps.setIfInBounds d v') ∧ F1.marks = F.marks ∧ F1.round = F.round := by
  rw [Fr.put_some] at hp
  split at hp
  · rename_i hd
    cases hp
    refine ⟨⟨by simp [h.n], fun t => ?_⟩, rfl, rfl⟩
    rw [Fr.get_set]
    have hd' : d < tmps.size := by rw [← h.n]; exact hd
    split
    · rename_i e; subst e; simp [Array.getD, hd']; exact hv
    · rename_i e
      have := h.get t
      simp only [Array.getD_eq_getD_getElem?, Array.getElem?_setIfInBounds, Ne.symm e, if_false] at this ⊢
      exact this
  · cases hp

theorem SRel.put {ρ : Ren} {F F1 : Fr} {a : Act} (h : SRel ρ F a) {dst : Option Nat} {v v' : Value} (hv : VRel ρ v v') (hp : F.put dst v = some F1) : SRel ρ F1 (a.put dst v') ∧ F1.round = F.round := by
  cases dst with
  | none => rw [Fr.put_none] at hp; cases hp; exact ⟨h, rfl⟩
  | some d =>
    obtain ⟨h1, h2, h3⟩ := h.fr.put hv hp
    exact ⟨⟨h1, by rw [h2]; exact h.marks⟩, h3⟩

/-! ### Calls -/
def Ends (P : Program) : Next → World → (Value → World → Prop) → Prop
  | .value v, w, R => R v w
  | .enter f args, w, R => CallsIn (WF none) 0 P f args w fun e w' => ∃ v, e = .returned v ∧ R v w'
  | .round l f tmps as bd, w, R => RoundIn (WF none) 0 P l f tmps as bd w fun e w' => ∃ v, e = .returned v ∧ R v w'
  | _, _, _ => False

/-- what is shown of a call -/
def EnterOK (P : Program) (base : Nat) (ρ : Ren) (H : Hp) (w : World) (v : Value) (H' : Hp) (s : Sem Next) : Prop :=
  ∃ nx w1, s.run P w = .ok nx w1 ∧ Ends P nx w1 fun v' w' => ∃ ρ', VRel ρ' v v' ∧ Sim P base ρ H w ρ' H' w'

def exOf : Ex → Exit
  | .normal => .normal
  | .exit i => .exit i
  | .goto l => .goto l
  | .ret => .ret

/-- what is shown of code -/
def Post (P : Program) (base : Nat) (ρ : Ren) (H : Hp) (w : World) (e : Ex) (rd : Bool) (F1 : Fr) (H1 : Hp) : Exit → Act → World → Prop := fun e' a' w' =>
  e' = exOf e ∧ F1.round = rd ∧ ∃ ρ', SRel ρ' F1 a' ∧ Sim P base ρ H w ρ' H1 w'

structure OSound (P : Program) (base : Nat) (O : Oracle) : Prop where
  cf : ∀ {f args H v H'}, O.cf f args H = some (v, H') → ∀ {ρ w args'}, HRel P base ρ H w → GRel P ρ → VsRel ρ args.toList args'.toList → EnterOK P base ρ H w v H' (callFunc f args')
  rd : ∀ {l args H v H'}, O.rd l args H = some (v, H') → ∀ {ρ w l' args'}, HRel P base ρ H w → GRel P ρ → ρ l = some (l', 0) → VsRel ρ args.toList args'.toList → EnterOK P base ρ H w v H' (Instr.yield l' args')
  ex : ∀ {cc c F H e F1 H1}, comp P c = some cc → O.ex cc F H = some (e, F1, H1) → ∀ {ρ a w r}, HRel P base ρ H w → GRel P ρ → SRel ρ F a → F.round = r.isSome →
    c.wpIn (WF r) 0 P (Post P base ρ H w e F.round F1 H1) a w
  own : ∀ {f}, O.own f = true → ∀ args w, (callFunc f args).run P w = .ok (.enter f args) w

section
variable {P : Program} {base : Nat} {O : Oracle}

theorem Sim.gRel {ρ ρ' : Ren} {H H' : Hp} {w w' : World} (h : Sim P base ρ H w ρ' H' w') (hG : GRel P ρ) : GRel P ρ' := hG.mono h.le

/-- a call of a value -/
theorem callV_sim (hO : OSound P base O) {H H' : Hp} {f f' v : Value} {args args' : List Value} {ρ : Ren} {w : World} (hv : callV O H f args = some (v, H')) (hH : HRel P base ρ H w) (hG : GRel P ρ) (hf : VRel ρ f f') (ha : VsRel ρ args args') :
    EnterOK P base ρ H w v H' (do let d ← Deferred.ofValue f' args'.toArray; invoke d.target d.args) := by
  unfold callV at hv
  split at hv
  · rename_i g first captured
    obtain ⟨a', b', rfl, h1, h2⟩ := hf.inv_func
    have := hO.cf hv hH hG (args' := a' ++ args'.toArray ++ b') (by simpa using (h1.append ha).append h2)
    obtain ⟨nx, w1, h3, h4⟩ := this
    exact ⟨nx, w1, h3, h4⟩
  · rename_i l first captured
    obtain ⟨l', rfl, e1, e2, hl⟩ := hf.inv_yield
    subst e1 e2
    have := hO.rd hv hH hG hl (args' := #[] ++ args'.toArray) (by simpa using ha)
    obtain ⟨nx, w1, h3, h4⟩ := this
    exact ⟨nx, w1, h3, h4⟩
  · cases hv

theorem wanted_eq {ρ : Ren} {F : Fr} {tmps : Array Value} (h : FRel ρ F tmps) {ops : Array Oper} {o : Oper} {co : CO} (hc : compCO P ops o = some co) : Region.wanted o (yielded ops tmps) = wanted F co.guard := by
  unfold compCO at hc
  simp only at hc
  split at hc
  · rename_i hg
    cases hc
    simp [Region.wanted, wanted, hg]
  · rename_i j b hg
    split at hc
    · rename_i d hd
      cases hc
      simp only [Region.wanted, hg, wanted, yielded, hd, Option.bind_some]
      have h1 := h.get d
      cases hx : tmps[d]? with
      | none =>
        rw [Array.getD_eq_getD_getElem?, hx] at h1
        simp only [Option.getD_none] at h1
        cases hb : F.get d with
        | bool b0 => rw [hb] at h1; have := h1.bool; simp [undef] at this
        | _ => simp
      | some y =>
        rw [Array.getD_eq_getD_getElem?, hx] at h1
        simp only [Option.getD_some] at h1
        cases hb : F.get d with
        | bool b0 => rw [hb] at h1; rw [h1.bool]; simp
        | _ =>
          cases y with
          | bool b1 => rw [hb] at h1; cases h1 <;> simp [flat0] at *
          | _ => simp
    · cases hc

theorem compCO_spec {ops : Array Oper} {o : Oper} {co : CO} (hc : compCO P ops o = some co) : co.dst = o.dst ∧ co.op = (compOp P o).getD .bad := by
  unfold compCO at hc
  simp only at hc
  split at hc
  · cases hc; exact ⟨rfl, rfl⟩
  · split at hc
    · cases hc; exact ⟨rfl, rfl⟩
    · cases hc

theorem compOp_op {o : Oper} {c : COp} (hc : compOp P o = some c) : (∀ x ∈ o.op.operands, okOpd P x = true) ∧ compOp1 P o.op = some c := by
  unfold compOp at hc
  split at hc
  · rename_i h; exact ⟨okOpds h, hc⟩
  · cases hc

/-- which operations are calls of a value -/
theorem compOp1_call {op : Op} {f : Operand} {args : List Operand} (hc : compOp1 P op = some (.call f args)) : ∃ c, op = .call c ∧ c.callee = .value f ∧ c.args.toList = args := by
  unfold compOp1 at hc
  repeat' split at hc
  all_goals try (simp only [Option.map_eq_some_iff] at hc; obtain ⟨_, _, hc⟩ := hc)
  all_goals try (cases hc; done)
  · rename_i op t x y yt
    unfold compBin compEq at hc
    repeat' split at hc
    all_goals cases hc
  · unfold compConv at hc
    repeat' split at hc
    all_goals cases hc
  · unfold compSlice at hc
    repeat' split at hc
    all_goals try (simp only [Option.map_eq_some_iff] at hc; obtain ⟨_, _, hc⟩ := hc)
    all_goals cases hc
  · rename_i c
    unfold compCall compApp compLen at hc
    repeat' split at hc
    all_goals try (cases hc; done)
    rename_i f' hf'
    cases hc
    exact ⟨c, rfl, hf', rfl⟩

theorem compOp1_not_defer {op : Op} {c : COp} (hc : compOp1 P op = some c) : ∀ d, op ≠ .defer d := by
  intro d e; subst e; simp [compOp1] at hc

/-- one operation -/
theorem op_wp_ev (hO : OSound P base O) {o : Oper} {c : COp} (hc : compOp P o = some c) {F : Fr} {H H1 : Hp} {v : Value} (hv : opA O F H c = some (v, H1)) {ρ : Ren} {a : Act} {w : World} {r : Option Nat} (hH : HRel P base ρ H w) (hG : GRel P ρ)
    {okx : Operand → Bool} (he : EvR okx ρ F a) (hok : ∀ x ∈ o.op.operands, okx x = true) {K : Act → World → Prop} {Q : Exit → Act → World → Prop} (hK : ∀ ρ' v' w', VRel ρ' v v' → Sim P base ρ H w ρ' H1 w' → K (a.put o.dst v') w') : o.wpIn (WF r) 0 P a w K Q := by
  obtain ⟨_, hc1⟩ := compOp_op hc
  have hsem : Oper.semAt (WF r).round a.eval o = execOp a.eval o := Oper.semAt_eq _ _ _ (compOp1_not_defer hc1)
  refine ⟨fun _ _ => trivial, ?_⟩
  rw [hsem]
  have hdoes : Does P base ρ H a o v H1 w → o.uponIn (WF r) 0 P a K Q ((execOp a.eval o).run P w) := by
    rintro ⟨ρ', nx, w', h1, h2, h3⟩
    rw [h1]
    cases nx <;> simp only [NxRel] at h2
    · exact hK ρ' _ w' h2 h3
    · exact hK ρ' undef w' (by rw [h2]; exact VRel.undef _) h3
  cases c with
  | call f args =>
    obtain ⟨cl, ho, hf, hargs⟩ := compOp1_call hc1
    simp only [opA] at hv
    have hfe := he f (hok f (by simp [ho, Op.operands, Call.operands, hf]))
    have hae := VsRel.map_eval he args (fun x hx => hok x (by rw [ho]; simp only [Op.operands, Call.operands]; rw [← hargs] at hx; simp at hx; simp [hx]))
    obtain ⟨nx, w1, h1, h2⟩ := callV_sim hO hv hH hG hfe hae
    have hx : execOp a.eval o = (do let d ← Deferred.ofValue (a.eval f) (args.map a.eval).toArray; invoke d.target d.args) := by
      have e : (args.map a.eval).toArray = cl.args.map a.eval := Array.toList_inj.1 (by rw [← hargs, Array.toList_map])
      rw [e]
      simp only [execOp, ho, resolve, hf]
    rw [hx, h1]
    cases nx <;> simp only [Ends] at h2
    · obtain ⟨ρ', h3, h4⟩ := h2
      exact hK ρ' _ w1 h3 h4
    · refine ⟨fun h => by simp [WF, Fence.wide] at h, CallsIn.mono (F := WF none) h2 ?_⟩
      rintro e w'' ⟨v', rfl, ρ', h3, h4⟩
      exact hK ρ' v' w'' h3 h4
    · refine ⟨fun h => by simp [WF, Fence.wide] at h, RoundIn.mono (F := WF none) h2 ?_⟩
      rintro e w'' ⟨v', rfl, ρ', h3, h4⟩
      exact hK ρ' v' w'' h3 h4
  | bad => simp [opA, COp.isPure, memOp] at hv
  | _ =>
    first
    | (simp only [opA, COp.isPure, if_true, Option.map_eq_some_iff] at hv
       obtain ⟨u, hu, hv⟩ := hv
       simp only [Prod.mk.injEq] at hv
       obtain ⟨rfl, rfl⟩ := hv
       exact hdoes ((pure_sim he hok hc rfl hu).does hH))
    | (simp only [opA, COp.isPure, Bool.false_eq_true, if_false] at hv
       exact hdoes (mem_sim hH he hok hc hv))

theorem op_wp (hO : OSound P base O) {o : Oper} {c : COp} (hc : compOp P o = some c) {F : Fr} {H H1 : Hp} {v : Value} (hv : opA O F H c = some (v, H1)) {ρ : Ren} {a : Act} {w : World} {r : Option Nat} (hH : HRel P base ρ H w) (hG : GRel P ρ) (hF : FRel ρ F a.tmps)
    {K : Act → World → Prop} {Q : Exit → Act → World → Prop} (hK : ∀ ρ' v' w', VRel ρ' v v' → Sim P base ρ H w ρ' H1 w' → K (a.put o.dst v') w') : o.wpIn (WF r) 0 P a w K Q :=
  op_wp_ev hO hc hv hH hG (evR hF hG) (compOp_op hc).1 hK

theorem compOps_spec {ops : Array Oper} : ∀ {l : List Oper} {cl : List CO}, compOps P ops l = some cl → l.length = cl.length ∧ ∀ (i : Nat) o c, l[i]? = some o → cl[i]? = some c → compCO P ops o = some c
  | [], cl, h => by simp only [compOps, Option.some.injEq] at h; subst h; exact ⟨rfl, fun i o c h => by simp at h⟩
  | o :: l, cl, h => by
    simp only [compOps] at h
    split at h
    · rename_i c cl' h1 h2
      cases h
      obtain ⟨h3, h4⟩ := compOps_spec h2
      refine ⟨by simp [h3], fun i o' c' e1 e2 => ?_⟩
      cases i with
      | zero => simp at e1 e2; subst e1 e2; exact h1
      | succ i => exact h4 i o' c' (by simpa using e1) (by simpa using e2)
    · cases h

/-- operations in the text's order -/
theorem ops_wp (hO : OSound P base O) {ops : Array Oper} {cl : List CO} (hc : compOps P ops ops.toList = some cl) {Q : Exit → Act → World → Prop} {r : Option Nat} : ∀ (k i : Nat) (F : Fr) (H : Hp) (F1 : Fr) (H1 : Hp) (ρ : Ren) (a : Act) (w : World), i + k = ops.size → opsA O (cl.drop i) F H = some (F1, H1) →
    HRel P base ρ H w → GRel P ρ → SRel ρ F a → (∀ a' w', Post P base ρ H w .normal F.round F1 H1 .normal a' w' → Q .normal a' w') → wpOpsIn (WF r) 0 P ops Q (List.range' i k) a w := by
  obtain ⟨hlen, hspec⟩ := compOps_spec hc
  intro k
  induction k with
  | zero =>
    intro i F H F1 H1 ρ a w hik hx hH hG hS hQ
    have : cl.drop i = [] := by rw [List.drop_eq_nil_iff, ← hlen]; simp; omega
    rw [this] at hx
    simp only [opsA, Option.some.injEq, Prod.mk.injEq] at hx
    obtain ⟨rfl, rfl⟩ := hx
    exact hQ a w ⟨rfl, rfl, ρ, hS, Sim.refl hH⟩
  | succ k ih =>
    intro i F H F1 H1 ρ a w hik hx hH hG hS hQ
    have hi : i < ops.size := by omega
    have hi2 : i < cl.length := by rw [← hlen]; simpa using hi
    rw [List.drop_eq_getElem_cons hi2] at hx
    rw [List.range'_succ]
    have hco := hspec i ops[i] cl[i] (by simp [hi]) (by simp [hi2])
    obtain ⟨hd, hop⟩ := compCO_spec hco
    simp only [wpOpsIn, show ops[i]? = some ops[i] from by simp [hi]]
    rw [wanted_eq hS.fr hco]
    simp only [opsA] at hx
    cases hw : wanted F cl[i].guard with
    | true =>
      simp only [hw, if_true] at hx ⊢
      split at hx
      · rename_i v H2 hv
        split at hx
        · rename_i F2 hp
          cases hcc : compOp P ops[i] with
          | none => rw [hop, hcc] at hv; simp [opA, COp.isPure, memOp] at hv
          | some c =>
            rw [hop, hcc] at hv
            refine op_wp hO hcc hv hH hG hS.fr fun ρ' v' w' h1 h2 => ?_
            rw [hd] at hp
            obtain ⟨hS', hr⟩ := (hS.mono h2.le).put h1 hp
            refine ih (i + 1) F2 H2 F1 H1 ρ' _ w' (by omega) hx h2.rel (h2.gRel hG) hS' fun a' w'' hpost => hQ a' w'' ?_
            obtain ⟨e1, e2, ρ'', h3, h4⟩ := hpost
            exact ⟨e1, by rw [e2, hr], ρ'', h3, h2.trans h4⟩
        · cases hx
      · cases hx
    | false =>
      simp only [hw, if_false, Bool.false_eq_true] at hx ⊢
      split at hx
      · rename_i F2 hp
        refine ⟨fun _ _ => trivial, ?_⟩
        rw [hd] at hp
        obtain ⟨hS', hr⟩ := hS.put (VRel.undef ρ) hp
        refine ih (i + 1) F2 H F1 H1 ρ _ w (by omega) hx hH hG hS' fun a' w'' hpost => hQ a' w'' ?_
        obtain ⟨e1, e2, ρ'', h3, h4⟩ := hpost
        exact ⟨e1, by rw [e2, hr], ρ'', h3, h4⟩
      · cases hx

end
end Go.Proofs.YtjmohjemgohlpaaGreatDoor.Am

/- The abstract machine: code. -/
namespace Go.Proofs.YtjmohjemgohlpaaGreatDoor.Am
open Go

/-! ### Turns of a loop, jumps in a scope -/
section rules
variable {F : Fence} {n : Nat} {P : Program} {Q : Exit → Act → World → Prop} {a : Act} {w : World}

/-- the activation stands before these items -/
def InAt (F : Fence) (n : Nat) (P : Program) (items : List Item) (Q : Exit → Act → World → Prop) (a : Act) (w : World) : Prop :=
  ∀ (b : Frame) (k : List Item) (cs : List Frame), b.roundOf = F.round → F.fn b.fn → F.room (cs.length + 1 + n) →
    ∃ e a' w', Q e a' w' ∧ ArrivesIn (Machine.fenced P F) P (lone (b.atR a (items ++ k)) cs w) b k cs e a' w'

theorem loop_turn {c : Code} (h : c.wpIn F n P (Exit.then (InAt F n P [.code c, .inLoop c] Q) Q) a w) : InAt F n P [.code c, .inLoop c] Q a w := by
  intro b k cs hro hb hr
  obtain ⟨e, a₁, w₁, hq, harr⟩ := h b (.inLoop c :: k) cs hro hb hr
  cases e with
  | normal =>
    obtain ⟨e₂, a₂, w₂, hq₂, harr₂⟩ := hq b k cs hro hb hr
    exact ⟨e₂, a₂, w₂, hq₂, .of_steps (StepsIn.trans harr (.one (fenced_calm hb hr rfl) stepR_inLoop)) harr₂⟩
  | exit id => exact ⟨_, a₁, w₁, hq, .pass (x := .inLoop c) rfl (fun _ _ => .inl (by simp)) harr⟩
  | goto l => exact ⟨_, a₁, w₁, hq, .pass (x := .inLoop c) rfl (fun _ _ => .inl (by simp)) harr⟩
  | ret => exact ⟨_, a₁, w₁, hq, .pass (x := .inLoop c) rfl (fun _ _ => .inl (by simp)) harr⟩
  | panic ch => exact ⟨_, a₁, w₁, hq, .pass (x := .inLoop c) rfl (fun _ _ => .inl (by simp)) harr⟩
  | outgrown => exact ⟨_, a₁, w₁, hq, .pass (x := .inLoop c) rfl (fun _ _ => .inl (by simp)) harr⟩

theorem loop_enter {c : Code} (h : InAt F n P [.code c, .inLoop c] Q a w) : (Code.loop c).wpIn F n P Q a w := by
  intro b k cs hro hb hr
  obtain ⟨e, a', w', hq, harr⟩ := h b k cs hro hb hr
  exact ⟨e, a', w', hq, .of_steps (.one (fenced_calm hb hr rfl) stepR_loop) harr⟩

section
variable {b : Frame} {k : List Item} {cs : List Frame}
theorem stepR_scope {c : Code} : step P (lone (b.atR a (.code (.scope c) :: k)) cs w) = .next (lone (b.atR a (.code c :: .inScope c :: k)) cs w) :=
  step_lone_go (by simp [stepG, stepG.exec, Frame.atR])
theorem stepR_inScope {c : Code} : step P (lone (b.atR a (.inScope c :: k)) cs w) = .next (lone (b.atR a k) cs w) :=
  step_lone_go (by simp [stepG, stepG.exec, Frame.atR])
end

/-- what is behind code that stands in a scope -/
def scopePost (F : Fence) (n : Nat) (P : Program) (c : Code) (Q : Exit → Act → World → Prop) : Exit → Act → World → Prop
  | .goto l, a, w => match findLabel c l with
    | some rest => InAt F n P [.code rest, .inScope c] Q a w
    | none => Q (.goto l) a w
  | e, a, w => Q e a w

theorem scope_turn {c cur : Code} (h : cur.wpIn F n P (scopePost F n P c Q) a w) : InAt F n P [.code cur, .inScope c] Q a w := by
  intro b k cs hro hb hr
  obtain ⟨e, a₁, w₁, hq, harr⟩ := h b (.inScope c :: k) cs hro hb hr
  cases e with
  | normal => exact ⟨.normal, a₁, w₁, hq, StepsIn.trans harr (.one (fenced_calm hb hr rfl) stepR_inScope)⟩
  | exit id => exact ⟨.exit id, a₁, w₁, hq, fun k' hk => harr.1 k' (by simp [exitTo, hk]), fun hr' hk => harr.2 hr' (by simp [exitTo, hk])⟩
  | goto l =>
    simp only [scopePost] at hq
    cases hf : findLabel c l with
    | some rest =>
      rw [hf] at hq
      obtain ⟨e₂, a₂, w₂, hq₂, harr₂⟩ := hq b k cs hro hb hr
      exact ⟨e₂, a₂, w₂, hq₂, .of_steps (harr.1 _ (by simp [gotoIn, hf])) harr₂⟩
    | none =>
      rw [hf] at hq
      exact ⟨.goto l, a₁, w₁, hq, fun k' hk => harr.1 k' (by simp [gotoIn, hf, hk]), fun hr' hk => harr.2 hr' (by simp [gotoIn, hf, hk])⟩
  | ret => exact ⟨_, a₁, w₁, hq, harr⟩
  | panic ch => exact ⟨_, a₁, w₁, hq, harr⟩
  | outgrown => exact ⟨_, a₁, w₁, hq, harr⟩

theorem scope_enter {c : Code} (h : InAt F n P [.code c, .inScope c] Q a w) : (Code.scope c).wpIn F n P Q a w := by
  intro b k cs hro hb hr
  obtain ⟨e, a', w', hq, harr⟩ := h b k cs hro hb hr
  exact ⟨e, a', w', hq, .of_steps (.one (fenced_calm hb hr rfl) stepR_scope) harr⟩

theorem InAt.mono {items : List Item} {Q' : Exit → Act → World → Prop} (h : InAt F n P items Q a w) (hq : ∀ e a w, Q e a w → Q' e a w) : InAt F n P items Q' a w :=
  fun b k cs hro hb hr => let ⟨e, a', w', q, r⟩ := h b k cs hro hb hr; ⟨e, a', w', hq _ _ _ q, r⟩
end rules

theorem findL_comp {P : Program} : ∀ {c : Code} {cc : CC}, comp P c = some cc → ∀ (l : Nat), (findLabel c l = none ∧ findL cc l = none) ∨ ∃ rest crest, findLabel c l = some rest ∧ findL cc l = some crest ∧ comp P rest = some crest := by
  intro c
  induction c with
  | seq x y ihx ihy =>
    intro cc h l
    simp only [comp] at h
    split at h
    · rename_i cx cy hx hy
      cases h
      simp only [findLabel, findL]
      rcases ihx hx l with ⟨h1, h2⟩ | ⟨r, cr, h1, h2, h3⟩
      · rw [h1, h2]
        exact ihy hy l
      · rw [h1, h2]
        exact .inr ⟨_, _, rfl, rfl, by simp [comp, h3, hy]⟩
    · cases h
  | label l' =>
    intro cc h l
    simp only [comp, Option.some.injEq] at h
    subst h
    simp only [findLabel, findL]
    by_cases e : l' = l
    · exact .inr ⟨.skip, .skip, by simp [e], by simp [e], rfl⟩
    · exact .inl ⟨by simp [e], by simp [e]⟩
  | region id ops dr =>
    intro cc h l
    refine .inl ⟨rfl, ?_⟩
    cases dr with
    | false => simp only [comp, Option.map_eq_some_iff] at h; obtain ⟨_, _, rfl⟩ := h; rfl
    | true =>
      simp only [comp] at h
      split at h
      · simp only [Option.map_eq_some_iff] at h; obtain ⟨_, _, rfl⟩ := h; rfl
      · cases h
  | skip => intro cc h l; simp only [comp, Option.some.injEq] at h; subst h; exact .inl ⟨rfl, rfl⟩
  | cond x a b _ _ =>
    intro cc h l
    simp only [comp] at h
    split at h
    · cases h; exact .inl ⟨rfl, rfl⟩
    · cases h
  | block id x _ => intro cc h l; simp only [comp, Option.map_eq_some_iff] at h; obtain ⟨_, _, rfl⟩ := h; exact .inl ⟨rfl, rfl⟩
  | loop x _ => intro cc h l; simp only [comp, Option.map_eq_some_iff] at h; obtain ⟨_, _, rfl⟩ := h; exact .inl ⟨rfl, rfl⟩
  | rangeFunc f ps x y _ _ =>
    intro cc h l
    simp only [comp] at h
    split at h
    · cases h; exact .inl ⟨rfl, rfl⟩
    · cases h
  | exit id => intro cc h l; simp only [comp, Option.some.injEq] at h; subst h; exact .inl ⟨rfl, rfl⟩
  | scope x _ => intro cc h l; simp only [comp, Option.map_eq_some_iff] at h; obtain ⟨_, _, rfl⟩ := h; exact .inl ⟨rfl, rfl⟩
  | goto id => intro cc h l; simp only [comp, Option.some.injEq] at h; subst h; exact .inl ⟨rfl, rfl⟩
  | ret => intro cc h l; simp only [comp, Option.some.injEq] at h; subst h; exact .inl ⟨rfl, rfl⟩
  | refuse why => intro cc h l; simp only [comp, Option.some.injEq] at h; subst h; exact .inl ⟨rfl, rfl⟩

section
variable {P : Program} {base : Nat} {O : Oracle}

theorem Post.trans {ρ ρ1 : Ren} {H H1 H2 : Hp} {w w1 w' : World} {e : Ex} {rd : Bool} {F2 : Fr} {e' : Exit} {a' : Act} (hs : Sim P base ρ H w ρ1 H1 w1) (h : Post P base ρ1 H1 w1 e rd F2 H2 e' a' w') : Post P base ρ H w e rd F2 H2 e' a' w' :=
  ⟨h.1, h.2.1, let ⟨ρ', x, y⟩ := h.2.2; ⟨ρ', x, hs.trans y⟩⟩

/-- what is to be shown of regions that draw -/
def DrawOK (P : Program) (base : Nat) (O : Oracle) : Prop := ∀ {id : Nat} {ops : Array Oper} {l : List CO} {F F1 : Fr} {H H1 : Hp} {d : List Did}, ordOk ops = true → compOps P ops ops.toList = some l → drawA O l F H = some (d, F1, H1) → apart (unordered ops) d = true →
  ∀ {ρ : Ren} {a : Act} {w : World} {r : Option Nat}, HRel P base ρ H w → GRel P ρ → SRel ρ F a → F.round = r.isSome → (Code.region id ops true).wpIn (WF r) 0 P (Post P base ρ H w .normal F.round F1 H1) a w

/-- what is shown of code -/
def CodeOK (P : Program) (base : Nat) (c : Code) (f : Fr → Hp → Option (Ex × Fr × Hp)) : Prop := ∀ {F F1 : Fr} {H H1 : Hp} {e : Ex}, f F H = some (e, F1, H1) →
  ∀ {ρ : Ren} {a : Act} {w : World} {r : Option Nat}, HRel P base ρ H w → GRel P ρ → SRel ρ F a → F.round = r.isSome → c.wpIn (WF r) 0 P (Post P base ρ H w e F.round F1 H1) a w

theorem loop_sim {c : Code} {f : Fr → Hp → Option (Ex × Fr × Hp)} (hc : CodeOK P base c f) {r : Option Nat} : ∀ (n : Nat) {F F1 : Fr} {H H1 : Hp} {e : Ex}, iterA f n F H = some (e, F1, H1) →
    ∀ {ρ : Ren} {a : Act} {w : World}, HRel P base ρ H w → GRel P ρ → SRel ρ F a → F.round = r.isSome → InAt (WF r) 0 P [.code c, .inLoop c] (Post P base ρ H w e F.round F1 H1) a w := by
  intro n
  induction n with
  | zero => intro F F1 H H1 e h; simp [iterA] at h
  | succ n ih =>
    intro F F1 H H1 e h ρ a w hH hG hS hr
    refine loop_turn ?_
    simp only [iterA] at h
    split at h
    · rename_i F2 H2 hf
      refine wpIn_mono (hc hf hH hG hS hr) ?_
      rintro e' a' w' ⟨rfl, hrd, ρ', hS', hsim⟩
      exact (ih h hsim.rel (hsim.gRel hG) hS' (by rw [hrd, hr])).mono fun e a w hp => by rw [hrd] at hp; exact Post.trans hsim hp
    · rename_i hne
      refine wpIn_mono (hc h hH hG hS hr) ?_
      rintro e' a' w' ⟨rfl, hrest⟩
      cases e with
      | normal => exact absurd h (hne _ _)
      | exit i => exact ⟨rfl, hrest⟩
      | goto i => exact ⟨rfl, hrest⟩
      | ret => exact ⟨rfl, hrest⟩

theorem scope_sim {body : Code} {cb : CC} (hb : comp P body = some cb) {f : CC → Fr → Hp → Option (Ex × Fr × Hp)} (hf : ∀ {c : Code} {cc : CC}, comp P c = some cc → CodeOK P base c (f cc)) {r : Option Nat} : ∀ (n : Nat) {c : Code} {cc : CC}, comp P c = some cc →
    ∀ {F F1 : Fr} {H H1 : Hp} {e : Ex}, scopeA f cb n cc F H = some (e, F1, H1) → ∀ {ρ : Ren} {a : Act} {w : World}, HRel P base ρ H w → GRel P ρ → SRel ρ F a → F.round = r.isSome →
    InAt (WF r) 0 P [.code c, .inScope body] (Post P base ρ H w e F.round F1 H1) a w := by
  intro n
  induction n with
  | zero => intro c cc hc F F1 H H1 e h; simp [scopeA] at h
  | succ n ih =>
    intro c cc hc F F1 H H1 e h ρ a w hH hG hS hr
    refine scope_turn ?_
    simp only [scopeA] at h
    split at h
    · rename_i l F2 H2 hx
      refine wpIn_mono (hf hc hx hH hG hS hr) ?_
      rintro e' a' w' ⟨rfl, hrd, ρ', hS', hsim⟩
      simp only [exOf, scopePost]
      rcases findL_comp hb l with ⟨h1, h2⟩ | ⟨rest, crest, h1, h2, h3⟩
      · rw [h2] at h
        rw [h1]
        simp only [Option.some.injEq, Prod.mk.injEq] at h
        obtain ⟨rfl, rfl, rfl⟩ := h
        exact ⟨rfl, hrd, ρ', hS', hsim⟩
      · rw [h2] at h
        rw [h1]
        exact (ih h3 h hsim.rel (hsim.gRel hG) hS' (by rw [hrd, hr])).mono fun e a w hp => by rw [hrd] at hp; exact Post.trans hsim hp
    · rename_i hne
      refine wpIn_mono (hf hc h hH hG hS hr) ?_
      rintro e' a' w' ⟨rfl, hrest⟩
      cases e with
      | normal => exact ⟨rfl, hrest⟩
      | exit i => exact ⟨rfl, hrest⟩
      | goto i => exact absurd h (hne _ _ _)
      | ret => exact ⟨rfl, hrest⟩

theorem rangeF_sim (hO : OSound P base O) {g : Operand} {ps : Array Tmp} {as bd : Code} {cas cbd : CC} (hg : okOpd P g = true) (has : comp P as = some cas) (hbd : comp P bd = some cbd) {F F1 : Fr} {H H1 : Hp} {e : Ex} (h : rangeA O (F.eval g) ps.toList cas cbd F H = some (e, F1, H1))
    {ρ : Ren} {a : Act} {w : World} {r : Option Nat} (hH : HRel P base ρ H w) (hG : GRel P ρ) (hS : SRel ρ F a) (hr : F.round = r.isSome) : (Code.rangeFunc g ps as bd).wpIn (WF r) 0 P (Post P base ρ H w e F.round F1 H1) a w := by
  have he : EvR (okOpd P) ρ F a := evR hS.fr hG
  unfold rangeA at h
  split at h
  · cases h
  · rename_i hcond
    simp only [Bool.or_eq_true, Bool.not_eq_true', not_or, Bool.not_eq_true, Bool.not_eq_false] at hcond
    obtain ⟨hrd, hown⟩ := hcond
    have hrn : r = none := by
      cases r with
      | none => rfl
      | some l => rw [hrd] at hr; simp at hr
    subst hrn
    split at h
    · rename_i v H3 hcall
      refine wpIn_rangeFunc fun fn _ => ?_
      /- the block and the record are laid -/
      have s1 := hH.alloc (.deferred (some [])) .deferred none ⟨hH.sz, rfl, (by show (w.heap.push _)[w.heap.size]? = _; simp)⟩
      have hsz1 : (w.alloc (.deferred (some []))).heap.size = w.heap.size + 1 := by simp
      have hS1 : SRel (ρ.add H.size (w.heap.size, 0) none) F a := hS.mono s1.le
      have s2 := s1.rel.alloc (.loop { state := .ready, pending := none, fn := fn, tmps := a.tmps, params := ps, assign := as, body := bd, defers := w.heap.size }) (.loop .ready none F ps.toList cas cbd) none
        ⟨s1.rel.sz, rfl, { state := .ready, pending := none, fn := fn, tmps := a.tmps, params := ps, assign := as, body := bd, defers := w.heap.size }, (by show (Array.push _ _)[(w.alloc (.deferred (some []))).heap.size]? = _; exact Array.getElem?_push_size), rfl, trivial, ?_, rfl, has, hbd⟩
      · have s12 := s1.trans s2
        have hl2 := Ren.add_same (ρ.add H.size (w.heap.size, 0) none) (H.new .deferred).size ((w.alloc (.deferred (some []))).heap.size, 0) none
        rw [hsz1] at hl2
        have hm2 : ((ρ.add H.size (w.heap.size, 0) none).add (H.new .deferred).size ((w.alloc (.deferred (some []))).heap.size, 0) none) H.size = some (w.heap.size, 0) := s2.le.1 _ _ (Ren.add_same _ _ _ _)
        have hgv := (he g hg).mono s12.le
        have hy : VRel ((ρ.add H.size (w.heap.size, 0) none).add (H.new .deferred).size ((w.alloc (.deferred (some []))).heap.size, 0) none) (.func (.yield (H.size + 1)) #[] #[]) (.func (.yield (w.heap.size + 1)) #[] #[]) := .yield (by rw [hsz1]; exact hl2)
        /- the function is at hand -/
        cases hfv : F.eval g with
        | func ft first captured =>
          rw [hfv] at hown
          cases ft with
          | func gf =>
            simp only [ownV] at hown
            rw [hfv] at hgv hcall
            obtain ⟨a', b', e1, q1, q2⟩ := hgv.inv_func
            simp only [callV] at hcall
            obtain ⟨nx, w3, hrun, hends⟩ := hO.cf hcall s2.rel (s12.gRel hG) (args' := a' ++ #[.func (.yield (w.heap.size + 1)) #[] #[]] ++ b') (by simpa using (q1.append (VsRel.cons hy (VsRel.nil _))).append q2)
            have hent := hO.own hown (a' ++ #[.func (.yield (w.heap.size + 1)) #[] #[]] ++ b') ((w.alloc (.deferred (some []))).alloc (.loop { state := .ready, pending := none, fn := fn, tmps := a.tmps, params := ps, assign := as, body := bd, defers := w.heap.size }))
            rw [hrun] at hent
            cases hent
            simp only [Ends] at hends
            refine ⟨w.heap.size + 1, [{ target := .collected w.heap.size, args := #[] }], ((w.alloc (.deferred (some []))).alloc (.loop { state := .ready, pending := none, fn := fn, tmps := a.tmps, params := ps, assign := as, body := bd, defers := w.heap.size })), { target := .fn (.func gf) b', args := a' ++ #[.func (.yield (w.heap.size + 1)) #[] #[]] }, _, gf, _, _, ?_, ?_, fun _ _ => trivial, hrun, fun h => by simp [WF, Fence.wide] at h, ?_⟩
            · simp [Instr.enterLoop, WF, Fence.wide]
            · have e2 : a.eval (.const (.func (.yield (w.heap.size + 1)) #[] #[])) = .func (.yield (w.heap.size + 1)) #[] #[] := rfl
              simp [resolve, e1, Deferred.ofValue, e2]
            · refine CallsIn.mono hends ?_
              rintro en w3 ⟨v3, rfl, ρ3, hv3, s3⟩
              have hl3 : ρ3 (H.size + 1) = some (w.heap.size + 1, 0) := s3.le.1 _ _ (by rw [hsz1]; exact hl2)
              have hm3 : ρ3 H.size = some (w.heap.size, 0) := s3.le.1 _ _ hm2
              split at h
              · rename_i st pend F0 ps0 as0 bd0 hgl
                split at h
                · cases h
                · rename_i hbusy
                  simp only [Option.some.injEq, Prod.mk.injEq] at h
                  obtain ⟨rfl, rfl, rfl⟩ := h
                  have hb := s3.rel.blk _ _ _ hl3
                  rw [hgl] at hb
                  obtain ⟨hbase, _, l, hl, hst, hpend, hfr, hps, ha0, hb0⟩ := hb
                  have hlt : w.heap.size + 1 < w3.heap.size := (Array.getElem?_eq_some_iff.1 hl).1
                  have s4 := s3.rel.write hl3 (by rw [hgl]; rfl) (w' := { w3 with heap := w3.heap.setIfInBounds (w.heap.size + 1) (.loop { l with state := .exhausted }) }) (fun k hk => by simp [Ne.symm hk]) (by simp) rfl rfl rfl (.loop .exhausted pend F0 ps0 as0 bd0)
                    ⟨hbase, rfl, { l with state := .exhausted }, by simp [hlt], rfl, hpend, hfr, hps, ha0, hb0⟩
                  have hend : (Instr.endLoop (w.heap.size + 1)).run P w3 = .ok l.pending { w3 with heap := w3.heap.setIfInBounds (w.heap.size + 1) (.loop { l with state := .exhausted }) } := by
                    have h1 : (getObj (w.heap.size + 1)).run P w3 = .ok (.loop l) w3 := by simp [getObj, Sem.run, hl]
                    have h2 : (setObj (w.heap.size + 1) (.loop { l with state := .exhausted })).run P w3 = .ok () { w3 with heap := w3.heap.setIfInBounds (w.heap.size + 1) (.loop { l with state := .exhausted }) } := by simp [setObj, Sem.run, hl]
                    have h3 : (l.state == LoopState.busy) = false := by rw [hst]; cases st <;> first | rfl | exact absurd rfl hbusy
                    simp only [Instr.endLoop, Instr.getLoop, Sem.run_bind, h1, Result.andThen_ok, Sem.run_pure, h3, Bool.false_eq_true, if_false, h2]
                  have s14 := (s12.trans s3).trans s4
                  have hS4 : SRel ρ3 { tr := F.tr, n := F.n, marks := H.size :: F.marks, round := F.round } { tmps := a.tmps, defers := [{ target := .collected w.heap.size, args := #[] }] ++ a.defers } :=
                    ⟨⟨hS.fr.n, fun t => (hS.fr.get t).mono s14.le⟩, ⟨w.heap.size, hm3, rfl⟩, hS.marks.mono s14.le⟩
                  refine ⟨_, _, hend, ?_⟩
                  have hpost : ∀ x, x = pend.getD .normal → Post P base ρ H w (pend.getD .normal) F.round { tr := F.tr, n := F.n, marks := H.size :: F.marks, round := F.round } (H3.upd (H.size + 1) (.loop .exhausted pend F0 ps0 as0 bd0)) (exOf x) { tmps := a.tmps, defers := [{ target := .collected w.heap.size, args := #[] }] ++ a.defers } { w3 with heap := w3.heap.setIfInBounds (w.heap.size + 1) (.loop { l with state := .exhausted }) } :=
                    fun x hx => ⟨by rw [hx], rfl, ρ3, hS4, s14⟩
                  generalize ({ w3 with heap := w3.heap.setIfInBounds (w.heap.size + 1) (.loop { l with state := .exhausted }) } : World) = W at hpost ⊢
                  cases hlp : l.pending with
                  | none =>
                    rw [hlp] at hpend
                    cases pend with
                    | none => exact hpost .normal rfl
                    | some x => cases x <;> exact hpend.elim
                  | some jc =>
                    rw [hlp] at hpend
                    cases pend with
                    | none => exact hpend.elim
                    | some x =>
                      cases x with
                      | normal => exact hpend.elim
                      | ret =>
                        cases jc <;> first | exact wpIn_ret (hpost .ret rfl) | exact hpend.elim
                      | exit i =>
                        cases jc <;> first | exact hpend.elim | skip
                        rename_i j
                        have : i = j := hpend
                        subst this
                        exact wpIn_exit (hpost (.exit i) rfl)
                      | goto i =>
                        cases jc <;> first | exact hpend.elim | skip
                        rename_i j
                        have : i = j := hpend
                        subst this
                        exact wpIn_goto (hpost (.goto i) rfl)
              · cases h
          | _ => simp [ownV] at hown
        | _ => rw [hfv] at hown; simp [ownV] at hown
      · exact ⟨hS1.fr.n, fun t => by
          have hn : (ρ.add H.size (w.heap.size, 0) none) (H.new .deferred).size = none := by
            cases ex : (ρ.add H.size (w.heap.size, 0) none) (H.new .deferred).size with
            | none => rfl
            | some y => have := s1.rel.lt _ _ ex; omega
          exact (hS1.fr.get t).mono (Ren.le_add _ _ hn)⟩
    · cases h

theorem exec_sim (hO : OSound P base O) (hD : DrawOK P base O) (n : Nat) : ∀ (c : Code) {cc : CC}, comp P c = some cc → CodeOK P base c (exec O n cc) := by
  intro c
  induction c with
  | skip =>
    intro cc hc F F1 H H1 e h ρ a w r hH hG hS hr
    simp only [comp, Option.some.injEq] at hc; subst hc
    simp only [exec, Option.some.injEq, Prod.mk.injEq] at h; obtain ⟨rfl, rfl, rfl⟩ := h
    exact wpIn_skip ⟨rfl, rfl, ρ, hS, Sim.refl hH⟩
  | label l =>
    intro cc hc F F1 H H1 e h ρ a w r hH hG hS hr
    simp only [comp, Option.some.injEq] at hc; subst hc
    simp only [exec, Option.some.injEq, Prod.mk.injEq] at h; obtain ⟨rfl, rfl, rfl⟩ := h
    exact wpIn_label ⟨rfl, rfl, ρ, hS, Sim.refl hH⟩
  | exit id =>
    intro cc hc F F1 H H1 e h ρ a w r hH hG hS hr
    simp only [comp, Option.some.injEq] at hc; subst hc
    simp only [exec, Option.some.injEq, Prod.mk.injEq] at h; obtain ⟨rfl, rfl, rfl⟩ := h
    exact wpIn_exit ⟨rfl, rfl, ρ, hS, Sim.refl hH⟩
  | goto id =>
    intro cc hc F F1 H H1 e h ρ a w r hH hG hS hr
    simp only [comp, Option.some.injEq] at hc; subst hc
    simp only [exec, Option.some.injEq, Prod.mk.injEq] at h; obtain ⟨rfl, rfl, rfl⟩ := h
    exact wpIn_goto ⟨rfl, rfl, ρ, hS, Sim.refl hH⟩
  | ret =>
    intro cc hc F F1 H H1 e h ρ a w r hH hG hS hr
    simp only [comp, Option.some.injEq] at hc; subst hc
    simp only [exec, Option.some.injEq, Prod.mk.injEq] at h; obtain ⟨rfl, rfl, rfl⟩ := h
    exact wpIn_ret ⟨rfl, rfl, ρ, hS, Sim.refl hH⟩
  | refuse why =>
    intro cc hc F F1 H H1 e h
    simp only [comp, Option.some.injEq] at hc; subst hc
    simp [exec] at h
  | region id ops dr =>
    intro cc hc F F1 H H1 e h ρ a w r hH hG hS hr
    cases dr with
    | false =>
      simp only [comp, Option.map_eq_some_iff] at hc; obtain ⟨l, hl, rfl⟩ := hc
      simp only [exec] at h
      split at h
      · rename_i F2 H2 hx
        simp only [Option.some.injEq, Prod.mk.injEq] at h; obtain ⟨rfl, rfl, rfl⟩ := h
        refine wpIn_region ?_
        rw [List.range_eq_range']
        exact ops_wp hO hl ops.size 0 F H _ _ ρ a w (by omega) (by simpa using hx) hH hG hS fun a' w' h => h
      · cases h
    | true =>
      simp only [comp] at hc
      split at hc
      · rename_i hok
        simp only [Option.map_eq_some_iff] at hc; obtain ⟨l, hl, rfl⟩ := hc
        simp only [exec] at h
        split at h
        · rename_i d F2 H2 hx
          split at h
          · rename_i hap
            simp only [Option.some.injEq, Prod.mk.injEq] at h; obtain ⟨rfl, rfl, rfl⟩ := h
            exact hD hok hl hx hap hH hG hS hr
          · cases h
        · cases h
      · cases hc
  | seq x y ihx ihy =>
    intro cc hc F F1 H H1 e h ρ a w r hH hG hS hr
    simp only [comp] at hc
    split at hc
    · rename_i cx cy hx hy
      cases hc
      simp only [exec] at h
      refine wpIn_seq ?_
      split at h
      · rename_i F2 H2 hxx
        refine wpIn_mono (ihx hx hxx hH hG hS hr) ?_
        rintro e' a' w' ⟨rfl, hrd, ρ', hS', hsim⟩
        refine wpIn_mono (ihy hy h hsim.rel (hsim.gRel hG) hS' (by rw [hrd, hr])) ?_
        intro e' a' w' hp
        rw [hrd] at hp
        exact Post.trans hsim hp
      · rename_i hne
        refine wpIn_mono (ihx hx h hH hG hS hr) ?_
        rintro e' a' w' ⟨rfl, hrest⟩
        cases e with
        | normal => exact absurd h (hne _ _)
        | exit i => exact ⟨rfl, hrest⟩
        | goto i => exact ⟨rfl, hrest⟩
        | ret => exact ⟨rfl, hrest⟩
    · cases hc
  | cond x c1 c2 ih1 ih2 =>
    intro cc hc F F1 H H1 e h ρ a w r hH hG hS hr
    simp only [comp] at hc
    split at hc
    · rename_i ca cb hx h1 h2
      cases hc
      have hx' := evR hS.fr hG x hx
      simp only [exec] at h
      split at h
      · rename_i hb
        rw [hb] at hx'
        exact wpIn_cond_true hx'.bool (ih1 h1 h hH hG hS hr)
      · rename_i hb
        rw [hb] at hx'
        exact wpIn_cond_false hx'.bool (ih2 h2 h hH hG hS hr)
      · cases h
    · cases hc
  | block id x ih =>
    intro cc hc F F1 H H1 e h ρ a w r hH hG hS hr
    simp only [comp, Option.map_eq_some_iff] at hc; obtain ⟨cx, hx, rfl⟩ := hc
    simp only [exec] at h
    refine wpIn_block ?_
    split at h
    · rename_i id' F2 H2 hxx
      refine wpIn_mono (ih hx hxx hH hG hS hr) ?_
      rintro e' a' w' ⟨rfl, hrest⟩
      simp only [exOf, Exit.inBlock]
      by_cases hid : id' = id
      · subst hid
        simp only [Nat.beq_refl, cond_true, Option.some.injEq, Prod.mk.injEq] at h
        obtain ⟨rfl, rfl, rfl⟩ := h
        simp only [if_true]
        exact ⟨rfl, hrest⟩
      · have : Nat.beq id' id = false := by
          cases hx : Nat.beq id' id with
          | false => rfl
          | true => exact absurd (Nat.eq_of_beq_eq_true hx) hid
        simp only [this, cond_false, Option.some.injEq, Prod.mk.injEq] at h
        obtain ⟨rfl, rfl, rfl⟩ := h
        simp only [hid, if_false]
        exact ⟨rfl, hrest⟩
    · rename_i hne
      refine wpIn_mono (ih hx h hH hG hS hr) ?_
      rintro e' a' w' ⟨rfl, hrest⟩
      cases e with
      | normal => exact ⟨rfl, hrest⟩
      | exit i => exact absurd h (hne _ _ _)
      | goto i => exact ⟨rfl, hrest⟩
      | ret => exact ⟨rfl, hrest⟩
  | loop x ih =>
    intro cc hc F F1 H H1 e h ρ a w r hH hG hS hr
    simp only [comp, Option.map_eq_some_iff] at hc; obtain ⟨cx, hx, rfl⟩ := hc
    simp only [exec] at h
    exact loop_enter (loop_sim (ih hx) n h hH hG hS hr)
  | rangeFunc f ps as bd _ _ =>
    intro cc hc F F1 H H1 e h ρ a w r hH hG hS hr
    simp only [comp] at hc
    split at hc
    · rename_i cas cbd hf has hbd
      cases hc
      simp only [exec] at h
      exact rangeF_sim hO hf has hbd h hH hG hS hr
    · cases hc
  | scope x ih =>
    intro cc hc F F1 H H1 e h ρ a w r hH hG hS hr
    simp only [comp, Option.map_eq_some_iff] at hc; obtain ⟨cx, hx, rfl⟩ := hc
    simp only [exec] at h
    refine scope_enter (scope_turn ?_)
    split at h
    · rename_i l F2 H2 hxx
      refine wpIn_mono (ih hx hxx hH hG hS hr) ?_
      rintro e' a' w' ⟨rfl, hrd, ρ', hS', hsim⟩
      simp only [exOf, scopePost]
      rcases findL_comp hx l with ⟨h1, h2⟩ | ⟨rest, crest, h1, h2, h3⟩
      · rw [h2] at h
        rw [h1]
        simp only [Option.some.injEq, Prod.mk.injEq] at h
        obtain ⟨rfl, rfl, rfl⟩ := h
        exact ⟨rfl, hrd, ρ', hS', hsim⟩
      · rw [h2] at h
        rw [h1]
        exact (scope_sim hx (fun {c cc} hc => fun {F F1 H H1 e} h {ρ a w r} hH hG hS hr => hO.ex hc h hH hG hS hr) n h3 h hsim.rel (hsim.gRel hG) hS' (by rw [hrd, hr])).mono fun e a w hp => by rw [hrd] at hp; exact Post.trans hsim hp
    · rename_i hne
      refine wpIn_mono (ih hx h hH hG hS hr) ?_
      rintro e' a' w' ⟨rfl, hrest⟩
      cases e with
      | normal => exact ⟨rfl, hrest⟩
      | exit i => exact ⟨rfl, hrest⟩
      | goto i => exact absurd h (hne _ _ _)
      | ret => exact ⟨rfl, hrest⟩

end
end Go.Proofs.YtjmohjemgohlpaaGreatDoor.Am

/- The abstract machine: functions, rounds; the machine is sound. -/
namespace Go.Proofs.YtjmohjemgohlpaaGreatDoor.Am
open Go

section
variable {P : Program} {base : Nat} {O : Oracle}

theorem result_sim {ρ : Ren} {F : Fr} {tmps : Array Value} {H : Hp} {w : World} (hF : FRel ρ F tmps) (hH : HRel P base ρ H w) {r : ResultVar} {cr : CR} (hc : compR P r = some cr) {v : Value} (hv : resultA F H cr = some v) :
    ∃ v', (match r with
      | .tmp t => (pure (tmps.getD t undef) : Sem Value)
      | .cell a t => do loadVar t (← asAddr (tmps.getD a undef))).run P w = .ok v' w ∧ VRel ρ v v' := by
  cases r with
  | tmp t =>
    simp only [compR, Option.some.injEq] at hc
    subst hc
    simp only [resultA, Option.some.injEq] at hv
    subst hv
    exact ⟨_, rfl, hF.get t⟩
  | cell x t =>
    simp only [compR] at hc
    split at hc
    · rename_i n ha hs
      cases hc
      simp only [resultA] at hv
      split at hv
      · rename_i b hb
        have h1 := hF.get x
        rw [hb] at h1
        obtain ⟨g, s, hg, e1⟩ := h1.inv_pointer
        simp only [Option.map_eq_some_iff] at hv
        obtain ⟨cs, hcs, rfl⟩ := hv
        obtain ⟨cs', h2, h3, h4⟩ := hH.cells hcs hg
        have hl := run_cells (P := P) w h4
        rw [h3] at hl
        refine ⟨.agg ⟨cs'⟩, ?_, VsRel.agg h2⟩
        simp [e1, asAddr, loadVar, run_tyAgg w ha, run_tySize w hs, hl]
      · cases hv
    · rename_i n ha hs
      cases hc
      simp only [resultA] at hv
      split at hv
      · rename_i b hb
        have h1 := hF.get x
        rw [hb] at h1
        obtain ⟨g, s, hg, e1⟩ := h1.inv_pointer
        obtain ⟨v', h2, h3⟩ := hH.cell hv hg
        refine ⟨v', ?_, h3⟩
        simp [e1, asAddr, loadVar, run_tyAgg w ha, h2]
      · cases hv
    · cases hc

theorem results_sim {ρ : Ren} {F : Fr} {tmps : Array Value} {H : Hp} {w : World} (hF : FRel ρ F tmps) (hH : HRel P base ρ H w) : ∀ {rs : List ResultVar} {crs : List CR}, compRs P rs = some crs → ∀ {vs : List Value}, resultsA F H crs = some vs →
    ∃ vs', (rs.mapM (m := Sem) fun
      | .tmp t => pure (tmps.getD t undef)
      | .cell a t => do loadVar t (← asAddr (tmps.getD a undef))).run P w = .ok vs' w ∧ VsRel ρ vs vs'
  | [], crs, hc, vs, hv => by
    simp only [compRs, Option.some.injEq] at hc; subst hc
    simp only [resultsA, Option.some.injEq] at hv; subst hv
    exact ⟨[], rfl, VsRel.nil _⟩
  | r :: rs, crs, hc, vs, hv => by
    simp only [compRs] at hc
    split at hc
    · rename_i cr crs' h1 h2
      cases hc
      simp only [resultsA] at hv
      split at hv
      · rename_i v vs0 h3 h4
        cases hv
        obtain ⟨v', q1, q2⟩ := result_sim hF hH h1 h3
        obtain ⟨vs', q3, q4⟩ := results_sim hF hH h2 h4
        refine ⟨v' :: vs', ?_, VsRel.cons q2 q4⟩
        rw [List.mapM_cons, Sem.run_bind]
        have q1' : Sem.run P (match r with
          | .tmp t => pure (tmps.getD t undef)
          | .cell a t => do loadVar t (← asAddr (tmps.getD a undef))) w = .ok v' w := q1
        cases r <;> (simp only at q1' ⊢; rw [q1']; simp only [Result.andThen_ok, Sem.run_bind, Sem.run_pure]; rw [q3]; rfl)
      · cases hv
    · cases hc

theorem tupled_rel {ρ : Ren} {vs vs' : List Value} (h : VsRel ρ vs vs') : VRel ρ (tupled vs) (if h : vs'.toArray.size = 1 then vs'.toArray[0] else .tuple vs'.toArray) := by
  match vs, vs', h with
  | [], [], h => simpa [tupled] using VsRel.tuple h
  | [v], [v'], h => simpa [tupled] using h.2 0 v v' rfl rfl
  | a :: b :: r, a' :: b' :: r', h => simpa [tupled] using VsRel.tuple h
  | [], _ :: _, h => exact absurd h.1 (by simp)
  | _ :: _, [], h => exact absurd h.1 (by simp)
  | [_], _ :: _ :: _, h => exact absurd h.1 (by simp)
  | _ :: _ :: _, [_], h => exact absurd h.1 (by simp)

theorem leaves_sim {fn : Func} {tmps : Array Value} {R : Ending → World → Prop} : ∀ {ms : List Nat} {ds : List Deferred} {ρ : Ren} {H H1 : Hp} {w : World}, MRel ρ ms ds → HRel P base ρ H w → killAll H ms = some H1 →
    (∀ w', Sim P base ρ H w ρ H1 w' → ∃ v, (results fn tmps).run P w' = .ok v w' ∧ R (.returned v) w') → LeavesInM (WF none) 0 P fn tmps R ds .returning w
  | [], [], ρ, H, H1, w, _, hH, hk, hfin => by
    simp only [killAll, Option.some.injEq] at hk
    subst hk
    exact hfin w (Sim.refl hH)
  | m :: ms, d :: ds, ρ, H, H1, w, ⟨⟨g, hg, hd⟩, hms⟩, hH, hk, hfin => by
    simp only [killAll] at hk
    split at hk
    · rename_i hget
      have hb := hH.blk _ _ _ hg
      rw [hget] at hb
      obtain ⟨hbase, _, hw⟩ := hb
      have hlt : g < w.heap.size := (Array.getElem?_eq_some_iff.1 hw).1
      have s := hH.write hg (by rw [hget]; rfl) (w' := { w with heap := w.heap.setIfInBounds g (.deferred none) }) (fun k hk => by simp [Ne.symm hk]) (by simp) rfl rfl rfl .dead trivial
      refine ⟨by simp, .inl ⟨g, { w with heap := w.heap.setIfInBounds g (.deferred none) }, by rw [hd], ?_, leaves_sim hms s.rel hk fun w' hs => hfin w' (s.trans hs)⟩⟩
      have h1 : (getObj g).run P w = .ok (.deferred (some [])) w := by simp [getObj, Sem.run, hw]
      have h2 : (setObj g (.deferred none)).run P w = .ok () { w with heap := w.heap.setIfInBounds g (.deferred none) } := by simp [setObj, Sem.run, hw]
      simp [Instr.takeDeferred, h1, h2]
    · cases hk
  | [], _ :: _, _, _, _, _, h, _, _, _ => h.elim
  | _ :: _, [], _, _, _, _, h, _, _, _ => h.elim

theorem setArgs_get : ∀ (l : List Value) (t : Tr Value) (i k : Nat), (setArgs t i l).get k = if i ≤ k ∧ k < i + l.length then l[k - i]? else t.get k
  | [], t, i, k => by simp [setArgs]; intro h1 h2; omega
  | v :: r, t, i, k => by
    rw [setArgs, setArgs_get r (t.set i v) (i + 1) k, Tr.get_set]
    by_cases h1 : k = i
    · subst h1
      rw [if_neg (by omega), if_pos rfl, if_pos (by simp)]
      simp
    · by_cases h2 : i + 1 ≤ k ∧ k < i + 1 + r.length
      · rw [if_pos h2, if_pos (by simp; omega)]
        rw [show k - i = (k - (i + 1)) + 1 from by omega]
        simp
      · rw [if_neg h2, if_neg h1, if_neg (by simp; omega)]

theorem FRel.ofArgs {ρ : Ren} {args args' : Array Value} {n : Nat} (h : VsRel ρ args.toList args'.toList) (hn : args.size ≤ n) : FRel ρ (Fr.ofArgs args n) (args' ++ Array.replicate (n - args'.size) undef) := by
  have hl : args.size = args'.size := by simpa using h.1
  refine ⟨by simp [Fr.ofArgs]; omega, fun t => ?_⟩
  show VRel ρ (((setArgs .leaf 0 args.toList).get t).getD undef) _
  rw [setArgs_get]
  have hleaf : (Tr.leaf : Tr Value).get t = none := rfl
  by_cases ht : t < args.size
  · rw [if_pos (by simp; exact ht)]
    obtain ⟨v', h1, h2⟩ := h.get (i := t) (v := args[t]) (by simp [ht])
    have ht' : t < args'.size := by omega
    simp only [Nat.sub_zero]
    rw [show args.toList[t]? = some args[t] from by simp [ht]]
    have e : (args' ++ Array.replicate (n - args'.size) undef).getD t undef = v' := by
      have h1' : args'[t]? = some v' := by simpa using h1
      rw [Array.getD_eq_getD_getElem?, Array.getElem?_append_left ht', h1']; rfl
    rw [e]
    exact h2
  · rw [if_neg (by simp; omega), hleaf]
    have e : (args' ++ Array.replicate (n - args'.size) undef).getD t undef = undef := by
      rw [Array.getD_eq_getD_getElem?, Array.getElem?_append_right (by omega)]
      cases hx : (Array.replicate (n - args'.size) undef)[t - args'.size]? with
      | none => rfl
      | some y =>
        have := Array.getElem?_eq_some_iff.1 hx
        obtain ⟨_, hy⟩ := this
        simp at hy
        simp [hy]
    rw [e]
    exact VRel.undef ρ

theorem callBody_sim (hO : OSound P base O) (hD : DrawOK P base O) {n : Nat} {f : FuncId} {fn : Func} {cf : CF} (hf : P.funcs[f]? = some fn) (hc : compF P fn = some cf) {args args' : Array Value} {H H' : Hp} {v : Value} (hv : callBody O n cf args H = some (v, H'))
    {ρ : Ren} {w : World} (hH : HRel P base ρ H w) (hG : GRel P ρ) (ha : VsRel ρ args.toList args'.toList) : EnterOK P base ρ H w v H' (callFunc f args') := by
  unfold compF at hc
  split at hc
  · cases hc
  · rename_i c hb
    split at hc
    · cases hc
    · rename_i hname
      split at hc
      · rename_i cc crs hcc hcrs
        cases hc
        unfold callBody at hv
        split at hv
        · cases hv
        · rename_i hn
          have hn' : args.size ≤ fn.ntmps := by simpa using hn
          have hrun : (callFunc f args').run P w = .ok (.enter f args') w := by
            have : ¬ fn.name = "runtime.NumGoroutine" := by simpa using hname
            simp [callFunc, hf, this, hb]
          refine ⟨_, w, hrun, ?_⟩
          have hS : SRel ρ (Fr.ofArgs args fn.ntmps) { tmps := args' ++ Array.replicate (fn.ntmps - args'.size) undef, defers := [] } := ⟨FRel.ofArgs ha hn', trivial⟩
          have key : ∀ (e : Ex) (F1 : Fr) (H1 : Hp), (e = .normal ∨ e = .ret) → exec O n cc (Fr.ofArgs args fn.ntmps) H = some (e, F1, H1) → leaveA crs F1 H1 = some (v, H') →
              CallsIn (WF none) 0 P f args' w fun en w' => ∃ v', en = .returned v' ∧ ∃ ρ', VRel ρ' v v' ∧ Sim P base ρ H w ρ' H' w' := by
            intro e F1 H1 he hx hl
            refine callsIn_of_wp_marks hf hb trivial (wpIn_mono (exec_sim hO hD n c hcc hx hH hG hS (r := none) rfl) ?_)
            rintro e' a' w' ⟨rfl, _, ρ', hS', hsim⟩
            have hleave : LeavesInM (WF none) 0 P fn a'.tmps (fun en w' => ∃ v', en = .returned v' ∧ ∃ ρ', VRel ρ' v v' ∧ Sim P base ρ H w ρ' H' w') a'.defers .returning w' := by
              unfold leaveA at hl
              split at hl
              · rename_i H2 hk
                simp only [Option.map_eq_some_iff, Prod.mk.injEq] at hl
                obtain ⟨vs, hvs, rfl, rfl⟩ := hl
                refine leaves_sim hS'.marks hsim.rel hk fun w2 hs2 => ?_
                obtain ⟨vs', h1, h2⟩ := results_sim hS'.fr hs2.rel hcrs hvs
                refine ⟨_, ?_, _, rfl, ρ', tupled_rel h2, hsim.trans hs2⟩
                have e : (fn.results.mapM (m := Sem) fun
                    | .tmp t => pure (a'.tmps.getD t undef)
                    | .cell a t => do loadVar t (← asAddr (a'.tmps.getD a undef))).run P w2 = .ok vs'.toArray w2 := by
                  rw [Array.mapM_eq_mapM_toList, Sem.run_map]
                  exact congrArg (fun (r : Result (List Value)) => r.andThen fun a w' => .ok a.toArray w') h1
                unfold results
                rw [Sem.run_bind]
                exact congrArg (fun (r : Result (Array Value)) => r.andThen fun vs w' => (pure (if h : vs.size = 1 then vs[0] else .tuple vs) : Sem Value).run P w') e
              · cases hl
            rcases he with rfl | rfl
            · exact hleave
            · exact hleave
          split at hv
          · rename_i F1 H1 hx
            exact key .normal F1 H1 (.inl rfl) hx hv
          · rename_i F1 H1 hx
            exact key .ret F1 H1 (.inr rfl) hx hv
          · cases hv
      · cases hc

/-! ### Rounds -/
theorem setParams_sim {ρ : Ren} : ∀ {ps : List Nat} {args args' : List Value} {F F1 : Fr} {tmps : Array Value}, FRel ρ F tmps → VsRel ρ args args' → setParams F ps args = some F1 →
    FRel ρ F1 ((ps.zip args').foldl (fun tmps (x : Nat × Value) => tmps.setIfInBounds x.1 x.2) tmps) ∧ F1.marks = F.marks ∧ F1.round = F.round ∧ ps.length = args.length
  | [], [], args', F, F1, tmps, hF, ha, h => by
    simp only [setParams, Option.some.injEq] at h
    subst h
    exact ⟨by simpa using hF, rfl, rfl, rfl⟩
  | p :: ps, v :: vs, args', F, F1, tmps, hF, ha, h => by
    obtain ⟨v', vs', rfl, h1, h2⟩ := ha.inv_cons
    simp only [setParams] at h
    split at h
    · rename_i F2 hp
      obtain ⟨k1, k2, k3⟩ := hF.put h1 hp
      obtain ⟨q1, q2, q3, q4⟩ := setParams_sim k1 h2 h
      exact ⟨by simpa using q1, by rw [q2, k2], by rw [q3, k3], by simp [q4]⟩
    · cases h
  | [], _ :: _, _, _, _, _, _, _, h => by simp [setParams] at h
  | _ :: _, [], _, _, _, _, _, _, h => by simp [setParams] at h

theorem roundBody_sim (hO : OSound P base O) (hD : DrawOK P base O) {n l : Nat} {args args' : Array Value} {H H' : Hp} {v : Value} (hv : roundBody O n l args H = some (v, H'))
    {ρ : Ren} {w : World} {l' : Nat} (hH : HRel P base ρ H w) (hG : GRel P ρ) (hl : ρ l = some (l', 0)) (ha : VsRel ρ args.toList args'.toList) : EnterOK P base ρ H w v H' (Instr.yield l' args') := by
  unfold roundBody at hv
  split at hv
  · rename_i pend F0 ps as bd hget
    have hb := hH.blk _ _ _ hl
    rw [hget] at hb
    obtain ⟨hbase, _, L, hL, hst, hpend, hfr, hps, has, hbd⟩ := hb
    split at hv
    · cases hv
    · rename_i F hset
      obtain ⟨q1, q2, q3, q4⟩ := setParams_sim (F := { tr := F0.tr, n := F0.n, marks := [], round := true }) (tmps := L.tmps) ⟨hfr.n, hfr.get⟩ ha hset
      have hsz : args'.size = L.params.size := by
        have h1 := ha.1
        have h2 : L.params.toList.length = ps.length := by rw [hps]
        simp at h1 h2
        simp at q4
        omega
      have hrun : (Instr.yield l' args').run P w = .ok (.round l' L.fn ((L.params.zip args').foldl (fun tmps (x : Nat × Value) => tmps.setIfInBounds x.1 x.2) L.tmps) L.assign L.body) w := by
        have h1 : (getObj l').run P w = .ok (.loop L) w := by simp [getObj, Sem.run, hL]
        simp only [Instr.yield, Instr.getLoop, Sem.run_bind, h1, Result.andThen_ok, Sem.run_pure, hsz, ne_eq, not_true_eq_false, if_false]
      refine ⟨_, w, hrun, ?_⟩
      have hfold : (L.params.zip args').foldl (fun tmps (x : Nat × Value) => tmps.setIfInBounds x.1 x.2) L.tmps = (ps.zip args'.toList).foldl (fun tmps (x : Nat × Value) => tmps.setIfInBounds x.1 x.2) L.tmps := by
        rw [← hps, ← Array.toList_zip, Array.foldl_toList]
      rw [hfold]
      split at hv
      · rename_i F1 H1 hx1
        split at hv
        · rename_i pend1 F01 ps1 as1 bd1 hget1
          split at hv
          · rename_i e F2 H2 hx2
            split at hv
            · rename_i st2 pend2 F02 ps2 as2 bd2 hget2
              simp only [Option.some.injEq, Prod.mk.injEq] at hv
              obtain ⟨rfl, rfl⟩ := hv
              refine roundIn_of_wpIn (F := WF none) trivial ?_
              refine wpIn_mono (exec_sim hO hD n L.assign has hx1 hH hG (a := { tmps := _, defers := [] }) ⟨q1, by rw [q2]; trivial⟩ (r := some l') (by rw [q3]; rfl)) ?_
              rintro e1 a1 w1 ⟨rfl, hrd1, ρ1, hS1, s1⟩
              simp only [exOf, Exit.then]
              have hl1 : ρ1 l = some (l', 0) := s1.le.1 _ _ hl
              have hb1 := s1.rel.blk _ _ _ hl1
              rw [hget1] at hb1
              obtain ⟨_, _, L1, hL1, hst1, hpend1, hfr1, hps1, has1, hbd1⟩ := hb1
              have hlt1 : l' < w1.heap.size := (Array.getElem?_eq_some_iff.1 hL1).1
              have s2 := s1.rel.write hl1 (by rw [hget1]; rfl) (w' := { w1 with heap := w1.heap.setIfInBounds l' (.loop { L1 with state := .busy }) }) (fun k hk => by simp [Ne.symm hk]) (by simp) rfl rfl rfl (.loop .busy pend1 F01 ps1 as1 bd1)
                ⟨hbase, rfl, { L1 with state := .busy }, by simp [hlt1], rfl, hpend1, hfr1, hps1, has1, hbd1⟩
              refine ⟨{ w1 with heap := w1.heap.setIfInBounds l' (.loop { L1 with state := .busy }) }, ?_, ?_⟩
              · have h1 : (getObj l').run P w1 = .ok (.loop L1) w1 := by simp [getObj, Sem.run, hL1]
                have h2 : (setObj l' (.loop { L1 with state := .busy })).run P w1 = .ok () { w1 with heap := w1.heap.setIfInBounds l' (.loop { L1 with state := .busy }) } := by simp [setObj, Sem.run, hL1]
                simp [Instr.beginRound, Instr.getLoop, h1, h2, hst1]
              · have s12 := s1.trans s2
                refine wpIn_mono (exec_sim hO hD n L.body hbd hx2 s2.rel (s12.gRel hG) (hS1.mono s2.le) (r := some l') (by rw [hrd1, q3]; rfl)) ?_
                rintro e2 a2 w2 ⟨rfl, _, ρ2, hS2, s3⟩
                have s13 := s12.trans s3
                have hl2 : ρ2 l = some (l', 0) := s13.le.1 _ _ hl
                have hb2 := s3.rel.blk _ _ _ hl2
                rw [hget2] at hb2
                obtain ⟨_, _, L2, hL2, hst2, hpend2, hfr2, hps2, has2, hbd2⟩ := hb2
                have hlt2 : l' < w2.heap.size := (Array.getElem?_eq_some_iff.1 hL2).1
                have h1 : (getObj l').run P w2 = .ok (.loop L2) w2 := by simp [getObj, Sem.run, hL2]
                have hend : ∀ (st : LoopState) (jump : Option Code) (pe : Option Ex), PendRel pe jump → st = (if jump.isNone then .ready else .done) →
                    (Instr.endRound l' jump).run P w2 = .ok (.bool jump.isNone) { w2 with heap := w2.heap.setIfInBounds l' (.loop { L2 with state := st, pending := jump }) } ∧
                    Sim P base ρ H w ρ2 (H2.upd l (.loop st pe F02 ps2 as2 bd2)) { w2 with heap := w2.heap.setIfInBounds l' (.loop { L2 with state := st, pending := jump }) } := by
                  intro st jump pe hp hst
                  subst hst
                  constructor
                  · have h2 : (setObj l' (.loop { L2 with state := if jump.isNone then .ready else .done, pending := jump })).run P w2 = .ok () { w2 with heap := w2.heap.setIfInBounds l' (.loop { L2 with state := if jump.isNone then .ready else .done, pending := jump }) } := by simp [setObj, Sem.run, hL2]
                    simp only [Instr.endRound, Instr.getLoop, Sem.run_bind, h1, Result.andThen_ok, Sem.run_pure, h2]
                  · exact s13.trans (s3.rel.write hl2 (by rw [hget2]; rfl) (w' := { w2 with heap := w2.heap.setIfInBounds l' (.loop { L2 with state := if jump.isNone then .ready else .done, pending := jump }) }) (fun k hk => by simp [Ne.symm hk]) (by simp) rfl rfl rfl (.loop (if jump.isNone then .ready else .done) pe F02 ps2 as2 bd2)
                      ⟨hbase, rfl, { L2 with state := if jump.isNone then .ready else .done, pending := jump }, by simp [hlt2], rfl, hp, hfr2, hps2, has2, hbd2⟩)
                cases e with
                | normal =>
                  obtain ⟨k1, k2⟩ := hend .ready none none trivial rfl
                  exact ⟨_, _, k1, _, rfl, ρ2, .flat rfl, k2⟩
                | ret =>
                  obtain ⟨k1, k2⟩ := hend .done (some .ret) (some .ret) trivial rfl
                  exact ⟨_, _, k1, _, rfl, ρ2, .flat rfl, k2⟩
                | exit i =>
                  obtain ⟨k1, k2⟩ := hend .done (some (.exit i)) (some (.exit i)) rfl rfl
                  exact ⟨_, _, k1, _, rfl, ρ2, .flat rfl, k2⟩
                | goto i =>
                  obtain ⟨k1, k2⟩ := hend .done (some (.goto i)) (some (.goto i)) rfl rfl
                  exact ⟨_, _, k1, _, rfl, ρ2, .flat rfl, k2⟩
            · cases hv
          · cases hv
        · cases hv
      · cases hv
  · cases hv

end
end Go.Proofs.YtjmohjemgohlpaaGreatDoor.Am

/- The abstract machine: what lay there stays as it was, but for what is counted as written. -/
namespace Go.Proofs.YtjmohjemgohlpaaGreatDoor.Am
open Go

def LowOK (H H1 : Hp) : Prop := H1.low ≤ H.low ∧ H.size ≤ H1.size ∧ ∀ b, b < H1.low → b < H.size → H1.get b = H.get b
theorem LowOK.refl (H : Hp) : LowOK H H := ⟨Nat.le_refl _, Nat.le_refl _, fun _ _ _ => rfl⟩
theorem LowOK.trans {H H1 H2 : Hp} (h : LowOK H H1) (k : LowOK H1 H2) : LowOK H H2 :=
  ⟨Nat.le_trans k.1 h.1, Nat.le_trans h.2.1 k.2.1, fun b h1 h2 => (k.2.2 b h1 (Nat.lt_of_lt_of_le h2 h.2.1)).trans (h.2.2 b (Nat.lt_of_lt_of_le h1 k.1) h2)⟩
theorem LowOK.new (H : Hp) (x : Blk) : LowOK H (H.new x) := ⟨Nat.le_refl _, by simp, fun b _ h => by rw [Hp.get_new, if_neg (by omega)]⟩
theorem LowOK.upd (H : Hp) (c : Nat) (x : Blk) : LowOK H (H.upd c x) := ⟨by simp; exact Nat.min_le_left _ _, Nat.le_refl _, fun b h _ => by
  simp only [Hp.low_upd] at h
  rw [Hp.get_upd, if_neg (by have := Nat.min_le_right H.low c; omega)]⟩

theorem setCells_low {H H1 : Hp} {a : Addr} {vs : List Value} (h : H.setCells a vs = some H1) : LowOK H H1 := by
  unfold Hp.setCells at h
  repeat' split at h
  all_goals first | (cases h; done) | (cases h; exact LowOK.upd _ _ _)

theorem appendTo_low {H H1 : Hp} {size bytes n : Nat} {eo : Option TypeId} {s v : Value} {new : List Value} (h : appendTo H size bytes eo s n new = some (v, H1)) : LowOK H H1 := by
  unfold appendTo at h
  repeat' split at h
  all_goals try (cases h; done)
  all_goals first
    | (cases h; exact LowOK.refl _)
    | (cases h; exact LowOK.new _ _)
    | (cases h; exact (LowOK.upd _ _ _).trans (LowOK.new _ _))
    | (simp only [Option.map_eq_some_iff, Prod.mk.injEq] at h; obtain ⟨H2, h1, _, rfl⟩ := h; exact setCells_low h1)

theorem memOp_low {F : Fr} {H H1 : Hp} {o : COp} {v : Value} (h : memOp F H o = some (v, H1)) : LowOK H H1 := by
  unfold memOp at h
  repeat' split at h
  all_goals try (cases h; done)
  all_goals first
    | (cases h; exact LowOK.refl _)
    | (cases h; exact LowOK.new _ _)
    | (cases h; exact LowOK.upd _ _ _)
    | exact appendTo_low h
    | (unfold newRow at h; cases h; exact LowOK.new _ _)
    | (simp only [Option.map_eq_some_iff, Prod.mk.injEq] at h; obtain ⟨_, _, _, rfl⟩ := h; first | exact LowOK.refl _ | exact LowOK.new _ _ | exact LowOK.upd _ _ _)
    | (simp only [Option.map_eq_some_iff, Prod.mk.injEq] at h; obtain ⟨_, h1, _, rfl⟩ := h; exact setCells_low h1)
    | (simp only [Option.bind_eq_some_iff] at h; obtain ⟨_, _, h⟩ := h; split at h; (exact appendTo_low h); (cases h))

structure OLow (O : Oracle) : Prop where
  cf : ∀ {f args H v H1}, O.cf f args H = some (v, H1) → LowOK H H1
  rd : ∀ {l args H v H1}, O.rd l args H = some (v, H1) → LowOK H H1
  ex : ∀ {c F H e F1 H1}, O.ex c F H = some (e, F1, H1) → LowOK H H1

section
variable {O : Oracle} (hO : OLow O)
include hO

theorem callV_low {H H1 : Hp} {f v : Value} {args : List Value} (h : callV O H f args = some (v, H1)) : LowOK H H1 := by
  unfold callV at h
  split at h
  · exact hO.cf h
  · exact hO.rd h
  · cases h

theorem opA_low {F : Fr} {H H1 : Hp} {o : COp} {v : Value} (h : opA O F H o = some (v, H1)) : LowOK H H1 := by
  unfold opA at h
  split at h
  · exact callV_low hO h
  · split at h
    · simp only [Option.map_eq_some_iff, Prod.mk.injEq] at h; obtain ⟨_, _, _, rfl⟩ := h; exact LowOK.refl _
    · exact memOp_low h

theorem opsA_low : ∀ {l : List CO} {F F1 : Fr} {H H1 : Hp}, opsA O l F H = some (F1, H1) → LowOK H H1 := by
  intro l
  induction l with
  | nil => intro F F1 H H1 h; simp only [opsA, Option.some.injEq, Prod.mk.injEq] at h; obtain ⟨_, rfl⟩ := h; exact LowOK.refl _
  | cons o r ih =>
    intro F F1 H H1 h
    simp only [opsA] at h
    split at h
    · split at h
      · rename_i v H2 hv
        split at h
        · exact (opA_low hO hv).trans (ih h)
        · cases h
      · cases h
    · split at h
      · exact ih h
      · cases h

theorem drawA_low : ∀ {l : List CO} {F F1 : Fr} {H H1 : Hp} {d : List Did}, drawA O l F H = some (d, F1, H1) → LowOK H H1 := by
  intro l
  induction l with
  | nil => intro F F1 H H1 d h; simp only [drawA, Option.some.injEq, Prod.mk.injEq] at h; obtain ⟨_, _, rfl⟩ := h; exact LowOK.refl _
  | cons o r ih =>
    intro F F1 H H1 d h
    simp only [drawA] at h
    split at h
    · split at h
      · rename_i v H2 hv
        split at h
        · split at h
          · rename_i l F2 H3 hx
            simp only [Option.some.injEq, Prod.mk.injEq] at h
            obtain ⟨_, _, rfl⟩ := h
            have h1 := opA_low hO hv
            have h2 := ih hx
            have h3 : LowOK H { tr := H2.tr, size := H2.size, low := Nat.min H.low H2.low } := by
              refine ⟨Nat.min_le_left _ _, h1.2.1, fun b hb hs => ?_⟩
              have hb2 : b < H2.low := Nat.lt_of_lt_of_le hb (Nat.min_le_right H.low H2.low)
              exact h1.2.2 b hb2 hs
            exact h3.trans h2
          · cases h
        · cases h
      · cases h
    · split at h
      · split at h
        · rename_i hx
          simp only [Option.some.injEq, Prod.mk.injEq] at h
          obtain ⟨_, _, rfl⟩ := h
          exact ih hx
        · cases h
      · cases h

theorem rangeA_low {f : Value} {ps : List Nat} {as bd : CC} {F F1 : Fr} {H H1 : Hp} {e : Ex} (h : rangeA O f ps as bd F H = some (e, F1, H1)) : LowOK H H1 := by
  unfold rangeA at h
  split at h
  · cases h
  · split at h
    · rename_i hc
      split at h
      · split at h
        · cases h
        · simp only [Option.some.injEq, Prod.mk.injEq] at h
          obtain ⟨_, _, rfl⟩ := h
          exact (((LowOK.new _ _).trans (LowOK.new _ _)).trans (callV_low hO hc)).trans (LowOK.upd _ _ _)
      · cases h
    · cases h

omit hO in
theorem iterA_low {f : Fr → Hp → Option (Ex × Fr × Hp)} (hf : ∀ {F H e F1 H1}, f F H = some (e, F1, H1) → LowOK H H1) : ∀ {n : Nat} {F F1 : Fr} {H H1 : Hp} {e : Ex}, iterA f n F H = some (e, F1, H1) → LowOK H H1 := by
  intro n
  induction n with
  | zero => intro F F1 H H1 e h; simp [iterA] at h
  | succ n ih =>
    intro F F1 H H1 e h
    simp only [iterA] at h
    split at h
    · rename_i h1; exact (hf h1).trans (ih h)
    · exact hf h

omit hO in
theorem scopeA_low {f : CC → Fr → Hp → Option (Ex × Fr × Hp)} (hf : ∀ {c F H e F1 H1}, f c F H = some (e, F1, H1) → LowOK H H1) {body : CC} : ∀ {n : Nat} {c : CC} {F F1 : Fr} {H H1 : Hp} {e : Ex}, scopeA f body n c F H = some (e, F1, H1) → LowOK H H1 := by
  intro n
  induction n with
  | zero => intro c F F1 H H1 e h; simp [scopeA] at h
  | succ n ih =>
    intro c F F1 H H1 e h
    simp only [scopeA] at h
    split at h
    · rename_i h1
      split at h
      · exact (hf h1).trans (ih h)
      · simp only [Option.some.injEq, Prod.mk.injEq] at h
        obtain ⟨_, _, rfl⟩ := h
        exact hf h1
    · exact hf h

theorem exec_low {n : Nat} : ∀ {c : CC} {F F1 : Fr} {H H1 : Hp} {e : Ex}, exec O n c F H = some (e, F1, H1) → LowOK H H1 := by
  intro c
  induction c with
  | ops l =>
    intro F F1 H H1 e h
    simp only [exec] at h
    split at h
    · rename_i hx
      simp only [Option.some.injEq, Prod.mk.injEq] at h
      obtain ⟨_, _, rfl⟩ := h
      exact opsA_low hO hx
    · cases h
  | draw l un =>
    intro F F1 H H1 e h
    simp only [exec] at h
    split at h
    · rename_i hx
      split at h
      · simp only [Option.some.injEq, Prod.mk.injEq] at h
        obtain ⟨_, _, rfl⟩ := h
        exact drawA_low hO hx
      · cases h
    · cases h
  | seq a b iha ihb =>
    intro F F1 H H1 e h
    simp only [exec] at h
    split at h
    · rename_i hx; exact (iha hx).trans (ihb h)
    · exact iha h
  | cond x a b iha ihb =>
    intro F F1 H H1 e h
    simp only [exec] at h
    split at h
    · exact iha h
    · exact ihb h
    · cases h
  | block id c ih =>
    intro F F1 H H1 e h
    simp only [exec] at h
    split at h
    · rename_i id' F2 H2 hx
      cases hb : Nat.beq id' id <;> (simp only [hb, cond_true, cond_false, Option.some.injEq, Prod.mk.injEq] at h; obtain ⟨_, _, rfl⟩ := h; exact ih hx)
    · exact ih h
  | loop c ih =>
    intro F F1 H H1 e h
    simp only [exec] at h
    exact iterA_low (fun h => ih h) h
  | scope c ih =>
    intro F F1 H H1 e h
    simp only [exec] at h
    split at h
    · rename_i hx
      split at h
      · exact (ih hx).trans (scopeA_low (fun h => hO.ex h) h)
      · simp only [Option.some.injEq, Prod.mk.injEq] at h
        obtain ⟨_, _, rfl⟩ := h
        exact ih hx
    · exact ih h
  | rangeF f ps as bd _ _ =>
    intro F F1 H H1 e h
    simp only [exec] at h
    exact rangeA_low hO h
  | bad => intro F F1 H H1 e h; simp [exec] at h
  | _ =>
    intro F F1 H H1 e h
    simp only [exec, Option.some.injEq, Prod.mk.injEq] at h
    obtain ⟨_, _, rfl⟩ := h
    exact LowOK.refl _

omit hO in
theorem killAll_low : ∀ {l : List Nat} {H H1 : Hp}, killAll H l = some H1 → LowOK H H1
  | [], H, H1, h => by simp only [killAll, Option.some.injEq] at h; subst h; exact LowOK.refl _
  | r :: l, H, H1, h => by
    simp only [killAll] at h
    split at h
    · exact (LowOK.upd _ _ _).trans (killAll_low h)
    · cases h

omit hO in
theorem leaveA_low {rs : List CR} {F : Fr} {H H1 : Hp} {v : Value} (h : leaveA rs F H = some (v, H1)) : LowOK H H1 := by
  unfold leaveA at h
  split at h
  · rename_i hk
    simp only [Option.map_eq_some_iff, Prod.mk.injEq] at h
    obtain ⟨_, _, _, rfl⟩ := h
    exact killAll_low hk
  · cases h

theorem callBody_low {n : Nat} {cf : CF} {args : Array Value} {H H1 : Hp} {v : Value} (h : callBody O n cf args H = some (v, H1)) : LowOK H H1 := by
  unfold callBody at h
  split at h
  · cases h
  · split at h
    · rename_i hx; exact (exec_low hO hx).trans (leaveA_low h)
    · rename_i hx; exact (exec_low hO hx).trans (leaveA_low h)
    · cases h

theorem roundBody_low {n l : Nat} {args : Array Value} {H H1 : Hp} {v : Value} (h : roundBody O n l args H = some (v, H1)) : LowOK H H1 := by
  unfold roundBody at h
  split at h
  · split at h
    · cases h
    · split at h
      · rename_i h1
        split at h
        · split at h
          · rename_i h2
            split at h
            · simp only [Option.some.injEq, Prod.mk.injEq] at h
              obtain ⟨_, rfl⟩ := h
              exact (((exec_low hO h1).trans (LowOK.upd _ _ _)).trans (exec_low hO h2)).trans (LowOK.upd _ _ _)
            · cases h
          · cases h
        · cases h
      · cases h
  · cases h
end

theorem oracle_low {E : Env} (hE : ∀ {f args H v H1}, E.prim f args H = some (v, H1) → LowOK H H1) : ∀ n, OLow (oracle E n) := by
  intro n
  induction n with
  | zero => exact ⟨fun h => by simp [oracle] at h, fun h => by simp [oracle] at h, fun h => by simp [oracle] at h⟩
  | succ n ih =>
    refine ⟨fun {f args H v H1} h => ?_, fun h => roundBody_low ih h, fun h => exec_low ih h⟩
    simp only [oracle] at h
    split at h
    · exact callBody_low ih h
    · exact hE h

/-! ### Operations that look at known blocks -/
/-- from H to H1 as from H' to H1', where H and H' are alike at the blocks t -/
structure KF (t : List Nat) (H H1 H' H1' : Hp) : Prop where
  size : H1'.size = H1.size
  grow : H.size ≤ H1.size
  same : ∀ b, b < H1.size → (b ∈ t ∨ H.size ≤ b) → H1'.get b = H1.get b
  old : ∀ b, b < H.size → b ≠ H1.low → H1.get b = H.get b ∧ H1'.get b = H'.get b
  low : H1.low < H.size → H1.low ∈ t

section
variable {t : List Nat} {H H' : Hp} (hlow : H.low = H.size) (hs : H'.size = H.size) (hg : ∀ b, b ∈ t → H'.get b = H.get b)
include hlow hs hg
theorem KF.refl : KF t H H H' H' := ⟨hs, Nat.le_refl _, fun b hb h => by rcases h with h | h; exact hg b h; omega, fun _ _ _ => ⟨rfl, rfl⟩, fun h => by omega⟩
theorem KF.new (x : Blk) : KF t H (H.new x) H' (H'.new x) := by
  refine ⟨by simp [hs], by simp, fun b hb h => ?_, fun b hb _ => ?_, fun h => by simp at h; omega⟩
  · rw [Hp.get_new, Hp.get_new, hs]
    split
    · rfl
    · rcases h with h | h
      · exact hg b h
      · simp at hb; omega
  · rw [Hp.get_new, Hp.get_new, hs, if_neg (by omega), if_neg (by omega)]
    exact ⟨rfl, rfl⟩
theorem KF.upd {c : Nat} (hc : c ∈ t) (x : Blk) : KF t H (H.upd c x) H' (H'.upd c x) := by
  refine ⟨hs, Nat.le_refl _, fun b hb h => ?_, fun b hb hne => ?_, fun h => ?_⟩
  · rw [Hp.get_upd, Hp.get_upd]
    split
    · rfl
    · rcases h with h | h
      · exact hg b h
      · simp at hb; omega
  · have : b ≠ c := by
      rintro rfl
      apply hne
      simp only [Hp.low_upd, hlow]
      omega
    rw [Hp.get_upd, Hp.get_upd, if_neg this, if_neg this]
    exact ⟨rfl, rfl⟩
  · simp only [Hp.low_upd, hlow] at h ⊢
    rw [Nat.min_eq_right (by omega)]
    exact hc
theorem KF.updnew {c : Nat} (hc : c ∈ t) (x y : Blk) : KF t H ((H.upd c x).new y) H' ((H'.upd c x).new y) := by
  refine ⟨by simp [hs], by simp, fun b hb h => ?_, fun b hb hne => ?_, fun h => ?_⟩
  · have e1 := Hp.get_new (H'.upd c x) y b
    have e2 := Hp.get_new (H.upd c x) y b
    simp only [Hp.size_upd, hs, Hp.get_upd] at e1 e2
    rw [e1, e2]
    by_cases h1 : b = H.size
    · simp [h1]
    · by_cases h2 : b = c
      · simp [h2]
      · simp only [h1, h2, if_false]
        rcases h with h | h
        · exact hg b h
        · simp at hb; omega
  · have : b ≠ c := by
      rintro rfl
      apply hne
      simp only [Hp.low_new, Hp.low_upd, hlow]
      omega
    have e1 := Hp.get_new (H'.upd c x) y b
    have e2 := Hp.get_new (H.upd c x) y b
    simp only [Hp.size_upd, hs, Hp.get_upd] at e1 e2
    rw [e1, e2]
    have h1 : ¬ b = H.size := by omega
    simp only [h1, this, if_false, and_self]
  · simp only [Hp.low_new, Hp.low_upd, hlow] at h ⊢
    rw [Nat.min_eq_right (by omega)]
    exact hc

omit hlow hs in
theorem cell_same {a : Addr} (ha : a.block ∈ t) : H'.cell? a = H.cell? a := by unfold Hp.cell?; rw [hg _ ha]
omit hlow hs in
theorem cells_same {a : Addr} {n : Nat} (ha : a.block ∈ t) : H'.cells? a n = H.cells? a n := by unfold Hp.cells?; rw [hg _ ha]

theorem setCells_KF {a : Addr} {vs : List Value} {H1 : Hp} (ha : a.block ∈ t) (h : H.setCells a vs = some H1) : ∃ H1', H'.setCells a vs = some H1' ∧ KF t H H1 H' H1' := by
  unfold Hp.setCells at h ⊢
  rw [hg _ ha]
  split at h
  · split at h
    · rename_i hc
      cases h
      exact ⟨_, by rw [if_pos hc], KF.upd hlow hs hg ha _⟩
    · cases h
  · split at h
    · rename_i hc
      cases h
      exact ⟨_, by rw [if_pos hc], KF.upd hlow hs hg ha _⟩
    · cases h
  · cases h

theorem appendTo_KF {size bytes n : Nat} {eo : Option TypeId} {s v : Value} {new : List Value} {H1 : Hp} (ha : ∀ b, b ∈ blockOf s → b ∈ t) (h : appendTo H size bytes eo s n new = some (v, H1)) : ∃ H1', appendTo H' size bytes eo s n new = some (v, H1') ∧ KF t H H1 H' H1' := by
  cases s with
  | slice base len cap =>
    simp only [appendTo] at h ⊢
    have hold : oldCells H' size base len = oldCells H size base len := by
      unfold oldCells
      cases base with
      | none => rfl
      | some a =>
        have := ha a.block (by simp [blockOf])
        simp only [cells_same hg this]
    rw [hold]
    split at h
    · rename_i h0
      rw [if_pos h0]
      split at h
      · rename_i h1
        cases h
        exact ⟨_, by rw [if_pos h1], KF.refl hlow hs hg⟩
      · cases h
    · rename_i h0
      rw [if_neg h0]
      split at h
      · cases h
      · rename_i hbig
        rw [if_neg hbig]
        split at h
        · cases h
        · rename_i old ho
          cases base with
          | none =>
            simp only at h ⊢
            split at h
            · rename_i hc
              cases h
              exact ⟨_, by rw [if_pos hc, hs], KF.new hlow hs hg _⟩
            · cases h
          | some a =>
            have hat := ha a.block (by simp [blockOf])
            simp only at h ⊢
            split at h
            · rename_i hex
              rw [if_pos hex]
              split at h
              · rename_i hlt
                cases h
                exact ⟨_, by rw [if_pos hlt, hs], KF.new hlow hs hg _⟩
              · rename_i hlt
                rw [if_neg hlt]
                simp only [Option.map_eq_some_iff, Prod.mk.injEq] at h
                obtain ⟨H2, h1, rfl, rfl⟩ := h
                obtain ⟨H2', h2, h3⟩ := setCells_KF hlow hs hg (a := ⟨a.block, a.off + len * size, none⟩) hat h1
                exact ⟨H2', by rw [h2]; rfl, h3⟩
            · rename_i hex
              rw [if_neg hex]
              split at h
              · rename_i hry
                rw [if_pos hry, hg _ hat]
                split at h
                · split at h
                  · rename_i hoff
                    cases h
                    exact ⟨_, by rw [if_pos hoff, hs], KF.updnew hlow hs hg hat _ _⟩
                  · cases h
                · split at h
                  · rename_i hoff
                    cases h
                    exact ⟨_, by rw [if_pos hoff, hs], KF.updnew hlow hs hg hat _ _⟩
                  · cases h
                · cases h
              · cases h
  | _ => simp [appendTo] at h

theorem known_frame {O : Oracle} {F : Fr} {H1 : Hp} {c : COp} {v : Value} (ht : touch F c = some t) (hv : opA O F H c = some (v, H1)) : ∃ H1', opA O F H' c = some (v, H1') ∧ KF t H H1 H' H1' := by
  cases c <;> first | (exfalso; simp [touch] at ht; done) | simp only [touch, Option.some.injEq] at ht
  all_goals simp only [opA, COp.isPure, Bool.false_eq_true, if_false, memOp, newRow] at hv ⊢
  case newz z => cases hv; exact ⟨_, by rw [hs], KF.new hlow hs hg _⟩
  case newt ty z => cases hv; exact ⟨_, by rw [hs], KF.new hlow hs hg _⟩
  case tou x =>
    split at hv
    · rename_i b hb
      rw [hb] at ht
      rw [hg b.block (by rw [← ht]; simp [blockOf])]
      split at hv
      · split at hv
        · rename_i hc
          cases hv
          exact ⟨_, by rw [if_pos hc], KF.refl hlow hs hg⟩
        · cases hv
      · cases hv
    · cases hv
  case fru ty size x =>
    split at hv
    · rename_i b hb
      rw [hb] at ht
      rw [hg b.block (by rw [← ht]; simp [blockOf])]
      split at hv
      · split at hv
        · rename_i hc
          cases hv
          exact ⟨_, by rw [if_pos hc], KF.refl hlow hs hg⟩
        · cases hv
      · cases hv
    · cases hv
  case ust ty x n =>
    split at hv
    · rename_i b n hb _
      rw [hb] at ht
      have hin : b.block ∈ t := by rw [← ht]; simp [blockOf]
      rw [hg b.block hin]
      split at hv
      · split at hv
        · rename_i hc
          simp only [Option.map_eq_some_iff, Prod.mk.injEq] at hv
          obtain ⟨l, h1, rfl, rfl⟩ := hv
          exact ⟨_, by rw [if_pos hc, h1]; rfl, KF.upd hlow hs hg hin _⟩
        · cases hv
      · cases hv
    · cases hv
  case box x => cases hv; exact ⟨_, by rw [hs], KF.new hlow hs hg _⟩
  case lits z n ps =>
    simp only [Option.map_eq_some_iff, Prod.mk.injEq] at hv
    obtain ⟨cs, h1, rfl, rfl⟩ := hv
    exact ⟨_, by rw [h1, hs]; rfl, KF.new hlow hs hg _⟩
  case ld1 a =>
    split at hv
    · rename_i b hb
      rw [hb] at ht
      rw [cell_same hg (a := b) (by rw [← ht]; simp [blockOf])]
      simp only [Option.map_eq_some_iff, Prod.mk.injEq] at hv ⊢
      obtain ⟨u, h1, rfl, rfl⟩ := hv
      exact ⟨_, ⟨u, h1, rfl, rfl⟩, KF.refl hlow hs hg⟩
    · cases hv
  case ld n a =>
    split at hv
    · rename_i b hb
      rw [hb] at ht
      rw [cells_same hg (a := b) (by rw [← ht]; simp [blockOf])]
      simp only [Option.map_eq_some_iff, Prod.mk.injEq] at hv ⊢
      obtain ⟨u, h1, rfl, rfl⟩ := hv
      exact ⟨_, ⟨u, h1, rfl, rfl⟩, KF.refl hlow hs hg⟩
    · cases hv
  case st n a x =>
    split at hv
    · rename_i b hb
      rw [hb] at ht
      split at hv
      · rename_i hn
        simp only [Option.map_eq_some_iff, Prod.mk.injEq] at hv ⊢
        obtain ⟨H2, h1, rfl, rfl⟩ := hv
        obtain ⟨H2', h2, h3⟩ := setCells_KF hlow hs hg (a := b) (by rw [← ht]; simp [blockOf]) h1
        exact ⟨H2', by rw [if_pos hn, h2]; rfl, h3⟩
      · cases hv
    · cases hv
  case cvb x =>
    split at hv
    · cases hv; exact ⟨_, by rw [hs], KF.new hlow hs hg _⟩
    · cases hv
  case mkm => cases hv; exact ⟨_, by rw [hs], KF.new hlow hs hg _⟩
  case mks bytes z l c =>
    split at hv
    · split at hv
      · rename_i hc
        cases hv
        exact ⟨_, by rw [if_pos hc, hs], KF.new hlow hs hg _⟩
      · cases hv
    · cases hv
  case itr x =>
    split at hv
    · cases hv; exact ⟨_, by rw [hs], KF.new hlow hs hg _⟩
    · cases hv
  case app size bytes eo s x =>
    split at hv
    · rename_i n c hx
      split at hv
      · rename_i h0
        rw [if_pos h0]
        exact appendTo_KF hlow hs hg (fun b hb => by rw [← ht]; simp [hb]) hv
      · cases hv
    · rename_i b n c hx
      split at hv
      · rename_i h0
        rw [if_pos h0]
        exact appendTo_KF hlow hs hg (fun b hb => by rw [← ht]; simp [hb]) hv
      · rename_i h0
        rw [if_neg h0, cells_same hg (a := b) (by rw [← ht, hx]; simp [blockOf])]
        simp only [Option.bind_eq_some_iff] at hv ⊢
        obtain ⟨new, h1, hv⟩ := hv
        split at hv
        · rename_i hall
          obtain ⟨H2, h2, h3⟩ := appendTo_KF hlow hs hg (fun b hb => by rw [← ht]; simp [hb]) hv
          exact ⟨H2, ⟨new, h1, by rw [if_pos hall]; exact h2⟩, h3⟩
        · cases hv
    · cases hv
  case apz bytes z s x =>
    split at hv
    · split at hv
      · rename_i hc
        cases hv
        exact ⟨_, by rw [if_pos hc, hs], KF.new hlow hs hg _⟩
      · cases hv
    · cases hv
  case aps eo s x =>
    split at hv
    · exact appendTo_KF hlow hs hg (fun b hb => by rw [← ht]; exact hb) hv
    · cases hv
end

end Go.Proofs.YtjmohjemgohlpaaGreatDoor.Am

/- The abstract machine: regions that draw, the means. -/
namespace Go.Proofs.YtjmohjemgohlpaaGreatDoor.Am
open Go

def Ren.cut (ρ : Ren) (n : Nat) : Ren := ⟨fun b => if b < n then ρ b else none, ρ.n⟩
theorem Ren.cut_some {ρ : Ren} {n b : Nat} {x : Nat × Nat} : ρ.cut n b = some x ↔ b < n ∧ ρ b = some x := by
  simp only [Ren.cut]
  by_cases h : b < n <;> simp [h]
theorem Ren.cut_le (ρ : Ren) {n m : Nat} (h : n ≤ m) : Ren.le (ρ.cut n) (ρ.cut m) :=
  ⟨fun b x hb => by rw [Ren.cut_some] at hb ⊢; exact ⟨by omega, hb.2⟩, fun _ _ h => h⟩

/-- names that a value bears, twice -/
theorem VRel.restrict {ρ1 ρ2 ρ3 : Ren} (hm : ∀ b x y, ρ1 b = some x → ρ2 b = some y → ρ3 b = some y) (hn : ∀ g k, ρ2.n g = some k → ρ3.n g = some k) {v v' : Value} (h2 : VRel ρ2 v v') : ∀ {u : Value}, VRel ρ1 v u → VRel ρ3 v v' := by
  induction h2 with
  | flat h => intro u _; exact .flat h
  | pointer h => intro u h1; obtain ⟨_, _, k, _⟩ := h1.inv_pointer; exact .pointer (hm _ _ _ k h)
  | slice hl hc he ha hr =>
    intro u h1
    obtain ⟨_, _, _, _, _, _, k, _⟩ := h1.inv_slice
    refine .slice hl hc he (fun hp => ?_) (fun j hj hp => ?_)
    · obtain ⟨_, _, k1, _⟩ := k hp
      obtain ⟨g, s, k2, k3⟩ := ha hp
      exact ⟨g, s, hm _ _ _ k1 k2, k3⟩
    · obtain ⟨N, k1, k2⟩ := hr j hj hp
      exact ⟨N, hn _ _ k1, k2⟩
  | map h => intro u h1; obtain ⟨_, _, k⟩ := h1.inv_map; exact .map (hm _ _ _ k h)
  | func ha hb h1 h2 ih1 ih2 =>
    intro u h1'
    obtain ⟨a', b', _, q1, q2⟩ := h1'.inv_func
    refine .func ha hb (fun i v v' e1 e2 => ?_) (fun i v v' e1 e2 => ?_)
    · obtain ⟨y, _, q⟩ := q1.get (i := i) (v := v) (by simpa using e1)
      exact ih1 i v v' e1 e2 q
    · obtain ⟨y, _, q⟩ := q2.get (i := i) (v := v) (by simpa using e1)
      exact ih2 i v v' e1 e2 q
  | yield h => intro u h1; obtain ⟨_, _, _, _, k⟩ := h1.inv_yield; exact .yield (hm _ _ _ k h)
  | iface h ih => intro u h1; obtain ⟨_, _, k⟩ := h1.inv_iface; exact .iface (ih k)
  | agg ha h ih =>
    intro u h1
    obtain ⟨cs', _, q1⟩ := VRel.inv_agg (cs := _) h1
    refine .agg ha fun i v v' e1 e2 => ?_
    obtain ⟨y, _, q⟩ := q1.get (i := i) (v := v) (by simpa using e1)
    exact ih i v v' e1 e2 q
  | tuple ha h ih =>
    intro u h1
    obtain ⟨cs', _, q1⟩ := h1.inv_tuple
    refine .tuple ha fun i v v' e1 e2 => ?_
    obtain ⟨y, _, q⟩ := q1.get (i := i) (v := v) (by simpa using e1)
    exact ih i v v' e1 e2 q

theorem BRel.restrict {P : Program} {base : Nat} {ρ1 ρ2 ρ3 : Ren} (hm : ∀ b x y, ρ1 b = some x → ρ2 b = some y → ρ3 b = some y) (hn : ∀ g k, ρ2.n g = some k → ρ3.n g = some k) {w w' : World} {g s g' s' : Nat} {x : Blk} (h1 : BRel P base ρ1 w g s x) (h2 : BRel P base ρ2 w' g' s' x) :
    BRel P base ρ3 w' g' s' x := by
  cases x with
  | dead => trivial
  | row c o =>
    cases o with
    | true =>
      obtain ⟨_, _, _, _, _, _, _, _, k⟩ := h1
      obtain ⟨hb, cc, t, fr, q1, q2, q3, q4, q5⟩ := h2
      refine ⟨hb, cc, t, fr, q1, q2, q3, hn _ _ q4, fun i v hv => ?_⟩
      obtain ⟨u, _, hu⟩ := k i v hv
      obtain ⟨v', e, hv'⟩ := q5 i v hv
      exact ⟨v', e, VRel.restrict hm hn hv' hu⟩
    | false =>
      refine ⟨h2.1, fun i v hv => ?_⟩
      obtain ⟨u, _, hu⟩ := h1.2 i v hv
      obtain ⟨v', e, hv'⟩ := h2.2 i v hv
      exact ⟨v', e, VRel.restrict hm hn hv' hu⟩
  | trow c t =>
    obtain ⟨_, _, _, _, _, _, _, _, k⟩ := h1
    obtain ⟨hb, hs, cc, fr, q1, q2, q3, q4, q5⟩ := h2
    refine ⟨hb, hs, cc, fr, q1, q2, q3, hn _ _ q4, fun i v hv => ?_⟩
    obtain ⟨u, _, hu⟩ := k i v hv
    obtain ⟨v', e, hv'⟩ := q5 i v hv
    exact ⟨v', e, VRel.restrict hm hn hv' hu⟩
  | map es clock =>
    obtain ⟨_, _, es1, _, k1⟩ := h1
    obtain ⟨hb, hs, es2, q, k2⟩ := h2
    refine ⟨hb, hs, es2, q, k2.1, fun i e e' e1 e2 => ?_⟩
    obtain ⟨a1, a2, a3⟩ := k2.2 i e e' e1 e2
    have hi : i < es1.size := by rw [← k1.1]; exact (Array.getElem?_eq_some_iff.1 e1).1
    exact ⟨a1, a2, VRel.restrict hm hn a3 (k1.2 i e es1[i] e1 (by simp [hi])).2.2⟩
  | iter str pos => exact h2
  | loop st pend F ps as bd =>
    obtain ⟨_, _, l1, _, _, _, f1, _⟩ := h1
    obtain ⟨hb, hs, l, q1, q2, q3, q4, q5⟩ := h2
    exact ⟨hb, hs, l, q1, q2, q3, ⟨q4.n, fun t => VRel.restrict hm hn (q4.get t) (f1.get t)⟩, q5⟩
  | deferred => exact h2

/-! ### What comes before what -/
def bmask (acc : Array Nat) (o : Oper) : Nat := o.after.foldl (fun s e => if Region.binds .any e then s ||| 2 ^ e.on ||| acc.getD e.on 0 else s) 0

theorem bmask_bit {acc : Array Nat} {o : Oper} {i : Nat} (h : (bmask acc o).testBit i = true) : ∃ e ∈ o.after, Region.binds .any e = true ∧ (e.on = i ∨ (acc.getD e.on 0).testBit i = true) := by
  have key : ∀ (l : List Edge) (s : Nat), (l.foldl (fun s e => if Region.binds .any e then s ||| 2 ^ e.on ||| acc.getD e.on 0 else s) s).testBit i = true → s.testBit i = true ∨ ∃ e ∈ l, Region.binds .any e = true ∧ (e.on = i ∨ (acc.getD e.on 0).testBit i = true) := by
    intro l
    induction l with
    | nil => intro s h; exact .inl h
    | cons e l ih =>
      intro s h
      simp only [List.foldl_cons] at h
      rcases ih _ h with h | ⟨e', h1, h2⟩
      · split at h
        · rename_i hb
          simp only [Nat.testBit_or, Bool.or_eq_true, Nat.testBit_two_pow] at h
          rcases h with (h | h) | h
          · exact .inl h
          · exact .inr ⟨e, by simp, hb, .inl (by simpa using h)⟩
          · exact .inr ⟨e, by simp, hb, .inr h⟩
        · exact .inl h
      · exact .inr ⟨e', by simp [h1], h2⟩
  unfold bmask at h
  rw [← Array.foldl_toList] at h
  rcases key _ _ h with h | ⟨e, h1, h2⟩
  · simp at h
  · exact ⟨e, by simpa using h1, h2⟩

theorem before_fold : ∀ (l : List Oper) (acc : Array Nat), (l.foldl (fun acc o => acc.push (bmask acc o)) acc).size = acc.size + l.length ∧ (∀ q, q < acc.size → (l.foldl (fun acc o => acc.push (bmask acc o)) acc).getD q 0 = acc.getD q 0) ∧
    ∀ k o, l[k]? = some o → ∃ acc', (∀ q, q < acc.size + k → acc'.getD q 0 = (l.foldl (fun acc o => acc.push (bmask acc o)) acc).getD q 0) ∧ (l.foldl (fun acc o => acc.push (bmask acc o)) acc).getD (acc.size + k) 0 = bmask acc' o := by
  intro l
  induction l with
  | nil => intro acc; exact ⟨by simp, fun q _ => rfl, fun k o h => by simp at h⟩
  | cons o l ih =>
    intro acc
    obtain ⟨h1, h2, h3⟩ := ih (acc.push (bmask acc o))
    simp only [List.foldl_cons]
    refine ⟨by rw [h1]; simp; omega, fun q hq => ?_, fun k o' hk => ?_⟩
    · rw [h2 q (by simp; omega)]
      simp [Array.getD_eq_getD_getElem?, Array.getElem?_push, Nat.ne_of_lt hq]
    · cases k with
      | zero =>
        simp at hk
        subst hk
        refine ⟨acc, fun q hq => ?_, ?_⟩
        · rw [h2 q (by simp; omega)]
          simp [Array.getD_eq_getD_getElem?, Array.getElem?_push, Nat.ne_of_lt (show q < acc.size by omega)]
        · rw [h2 (acc.size + 0) (by simp)]
          simp [Array.getD_eq_getD_getElem?]
      | succ k =>
        obtain ⟨acc', h4, h5⟩ := h3 k o' (by simpa using hk)
        simp only [Array.size_push] at h4 h5
        refine ⟨acc', fun q hq => h4 q (by omega), ?_⟩
        rw [show acc.size + (k + 1) = acc.size + 1 + k from by omega]
        exact h5

theorem before_bit {ops : Array Oper} (he : ∀ (j : Nat) o, ops[j]? = some o → ∀ e ∈ o.after, Region.binds .any e = true → e.on < j) {i j : Nat} {o : Oper} (hj : ops[j]? = some o) (h : ((Region.before ops).getD j 0).testBit i = true) :
    ∃ e ∈ o.after, Region.binds .any e = true ∧ (e.on = i ∨ ((Region.before ops).getD e.on 0).testBit i = true) := by
  have hb : Region.before ops = ops.toList.foldl (fun acc o => acc.push (bmask acc o)) #[] := by
    unfold Region.before
    rw [← Array.foldl_toList]
    rfl
  obtain ⟨_, _, h3⟩ := before_fold ops.toList #[]
  rw [← hb] at h3
  obtain ⟨acc', h4, h5⟩ := h3 j o (by simpa using hj)
  simp only [Array.size_empty, Nat.zero_add] at h4 h5
  rw [h5] at h
  obtain ⟨e, k1, k2, k3⟩ := bmask_bit h
  refine ⟨e, k1, k2, k3.imp id fun k => ?_⟩
  rw [← h4 e.on (he j o hj e k1 k2)]
  exact k

theorem before_closed {ops : Array Oper} (he : ∀ (j : Nat) o, ops[j]? = some o → ∀ e ∈ o.after, Region.binds .any e = true → e.on < j) {S : Nat → Prop} (hS : ∀ j, S j → ∀ o, ops[j]? = some o → ∀ e ∈ o.after, Region.binds .any e = true → S e.on) :
    ∀ (j : Nat) (o : Oper), ops[j]? = some o → (∀ e ∈ o.after, Region.binds .any e = true → S e.on) → ∀ i, ((Region.before ops).getD j 0).testBit i = true → S i := by
  intro j
  induction j using Nat.strongRecOn with
  | _ j ih =>
    intro o hj hp i h
    obtain ⟨e, h1, h2, h3⟩ := before_bit he hj h
    rcases h3 with rfl | h3
    · exact hp e h1 h2
    · have hlt := he j o hj e h1 h2
      cases hx : ops[e.on]? with
      | none =>
        have : ops.size ≤ e.on := by simpa using hx
        have hj' := (Array.getElem?_eq_some_iff.1 hj).1
        omega
      | some o' => exact ih e.on hlt o' hx (hS e.on (hp e h1 h2) o' hx) i h3

theorem mem_unordered {ops : Array Oper} {i j : Nat} (hij : i < j) (hj : j < ops.size) (h : ((Region.before ops).getD j 0).testBit i = false) : (i, j) ∈ unordered ops := by
  unfold unordered
  simp only [List.mem_flatMap, List.mem_range, List.mem_filterMap]
  exact ⟨j, hj, i, hij, by rw [h]; rfl⟩

theorem compat_comm (x y : Did) : compat x y = compat y x := by
  cases x <;> cases y <;> simp only [compat]
  · rename_i t w t' w'
    cases w <;> cases w' <;> simp [Bool.and_comm]
  · rename_i t w b; cases w <;> cases b <;> rfl
  · rename_i b t w; cases w <;> cases b <;> rfl
  · rename_i b c; cases b <;> cases c <;> rfl

theorem isIn_iff {b : Nat} : ∀ {l : List Nat}, isIn b l = true ↔ b ∈ l
  | [] => by simp [isIn]
  | c :: r => by simp [isIn, isIn_iff (l := r), Nat.beq_eq]

/-! ### The steps of a region that draws -/
theorem drawA_steps {O : Oracle} : ∀ {l : List CO} {F F1 : Fr} {H H1 : Hp} {d : List Did}, drawA O l F H = some (d, F1, H1) →
    ∃ (Fs : Nat → Fr) (Hs : Nat → Hp) (vs : Nat → Value), Fs 0 = F ∧ Hs 0 = H ∧ Fs l.length = F1 ∧ Hs l.length = H1 ∧ d.length = l.length ∧ ∀ (i : Nat) c, l[i]? = some c → ∃ x, d[i]? = some x ∧ (Fs i).put c.dst (vs i) = some (Fs (i + 1)) ∧
      ((wanted (Fs i) c.guard = true ∧ ∃ H2, opA O (Fs i) { tr := (Hs i).tr, size := (Hs i).size, low := (Hs i).size } c.op = some (vs i, H2) ∧ (Hs (i + 1)).tr = H2.tr ∧ (Hs (i + 1)).size = H2.size ∧ x = didOf (Fs i) (Hs i).size H2.low c.op) ∨
       (wanted (Fs i) c.guard = false ∧ vs i = undef ∧ Hs (i + 1) = Hs i ∧ x = .quiet)) := by
  intro l
  induction l with
  | nil =>
    intro F F1 H H1 d h
    simp only [drawA, Option.some.injEq, Prod.mk.injEq] at h
    obtain ⟨rfl, rfl, rfl⟩ := h
    exact ⟨fun _ => F, fun _ => H, fun _ => undef, rfl, rfl, rfl, rfl, rfl, fun i c h => by simp at h⟩
  | cons o r ih =>
    intro F F1 H H1 d h
    simp only [drawA] at h
    split at h
    · rename_i hw
      split at h
      · rename_i v H2 hv
        split at h
        · rename_i F2 hp
          split at h
          · rename_i l' F3 H3 hx
            simp only [Option.some.injEq, Prod.mk.injEq] at h
            obtain ⟨rfl, rfl, rfl⟩ := h
            obtain ⟨Fs, Hs, vs, k1, k2, k3, k4, k5, k6⟩ := ih hx
            refine ⟨fun | 0 => F | i + 1 => Fs i, fun | 0 => H | i + 1 => Hs i, fun | 0 => v | i + 1 => vs i, rfl, rfl, k3, k4, by simp [k5], fun i c hc => ?_⟩
            cases i with
            | zero =>
              simp at hc
              subst hc
              refine ⟨_, rfl, by simp only [k1]; exact hp, .inl ⟨hw, H2, hv, ?_, ?_, rfl⟩⟩
              · simp only [k2]
              · simp only [k2]
            | succ i => exact k6 i c (by simpa using hc)
          · cases h
        · cases h
      · cases h
    · rename_i hw
      split at h
      · rename_i F2 hp
        split at h
        · rename_i l' F3 H3 hx
          simp only [Option.some.injEq, Prod.mk.injEq] at h
          obtain ⟨rfl, rfl, rfl⟩ := h
          obtain ⟨Fs, Hs, vs, k1, k2, k3, k4, k5, k6⟩ := ih hx
          refine ⟨fun | 0 => F | i + 1 => Fs i, fun | 0 => H | i + 1 => Hs i, fun | 0 => undef | i + 1 => vs i, rfl, rfl, k3, k4, by simp [k5], fun i c hc => ?_⟩
          cases i with
          | zero =>
            simp at hc
            subst hc
            exact ⟨_, rfl, by simp only [k1]; exact hp, .inr ⟨hw, rfl, by simp only [k2], rfl⟩⟩
          | succ i => exact k6 i c (by simpa using hc)
        · cases h
      · cases h

/-- which operations write a block that is known -/
theorem compOp1_st {P : Program} {op : Op} {n : Nat} {x y : Operand} (hc : compOp1 P op = some (.st n x y)) : x ∈ op.operands := by
  unfold compOp1 at hc
  repeat' split at hc
  all_goals try (simp only [Option.map_eq_some_iff] at hc; obtain ⟨_, _, hc⟩ := hc)
  all_goals try (cases hc; done)
  all_goals try (split at hc <;> cases hc; done)
  · cases hc; simp [Op.operands]
  · rename_i op t x y yt
    unfold compBin compEq at hc
    repeat' split at hc
    all_goals cases hc
  · unfold compConv at hc
    repeat' split at hc
    all_goals cases hc
  · unfold compSlice at hc
    repeat' split at hc
    all_goals try (simp only [Option.map_eq_some_iff] at hc; obtain ⟨_, _, hc⟩ := hc)
    all_goals cases hc
  · rename_i c
    unfold compCall compApp compLen at hc
    repeat' split at hc
    all_goals cases hc

theorem compOp1_ust {P : Program} {op : Op} {t : TypeId} {x y : Operand} (hc : compOp1 P op = some (.ust t x y)) : x ∈ op.operands := by
  unfold compOp1 at hc
  repeat' split at hc
  all_goals try (simp only [Option.map_eq_some_iff] at hc; obtain ⟨_, _, hc⟩ := hc)
  all_goals try (cases hc; done)
  all_goals try (split at hc <;> cases hc; done)
  · rename_i op t x y yt
    unfold compBin compEq at hc
    repeat' split at hc
    all_goals cases hc
  · unfold compConv at hc
    repeat' split at hc
    all_goals cases hc
  · unfold compSlice at hc
    repeat' split at hc
    all_goals try (simp only [Option.map_eq_some_iff] at hc; obtain ⟨_, _, hc⟩ := hc)
    all_goals cases hc
  · rename_i cl
    unfold compCall at hc
    split at hc
    · cases hc
    · cases hc
    · split at hc
      · unfold compApp at hc
        repeat' split at hc
        all_goals cases hc
      · unfold compLen at hc
        repeat' split at hc
        all_goals cases hc
      · split at hc
        · cases hc
        · cases hc
      · cases hc
      · cases hc
      · cases hc
      · rename_i s' x' pt it h1 _ _
        have hmem : s' ∈ cl.args := by rw [args_two h1]; simp
        split at hc
        · split at hc
          · cases hc
            simp [Op.operands, Call.operands, hmem]
          · cases hc
        · cases hc
      · cases hc

theorem compOp1_app {P : Program} {op : Op} {s x : Operand} (hc : (∃ n m eo, compOp1 P op = some (.app n m eo s x)) ∨ ∃ eo, compOp1 P op = some (.aps eo s x)) : s ∈ op.operands := by
  have key : ∀ c, (∃ n m eo, c = COp.app n m eo s x) ∨ (∃ eo, c = .aps eo s x) → compOp1 P op = some c → s ∈ op.operands := by
    intro c hcc hc
    unfold compOp1 at hc
    repeat' split at hc
    all_goals try (simp only [Option.map_eq_some_iff] at hc; obtain ⟨_, _, hc⟩ := hc)
    all_goals try (cases hc; rcases hcc with ⟨_, _, _, hcc⟩ | ⟨_, hcc⟩ <;> cases hcc; done)
    all_goals try (cases hc; done)
    all_goals try (split at hc <;> (cases hc; rcases hcc with ⟨_, _, _, hcc⟩ | ⟨_, hcc⟩ <;> cases hcc); done)
    · rename_i op t x y yt
      unfold compBin compEq at hc
      repeat' split at hc
      all_goals cases hc
      all_goals (rcases hcc with ⟨_, _, _, hcc⟩ | ⟨_, hcc⟩ <;> cases hcc)
    · unfold compConv at hc
      repeat' split at hc
      all_goals cases hc
      all_goals (rcases hcc with ⟨_, _, _, hcc⟩ | ⟨_, hcc⟩ <;> cases hcc)
    · unfold compSlice at hc
      repeat' split at hc
      all_goals try (simp only [Option.map_eq_some_iff] at hc; obtain ⟨_, _, hc⟩ := hc)
      all_goals cases hc
      all_goals (rcases hcc with ⟨_, _, _, hcc⟩ | ⟨_, hcc⟩ <;> cases hcc)
    · rename_i cl _
      unfold compCall at hc
      split at hc
      · cases hc; rcases hcc with ⟨_, _, _, hcc⟩ | ⟨_, hcc⟩ <;> cases hcc
      · cases hc
      · split at hc
        · rename_i s' x' st xt h1 h2 _
          have hmem : s' ∈ cl.args := by rw [args_two h1]; simp
          unfold compApp at hc
          repeat' split at hc
          all_goals cases hc
          all_goals (rcases hcc with ⟨_, _, _, hcc⟩ | ⟨_, hcc⟩ <;> cases hcc)
          all_goals simp [Op.operands, Call.operands, hmem]
        · unfold compLen at hc
          repeat' split at hc
          all_goals cases hc
          all_goals (rcases hcc with ⟨_, _, _, hcc⟩ | ⟨_, hcc⟩ <;> cases hcc)
        · split at hc
          · cases hc; rcases hcc with ⟨_, _, _, hcc⟩ | ⟨_, hcc⟩ <;> cases hcc
          · cases hc
        · cases hc; rcases hcc with ⟨_, _, _, hcc⟩ | ⟨_, hcc⟩ <;> cases hcc
        · cases hc; rcases hcc with ⟨_, _, _, hcc⟩ | ⟨_, hcc⟩ <;> cases hcc
        · cases hc; rcases hcc with ⟨_, _, _, hcc⟩ | ⟨_, hcc⟩ <;> cases hcc
        · split at hc
          · split at hc
            · cases hc; rcases hcc with ⟨_, _, _, hcc⟩ | ⟨_, hcc⟩ <;> cases hcc
            · cases hc
          · cases hc
        · cases hc
  rcases hc with ⟨n, m, eo, hc⟩ | ⟨eo, hc⟩
  · exact key _ (.inl ⟨n, m, eo, rfl⟩) hc
  · exact key _ (.inr ⟨eo, rfl⟩) hc

theorem appendTo_named {ρ : Ren} {H H1 : Hp} {size bytes n : Nat} {eo : Option TypeId} {s s' v : Value} {new : List Value} (hlow : H.low = H.size) (hs : VRel ρ s s') (hv : appendTo H size bytes eo s n new = some (v, H1)) (hw : H1.low < H.size) : ∃ x, ρ H1.low = some x := by
  cases s with
  | slice base len cap =>
    simp only [appendTo] at hv
    split at hv
    · split at hv
      · cases hv; omega
      · cases hv
    · rename_i h0
      split at hv
      · cases hv
      · split at hv
        · cases hv
        · cases base with
          | none =>
            simp only at hv
            split at hv
            · cases hv; simp at hw; omega
            · cases hv
          | some a =>
            obtain ⟨a', c', _, h1, h2, h3, h4, _⟩ := hs.inv_slice
            simp only at hv
            split at hv
            · split at hv
              · cases hv; simp at hw; omega
              · rename_i hlt
                simp only [Option.map_eq_some_iff, Prod.mk.injEq] at hv
                obtain ⟨H2, hset, _, rfl⟩ := hv
                unfold Hp.setCells at hset
                split at hset
                · split at hset
                  · cases hset
                    simp only [Hp.low_upd, hlow] at hw ⊢
                    rw [Nat.min_eq_right (by omega)]
                    obtain ⟨g, sh, hg, _⟩ := h4 (by omega)
                    exact ⟨_, hg⟩
                  · cases hset
                · split at hset
                  · cases hset
                    simp only [Hp.low_upd, hlow] at hw ⊢
                    rw [Nat.min_eq_right (by omega)]
                    obtain ⟨g, sh, hg, _⟩ := h4 (by omega)
                    exact ⟨_, hg⟩
                  · cases hset
                · cases hset
            · split at hv
              · rename_i hry
                simp only [Bool.and_eq_true] at hry
                have hpos : 0 < cap := by simpa [Nat.blt_eq] using hry.2
                split at hv
                · split at hv
                  · cases hv
                    simp only [Hp.low_new, Hp.low_upd, hlow] at hw ⊢
                    rw [Nat.min_eq_right (by omega)]
                    obtain ⟨g, sh, hg, _⟩ := h4 hpos
                    exact ⟨_, hg⟩
                  · cases hv
                · split at hv
                  · cases hv
                    simp only [Hp.low_new, Hp.low_upd, hlow] at hw ⊢
                    rw [Nat.min_eq_right (by omega)]
                    obtain ⟨g, sh, hg, _⟩ := h4 hpos
                    exact ⟨_, hg⟩
                  · cases hv
                · cases hv
              · cases hv
  | _ => simp [appendTo] at hv

/-- the block that an operation of known blocks writes has a name -/
theorem known_named {P : Program} {O : Oracle} {ρ : Ren} {F : Fr} {a : Act} {okx : Operand → Bool} (he : EvR okx ρ F a) {o : Oper} {c : COp} (hc : compOp P o = some c) (hok : ∀ x ∈ o.op.operands, okx x = true) {t : List Nat} (ht : touch F c = some t) {H H1 : Hp} {v : Value}
    (hlow : H.low = H.size) (hv : opA O F H c = some (v, H1)) (hw : H1.low < H.size) : ∃ x, ρ H1.low = some x := by
  obtain ⟨_, hc1⟩ := compOp_op hc
  cases c <;> first | (exfalso; simp [touch] at ht; done) | skip
  all_goals simp only [opA, COp.isPure, Bool.false_eq_true, if_false, memOp, newRow] at hv
  case st n x y =>
    have hx := he x (hok x (compOp1_st hc1))
    split at hv
    · rename_i b hb
      rw [hb] at hx
      split at hv
      · simp only [Option.map_eq_some_iff, Prod.mk.injEq] at hv
        obtain ⟨H2, hset, _, rfl⟩ := hv
        unfold Hp.setCells at hset
        split at hset
        · split at hset
          · cases hset
            simp only [Hp.low_upd, hlow] at hw ⊢
            rw [Nat.min_eq_right (by omega)]
            obtain ⟨g, sh, hg, _⟩ := hx.inv_pointer
            exact ⟨_, hg⟩
          · cases hset
        · split at hset
          · cases hset
            simp only [Hp.low_upd, hlow] at hw ⊢
            rw [Nat.min_eq_right (by omega)]
            obtain ⟨g, sh, hg, _⟩ := hx.inv_pointer
            exact ⟨_, hg⟩
          · cases hset
        · cases hset
      · cases hv
    · cases hv
  case ust ty x n =>
    have hx := he x (hok x (compOp1_ust hc1))
    split at hv
    · rename_i b _ hb _
      rw [hb] at hx
      split at hv
      · split at hv
        · simp only [Option.map_eq_some_iff, Prod.mk.injEq] at hv
          obtain ⟨l, _, _, rfl⟩ := hv
          simp only [Hp.low_upd, hlow] at hw ⊢
          rw [Nat.min_eq_right (by omega)]
          obtain ⟨g, sh, hg, _⟩ := hx.inv_pointer
          exact ⟨_, hg⟩
        · cases hv
      · cases hv
    · cases hv
  case app n m eo s x =>
    have hs := he s (hok s (compOp1_app (.inl ⟨n, m, eo, hc1⟩)))
    split at hv
    · split at hv
      · exact appendTo_named hlow hs hv hw
      · cases hv
    · split at hv
      · exact appendTo_named hlow hs hv hw
      · simp only [Option.bind_eq_some_iff] at hv
        obtain ⟨new, _, hv⟩ := hv
        split at hv
        · exact appendTo_named hlow hs hv hw
        · cases hv
    · cases hv
  case aps eo s x =>
    have hs := he s (hok s (compOp1_app (.inr ⟨eo, hc1⟩)))
    split at hv
    · exact appendTo_named hlow hs hv hw
    · cases hv
  all_goals (exfalso; repeat' split at hv)
  all_goals try (cases hv; done)
  all_goals first
    | (cases hv; omega)
    | (cases hv; simp at hw; omega)
    | (simp only [Option.map_eq_some_iff, Prod.mk.injEq] at hv; obtain ⟨_, _, _, rfl⟩ := hv; simp at hw; omega)
    | (simp only [Option.map_eq_some_iff, Prod.mk.injEq] at hv; obtain ⟨_, _, _, rfl⟩ := hv; omega)

end Go.Proofs.YtjmohjemgohlpaaGreatDoor.Am

/- The abstract machine: regions that draw, what holds on the way. -/
namespace Go.Proofs.YtjmohjemgohlpaaGreatDoor.Am
open Go

structure DrF (P : Program) (O : Oracle) (ops : Array Oper) (cl : List CO) (d : List Did) (Fs : Nat → Fr) (Hs : Nat → Hp) (vs : Nat → Value) : Prop where
  ord : ordOk ops = true
  comp : compOps P ops ops.toList = some cl
  ap : apart (unordered ops) d = true
  step : ∀ (i : Nat) c, cl[i]? = some c → ∃ x, d[i]? = some x ∧ (Fs i).put c.dst (vs i) = some (Fs (i + 1)) ∧
      ((wanted (Fs i) c.guard = true ∧ ∃ H2, opA O (Fs i) { tr := (Hs i).tr, size := (Hs i).size, low := (Hs i).size } c.op = some (vs i, H2) ∧ (Hs (i + 1)).tr = H2.tr ∧ (Hs (i + 1)).size = H2.size ∧ x = didOf (Fs i) (Hs i).size H2.low c.op) ∨
       (wanted (Fs i) c.guard = false ∧ vs i = undef ∧ Hs (i + 1) = Hs i ∧ x = .quiet))
  dlen : d.length = cl.length
  low : OLow O

/-- an operation writes a block that lay there before it -/
def Wr (d : List Did) (Hs : Nat → Hp) (k b : Nat) : Prop := (∃ t, d[k]? = some (.known t (some b))) ∨ (d[k]? = some (.other true) ∧ b < (Hs k).size)

section
variable {P : Program} {base : Nat} {O : Oracle} {ops : Array Oper} {cl : List CO} {d : List Did} {Fs : Nat → Fr} {Hs : Nat → Hp} {vs : Nat → Value} (D : DrF P O ops cl d Fs Hs vs)
include D

theorem DrF.len : ops.size = cl.length := by have := (compOps_spec D.comp).1; simpa using this

theorem DrF.edges : ∀ (j : Nat) o, ops[j]? = some o → ∀ e ∈ o.after, Region.binds .any e = true → e.on < j := by
  intro j o hj e he hb
  have h := D.ord
  unfold ordOk at h
  simp only [List.all_eq_true] at h
  have := h (o, j) (by rw [List.mem_zipIdx_iff_getElem?]; simpa using hj)
  simp only [Bool.and_eq_true, Array.all_eq_true_iff_forall_mem] at this
  have h2 := this.1 e he
  simp only [hb, Bool.not_true, Bool.false_or, decide_eq_true_eq] at h2
  exact h2

theorem DrF.tmp {j i t : Nat} {o o' : Oper} (hj : ops[j]? = some o) (hi : ops[i]? = some o') (hd : o'.dst = some t) (h : o.dst = some t ∨ t ∈ o.looksAt ops) : ordered (Region.before ops) i j = true := by
  have h0 := D.ord
  unfold ordOk at h0
  simp only [List.all_eq_true] at h0
  have := h0 (o, j) (by rw [List.mem_zipIdx_iff_getElem?]; simpa using hj)
  simp only [Bool.and_eq_true, List.all_eq_true] at this
  have h2 := this.2 (o', i) (by rw [List.mem_zipIdx_iff_getElem?]; simpa using hi)
  simp only [hd, Bool.or_eq_true, Bool.not_eq_true'] at h2
  rcases h2 with h2 | h2
  · exact h2
  · exfalso
    rw [Bool.or_eq_false_iff] at h2
    rcases h with h | h
    · rw [h] at h2; simp at h2
    · have := h2.2
      rw [List.contains_eq_mem] at this
      simp [h] at this

theorem DrF.at {j : Nat} {o : Oper} (hj : ops[j]? = some o) : ∃ c, cl[j]? = some c ∧ compCO P ops o = some c := by
  have hlt : j < ops.size := (Array.getElem?_eq_some_iff.1 hj).1
  have hlt2 : j < cl.length := by rw [← D.len]; exact hlt
  exact ⟨cl[j], by simp [hlt2], (compOps_spec D.comp).2 j o cl[j] (by simpa using hj) (by simp [hlt2])⟩

theorem DrF.compat {i j : Nat} (hi : i < ops.size) (hj : j < ops.size) (h : ordered (Region.before ops) i j = false) : ∃ x y, d[i]? = some x ∧ d[j]? = some y ∧ Am.compat x y = true := by
  have hap := D.ap
  unfold apart at hap
  rw [List.all_eq_true] at hap
  unfold ordered at h
  simp only [Bool.or_eq_false_iff, beq_eq_false_iff_ne] at h
  obtain ⟨hne, hb⟩ := h
  rcases Nat.lt_or_ge i j with hij | hij
  · rw [Nat.max_eq_right (by omega), Nat.min_eq_left (by omega)] at hb
    have := hap (i, j) (mem_unordered hij hj hb)
    simp only at this
    split at this
    · rename_i x y h1 h2; exact ⟨x, y, h1, h2, this⟩
    · cases this
  · have hji : j < i := by omega
    rw [Nat.max_eq_left (by omega), Nat.min_eq_right (by omega)] at hb
    have := hap (j, i) (mem_unordered hji hi hb)
    simp only at this
    split at this
    · rename_i x y h1 h2; exact ⟨y, x, h2, h1, by rw [compat_comm]; exact this⟩
    · cases this

omit D in
theorem Hp.get_tr {H H' : Hp} (h : H.tr = H'.tr) (b : Nat) : H.get b = H'.get b := by unfold Hp.get; rw [h]

/-- one step of the run in the text's order -/
theorem DrF.mem {k : Nat} (hk : k < ops.size) : (Hs k).size ≤ (Hs (k + 1)).size ∧ (∀ b, b < (Hs k).size → ¬ Wr d Hs k b → (Hs (k + 1)).get b = (Hs k).get b) ∧ (∀ t b, d[k]? = some (.known t (some b)) → b ∈ t ∧ b < (Hs k).size) ∧
    (∀ t w, d[k]? = some (.known t w) → True) ∧ (d[k]? = some .quiet → (Hs (k + 1)).size = (Hs k).size) := by
  have hk2 : k < cl.length := by rw [← D.len]; exact hk
  obtain ⟨x, h1, h2, h3⟩ := D.step k cl[k] (by simp [hk2])
  rcases h3 with ⟨hw, H2, hv, ht, hs, hx⟩ | ⟨hw, _, hh, hx⟩
  · have hlow := opA_low D.low hv
    have hget : ∀ b, (Hs (k + 1)).get b = H2.get b := Hp.get_tr ht
    have hget0 : ∀ b, (Hs k).get b = ({ tr := (Hs k).tr, size := (Hs k).size, low := (Hs k).size } : Hp).get b := fun b => rfl
    cases hp : cl[k].op.isPure with
    | true =>
      have hd : x = .quiet := by rw [hx]; simp [didOf, hp]
      have hH2 : H2 = { tr := (Hs k).tr, size := (Hs k).size, low := (Hs k).size } := by
        unfold opA at hv
        split at hv
        · rename_i e; rw [e] at hp; simp [COp.isPure] at hp
        · rw [hp] at hv
          simp only [if_true, Option.map_eq_some_iff, Prod.mk.injEq] at hv
          obtain ⟨_, _, _, h⟩ := hv
          exact h.symm
      refine ⟨by rw [hs]; exact hlow.2.1, fun b hb _ => by rw [hget, hH2]; rfl, fun t b h => ?_, fun _ _ _ => trivial, fun _ => by rw [hs, hH2]⟩
      rw [h1, hd] at h; cases h
    | false =>
      cases htc : touch (Fs k) cl[k].op with
      | some t =>
        have hd : x = .known t (if Nat.blt H2.low (Hs k).size then some H2.low else none) := by rw [hx]; simp [didOf, hp, htc]
        obtain ⟨H2', hv', kf⟩ := known_frame (t := t) (H := { tr := (Hs k).tr, size := (Hs k).size, low := (Hs k).size }) (H' := { tr := (Hs k).tr, size := (Hs k).size, low := (Hs k).size }) rfl rfl (fun _ _ => rfl) htc hv
        refine ⟨by rw [hs]; exact kf.grow, fun b hb hnw => ?_, fun t' b h => ?_, fun _ _ _ => trivial, fun h => by rw [h1, hd] at h; cases h⟩
        · rw [hget, hget0]
          refine (kf.old b hb fun e => hnw (.inl ⟨t, ?_⟩)).1
          have : Nat.blt H2.low (Hs k).size = true := by rw [Nat.blt_eq, ← e]; exact hb
          rw [h1, hd, this, e]; rfl
        · rw [h1, hd] at h
          simp only [Option.some.injEq, Did.known.injEq] at h
          obtain ⟨rfl, h⟩ := h
          split at h
          · rename_i hlt
            cases h
            have hlt' : H2.low < (Hs k).size := by simpa [Nat.blt_eq] using hlt
            exact ⟨kf.low hlt', hlt'⟩
          · cases h
      | none =>
        have hd : x = .other (Nat.blt H2.low (Hs k).size) := by rw [hx]; simp [didOf, hp, htc]
        refine ⟨by rw [hs]; exact hlow.2.1, fun b hb hnw => ?_, fun t b h => (by rw [h1, hd] at h; cases h), fun _ _ _ => trivial, fun h => (by rw [h1, hd] at h; cases h)⟩
        rw [hget, hget0]
        refine hlow.2.2 b ?_ hb
        rcases Nat.lt_or_ge H2.low (Hs k).size with hlt | hge
        · exact absurd (.inr ⟨by rw [h1, hd]; simp [Nat.blt_eq, hlt], hb⟩) hnw
        · omega
  · refine ⟨by rw [hh]; exact Nat.le_refl _, fun b _ _ => by rw [hh], fun t b h => (by rw [h1, hx] at h; cases h), fun _ _ _ => trivial, fun _ => by rw [hh]⟩

theorem DrF.mono {m m' : Nat} (h : m ≤ m') (hm' : m' ≤ ops.size) : (Hs m).size ≤ (Hs m').size := by
  induction m' with
  | zero => have : m = 0 := by omega
            subst this; exact Nat.le_refl _
  | succ m' ih =>
    rcases Nat.lt_or_ge m (m' + 1) with h1 | h1
    · exact Nat.le_trans (ih (by omega) (by omega)) (D.mem (k := m') (by omega)).1
    · have : m = m' + 1 := by omega
      subst this; exact Nat.le_refl _

theorem DrF.content {m m' b : Nat} (h : m ≤ m') (hm' : m' ≤ ops.size) (hb : b < (Hs m).size) (hw : ∀ k, m ≤ k → k < m' → ¬ Wr d Hs k b) : (Hs m').get b = (Hs m).get b := by
  induction m' with
  | zero => have : m = 0 := by omega
            subst this; rfl
  | succ m' ih =>
    rcases Nat.lt_or_ge m (m' + 1) with h1 | h1
    · rw [(D.mem (k := m') (by omega)).2.1 b (Nat.lt_of_lt_of_le hb (D.mono (by omega) (by omega))) (hw m' (by omega) (by omega))]
      exact ih (by omega) (by omega) fun k h2 h3 => hw k h2 (by omega)
    · have : m = m' + 1 := by omega
      subst this; rfl

theorem DrF.frame {m m' t : Nat} (h : m ≤ m') (hm' : m' ≤ ops.size) (hw : ∀ (k : Nat) o, m ≤ k → k < m' → ops[k]? = some o → o.dst ≠ some t) : (Fs m').get t = (Fs m).get t := by
  induction m' with
  | zero => have : m = 0 := by omega
            subst this; rfl
  | succ m' ih =>
    rcases Nat.lt_or_ge m (m' + 1) with h1 | h1
    · have hlt : m' < ops.size := by omega
      have ho : ops[m']? = some ops[m'] := by simp [hlt]
      obtain ⟨c, hc, hco⟩ := D.at ho
      obtain ⟨_, _, hp, _⟩ := D.step m' c hc
      have hd := (compCO_spec hco).1
      rw [← ih (by omega) (by omega) fun k o h2 h3 => hw k o h2 (by omega)]
      have hne := hw m' ops[m'] (by omega) (by omega) ho
      rw [hd] at hp
      cases hdst : ops[m'].dst with
      | none => rw [hdst, Fr.put_none, Option.some.injEq] at hp; rw [← hp]
      | some q =>
        rw [hdst, Fr.put_some] at hp
        split at hp
        · rw [Option.some.injEq] at hp
          rw [← hp, Fr.get_set, if_neg (fun e => hne (by rw [hdst, e]))]
        · cases hp
    · have : m = m' + 1 := by omega
      subst this; rfl

theorem DrF.rest {m : Nat} (hm : m ≤ ops.size) : (Fs m).n = (Fs 0).n ∧ (Fs m).marks = (Fs 0).marks ∧ (Fs m).round = (Fs 0).round := by
  induction m with
  | zero => exact ⟨rfl, rfl, rfl⟩
  | succ m ih =>
    have hlt : m < cl.length := by rw [← D.len]; omega
    obtain ⟨_, _, hp, _⟩ := D.step m cl[m] (by simp [hlt])
    obtain ⟨h1, h2, h3⟩ := ih (by omega)
    cases hdst : cl[m].dst with
    | none => rw [hdst, Fr.put_none, Option.some.injEq] at hp; rw [← hp]; exact ⟨h1, h2, h3⟩
    | some q =>
      rw [hdst, Fr.put_some] at hp
      split at hp
      · rw [Option.some.injEq] at hp; rw [← hp]; exact ⟨h1, h2, h3⟩
      · cases hp

/-- who writes the same block is ordered -/
theorem DrF.wr_ord {k j b : Nat} (hk : k < ops.size) (hj : j < ops.size) (h1 : Wr d Hs k b) (h2 : Wr d Hs j b) : ordered (Region.before ops) k j = true := by
  cases ho : ordered (Region.before ops) k j with
  | true => rfl
  | false =>
    exfalso
    obtain ⟨x, y, hx, hy, hc⟩ := D.compat hk hj ho
    rcases h1 with ⟨t, h1⟩ | ⟨h1, _⟩
    · rw [h1] at hx; cases hx
      rcases h2 with ⟨t', h2⟩ | ⟨h2, _⟩
      · rw [h2] at hy; cases hy
        have := ((D.mem hj).2.2.1 t' b h2).1
        simp only [Am.compat, Bool.and_eq_true, Bool.not_eq_true'] at hc
        have h3 := isIn_iff.2 this
        rw [hc.1] at h3; cases h3
      · rw [h2] at hy; cases hy; simp [Am.compat] at hc
    · rw [h1] at hx; cases hx
      rcases h2 with ⟨t', h2⟩ | ⟨h2, _⟩
      · rw [h2] at hy; cases hy; simp [Am.compat] at hc
      · rw [h2] at hy; cases hy; simp [Am.compat] at hc
end

/-- are the operations that write b before m those that have run? -/
def Sync (d : List Did) (Hs : Nat → Hp) (N : Nat) (S : Nat → Prop) (m b : Nat) : Prop := ∀ k, k < N → Wr d Hs k b → (k < m ↔ S k)

/-- the operations that have run: no later one before an earlier one that it needs -/
structure Ran (ops : Array Oper) (S : Nat → Prop) : Prop where
  sub : ∀ j, S j → j < ops.size
  closed : ∀ j, S j → ∀ o, ops[j]? = some o → ∀ e ∈ o.after, Region.binds .any e = true → S e.on

structure DInv (P : Program) (base : Nat) (ops : Array Oper) (d : List Did) (Fs : Nat → Fr) (Hs : Nat → Hp) (ρ0 : Ren) (a0 : Act) (w0 : World) (S : Nat → Prop) (ρ : Ren) (a : Act) (w : World) : Prop where
  ran : Ran ops S
  dom : ∀ b x, ρ b = some x → b < (Hs 0).size ∨ ∃ i, S i ∧ (Hs i).size ≤ b ∧ b < (Hs (i + 1)).size
  blk : ∀ m, m ≤ ops.size → ∀ b g s, b < (Hs m).size → ρ b = some (g, s) → Sync d Hs ops.size S m b → BRel P base (ρ.cut (Hs m).size) w g s ((Hs m).get b)
  inj : ∀ m m', m ≤ ops.size → m' ≤ ops.size → ∀ b c g s s', b < (Hs m).size → c < (Hs m').size → ρ b = some (g, s) → ρ c = some (g, s') → Sync d Hs ops.size S m b → Sync d Hs ops.size S m' c →
    own ((Hs m).get b) = true → own ((Hs m').get c) = true → b = c
  nlt : ∀ g k, ρ.n g = some k → g < w.heap.size
  sz : base ≤ w.heap.size
  ext : ∀ m, m ≤ ops.size → ∀ b g s, b < (Hs m).size → ρ b = some (g, s) → Sync d Hs ops.size S m b → own ((Hs m).get b) = true → g < w0.heap.size → OwnAt ρ0 (Hs 0) g
  kp : Kp (OwnAt ρ0 (Hs 0)) w0 w
  le : Ren.le ρ0 ρ
  new : ∀ b x, ρ b = some x → ρ0 b = none → (Hs 0).size ≤ b
  wn : ∀ k, S k → ∀ t b, d[k]? = some (.known t (some b)) → ∃ x, ρ b = some x
  fr : ∀ t m, m ≤ ops.size → (∀ (i : Nat) o, ops[i]? = some o → o.dst = some t → (i < m ↔ S i)) → VRel (ρ.cut (Hs m).size) ((Fs m).get t) (a.tmps.getD t undef)
  size : (Fs 0).n = a.tmps.size
  defers : a.defers = a0.defers

/-- both names' names -/
def Ren.mrg (ρ ρj : Ren) : Ren := ⟨fun b => match ρj b with | some x => some x | none => ρ b, ρj.n⟩

end Go.Proofs.YtjmohjemgohlpaaGreatDoor.Am

/- The abstract machine: regions that draw, one step. -/
namespace Go.Proofs.YtjmohjemgohlpaaGreatDoor.Am
open Go

section
variable {P : Program} {base : Nat} {O : Oracle} {ops : Array Oper} {cl : List CO} {d : List Did} {Fs : Nat → Fr} {Hs : Nat → Hp} {vs : Nat → Value} (D : DrF P O ops cl d Fs Hs vs)
include D

omit D in
theorem Ran.before (D : DrF P O ops cl d Fs Hs vs) {S : Nat → Prop} (R : Ran ops S) {k : Nat} (hk : S k) : ∀ i, ((Region.before ops).getD k 0).testBit i = true → S i := by
  have hlt := R.sub k hk
  exact before_closed D.edges R.closed k ops[k] (by simp [hlt]) (R.closed k hk ops[k] (by simp [hlt]))

omit D in
/-- an operation that may come now, and one that is ordered with it -/
theorem Ran.sync (D : DrF P O ops cl d Fs Hs vs) {S : Nat → Prop} (R : Ran ops S) {j k : Nat} (hj : ¬ S j) (hpre : ∀ i, ((Region.before ops).getD j 0).testBit i = true → S i) (hne : k ≠ j) (ho : ordered (Region.before ops) k j = true) : k < j ↔ S k := by
  unfold ordered at ho
  simp only [Bool.or_eq_true, beq_iff_eq] at ho
  have ho := ho.resolve_left hne
  rcases Nat.lt_or_ge k j with h | h
  · rw [Nat.max_eq_right (by omega), Nat.min_eq_left (by omega)] at ho
    exact ⟨fun _ => hpre k ho, fun _ => h⟩
  · rw [Nat.max_eq_left (by omega), Nat.min_eq_right (by omega)] at ho
    exact ⟨fun h2 => by omega, fun hk => absurd (R.before D hk j ho) hj⟩

theorem DInv.step {ρ0 : Ren} {a0 : Act} {w0 : World} {S : Nat → Prop} {ρ : Ren} {a : Act} {w : World} (I : DInv P base ops d Fs Hs ρ0 a0 w0 S ρ a w) {j : Nat} {o : Oper} (hj : ops[j]? = some o) (hjS : ¬ S j)
    (hedge : ∀ e ∈ o.after, Region.binds .any e = true → S e.on)
    {Hm Hm1 : Hp} (hms : Hm.size = (Hs j).size) (hm : ∀ b, b < (Hs j).size → (Hm.get b = (Hs j).get b ∧ Sync d Hs ops.size S j b) ∨ Hm.get b = .dead) (h1s : Hm1.size = (Hs (j + 1)).size)
    (hi : ∀ b, (Hs j).size ≤ b → b < (Hs (j + 1)).size → Hm1.get b = (Hs (j + 1)).get b) (hii : ∀ b, b < (Hs j).size → ¬ Wr d Hs j b → Hm1.get b = Hm.get b)
    (hiii : ∀ b, b < (Hs j).size → Wr d Hs j b → Hm1.get b = (Hs (j + 1)).get b ∧ Hm.get b = (Hs j).get b ∧ Sync d Hs ops.size S j b) (hnamed : ∀ t b, d[j]? = some (.known t (some b)) → ∃ x, ρ b = some x)
    {ρj : Ren} {v' : Value} {w' : World} (hv : VRel ρj (vs j) v') (hs : Sim P base (ρ.cut (Hs j).size) Hm w ρj Hm1 w') :
    DInv P base ops d Fs Hs ρ0 a0 w0 (fun i => S i ∨ i = j) (ρ.mrg ρj) (a.put o.dst v') w' := by
  have hjlt : j < ops.size := (Array.getElem?_eq_some_iff.1 hj).1
  have hpre : ∀ i, ((Region.before ops).getD j 0).testBit i = true → S i := before_closed D.edges I.ran.closed j o hj hedge
  obtain ⟨hmono, hun, hkn, _, hquiet⟩ := D.mem hjlt
  /- names -/
  have hnone : ∀ b, (Hs j).size ≤ b → b < (Hs (j + 1)).size → ρ b = none := by
    intro b h1 h2
    cases hx : ρ b with
    | none => rfl
    | some x =>
      exfalso
      rcases I.dom b x hx with h | ⟨i, hi, h3, h4⟩
      · have := D.mono (m := 0) (m' := j) (by omega) (by omega); omega
      · have hine : i ≠ j := fun e => hjS (e ▸ hi)
        have hil := I.ran.sub i hi
        rcases Nat.lt_or_ge i j with h | h
        · have := D.mono (m := i + 1) (m' := j) (by omega) (by omega); omega
        · have := D.mono (m := j + 1) (m' := i) (by omega) (by omega); omega
  have hold : ∀ b x, b < (Hs j).size → ρj b = some x → ρ b = some x := by
    intro b x hb hx
    cases hc : ρ.cut (Hs j).size b with
    | none => have := hs.new b x hx hc; omega
    | some y =>
      have h2 := hs.le.1 b y hc
      rw [hx] at h2; cases h2
      exact (Ren.cut_some.1 hc).2
  have hcut : ∀ b x, b < (Hs j).size → ρ b = some x → ρj b = some x := fun b x hb hx => hs.le.1 b x (Ren.cut_some.2 ⟨hb, hx⟩)
  have hbeyond : ∀ b, (Hs (j + 1)).size ≤ b → ρj b = none := by
    intro b hb
    cases hx : ρj b with
    | none => rfl
    | some x => have := hs.rel.lt b x hx; omega
  have hmrg1 : ∀ b x, ρj b = some x → ρ.mrg ρj b = some x := fun b x h => by simp [Ren.mrg, h]
  have hmrg2 : ∀ b x, ρ b = some x → ρ.mrg ρj b = some x := by
    intro b x h
    rcases Nat.lt_or_ge b (Hs j).size with h1 | h1
    · exact hmrg1 b x (hcut b x h1 h)
    · rcases Nat.lt_or_ge b (Hs (j + 1)).size with h2 | h2
      · rw [hnone b h1 h2] at h; cases h
      · simp [Ren.mrg, hbeyond b h2, h]
  have hmrg3 : ∀ b x, ρ.mrg ρj b = some x → (ρj b = some x ∧ b < (Hs (j + 1)).size) ∨ (ρ b = some x ∧ (Hs (j + 1)).size ≤ b) := by
    intro b x h
    cases hx : ρj b with
    | some y =>
      have : ρ.mrg ρj b = some y := hmrg1 b y hx
      rw [h] at this
      exact .inl ⟨this.symm, by have := hs.rel.lt b y hx; omega⟩
    | none =>
      have h2 : ρ b = some x := by simpa [Ren.mrg, hx] using h
      refine .inr ⟨h2, ?_⟩
      rcases Nat.lt_or_ge b (Hs (j + 1)).size with h3 | h3
      · exfalso
        rcases Nat.lt_or_ge b (Hs j).size with h4 | h4
        · rw [hcut b x h4 h2] at hx; cases hx
        · rw [hnone b h4 h3] at h2; cases h2
      · exact h3
  have hnle : ∀ g k, ρ.n g = some k → ρj.n g = some k := fun g k h => hs.le.2 g k h
  have hle : Ren.le ρ (ρ.mrg ρj) := ⟨hmrg2, hnle⟩
  have hlecut : ∀ n, Ren.le (ρ.cut n) ((ρ.mrg ρj).cut n) := fun n => ⟨fun b x h => by rw [Ren.cut_some] at h ⊢; exact ⟨h.1, hmrg2 b x h.2⟩, hnle⟩
  have hjcut : ∀ m, j + 1 ≤ m → m ≤ ops.size → Ren.le ρj ((ρ.mrg ρj).cut (Hs m).size) := fun m h1 h2 => ⟨fun b x h => by
    rw [Ren.cut_some]
    refine ⟨?_, hmrg1 b x h⟩
    have h3 := hs.rel.lt b x h
    have h4 := D.mono h1 h2
    omega, fun _ _ h => h⟩
  /- who has run -/
  have hran : Ran ops (fun i => S i ∨ i = j) := by
    refine ⟨fun i h => ?_, fun i h o' ho' e he hb => ?_⟩
    · rcases h with h | rfl
      · exact I.ran.sub i h
      · exact hjlt
    · rcases h with h | rfl
      · exact .inl (I.ran.closed i h o' ho' e he hb)
      · rw [hj] at ho'; cases ho'; exact .inl (hedge e he hb)
  have hgt : ∀ k, S k → ordered (Region.before ops) k j = true → k < j := fun k hk ho => (I.ran.sync D hjS hpre (fun e => hjS (e ▸ hk)) ho).2 hk
  /- blocks that j has not written -/
  have hsync : ∀ m b, m ≤ ops.size → ¬ Wr d Hs j b → Sync d Hs ops.size (fun i => S i ∨ i = j) m b → Sync d Hs ops.size S m b := by
    intro m b _ hnw h k hk hwk
    have hkj : k ≠ j := fun e => hnw (e ▸ hwk)
    have := h k hk hwk
    simp only [hkj, or_false] at this
    exact this
  have hnotwr : ∀ b, (Hs j).size ≤ b → ¬ Wr d Hs j b := by
    rintro b hb (⟨t, h⟩ | ⟨_, h⟩)
    · have := (hkn t b h).2; omega
    · omega
  /- blocks that j has written -/
  have hwrm : ∀ m b, m ≤ ops.size → Wr d Hs j b → Sync d Hs ops.size (fun i => S i ∨ i = j) m b → b < (Hs j).size → j < m ∧ (Hs m).get b = (Hs (j + 1)).get b := by
    intro m b hm hw h hb
    have hjm : j < m := (h j hjlt hw).2 (.inr rfl)
    refine ⟨hjm, D.content (by omega) hm (by omega) fun k h1 h2 hwk => ?_⟩
    have hk : k < ops.size := by omega
    have hS := (h k hk hwk).1 h2
    rcases hS with hS | rfl
    · have := hgt k hS (D.wr_ord hk hjlt hwk hw); omega
    · omega
  /- blocks that j has made -/
  have hnewm : ∀ m b, m ≤ ops.size → (Hs j).size ≤ b → b < (Hs (j + 1)).size → b < (Hs m).size → Sync d Hs ops.size (fun i => S i ∨ i = j) m b → j < m ∧ (Hs m).get b = (Hs (j + 1)).get b := by
    intro m b hm h1 h2 h3 h
    have hjm : j < m := by
      rcases Nat.lt_or_ge j m with h4 | h4
      · exact h4
      · have := D.mono h4 (by omega); omega
    refine ⟨hjm, D.content (by omega) hm h2 fun k h4 h5 hwk => ?_⟩
    have hk : k < ops.size := by omega
    have hS := ((h k hk hwk).1 h5).resolve_right (by omega)
    rcases hwk with ⟨t, hwk⟩ | ⟨hwk, hbk⟩
    · obtain ⟨x, hx⟩ := I.wn k hS t b hwk
      rw [hnone b h1 h2] at hx; cases hx
    · cases ho : ordered (Region.before ops) k j with
      | true => have := hgt k hS ho; omega
      | false =>
        obtain ⟨x, y, hx, hy, hc⟩ := D.compat hk hjlt ho
        rw [hwk] at hx; cases hx
        have : y = .quiet := by cases y <;> simp [Am.compat] at hc <;> first | rfl | skip
        rw [this] at hy
        have := hquiet hy; omega
  /- the model's blocks that j may have changed -/
  have hchg : ∀ g, g < w.heap.size → w'.heap[g]? ≠ w.heap[g]? → ∃ b s, b < (Hs j).size ∧ ρ b = some (g, s) ∧ Sync d Hs ops.size S j b ∧ own ((Hs j).get b) = true ∧ Hm.get b = (Hs j).get b := by
    intro g hg hne
    have : OwnAt (ρ.cut (Hs j).size) Hm g := by
      by_cases h : OwnAt (ρ.cut (Hs j).size) Hm g
      · exact h
      · exact absurd (hs.kp.same g hg h) hne
    obtain ⟨b, s, h1, h2⟩ := this
    obtain ⟨h3, h4⟩ := Ren.cut_some.1 h1
    rcases hm b h3 with ⟨h5, h6⟩ | h5
    · exact ⟨b, s, h3, h4, h6, by rw [← h5]; exact h2, h5⟩
    · rw [h5] at h2; simp [own] at h2
  have hownj : ∀ g, g < w.heap.size → OwnAt ρj Hm1 g → ∃ b s, b < (Hs j).size ∧ ρ b = some (g, s) ∧ Sync d Hs ops.size S j b ∧ own ((Hs j).get b) = true ∧ Hm.get b = (Hs j).get b := by
    intro g hg h
    obtain ⟨b, s, h1, h2⟩ := hs.ext g hg h
    obtain ⟨h3, h4⟩ := Ren.cut_some.1 h1
    rcases hm b h3 with ⟨h5, h6⟩ | h5
    · exact ⟨b, s, h3, h4, h6, by rw [← h5]; exact h2, h5⟩
    · rw [h5] at h2; simp [own] at h2
  /- a block that the model has kept -/
  have hkeep : ∀ m b g s, m ≤ ops.size → b < (Hs m).size → ρ b = some (g, s) → Sync d Hs ops.size S m b → (own ((Hs m).get b) = true → w'.heap[g]? = w.heap[g]?) → BRel P base ((ρ.mrg ρj).cut (Hs m).size) w' g s ((Hs m).get b) := by
    intro m b g s hm' hb hρ hsy hk
    have hb0 := I.blk m hm' b g s hb hρ hsy
    by_cases ho : own ((Hs m).get b) = true
    · exact hb0.keep (hlecut _) (hk ho)
    · cases hx : (Hs m).get b with
      | dead => trivial
      | row cs own' =>
        rw [hx] at hb0 ho
        cases own' with
        | true => simp [own] at ho
        | false =>
          by_cases hh : w'.heap[g]? = w.heap[g]?
          · exact BRel.keep (x := .row cs false) hb0 (hlecut _) hh
          · refine ⟨hb0.1, fun i v hv => ?_⟩
            obtain ⟨u, h1, h2⟩ := hb0.2 i v hv
            have hg : g < w.heap.size := block_lt_of_cell h1
            obtain ⟨b', s', h3, h4, h5, h6, _⟩ := hchg g hg hh
            have hbase := (I.blk j (by omega) b' g s' h3 h4 h5).base h6
            have := hb0.1
            omega
      | trow _ _ => rw [hx] at ho; simp [own] at ho
      | map _ _ => rw [hx] at ho; simp [own] at ho
      | iter _ _ => rw [hx] at ho; simp [own] at ho
      | loop _ _ _ _ _ _ => rw [hx] at ho; simp [own] at ho
      | deferred => rw [hx] at ho; simp [own] at ho
  refine ⟨hran, ?_, ?_, ?_, hs.rel.nlt, hs.rel.sz, ?_, ?_, Ren.le_trans I.le hle, ?_, ?_, ?_, ?_, ?_⟩
  · /- dom -/
    intro b x hx
    rcases hmrg3 b x hx with ⟨h1, h2⟩ | ⟨h1, h2⟩
    · rcases Nat.lt_or_ge b (Hs j).size with h3 | h3
      · rcases I.dom b x (hold b x h3 h1) with h | ⟨i, hi, h4⟩
        · exact .inl h
        · exact .inr ⟨i, .inl hi, h4⟩
      · exact .inr ⟨j, .inr rfl, h3, h2⟩
    · rcases I.dom b x h1 with h | ⟨i, hi, h4⟩
      · exact .inl h
      · exact .inr ⟨i, .inl hi, h4⟩
  · /- blk -/
    intro m hm' b g s hb hρ hsy
    rcases hmrg3 b _ hρ with ⟨h1, h2⟩ | ⟨h1, h2⟩
    · have hrel := hs.rel.blk b g s h1
      rcases Nat.lt_or_ge b (Hs j).size with h3 | h3
      · have hρb := hold b _ h3 h1
        by_cases hw : Wr d Hs j b
        · obtain ⟨hjm, e⟩ := hwrm m b hm' hw hsy h3
          rw [e, ← (hiii b h3 hw).1]
          have := hrel
          have hh := BRel.restrict (P := P) (base := base) (ρ1 := ρj) (ρ2 := ρj) (ρ3 := (ρ.mrg ρj).cut (Hs m).size) (fun b x y _ h => (hjcut m (by omega) hm').1 b y h) (fun g k h => h) hrel hrel
          exact hh
        · have hsy0 := hsync m b hm' hw hsy
          by_cases hsame : w'.heap[g]? = w.heap[g]?
          · exact hkeep m b g s hm' hb hρb hsy0 fun _ => hsame
          · by_cases ho : own ((Hs m).get b) = true
            · have hb0 := I.blk m hm' b g s hb hρb hsy0
              obtain ⟨b', s', h4, h5, h6, h7, h8⟩ := hchg g (hb0.lt ho) hsame
              have hbb : b = b' := I.inj m j hm' (by omega) b b' g s s' hb h4 hρb h5 hsy0 h6 ho h7
              subst hbb
              have e1 : (Hs m).get b = (Hs j).get b := by
                rcases Nat.lt_or_ge m j with h9 | h9
                · refine (D.content (by omega) (by omega) hb fun k h10 h11 hwk => ?_).symm
                  have := hsy0 k (by omega) hwk
                  have h12 := h6 k (by omega) hwk
                  have : ¬ S k := fun hS => by have := this.2 hS; omega
                  exact this (h12.1 (by omega))
                · refine D.content h9 hm' h3 fun k h10 h11 hwk => ?_
                  have h12 := (hsy0 k (by omega) hwk).1 h11
                  have := (h6 k (by omega) hwk).2 h12
                  omega
              rw [e1] at hb0 ⊢
              rw [hii b h3 hw, h8] at hrel
              refine BRel.restrict (ρ1 := ρ.cut (Hs m).size) (ρ2 := ρj) (ρ3 := (ρ.mrg ρj).cut (Hs m).size) (fun c x y q1 q2 => ?_) (fun g k h => h) hb0 hrel
              rw [Ren.cut_some] at q1 ⊢
              exact ⟨q1.1, hmrg1 c y q2⟩
            · exact hkeep m b g s hm' hb hρb hsy0 fun h => absurd h ho
      · obtain ⟨hjm, e⟩ := hnewm m b hm' h3 h2 hb hsy
        rw [e, ← hi b h3 h2]
        exact BRel.restrict (ρ1 := ρj) (ρ2 := ρj) (fun b x y _ h => (hjcut m (by omega) hm').1 b y h) (fun g k h => h) hrel hrel
    · have hnw := hnotwr b (by omega)
      have hsy0 := hsync m b hm' hnw hsy
      refine hkeep m b g s hm' hb h1 hsy0 fun ho => ?_
      by_cases hsame : w'.heap[g]? = w.heap[g]?
      · exact hsame
      · exfalso
        have hb0 := I.blk m hm' b g s hb h1 hsy0
        obtain ⟨b', s', h4, h5, h6, h7, _⟩ := hchg g (hb0.lt ho) hsame
        have hbb : b = b' := I.inj m j hm' (by omega) b b' g s s' hb h4 h1 h5 hsy0 h6 ho h7
        omega
  · /- inj -/
    intro m m' hm1 hm2 b c g s s' hb hc hρb hρc hsb hsc hob hoc
    /- each is known to j's result, or was so before -/
    have key : ∀ m b s, m ≤ ops.size → b < (Hs m).size → ρ.mrg ρj b = some (g, s) → Sync d Hs ops.size (fun i => S i ∨ i = j) m b → own ((Hs m).get b) = true →
        (ρj b = some (g, s) ∧ own (Hm1.get b) = true) ∨ (ρ b = some (g, s) ∧ Sync d Hs ops.size S m b ∧ ¬ Wr d Hs j b) := by
      intro m b s hm' hb hρ hsy ho
      rcases hmrg3 b _ hρ with ⟨h1, h2⟩ | ⟨h1, h2⟩
      · rcases Nat.lt_or_ge b (Hs j).size with h3 | h3
        · by_cases hw : Wr d Hs j b
          · obtain ⟨_, e⟩ := hwrm m b hm' hw hsy h3
            exact .inl ⟨h1, by rw [(hiii b h3 hw).1, ← e]; exact ho⟩
          · exact .inr ⟨hold b _ h3 h1, hsync m b hm' hw hsy, hw⟩
        · obtain ⟨_, e⟩ := hnewm m b hm' h3 h2 hb hsy
          exact .inl ⟨h1, by rw [hi b h3 h2, ← e]; exact ho⟩
      · exact .inr ⟨h1, hsync m b hm' (hnotwr b (by omega)) hsy, hnotwr b (by omega)⟩
    have mixed : ∀ m' b c s s', m' ≤ ops.size → c < (Hs m').size → ρj b = some (g, s) → own (Hm1.get b) = true → ρ c = some (g, s') → Sync d Hs ops.size S m' c → ¬ Wr d Hs j c → own ((Hs m').get c) = true → b = c := by
      intro m' b c s s' hm2 hc h1 h2 h3 h4 h5 hoc
      have hg : g < w.heap.size := (I.blk m' hm2 c g s' hc h3 h4).lt hoc
      obtain ⟨b0, s0, q1, q2, q3, q4, q5⟩ := hownj g hg ⟨b, s, h1, h2⟩
      have e := I.inj j m' (by omega) hm2 b0 c g s0 s' q1 hc q2 h3 q3 h4 q4 hoc
      subst e
      refine hs.rel.inj b b0 g s s' h1 (hcut b0 _ q1 h3) h2 ?_
      rw [hii b0 q1 h5, q5]; exact q4
    rcases key m b s hm1 hb hρb hsb hob with ⟨h1, h2⟩ | ⟨h1, h2, h3⟩
    · rcases key m' c s' hm2 hc hρc hsc hoc with ⟨h4, h5⟩ | ⟨h4, h5, h6⟩
      · exact hs.rel.inj b c g s s' h1 h4 h2 h5
      · exact mixed m' b c s s' hm2 hc h1 h2 h4 h5 h6 hoc
    · rcases key m' c s' hm2 hc hρc hsc hoc with ⟨h4, h5⟩ | ⟨h4, h5, h6⟩
      · exact (mixed m c b s' s hm1 hb h4 h5 h1 h2 h3 hob).symm
      · exact I.inj m m' hm1 hm2 b c g s s' hb hc h1 h4 h2 h5 hob hoc
  · /- ext -/
    intro m hm' b g s hb hρ hsy ho hg
    have hgw : g < w.heap.size := Nat.lt_of_lt_of_le hg I.kp.size
    have viaj : OwnAt ρj Hm1 g → OwnAt ρ0 (Hs 0) g := by
      intro h
      obtain ⟨b0, s0, q1, q2, q3, q4, _⟩ := hownj g hgw h
      exact I.ext j (by omega) b0 g s0 q1 q2 q3 q4 hg
    rcases hmrg3 b _ hρ with ⟨h1, h2⟩ | ⟨h1, h2⟩
    · rcases Nat.lt_or_ge b (Hs j).size with h3 | h3
      · by_cases hw : Wr d Hs j b
        · obtain ⟨_, e⟩ := hwrm m b hm' hw hsy h3
          exact viaj ⟨b, s, h1, by rw [(hiii b h3 hw).1, ← e]; exact ho⟩
        · exact I.ext m hm' b g s hb (hold b _ h3 h1) (hsync m b hm' hw hsy) ho hg
      · obtain ⟨_, e⟩ := hnewm m b hm' h3 h2 hb hsy
        exact viaj ⟨b, s, h1, by rw [hi b h3 h2, ← e]; exact ho⟩
    · exact I.ext m hm' b g s hb h1 (hsync m b hm' (hnotwr b (by omega)) hsy) ho hg
  · /- kp -/
    refine I.kp.trans hs.kp fun g hg h => ?_
    obtain ⟨b, s, h1, h2⟩ := h
    obtain ⟨h3, h4⟩ := Ren.cut_some.1 h1
    rcases hm b h3 with ⟨h5, h6⟩ | h5
    · exact I.ext j (by omega) b g s h3 h4 h6 (by rw [← h5]; exact h2) hg
    · rw [h5] at h2; simp [own] at h2
  · /- new -/
    intro b x hx h0
    rcases hmrg3 b x hx with ⟨h1, h2⟩ | ⟨h1, h2⟩
    · rcases Nat.lt_or_ge b (Hs j).size with h3 | h3
      · exact I.new b x (hold b x h3 h1) h0
      · have := D.mono (m := 0) (m' := j) (by omega) (by omega); omega
    · exact I.new b x h1 h0
  · /- wn -/
    intro k hk t b hd
    rcases hk with hk | rfl
    · obtain ⟨x, hx⟩ := I.wn k hk t b hd
      exact ⟨x, hmrg2 b x hx⟩
    · obtain ⟨x, hx⟩ := hnamed t b hd
      exact ⟨x, hmrg2 b x hx⟩
  · /- fr -/
    intro t m hm' hcond
    obtain ⟨c, hc, hco⟩ := D.at hj
    obtain ⟨_, _, hp, _⟩ := D.step j c hc
    rw [(compCO_spec hco).1] at hp
    by_cases ht : o.dst = some t
    · have hjm : j < m := (hcond j o hj ht).2 (.inr rfl)
      have e1 : (Fs m).get t = (Fs (j + 1)).get t := by
        refine D.frame (by omega) hm' fun k o' h1 h2 hk hdk => ?_
        have hS := ((hcond k o' hk hdk).1 h2).resolve_right (by omega)
        have := hgt k hS (D.tmp hj hk hdk (.inl ht)); omega
      rw [ht, Fr.put_some] at hp
      split at hp
      · rename_i hlt
        rw [Option.some.injEq] at hp
        rw [e1, ← hp, Fr.get_set, if_pos rfl, ht]
        have hlt2 : t < a.tmps.size := by rw [← I.size, ← (D.rest (m := j) (by omega)).1]; exact hlt
        have e2 : (a.put (some t) v').tmps.getD t undef = v' := by simp [Act.put, Array.getD, hlt2]
        rw [e2]
        exact hv.mono (hjcut m (by omega) hm')
      · cases hp
    · have h1 := I.fr t m hm' fun i o' hi hdi => by
        have hne : i ≠ j := fun e => ht (by rw [e, hj] at hi; cases hi; exact hdi)
        have := hcond i o' hi hdi
        simpa [hne] using this
      have e2 : (a.put o.dst v').tmps.getD t undef = a.tmps.getD t undef := by
        cases hd : o.dst with
        | none => rfl
        | some q =>
          have hne : q ≠ t := fun e => ht (by rw [hd, e])
          simp [Act.put, Array.getD_eq_getD_getElem?, hne]
      rw [e2]
      exact h1.mono (hlecut _)
  · /- size -/
    rw [I.size]
    cases o.dst <;> simp [Act.put]
  · /- defers -/
    rw [← I.defers]
    cases o.dst <;> simp [Act.put]

end
end Go.Proofs.YtjmohjemgohlpaaGreatDoor.Am

/- The abstract machine: regions that draw. -/
namespace Go.Proofs.YtjmohjemgohlpaaGreatDoor.Am
open Go

/-- memory at these blocks alone -/
def keepOnly (H : Hp) (t : List Nat) : Hp := { tr := t.foldl (fun tr b => tr.set b (H.get b)) .leaf, size := H.size, low := H.size }
theorem keepOnly_get (H : Hp) (t : List Nat) (b : Nat) : (b ∈ t → (keepOnly H t).get b = H.get b) ∧ (b ∉ t → (keepOnly H t).get b = .dead) := by
  have key : ∀ (t : List Nat) (tr : Tr Blk), (b ∈ t → (t.foldl (fun tr b => tr.set b (H.get b)) tr).get b = some (H.get b)) ∧ (b ∉ t → (t.foldl (fun tr b => tr.set b (H.get b)) tr).get b = tr.get b) := by
    intro t
    induction t with
    | nil => intro tr; exact ⟨fun h => by simp at h, fun _ => rfl⟩
    | cons c t ih =>
      intro tr
      simp only [List.foldl_cons]
      obtain ⟨h1, h2⟩ := ih (tr.set c (H.get c))
      by_cases hb : b ∈ t
      · exact ⟨fun _ => h1 hb, fun h => absurd (by simp [hb]) h⟩
      · rw [h2 hb, Tr.get_set]
        refine ⟨fun h => ?_, fun h => ?_⟩
        · have : b = c := by simpa [hb] using h
          rw [if_pos this, this]
        · have : ¬ b = c := fun e => h (by simp [e])
          rw [if_neg this]
  obtain ⟨h1, h2⟩ := key t .leaf
  refine ⟨fun h => ?_, fun h => ?_⟩
  · show ((keepOnly H t).tr.get b).getD .dead = _
    simp only [keepOnly]; rw [h1 h]; rfl
  · show ((keepOnly H t).tr.get b).getD .dead = _
    simp only [keepOnly]; rw [h2 h]; rfl

theorem wanted_eq_at {ρ : Ren} {P : Program} {F : Fr} {tmps : Array Value} {ops : Array Oper} {o : Oper} {co : CO} (hc : compCO P ops o = some co) (h : ∀ dd b, co.guard = some (dd, b) → VRel ρ (F.get dd) (tmps.getD dd undef)) :
    Region.wanted o (yielded ops tmps) = wanted F co.guard := by
  unfold compCO at hc
  simp only at hc
  split at hc
  · rename_i hg
    cases hc
    simp [Region.wanted, wanted, hg]
  · rename_i j b hg
    split at hc
    · rename_i d hd
      cases hc
      simp only [Region.wanted, hg, wanted, yielded, hd, Option.bind_some]
      have h1 := h d b rfl
      cases hx : tmps[d]? with
      | none =>
        rw [Array.getD_eq_getD_getElem?, hx] at h1
        simp only [Option.getD_none] at h1
        cases hb : F.get d with
        | bool b0 => rw [hb] at h1; have := h1.bool; simp [undef] at this
        | _ => simp
      | some y =>
        rw [Array.getD_eq_getD_getElem?, hx] at h1
        simp only [Option.getD_some] at h1
        cases hb : F.get d with
        | bool b0 => rw [hb] at h1; rw [h1.bool]; simp
        | _ =>
          cases y with
          | bool b1 => rw [hb] at h1; cases h1 <;> simp [flat0] at *
          | _ => simp
    · cases hc

theorem guard_looks {P : Program} {ops : Array Oper} {o : Oper} {co : CO} (hc : compCO P ops o = some co) {dd : Nat} {b : Bool} (hg : co.guard = some (dd, b)) : dd ∈ o.looksAt ops := by
  unfold compCO at hc
  simp only at hc
  split at hc
  · cases hc; cases hg
  · rename_i j b' hgo
    split at hc
    · rename_i d hd
      cases hc
      cases hg
      simp [Oper.looksAt, hgo, hd]
    · cases hc

section
variable {P : Program} {base : Nat} {O : Oracle} {ops : Array Oper} {cl : List CO} {d : List Did} {Fs : Nat → Fr} {Hs : Nat → Hp} {vs : Nat → Value} (D : DrF P O ops cl d Fs Hs vs)
  {ρ0 : Ren} {a0 : Act} {w0 : World} {S : Nat → Prop} {ρ : Ren} {a : Act} {w : World}

theorem DInv.mask (I : DInv P base ops d Fs Hs ρ0 a0 w0 S ρ a w) {j : Nat} (hj : j < ops.size) {Hm : Hp} (hms : Hm.size = (Hs j).size) (hm : ∀ b, b < (Hs j).size → (Hm.get b = (Hs j).get b ∧ Sync d Hs ops.size S j b) ∨ Hm.get b = .dead) :
    HRel P base (ρ.cut (Hs j).size) Hm w := by
  refine ⟨fun b g s hb => ?_, fun b c g s s' hb hc hob hoc => ?_, fun b x hb => by rw [hms]; exact (Ren.cut_some.1 hb).1, I.nlt, I.sz⟩
  · obtain ⟨h1, h2⟩ := Ren.cut_some.1 hb
    rcases hm b h1 with ⟨h3, h4⟩ | h3
    · rw [h3]; exact I.blk j (by omega) b g s h1 h2 h4
    · rw [h3]; trivial
  · obtain ⟨h1, h2⟩ := Ren.cut_some.1 hb
    obtain ⟨k1, k2⟩ := Ren.cut_some.1 hc
    rcases hm b h1 with ⟨h3, h4⟩ | h3
    · rcases hm c k1 with ⟨k3, k4⟩ | k3
      · rw [h3] at hob; rw [k3] at hoc
        exact I.inj j j (by omega) (by omega) b c g s s' h1 k1 h2 k2 h4 k4 hob hoc
      · rw [k3] at hoc; simp [own] at hoc
    · rw [h3] at hob; simp [own] at hob

include D

/-- the values of an operation's operands, when it comes -/
theorem DInv.tmpAt (I : DInv P base ops d Fs Hs ρ0 a0 w0 S ρ a w) {j : Nat} {o : Oper} (hj : ops[j]? = some o) (hjS : ¬ S j) (hpre : ∀ i, ((Region.before ops).getD j 0).testBit i = true → S i) {t : Nat} (ht : t ∈ o.looksAt ops) :
    VRel (ρ.cut (Hs j).size) ((Fs j).get t) (a.tmps.getD t undef) := by
  have hjlt : j < ops.size := (Array.getElem?_eq_some_iff.1 hj).1
  refine I.fr t j (by omega) fun i o' hi hdi => ?_
  by_cases e : i = j
  · subst e; exact ⟨fun h => by omega, fun h => absurd h hjS⟩
  · exact I.ran.sync D hjS hpre e (D.tmp hj hi hdi (.inr ht))

theorem DInv.syncAll (I : DInv P base ops d Fs Hs ρ0 a0 w0 S ρ a w) {j : Nat} {w1 : Bool} (hjlt : j < ops.size) (hjS : ¬ S j) (hpre : ∀ i, ((Region.before ops).getD j 0).testBit i = true → S i) (hd : d[j]? = some (.other w1)) (b : Nat) :
    Sync d Hs ops.size S j b := by
  intro k hk hwk
  by_cases e : k = j
  · subst e; exact ⟨fun h => by omega, fun h => absurd h hjS⟩
  · cases ho : ordered (Region.before ops) k j with
    | true => exact I.ran.sync D hjS hpre e ho
    | false =>
      exfalso
      obtain ⟨x, y, hx, hy, hc⟩ := D.compat hk hjlt ho
      rw [hd] at hy; cases hy
      rcases hwk with ⟨t, hwk⟩ | ⟨hwk, _⟩
      · rw [hwk] at hx; cases hx; cases w1 <;> simp [Am.compat] at hc
      · rw [hwk] at hx; cases hx; simp [Am.compat] at hc

theorem DInv.syncKnown (I : DInv P base ops d Fs Hs ρ0 a0 w0 S ρ a w) {j : Nat} {t : List Nat} {w1 : Option Nat} (hjlt : j < ops.size) (hjS : ¬ S j) (hpre : ∀ i, ((Region.before ops).getD j 0).testBit i = true → S i) (hd : d[j]? = some (.known t w1)) {b : Nat} (hb : b ∈ t) :
    Sync d Hs ops.size S j b := by
  intro k hk hwk
  by_cases e : k = j
  · subst e; exact ⟨fun h => by omega, fun h => absurd h hjS⟩
  · cases ho : ordered (Region.before ops) k j with
    | true => exact I.ran.sync D hjS hpre e ho
    | false =>
      exfalso
      obtain ⟨x, y, hx, hy, hc⟩ := D.compat hk hjlt ho
      rw [hd] at hy; cases hy
      rcases hwk with ⟨t', hwk⟩ | ⟨hwk, _⟩
      · rw [hwk] at hx; cases hx
        simp only [Am.compat, Bool.and_eq_true, Bool.not_eq_true'] at hc
        have h3 := isIn_iff.2 hb
        rw [hc.1] at h3; cases h3
      · rw [hwk] at hx; cases hx; cases w1 <;> simp [Am.compat] at hc

theorem draw_go (hO : OSound P base O) {r : Option Nat} {Q : Exit → Act → World → Prop} (hG : GRel P ρ0) (hlt0 : ∀ b x, ρ0 b = some x → b < (Hs 0).size)
    (hfin : ∀ S ρ a w, (∀ i, i < ops.size → S i) → DInv P base ops d Fs Hs ρ0 a0 w0 S ρ a w → Q .normal a w) :
    ∀ (fuel : Nat) (listed : Array Bool) (U : List Nat) (ρ : Ren) (a : Act) (w : World), listed.size = ops.size → U.length ≤ fuel → (∀ i, i < ops.size → listed.getD i true = false → i ∈ U) →
      DInv P base ops d Fs Hs ρ0 a0 w0 (fun i => listed.getD i false = true) ρ a w → wpAnyIn (WF r) 0 P .any ops Q fuel listed a w := by
  have hend : ∀ (listed : Array Bool) (ρ : Ren) (a : Act) (w : World), listed.size = ops.size → DInv P base ops d Fs Hs ρ0 a0 w0 (fun i => listed.getD i false = true) ρ a w → Region.ready .any ops listed = [] → Q .normal a w := by
    intro listed ρ a w hsz I hr
    refine hfin _ ρ a w (fun i => ?_) I
    induction i using Nat.strongRecOn with
    | _ i ih =>
      intro hi
      cases hx : listed.getD i false with
      | true => rfl
      | false =>
        exfalso
        have : i ∈ Region.ready .any ops listed := by
          rw [mem_ready]
          refine ⟨?_, ops[i], by simp [hi], fun e he hb => ?_⟩
          · simp only [Array.getD_eq_getD_getElem?] at hx ⊢
            rw [Array.getElem?_eq_getElem (by omega)] at hx ⊢
            simpa using hx
          · have hlt := D.edges i ops[i] (by simp [hi]) e he hb
            exact ih e.on hlt (by omega)
        rw [hr] at this; cases this
  intro fuel
  induction fuel with
  | zero =>
    intro listed U ρ a w hsz hU hmem I
    have hnil : Region.ready .any ops listed = [] := by
      rw [List.eq_nil_iff_forall_not_mem]
      intro j hj
      obtain ⟨h1, o, ho, _⟩ := mem_ready.1 hj
      have := hmem j (Array.getElem?_eq_some_iff.1 ho).1 h1
      have : U = [] := by simpa using hU
      subst this
      simp at *
    exact ⟨hnil, hend listed ρ a w hsz I hnil⟩
  | succ fuel ih =>
    intro listed U ρ a w hsz hU hmem I
    refine ⟨hend listed ρ a w hsz I, fun j hjr => ?_⟩
    obtain ⟨hun, o, hj, hedge⟩ := mem_ready.1 hjr
    have hjlt : j < ops.size := (Array.getElem?_eq_some_iff.1 hj).1
    have hjS : ¬ listed.getD j false = true := by
      simp only [Array.getD_eq_getD_getElem?] at hun ⊢
      rw [Array.getElem?_eq_getElem (by omega)] at hun ⊢
      simp at hun ⊢; exact hun
    have hpre : ∀ i, ((Region.before ops).getD j 0).testBit i = true → listed.getD i false = true := before_closed D.edges I.ran.closed j o hj hedge
    /- behind j -/
    have hnext : ∀ ρ' a' w', DInv P base ops d Fs Hs ρ0 a0 w0 (fun i => listed.getD i false = true ∨ i = j) ρ' a' w' → wpAnyIn (WF r) 0 P .any ops Q fuel (listed.setIfInBounds j true) a' w' := by
      intro ρ' a' w' I'
      refine ih (listed.setIfInBounds j true) (U.erase j) ρ' a' w' (by simpa using hsz) ?_ ?_ ?_
      · have := List.length_erase_of_mem (hmem j hjlt hun)
        omega
      · intro i hi h
        by_cases e : i = j
        · subst e
          rw [Array.getD_eq_getD_getElem?, Array.getElem?_setIfInBounds_self_of_lt (by omega)] at h
          simp at h
        · rw [getD_set_ne true (Ne.symm e)] at h
          exact (List.mem_erase_of_ne e).2 (hmem i hi h)
      · have e : (fun i => (listed.setIfInBounds j true).getD i false = true) = fun i => listed.getD i false = true ∨ i = j := by
          funext i
          by_cases e : i = j
          · subst e
            rw [Array.getD_eq_getD_getElem?, Array.getElem?_setIfInBounds_self_of_lt (by omega)]
            simp
          · rw [getD_set_ne false (Ne.symm e)]
            simp [e]
        rw [e]
        exact I'
    obtain ⟨c, hc, hco⟩ := D.at hj
    obtain ⟨x, hdx, hp, hstep⟩ := D.step j c hc
    obtain ⟨hdst, hop⟩ := compCO_spec hco
    obtain ⟨hmono, hunch, hkn, _, hquiet⟩ := D.mem hjlt
    have hwant := wanted_eq_at (ρ := ρ.cut (Hs j).size) (F := Fs j) (tmps := a.tmps) hco fun dd b hg => I.tmpAt D hj hjS hpre (guard_looks hco hg)
    have hleaf : ∀ b, ({ tr := .leaf, size := (Hs j).size, low := (Hs j).size } : Hp).get b = .dead := fun b => rfl
    unfold wpOpIn
    simp only [hj]
    rw [hwant]
    rcases hstep with ⟨hw, H2, hv, htr, hsz2, hx⟩ | ⟨hw, hvu, hh, hx⟩
    · rw [hw]
      simp only [if_true]
      cases hcc : compOp P o with
      | none => rw [hop, hcc] at hv; simp [opA, COp.isPure, memOp] at hv
      | some cop =>
        have hcop : c.op = cop := by rw [hop, hcc]; rfl
        rw [hcop] at hv hx
        obtain ⟨hokP, _⟩ := compOp_op hcc
        /- operands -/
        have hGc : GRel P (ρ.cut (Hs j).size) := fun g hg => by
          rw [Ren.cut_some]
          have h1 := hG g hg
          exact ⟨Nat.lt_of_lt_of_le (hlt0 g _ h1) (D.mono (m := 0) (m' := j) (by omega) (by omega)), I.le.1 _ _ h1⟩
        have he : EvR (fun y => okOpd P y && (match y with | .tmp t => (o.looksAt ops).contains t | _ => true)) (ρ.cut (Hs j).size) (Fs j) a := by
          intro y hy
          simp only [Bool.and_eq_true] at hy
          cases y with
          | tmp t =>
            have h1 := hy.2
            simp only [List.contains_eq_mem, decide_eq_true_eq] at h1
            exact I.tmpAt D hj hjS hpre h1
          | const v => exact VRel.of_flat hy.1
          | global g =>
            have := VRel.pointer (a := ⟨g, 0, none⟩) (hGc g (by simpa [okOpd] using hy.1))
            simpa [Fr.eval, Act.eval] using this
          | func f => exact .func rfl rfl (fun i v v' h _ => by simp at h) (fun i v v' h _ => by simp at h)
        have hok : ∀ y ∈ o.op.operands, (okOpd P y && (match y with | .tmp t => (o.looksAt ops).contains t | _ => true)) = true := by
          intro y hy
          rw [Bool.and_eq_true]
          refine ⟨hokP y hy, ?_⟩
          cases y with
          | tmp t =>
            simp only [List.contains_eq_mem, decide_eq_true_eq]
            unfold Oper.looksAt
            exact List.mem_append_left _ (List.mem_filterMap.2 ⟨.tmp t, by simpa using hy, rfl⟩)
          | _ => rfl
        /- the operation, on memory as it may look at it -/
        have run : ∀ (Hm Hm1 : Hp), Hm.size = (Hs j).size → (∀ b, b < (Hs j).size → (Hm.get b = (Hs j).get b ∧ Sync d Hs ops.size (fun i => listed.getD i false = true) j b) ∨ Hm.get b = .dead) → opA O (Fs j) Hm cop = some (vs j, Hm1) → Hm1.size = (Hs (j + 1)).size →
            (∀ b, (Hs j).size ≤ b → b < (Hs (j + 1)).size → Hm1.get b = (Hs (j + 1)).get b) → (∀ b, b < (Hs j).size → ¬ Wr d Hs j b → Hm1.get b = Hm.get b) →
            (∀ b, b < (Hs j).size → Wr d Hs j b → Hm1.get b = (Hs (j + 1)).get b ∧ Hm.get b = (Hs j).get b ∧ Sync d Hs ops.size (fun i => listed.getD i false = true) j b) → (∀ t b, d[j]? = some (.known t (some b)) → ∃ x, ρ b = some x) →
            o.wpIn (WF r) 0 P a w (wpAnyIn (WF r) 0 P .any ops Q fuel (listed.setIfInBounds j true)) Q := by
          intro Hm Hm1 h1 h2 h3 h4 h5 h6 h7 h8
          refine op_wp_ev hO hcc h3 (I.mask hjlt h1 h2) hGc he hok fun ρj v' w' hv' hs => ?_
          exact hnext _ _ _ (I.step D hj hjS hedge h1 h2 h4 h5 h6 h7 h8 hv' hs)
        have hgetS : ∀ b, (Hs (j + 1)).get b = H2.get b := Hp.get_tr htr
        cases hpu : cop.isPure with
        | true =>
          have hd : d[j]? = some .quiet := by rw [hdx, hx]; simp [didOf, hpu]
          have hpv : pureOp (Fs j) cop = some (vs j) := by
            unfold opA at hv
            split at hv
            · simp [COp.isPure] at hpu
            · rw [hpu] at hv
              simp only [if_true, Option.map_eq_some_iff, Prod.mk.injEq] at hv
              obtain ⟨u, h1, h2, _⟩ := hv
              rw [h1, h2]
          have hop' : opA O (Fs j) { tr := .leaf, size := (Hs j).size, low := (Hs j).size } cop = some (vs j, { tr := .leaf, size := (Hs j).size, low := (Hs j).size }) := by
            unfold opA
            split
            · simp [COp.isPure] at hpu
            · rw [hpu, hpv]; rfl
          have hsq := hquiet hd
          have hnw : ∀ b, ¬ Wr d Hs j b := by
            rintro b (⟨t, h⟩ | ⟨h, _⟩) <;> (rw [hd] at h; cases h)
          exact run { tr := .leaf, size := (Hs j).size, low := (Hs j).size } { tr := .leaf, size := (Hs j).size, low := (Hs j).size } rfl (fun b _ => .inr (hleaf b)) hop' hsq.symm (fun b h1 h2 => by omega) (fun b _ _ => rfl) (fun b _ h => absurd h (hnw b)) (fun t b h => by rw [hd] at h; cases h)
        | false =>
          cases htc : touch (Fs j) cop with
          | some t =>
            have hd : d[j]? = some (.known t (if Nat.blt H2.low (Hs j).size then some H2.low else none)) := by rw [hdx, hx]; simp [didOf, hpu, htc]
            obtain ⟨Hm1, hv1, kf⟩ := known_frame (t := t) (H := { tr := (Hs j).tr, size := (Hs j).size, low := (Hs j).size }) (H' := keepOnly (Hs j) t) rfl rfl (fun b hb => (keepOnly_get (Hs j) t b).1 hb) htc hv
            have hwr : ∀ b, Wr d Hs j b → b = H2.low ∧ b < (Hs j).size ∧ b ∈ t := by
              rintro b (⟨t', h⟩ | ⟨h, _⟩)
              · have h1 := hkn t' b h
                rw [hd] at h
                simp only [Option.some.injEq, Did.known.injEq] at h
                obtain ⟨rfl, h⟩ := h
                split at h
                · cases h; exact ⟨rfl, h1.2, h1.1⟩
                · cases h
              · rw [hd] at h; cases h
            refine run (keepOnly (Hs j) t) Hm1 rfl (fun b _ => ?_) hv1 (by rw [kf.size, hsz2]) (fun b h1 h2 => by rw [hgetS]; exact kf.same b (by omega) (.inr h1)) (fun b h1 h2 => ?_) (fun b h1 h2 => ?_) (fun t' b h => ?_)
            · by_cases hbt : b ∈ t
              · exact .inl ⟨(keepOnly_get (Hs j) t b).1 hbt, I.syncKnown D hjlt hjS hpre hd hbt⟩
              · exact .inr ((keepOnly_get (Hs j) t b).2 hbt)
            · refine (kf.old b h1 fun e => h2 (.inl ⟨t, ?_⟩)).2
              have : Nat.blt H2.low (Hs j).size = true := by rw [Nat.blt_eq, ← e]; exact h1
              rw [hd, this, e]; rfl
            · obtain ⟨_, _, h5⟩ := hwr b h2
              exact ⟨by rw [hgetS]; exact kf.same b (by have := kf.grow; simp only at this; omega) (.inl h5), (keepOnly_get (Hs j) t b).1 h5, I.syncKnown D hjlt hjS hpre hd h5⟩
            · have h0 := hwr b (.inl ⟨t', h⟩)
              obtain ⟨y, hy⟩ := known_named he hcc hok htc rfl hv (by simp only; rw [← h0.1]; exact h0.2.1)
              rw [← h0.1] at hy
              exact ⟨y, (Ren.cut_some.1 hy).2⟩
          | none =>
            have hd : d[j]? = some (.other (Nat.blt H2.low (Hs j).size)) := by rw [hdx, hx]; simp [didOf, hpu, htc]
            refine run { tr := (Hs j).tr, size := (Hs j).size, low := (Hs j).size } H2 rfl (fun b _ => .inl ⟨rfl, I.syncAll D hjlt hjS hpre hd b⟩) hv hsz2.symm (fun b _ _ => (hgetS b).symm) (fun b h1 h2 => ?_) (fun b h1 h2 => ⟨(hgetS b).symm, rfl, I.syncAll D hjlt hjS hpre hd b⟩) (fun t b h => by rw [hd] at h; cases h)
            have := hunch b h1 h2
            rw [hgetS] at this
            exact this
    · rw [hw]
      simp only [Bool.false_eq_true, if_false]
      refine ⟨fun _ _ => trivial, hnext (ρ.mrg (ρ.cut (Hs j).size)) _ _ ?_⟩
      have hd : d[j]? = some .quiet := by rw [hdx, hx]
      have hnw : ∀ b, ¬ Wr d Hs j b := by
        rintro b (⟨t, h⟩ | ⟨h, _⟩) <;> (rw [hd] at h; cases h)
      have hmask := I.mask hjlt (Hm := { tr := .leaf, size := (Hs j).size, low := (Hs j).size }) rfl (fun b _ => .inr (hleaf b))
      exact I.step D hj hjS hedge (Hm := { tr := .leaf, size := (Hs j).size, low := (Hs j).size }) (Hm1 := { tr := .leaf, size := (Hs j).size, low := (Hs j).size }) rfl (fun b _ => .inr (hleaf b)) (by rw [hh]) (fun b h1 h2 => by rw [hh] at h2; omega) (fun b _ _ => rfl) (fun b _ h => absurd h (hnw b)) (fun t b h => by rw [hd] at h; cases h)
        (by rw [hvu]; exact VRel.undef _) (Sim.refl hmask)
end

theorem draw_ok {P : Program} {base : Nat} {O : Oracle} (hm : P.follows .mixedOrders = true) (hO : OSound P base O) (hL : OLow O) : DrawOK P base O := by
  intro id ops l F F1 H H1 d hord hcomp hx hap ρ a w r hH hG hS hr
  obtain ⟨Fs, Hs, vs, k1, k2, k3, k4, k5, k6⟩ := drawA_steps hx
  have D : DrF P O ops l d Fs Hs vs := ⟨hord, hcomp, hap, k6, k5, hL⟩
  refine wpIn_region_any hm ?_
  have hH0 : HRel P base ρ H { w with drawn := w.drawn + 1 } := hH.heap rfl
  have s0 : Sim P base ρ H w ρ H { w with drawn := w.drawn + 1 } := Sim.of_heap hH rfl rfl rfl rfl
  generalize ({ w with drawn := w.drawn + 1 } : World) = w0 at hH0 s0
  have hcutle : ∀ m, m ≤ ops.size → Ren.le ρ (ρ.cut (Hs m).size) := fun m hm' => ⟨fun b x hb => by
    rw [Ren.cut_some]
    have h1 := hH0.lt b x hb
    have h2 := D.mono (m := 0) (m' := m) (by omega) hm'
    rw [k2] at h2
    exact ⟨by omega, hb⟩, fun _ _ h => h⟩
  have hcont : ∀ m b g s, m ≤ ops.size → ρ b = some (g, s) → Sync d Hs ops.size (fun _ => False) m b → (Hs m).get b = H.get b := by
    intro m b g s hm' hb hsy
    rw [← k2]
    refine D.content (by omega) hm' (by rw [k2]; exact hH0.lt b _ hb) fun k _ h2 hwk => (hsy k (by omega) hwk).1 h2
  have I0 : DInv P base ops d Fs Hs ρ a w0 (fun _ => False) ρ a w0 := by
    refine ⟨⟨fun _ h => h.elim, fun _ h => h.elim⟩, fun b x hb => .inl (by rw [k2]; exact hH0.lt b x hb), ?_, ?_, hH0.nlt, hH0.sz, ?_, Kp.refl _ _, Ren.le_refl _, fun b x h1 h2 => (by rw [h1] at h2; cases h2), fun _ h => h.elim, ?_, ?_, rfl⟩
    · intro m hm' b g s hb hρ hsy
      rw [hcont m b g s hm' hρ hsy]
      exact BRel.restrict (ρ1 := ρ) (ρ2 := ρ) (fun c x y _ h => (hcutle m hm').1 c y h) (fun g k h => h) (hH0.blk b g s hρ) (hH0.blk b g s hρ)
    · intro m m' hm1 hm2 b c g s s' hb hc hρb hρc hsb hsc hob hoc
      rw [hcont m b g s hm1 hρb hsb] at hob
      rw [hcont m' c g s' hm2 hρc hsc] at hoc
      exact hH0.inj b c g s s' hρb hρc hob hoc
    · intro m hm' b g s hb hρ hsy ho _
      rw [hcont m b g s hm' hρ hsy] at ho
      exact ⟨b, s, hρ, by rw [k2]; exact ho⟩
    · intro t m hm' hcond
      have : (Fs m).get t = (Fs 0).get t := D.frame (by omega) hm' fun k o _ h2 hk hdk => (hcond k o hk hdk).1 h2
      rw [this, k1]
      exact (hS.fr.get t).mono (hcutle m hm')
    · rw [k1]; exact hS.fr.n
  have hS0 : (fun i => (Array.replicate ops.size false).getD i false = true) = fun _ => False := by
    funext i
    simp only [Array.getD_eq_getD_getElem?, Array.getElem?_replicate]
    split <;> simp
  refine draw_go D hO hG (fun b x hb => by rw [k2]; exact hH0.lt b x hb) ?_ ops.size (Array.replicate ops.size false) (List.range ops.size) ρ a w0 (by simp) (by simp) (fun i hi _ => by simpa using hi) (by rw [hS0]; exact I0)
  intro S ρ' a' w' hall I
  have hN : l.length = ops.size := D.len.symm
  rw [hN] at k3 k4
  have hrest := D.rest (m := ops.size) (Nat.le_refl _)
  have hsync : ∀ b, Sync d Hs ops.size S ops.size b := fun b k hk _ => ⟨fun _ => hall k hk, fun _ => hk⟩
  refine ⟨rfl, by rw [← k3, hrest.2.2, k1], ρ'.cut H1.size, ?_, ?_⟩
  · have hle : Ren.le ρ (ρ'.cut H1.size) := ⟨fun b x hb => by
      rw [Ren.cut_some]
      have h1 := hH0.lt b x hb
      have h2 := D.mono (m := 0) (m' := ops.size) (by omega) (Nat.le_refl _)
      rw [k2, k4] at h2
      exact ⟨by omega, I.le.1 b x hb⟩, I.le.2⟩
    refine ⟨⟨?_, fun t => ?_⟩, ?_⟩
    · rw [← k3, hrest.1, I.size]
    · rw [← k3, ← k4]
      exact I.fr t ops.size (Nat.le_refl _) fun i o hi _ => by
        have := (Array.getElem?_eq_some_iff.1 hi).1
        exact ⟨fun _ => hall i this, fun _ => this⟩
    · rw [← k3, hrest.2.1, k1, I.defers]
      exact MRel.mono hle hS.marks
  · refine s0.trans ⟨?_, ?_, ?_, ?_, ?_, ?_⟩
    · exact ⟨fun b x hb => by
        rw [Ren.cut_some]
        have h1 := hH0.lt b x hb
        have h2 := D.mono (m := 0) (m' := ops.size) (by omega) (Nat.le_refl _)
        rw [k2, k4] at h2
        exact ⟨by omega, I.le.1 b x hb⟩, I.le.2⟩
    · rw [← k4]
      refine ⟨fun b g s hb => ?_, fun b c g s s' hb hc hob hoc => ?_, fun b x hb => (Ren.cut_some.1 hb).1, I.nlt, I.sz⟩
      · obtain ⟨h1, h2⟩ := Ren.cut_some.1 hb
        exact I.blk ops.size (Nat.le_refl _) b g s h1 h2 (hsync b)
      · obtain ⟨h1, h2⟩ := Ren.cut_some.1 hb
        obtain ⟨h3, h4⟩ := Ren.cut_some.1 hc
        exact I.inj ops.size ops.size (Nat.le_refl _) (Nat.le_refl _) b c g s s' h1 h3 h2 h4 (hsync b) (hsync c) hob hoc
    · have := I.kp; rw [k2] at this; exact this
    · rintro g hg ⟨b, s, hb, ho⟩
      obtain ⟨h1, h2⟩ := Ren.cut_some.1 hb
      rw [← k4] at h1 ho
      have := I.ext ops.size (Nat.le_refl _) b g s h1 h2 (hsync b) ho hg
      rw [k2] at this; exact this
    · have h2 := D.mono (m := 0) (m' := ops.size) (by omega) (Nat.le_refl _)
      rw [k2, k4] at h2; exact h2
    · intro b x hb h0
      have := I.new b x (Ren.cut_some.1 hb).2 h0
      rw [k2] at this; exact this

end Go.Proofs.YtjmohjemgohlpaaGreatDoor.Am

/- The abstract machine is sound. -/
namespace Go.Proofs.YtjmohjemgohlpaaGreatDoor.Am
open Go

/-- the functions' code, and what is known of those that have none here -/
structure EnvOK (P : Program) (base : Nat) (E : Env) : Prop where
  mixed : P.follows .mixedOrders = true
  code : ∀ f cf, E.code f = some cf → ∃ fn, P.funcs[f]? = some fn ∧ compF P fn = some cf
  prim : ∀ {f args H v H'}, E.code f = none → E.prim f args H = some (v, H') → ∀ {ρ w args'}, HRel P base ρ H w → GRel P ρ → VsRel ρ args.toList args'.toList → EnterOK P base ρ H w v H' (callFunc f args')
  low : ∀ {f args H v H1}, E.prim f args H = some (v, H1) → LowOK H H1

section
variable {P : Program} {base : Nat} {E : Env}

theorem oracle_sound (hE : EnvOK P base E) : ∀ n, OSound P base (oracle E n) := by
  intro n
  induction n with
  | zero =>
    refine ⟨fun h => ?_, fun h => ?_, fun _ h => ?_, fun h => ?_⟩
    all_goals simp [oracle] at h
  | succ n ih =>
    have hD : DrawOK P base (oracle E n) := draw_ok hE.mixed ih (oracle_low hE.low n)
    refine ⟨?_, ?_, ?_, ?_⟩
    · intro f args H v H' h ρ w args' hH hG ha
      simp only [oracle] at h
      split at h
      · rename_i cf hcf
        obtain ⟨fn, h1, h2⟩ := hE.code f cf hcf
        exact callBody_sim ih hD h1 h2 h hH hG ha
      · rename_i hcf
        exact hE.prim hcf h hH hG ha
    · intro l args H v H' h ρ w l' args' hH hG hl ha
      exact roundBody_sim ih hD h hH hG hl ha
    · intro cc c F H e F1 H1 hc h ρ a w r hH hG hS hr
      exact exec_sim ih hD n c hc h hH hG hS hr
    · intro f h args w
      simp only [oracle] at h
      obtain ⟨cf, hcf⟩ := Option.isSome_iff_exists.1 h
      obtain ⟨fn, h1, h2⟩ := hE.code f cf hcf
      unfold compF at h2
      split at h2
      · cases h2
      · rename_i c hb
        split at h2
        · cases h2
        · rename_i hname
          have : ¬ fn.name = "runtime.NumGoroutine" := by simpa using hname
          simp [callFunc, h1, this, hb]

/-- A CALL, AS THE ABSTRACT MACHINE HAS IT. -/
theorem call_sim (hE : EnvOK P base E) {n : Nat} {f : FuncId} {args args' : Array Value} {H H' : Hp} {v : Value} (h : call E n f args H = some (v, H')) (hf : (E.code f).isSome = true) {ρ : Ren} {w : World} (hH : HRel P base ρ H w) (hG : GRel P ρ) (ha : VsRel ρ args.toList args'.toList) :
    Calls P f args' w fun e w' => ∃ v', e = .returned v' ∧ ∃ ρ', VRel ρ' v v' ∧ Sim P base ρ H w ρ' H' w' := by
  obtain ⟨nx, w1, h1, h2⟩ := (oracle_sound hE n).cf h hH hG ha
  have hown := (oracle_sound hE 1).own (f := f) (by simp only [oracle]; exact hf) args' w
  rw [h1] at hown
  cases hown
  exact callsIn_wide.1 h2

/-! ### The start -/
/-- names of the globals -/
def ren0 (P : Program) : Ren := ⟨fun b => if b < P.globals.size then some (b, 0) else none, fun _ => none⟩
theorem gRel0 (P : Program) : GRel P (ren0 P) := fun g hg => by simp [ren0, hg]

/-- memory in which nothing is the call's own yet, and what lies there is what the world has -/
structure Start (P : Program) (H : Hp) (w : World) : Prop where
  size : H.size = P.globals.size
  laid : ∀ b, b < P.globals.size → H.get b = .dead ∨ ∃ c, H.get b = .row c false ∧ c ≠ [] ∧ ∀ (i : Nat) v, c[i]? = some v → flat0 v = true ∧ w.cell? ⟨b, i, none⟩ = some v

theorem Start.hrel {H : Hp} {w : World} (h : Start P H w) : HRel P w.heap.size (ren0 P) H w := by
  have hn : ∀ b x, ren0 P b = some x → b < P.globals.size ∧ x = (b, 0) := by
    intro b x hx
    simp only [ren0] at hx
    split at hx
    · cases hx; exact ⟨‹_›, rfl⟩
    · cases hx
  have hown : ∀ b x, ren0 P b = some x → own (H.get b) = false := by
    intro b x hx
    rcases h.laid b (hn b x hx).1 with e | ⟨c, e, _, _⟩ <;> rw [e] <;> rfl
  refine ⟨fun b g s hb => ?_, fun b c g s s' hb _ hob _ => ?_, fun b x hb => ?_, fun g k hk => ?_, Nat.le_refl _⟩
  · obtain ⟨h1, h2⟩ := hn b _ hb
    cases h2
    rcases h.laid b h1 with e | ⟨c, e, hne, hc⟩
    · rw [e]; trivial
    · rw [e]
      have hlt : b < w.heap.size := by
        cases c with
        | nil => exact absurd rfl hne
        | cons x r => exact block_lt_of_cell (hc 0 x rfl).2
      refine ⟨hlt, fun i v hv => ?_⟩
      obtain ⟨h3, h4⟩ := hc i v hv
      exact ⟨v, by simpa using h4, .flat h3⟩
  · rw [hown b _ hb] at hob; cases hob
  · rw [h.size]; exact (hn b x hb).1
  · simp [ren0] at hk

/-- A CALL FROM THE START: what it hands back, where that bears no address; what lay there stays. -/
theorem call_start {H H' : Hp} {w : World} (hS : Start P H w) (hE : EnvOK P w.heap.size E) {n : Nat} {f : FuncId} {args : Array Value} {v : Value} (h : call E n f args H = some (v, H')) (hf : (E.code f).isSome = true) (ha : args.all flat = true) (hv : flat0 v = true) :
    Calls P f args w fun e w' => e = .returned v ∧ w.heap.size ≤ w'.heap.size ∧ w'.os = w.os ∧ w'.tape = w.tape ∧ w'.output = w.output ∧ ∀ g, g < w.heap.size → w'.heap[g]? = w.heap[g]? := by
  have hargs : VsRel (ren0 P) args.toList args.toList := ⟨rfl, fun i x x' h1 h2 => by
    rw [h1] at h2; cases h2
    exact .of_flat (Array.all_eq_true_iff_forall_mem.1 ha x (Array.mem_of_getElem? (by simpa using h1)))⟩
  refine Calls.mono (call_sim hE h hf hS.hrel (gRel0 P) hargs) ?_
  rintro e w' ⟨v', rfl, ρ', h1, h2⟩
  have := h1.eq_of_flat0 hv
  subst this
  refine ⟨rfl, h2.kp.size, h2.kp.os, h2.kp.tape, h2.kp.output, fun g hg => h2.kp.same g hg ?_⟩
  rintro ⟨b, s, hb, ho⟩
  have := (hS.hrel.blk b g s hb).base ho
  omega
end

end Go.Proofs.YtjmohjemgohlpaaGreatDoor.Am

/- The abstract machine: from a call to what a law asks. -/
namespace Go.Proofs.YtjmohjemgohlpaaGreatDoor.Am
open Go Go.ChangeShapes Go.WideShapes

/-- what lay there lies there as it did -/
structure Kept (w w' : World) : Prop where
  size : w.heap.size ≤ w'.heap.size
  os : w'.os = w.os
  output : w'.output = w.output
  same : ∀ g, g < w.heap.size → w'.heap[g]? = w.heap[g]?

theorem Kept.keptBut {w w' : World} (h : Kept w w') (may : MemPlace → Prop) : w.keptBut w' may := by
  refine ⟨h.os, h.output, fun i hi => ?_⟩
  rw [h.same i hi]
  cases w.heap[i]? with
  | none => rfl
  | some o => cases o <;> simp

/-- A CALL FROM A MEMORY OF WHICH NOTHING IS KNOWN, at values without an address, to a value without one. -/
theorem call_bare {P : Program} {E : Env} (hE : ∀ base, EnvOK P base E) {n : Nat} {f : FuncId} {args : Array Value} {v : Value} {H' : Hp} (h : call E n f args { tr := .leaf, size := P.globals.size, low := P.globals.size } = some (v, H')) (hf : (E.code f).isSome = true)
    (ha : args.all flat = true) (hv : flat0 v = true) (w : World) : Calls P f args w fun e w' => e = .returned v ∧ Kept w w' := by
  refine Calls.mono (call_start (w := w) ⟨rfl, fun b _ => .inl rfl⟩ (hE _) h hf ha hv) ?_
  rintro e w' ⟨h1, h2, h3, h4, h5, h6⟩
  exact ⟨h1, h2, h3, h5, h6⟩

section
variable {K : Type} {enc : TypeId × Value → K} {P : Program}

/-- what was there is read as it was, and the result is new -/
theorem post_of_kept {f : Func} {s : ChangeSpec} {apart fresh handsOn again : Bool} {W W' : World} {args : Array Value} {v : Value} {ds gs : List (DataW K)} {before pa pv : List MemPlace}
    (hW : DataW.Whole enc P f.params.toList s.vars apart W args.toList ds gs before)
    (hres : ∀ (b : Nat) (sp : Nat → Bool) (hd : Bool), DataW.TrodAll enc P W' b sp hd f.resultTypes.toList (v.resultList f.resultTypes.size) (s.fn K (ds ++ gs)).results [])
    (hargs : ∀ sp : Nat → Bool, (∀ p ∈ before, sp p.block = true) → DataW.TrodAll enc P W' 0 sp true f.params.toList args.toList (s.fn K (ds ++ gs)).args pa)
    (hvars : ∀ sp : Nat → Bool, (∀ p ∈ before, sp p.block = true) → DataW.TrodVars enc P W' sp s.vars (s.fn K (ds ++ gs)).vars pv)
    (hps : before = pa ++ pv) (hk : Kept W W')
    (hok : ∀ (j : Nat) (t : TypeId) (r : Value), f.resultTypes[j]? = some t → (v.resultList f.resultTypes.size)[j]? = some r → Value.okWide P W' .any 0 t r) :
    s.post enc P f apart fresh handsOn again W args v W' := by
  have hlt := fun p hp => hW.lt (p := p) hp
  have hold : ∀ p ∈ before, (fun b => decide (b < W.heap.size)) p.block = true := fun p hp => by simpa using hW.lt p hp
  refine ⟨ds, gs, before, [], pa, pv, hW, hres _ _ _, hargs _ hold, hvars _ hold, World.keptBut_mono (fun p hp => ⟨hp, ?_⟩) (hk.keptBut (· ∈ before)), fun _ => ?_⟩
  · rw [hps, List.mem_append] at hp
    exact Or.inr hp
  · have hlt2 : ∀ p ∈ before, p.block < W.heap.size := fun p hp => hW.lt p hp
    obtain ⟨_, _, _, _, _, hz, hn⟩ := hW
    refine ⟨hok, _, _, ([] ++ pa) ++ pv, ⟨[] ++ pa, pv, trodAll_append (hargs _ (fun _ _ => rfl)) (hres _ _ _), hvars _ (fun _ _ => rfl), rfl, ?_, ?_⟩, ?_⟩
    · intro b off hp
      have hp' : MemPlace.cell b off ∈ before := by rw [hps]; simpa using hp
      have hb : b < W.heap.size := hlt2 _ hp'
      have := hz b off hp'
      simp only [World.frozen?, hk.same b hb] at this ⊢
      exact this
    · intro ha
      have := hn ha
      rw [hps] at this
      simpa using this
    · intro p hp _
      rw [hps]
      simpa using hp
end
end Go.Proofs.YtjmohjemgohlpaaGreatDoor.Am
