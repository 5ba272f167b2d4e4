/- Calls that panic; a function that defers a closure that recovers. By an AI agent. No person has read it. -/
import Derived.Test.YtiblfhiiombfcaaGreatDoorAm5

/- The abstract machine: calls that panic (with one value, known ahead), and what the model says of them. By an AI agent. No person has read it. -/
namespace Go.Proofs.YtiblfhiiombfcaaGreatDoor.Am
open Go

/-- which calls panic, and the memory behind -/
abbrev PF := FuncId → Array Value → Hp → Option Hp

def callP (pf : PF) (H : Hp) (f : Value) (args : List Value) : Option Hp :=
  match f with
  | .func (.func g) first captured => pf g (first ++ args.toArray ++ captured) H
  | _ => none
def opP (pf : PF) (F : Fr) (H : Hp) (o : COp) : Option Hp :=
  match o with
  | .call f args => callP pf H (F.eval f) (args.map F.eval)
  | _ => none
/-- operations of which one panics -/
def opsP (O : Oracle) (pf : PF) : List CO → Fr → Hp → Option Hp
  | [], _, _ => none
  | o :: r, F, H =>
    match wanted F o.guard with
    | true => match opA O F H o.op with
      | some (v, H1) => match F.put o.dst v with
        | some F1 => opsP O pf r F1 H1
        | none => none
      | none => opP pf F H o.op
    | false => match F.put o.dst undef with
      | some F1 => opsP O pf r F1 H
      | none => none
def iterP (f : Fr → Hp → Option (Ex × Fr × Hp)) (g : Fr → Hp → Option Hp) : Nat → Fr → Hp → Option Hp
  | 0, _, _ => none
  | n + 1, F, H =>
    match f F H with
    | some (.normal, F1, H1) => iterP f g n F1 H1
    | some _ => none
    | none => g F H
/-- code that panics -/
def execP (O : Oracle) (pf : PF) (n : Nat) : CC → Fr → Hp → Option Hp
  | .ops l, F, H => match F.marks with
    | [] => opsP O pf l F H
    | _ => none
  | .seq a b, F, H =>
    match exec O n a F H with
    | some (.normal, F1, H1) => execP O pf n b F1 H1
    | some _ => none
    | none => execP O pf n a F H
  | .cond c a b, F, H =>
    match F.eval c with
    | .bool true => execP O pf n a F H
    | .bool false => execP O pf n b F H
    | _ => none
  | .block _ c, F, H => execP O pf n c F H
  | .loop c, F, H => iterP (exec O n c) (execP O pf n c) n F H
  | .scope c, F, H => execP O pf n c F H
  | _, _, _ => none

/-- a call that panics; function nd is the one that does, where it is given 'false' -/
def pcall (E : Env) (nd : FuncId) : Nat → PF
  | 0 => fun _ _ _ => none
  | n + 1 => fun f args H =>
    cond (Nat.beq f nd) (match args.toList with
      | [.bool false] => some H
      | _ => none)
    (match E.code f with
      | some cf => if cf.n < args.size then none else execP (oracle E n) (pcall E nd n) n cf.body (Fr.ofArgs args cf.n) H
      | none => none)

/-! ### What panics does not end otherwise -/
theorem opsP_none {O : Oracle} {pf : PF} : ∀ {l : List CO} {F : Fr} {H H1 : Hp}, opsP O pf l F H = some H1 → opsA O l F H = none := by
  intro l
  induction l with
  | nil => intro F H H1 h; cases h
  | cons o r ih =>
    intro F H H1 h
    simp only [opsP] at h
    simp only [opsA]
    cases hw : wanted F o.guard with
    | true =>
      rw [hw] at h
      simp only at h ⊢
      cases ha : opA O F H o.op with
      | none => rfl
      | some p =>
        obtain ⟨v, H2⟩ := p
        rw [ha] at h
        simp only at h ⊢
        cases hp : F.put o.dst v with
        | none => rfl
        | some F1 => rw [hp] at h; exact ih h
    | false =>
      rw [hw] at h
      simp only at h ⊢
      cases hp : F.put o.dst undef with
      | none => rfl
      | some F1 => rw [hp] at h; exact ih h
theorem iterP_none {f : Fr → Hp → Option (Ex × Fr × Hp)} {g : Fr → Hp → Option Hp} : ∀ {n : Nat} {F : Fr} {H H1 : Hp}, iterP f g n F H = some H1 → iterA f n F H = none := by
  intro n
  induction n with
  | zero => intro F H H1 h; cases h
  | succ n ih =>
    intro F H H1 h
    simp only [iterP] at h
    simp only [iterA]
    split at h
    · rename_i F1 H2 hf; rw [hf]; exact ih h
    · cases h
    · rename_i hf; rw [hf]
theorem execP_none {O : Oracle} {pf : PF} {n : Nat} : ∀ {c : CC} {F : Fr} {H H1 : Hp}, execP O pf n c F H = some H1 → exec O n c F H = none := by
  intro c
  induction c with
  | ops l =>
    intro F H H1 h
    simp only [execP] at h
    split at h
    · simp only [exec, opsP_none h]
    · cases h
  | seq a b iha ihb =>
    intro F H H1 h
    simp only [execP] at h
    simp only [exec]
    split at h
    · rename_i F1 H2 hf; rw [hf]; exact ihb h
    · cases h
    · rename_i hf; rw [hf]
  | cond c a b iha ihb =>
    intro F H H1 h
    simp only [execP] at h
    simp only [exec]
    split at h
    · rename_i hb; rw [hb]; exact iha h
    · rename_i hb; rw [hb]; exact ihb h
    · cases h
  | block id c ih =>
    intro F H H1 h
    simp only [execP] at h
    simp only [exec, ih h]
  | loop c ih =>
    intro F H H1 h
    simp only [execP] at h
    simp only [exec]
    exact iterP_none h
  | scope c ih =>
    intro F H H1 h
    simp only [execP] at h
    simp only [exec, ih h]
  | _ => intro F H H1 h; cases h
theorem pcall_none {E : Env} {nd : FuncId} (hnd : ∀ n H, (oracle E (n + 1)).cf nd #[.bool false] H = none) : ∀ {n : Nat} {f : FuncId} {args : Array Value} {H H1 : Hp}, pcall E nd n f args H = some H1 → (oracle E n).cf f args H = none := by
  intro n
  cases n with
  | zero => intro f args H H1 h; cases h
  | succ n =>
    intro f args H H1 h
    simp only [pcall] at h
    cases hb : Nat.beq f nd with
    | true =>
      rw [hb] at h
      have e := Nat.eq_of_beq_eq_true hb
      subst e
      simp only [cond] at h
      split at h
      · rename_i ha
        have : args = #[.bool false] := by cases args; simp_all
        rw [this]; exact hnd n H
      · cases h
    | false =>
      rw [hb] at h
      simp only [cond] at h
      simp only [oracle]
      split at h
      · rename_i cf hc
        rw [hc]
        simp only [callBody]
        split at h
        · cases h
        · rename_i hs
          rw [if_neg hs, execP_none h]
      · cases h

/-! ### The model -/
/-- a call that panics -/
def PanicOK (P : Program) (base : Nat) (V : Value) (ρ : Ren) (H : Hp) (w : World) (H1 : Hp) (f : FuncId) (args : Array Value) : Prop :=
  (callFunc f args).run P w = .ok (.enter f args) w ∧ CallsIn (WF none) 0 P f args w fun e w' => e = .panicked [{ v := V, recovered := false }] ∧ ∃ ρ', Sim P base ρ H w ρ' H1 w'
def PSound (P : Program) (base : Nat) (V : Value) (pf : PF) : Prop := ∀ {f args H H1}, pf f args H = some H1 → ∀ {ρ w args'}, HRel P base ρ H w → GRel P ρ → VsRel ρ args.toList args'.toList → PanicOK P base V ρ H w H1 f args'
def PPost (P : Program) (base : Nat) (V : Value) (ρ : Ren) (H : Hp) (w : World) (H1 : Hp) : Exit → Act → World → Prop := fun e' a' w' =>
  e' = .panic [{ v := V, recovered := false }] ∧ a'.defers = [] ∧ ∃ ρ', Sim P base ρ H w ρ' H1 w'

section
variable {P : Program} {base : Nat} {O : Oracle} {pf : PF} {V : Value}

theorem PPost.trans {ρ ρ1 : Ren} {H H1 H2 : Hp} {w w1 w' : World} {e' : Exit} {a' : Act} (hs : Sim P base ρ H w ρ1 H1 w1) (h : PPost P base V ρ1 H1 w1 H2 e' a' w') : PPost P base V ρ H w H2 e' a' w' :=
  ⟨h.1, h.2.1, let ⟨ρ', y⟩ := h.2.2; ⟨ρ', hs.trans y⟩⟩

theorem FRel.putA {ρ : Ren} {F F1 : Fr} {a : Act} (h : FRel ρ F a.tmps) {dst : Option Nat} {v v' : Value} (hv : VRel ρ v v') (hp : F.put dst v = some F1) : FRel ρ F1 (a.put dst v').tmps ∧ (a.put dst v').defers = a.defers ∧ F1.marks = F.marks ∧ F1.round = F.round := by
  cases dst with
  | none => rw [Fr.put_none] at hp; cases hp; exact ⟨h, rfl, rfl, rfl⟩
  | some d =>
    obtain ⟨h1, h2, h3⟩ := h.put hv hp
    exact ⟨h1, rfl, h2, h3⟩

theorem callP_sim (hp : PSound P base V pf) {H H1 : Hp} {f f' : Value} {args args' : List Value} {ρ : Ren} {w : World} (hv : callP pf H f args = some H1) (hH : HRel P base ρ H w) (hG : GRel P ρ) (hf : VRel ρ f f') (ha : VsRel ρ args args') :
    ∃ g l, (do let d ← Deferred.ofValue f' args'.toArray; invoke d.target d.args : Sem Next).run P w = .ok (.enter g l) w ∧ CallsIn (WF none) 0 P g l w fun e w' => e = .panicked [{ v := V, recovered := false }] ∧ ∃ ρ', Sim P base ρ H w ρ' H1 w' := by
  unfold callP at hv
  split at hv
  · rename_i g first captured
    obtain ⟨a', b', rfl, h1, h2⟩ := hf.inv_func
    obtain ⟨h3, h4⟩ := hp hv hH hG (args' := a' ++ args'.toArray ++ b') (by simpa using (h1.append ha).append h2)
    exact ⟨g, _, h3, h4⟩
  · cases hv

theorem opP_wp (hp : PSound P base V pf) {o : Oper} {c : COp} (hc : compOp P o = some c) {F : Fr} {H H1 : Hp} (hv : opP pf F H c = some H1) {ρ : Ren} {a : Act} {w : World} {r : Option Nat} (hH : HRel P base ρ H w) (hG : GRel P ρ) (hF : FRel ρ F a.tmps)
    {K : Act → World → Prop} {Q : Exit → Act → World → Prop} (hQ : ∀ ρ' w', Sim P base ρ H w ρ' H1 w' → Q (.panic [{ v := V, recovered := false }]) a w') : o.wpIn (WF r) 0 P a w K Q := by
  obtain ⟨hok, hc1⟩ := compOp_op hc
  have hsem : Oper.semAt (WF r).round a.eval o = execOp a.eval o := Oper.semAt_eq _ _ _ (compOp1_not_defer hc1)
  refine ⟨fun _ _ => trivial, ?_⟩
  rw [hsem]
  have he := evR hF hG
  cases c with
  | call f args =>
    obtain ⟨cl, ho, hf, hargs⟩ := compOp1_call hc1
    simp only [opP] at hv
    have hfe := he f (hok f (by simp [ho, Op.operands, Call.operands, hf]))
    have hae := VsRel.map_eval he args (fun x hx => hok x (by rw [ho]; simp only [Op.operands, Call.operands]; rw [← hargs] at hx; simp at hx; simp [hx]))
    obtain ⟨g, l, h1, h2⟩ := callP_sim hp hv hH hG hfe hae
    have hx : execOp a.eval o = (do let d ← Deferred.ofValue (a.eval f) (args.map a.eval).toArray; invoke d.target d.args) := by
      have e : (args.map a.eval).toArray = cl.args.map a.eval := Array.toList_inj.1 (by rw [← hargs, Array.toList_map])
      rw [e]
      simp only [execOp, ho, resolve, hf]
    rw [hx, h1]
    refine ⟨fun h => by simp [WF, Fence.wide] at h, CallsIn.mono (F := WF none) h2 ?_⟩
    rintro e w'' ⟨rfl, ρ', h4⟩
    exact hQ ρ' w'' h4
  | _ => cases hv

/-- operations in the text's order, whatever is deferred -/
theorem opsF_wp (hO : OSound P base O) {ops : Array Oper} {cl : List CO} (hc : compOps P ops ops.toList = some cl) {Q : Exit → Act → World → Prop} {r : Option Nat} : ∀ (k i : Nat) (F : Fr) (H : Hp) (F1 : Fr) (H1 : Hp) (ρ : Ren) (a : Act) (w : World), i + k = ops.size → opsA O (cl.drop i) F H = some (F1, H1) →
    HRel P base ρ H w → GRel P ρ → FRel ρ F a.tmps → (∀ ρ' a' w', a'.defers = a.defers → FRel ρ' F1 a'.tmps → Sim P base ρ H w ρ' H1 w' → Q .normal a' w') → wpOpsIn (WF r) 0 P ops Q (List.range' i k) a w := by
  obtain ⟨hlen, hspec⟩ := compOps_spec hc
  intro k
  induction k with
  | zero =>
    intro i F H F1 H1 ρ a w hik hx hH hG hS hQ
    have : cl.drop i = [] := by rw [List.drop_eq_nil_iff, ← hlen]; simp; omega
    rw [this] at hx
    simp only [opsA, Option.some.injEq, Prod.mk.injEq] at hx
    obtain ⟨rfl, rfl⟩ := hx
    exact hQ ρ a w rfl hS (Sim.refl hH)
  | succ k ih =>
    intro i F H F1 H1 ρ a w hik hx hH hG hS hQ
    have hi : i < ops.size := by omega
    have hi2 : i < cl.length := by rw [← hlen]; simpa using hi
    rw [List.drop_eq_getElem_cons hi2] at hx
    rw [List.range'_succ]
    have hco := hspec i ops[i] cl[i] (by simp [hi]) (by simp [hi2])
    obtain ⟨hd, hop⟩ := compCO_spec hco
    simp only [wpOpsIn, show ops[i]? = some ops[i] from by simp [hi]]
    rw [wanted_eq hS hco]
    simp only [opsA] at hx
    cases hw : wanted F cl[i].guard with
    | true =>
      simp only [hw, if_true] at hx ⊢
      split at hx
      · rename_i v H2 hv
        split at hx
        · rename_i F2 hp
          cases hcc : compOp P ops[i] with
          | none => rw [hop, hcc] at hv; simp [opA, COp.isPure, memOp] at hv
          | some c =>
            rw [hop, hcc] at hv
            refine op_wp hO hcc hv hH hG hS fun ρ' v' w' h1 h2 => ?_
            rw [hd] at hp
            obtain ⟨hS', hdf, _, _⟩ := (hS.mono h2.le).putA h1 hp
            refine ih (i + 1) F2 H2 F1 H1 ρ' _ w' (by omega) hx h2.rel (h2.gRel hG) hS' fun ρ2 a' w'' e1 e2 e3 => hQ ρ2 a' w'' (e1.trans hdf) e2 (h2.trans e3)
        · cases hx
      · cases hx
    | false =>
      simp only [hw, if_false, Bool.false_eq_true] at hx ⊢
      split at hx
      · rename_i F2 hp
        refine ⟨fun _ _ => trivial, ?_⟩
        rw [hd] at hp
        obtain ⟨hS', hdf, _, _⟩ := hS.putA (VRel.undef ρ) hp
        exact ih (i + 1) F2 H F1 H1 ρ _ w (by omega) hx hH hG hS' fun ρ2 a' w'' e1 e2 e3 => hQ ρ2 a' w'' (e1.trans hdf) e2 e3
      · cases hx

theorem Fr.put_other {F F1 : Fr} {dst : Option Nat} {v : Value} {t : Nat} (hp : F.put dst v = some F1) (h : dst ≠ some t) : F1.get t = F.get t := by
  cases dst with
  | none => rw [Fr.put_none] at hp; cases hp; rfl
  | some d =>
    rw [Fr.put_some] at hp
    split at hp
    · cases hp
      rw [Fr.get_set, if_neg (fun e => h (by rw [e]))]
    · cases hp

/-- operations of which one panics, whatever is deferred -/
theorem opsP_wp (hO : OSound P base O) (hP : PSound P base V pf) {ops : Array Oper} {cl : List CO} (hc : compOps P ops ops.toList = some cl) {Q : Exit → Act → World → Prop} {r : Option Nat} : ∀ (k i : Nat) (F : Fr) (H : Hp) (H1 : Hp) (ρ : Ren) (a : Act) (w : World), i + k = ops.size → opsP O pf (cl.drop i) F H = some H1 →
    HRel P base ρ H w → GRel P ρ → FRel ρ F a.tmps → (∀ F' ρ' a' w', a'.defers = a.defers → FRel ρ' F' a'.tmps → (∀ t, (∀ o ∈ ops.toList, o.dst ≠ some t) → F'.get t = F.get t) → Sim P base ρ H w ρ' H1 w' → Q (.panic [{ v := V, recovered := false }]) a' w') → wpOpsIn (WF r) 0 P ops Q (List.range' i k) a w := by
  obtain ⟨hlen, hspec⟩ := compOps_spec hc
  intro k
  induction k with
  | zero =>
    intro i F H H1 ρ a w hik hx hH hG hS hQ
    have : cl.drop i = [] := by rw [List.drop_eq_nil_iff, ← hlen]; simp; omega
    rw [this] at hx
    cases hx
  | succ k ih =>
    intro i F H H1 ρ a w hik hx hH hG hS hQ
    have hi : i < ops.size := by omega
    have hi2 : i < cl.length := by rw [← hlen]; simpa using hi
    rw [List.drop_eq_getElem_cons hi2] at hx
    rw [List.range'_succ]
    have hco := hspec i ops[i] cl[i] (by simp [hi]) (by simp [hi2])
    obtain ⟨hd, hop⟩ := compCO_spec hco
    simp only [wpOpsIn, show ops[i]? = some ops[i] from by simp [hi]]
    rw [wanted_eq hS hco]
    simp only [opsP] at hx
    cases hw : wanted F cl[i].guard with
    | true =>
      simp only [hw, if_true] at hx ⊢
      split at hx
      · rename_i v H2 hv
        split at hx
        · rename_i F2 hp
          cases hcc : compOp P ops[i] with
          | none => rw [hop, hcc] at hv; simp [opA, COp.isPure, memOp] at hv
          | some c =>
            rw [hop, hcc] at hv
            refine op_wp hO hcc hv hH hG hS fun ρ' v' w' h1 h2 => ?_
            rw [hd] at hp
            obtain ⟨hS', hdf, _, _⟩ := (hS.mono h2.le).putA h1 hp
            refine ih (i + 1) F2 H2 H1 ρ' _ w' (by omega) hx h2.rel (h2.gRel hG) hS' fun F' ρ2 a' w'' e1 ef et e3 => hQ F' ρ2 a' w'' (e1.trans hdf) ef (fun t ht => (et t ht).trans (Fr.put_other hp (ht _ (by simp)))) (h2.trans e3)
        · cases hx
      · cases hcc : compOp P ops[i] with
        | none => rw [hop, hcc] at hx; cases hx
        | some c =>
          rw [hop, hcc] at hx
          exact opP_wp hP hcc hx hH hG hS fun ρ' w' h => hQ F ρ' a w' rfl (hS.mono h.le) (fun _ _ => rfl) h
    | false =>
      simp only [hw, if_false, Bool.false_eq_true] at hx ⊢
      split at hx
      · rename_i F2 hp
        refine ⟨fun _ _ => trivial, ?_⟩
        rw [hd] at hp
        obtain ⟨hS', hdf, _, _⟩ := hS.putA (VRel.undef ρ) hp
        exact ih (i + 1) F2 H H1 ρ _ w (by omega) hx hH hG hS' fun F' ρ2 a' w'' e1 ef et e3 => hQ F' ρ2 a' w'' (e1.trans hdf) ef (fun t ht => (et t ht).trans (Fr.put_other hp (ht _ (by simp)))) e3
      · cases hx

theorem MRel.nil {ρ : Ren} {ds : List Deferred} (h : MRel ρ [] ds) : ds = [] := by
  cases ds with
  | nil => rfl
  | cons _ _ => exact h.elim

theorem loopP_sim {c : Code} {f : Fr → Hp → Option (Ex × Fr × Hp)} {g : Fr → Hp → Option Hp} (hc : CodeOK P base c f)
    (hg : ∀ {F : Fr} {H H1 : Hp}, g F H = some H1 → ∀ {ρ : Ren} {a : Act} {w : World}, HRel P base ρ H w → GRel P ρ → SRel ρ F a → F.round = false → c.wpIn (WF none) 0 P (PPost P base V ρ H w H1) a w) : ∀ (n : Nat) {F : Fr} {H H1 : Hp}, iterP f g n F H = some H1 →
    ∀ {ρ : Ren} {a : Act} {w : World}, HRel P base ρ H w → GRel P ρ → SRel ρ F a → F.round = false → InAt (WF none) 0 P [.code c, .inLoop c] (PPost P base V ρ H w H1) a w := by
  intro n
  induction n with
  | zero => intro F H H1 h; cases h
  | succ n ih =>
    intro F H H1 h ρ a w hH hG hS hr
    refine loop_turn ?_
    simp only [iterP] at h
    split at h
    · rename_i F2 H2 hf
      refine wpIn_mono (hc hf hH hG hS (r := none) hr) ?_
      rintro e' a' w' ⟨rfl, hrd, ρ', hS', hsim⟩
      exact (ih h hsim.rel (hsim.gRel hG) hS' (by rw [hrd, hr])).mono fun e a w hp => PPost.trans hsim hp
    · cases h
    · refine wpIn_mono (hg h hH hG hS hr) ?_
      rintro e' a' w' ⟨rfl, hrest⟩
      exact ⟨rfl, hrest⟩

theorem execP_sim (hO : OSound P base O) (hD : DrawOK P base O) (hP : PSound P base V pf) (n : Nat) : ∀ (c : Code) {cc : CC}, comp P c = some cc → ∀ {F : Fr} {H H1 : Hp}, execP O pf n cc F H = some H1 →
    ∀ {ρ : Ren} {a : Act} {w : World}, HRel P base ρ H w → GRel P ρ → SRel ρ F a → F.round = false → c.wpIn (WF none) 0 P (PPost P base V ρ H w H1) a w := by
  intro c
  induction c with
  | region id ops dr =>
    intro cc hc F H H1 h ρ a w hH hG hS hr
    cases dr with
    | false =>
      simp only [comp, Option.map_eq_some_iff] at hc; obtain ⟨l, hl, rfl⟩ := hc
      simp only [execP] at h
      split at h
      · rename_i hm
        refine wpIn_region ?_
        rw [List.range_eq_range']
        refine opsP_wp hO hP hl ops.size 0 F H H1 ρ a w (by omega) (by simpa using h) hH hG hS.fr fun _ ρ' a' w' h1 _ _ h2 => ⟨rfl, ?_, ρ', h2⟩
        have := hS.marks
        rw [hm] at this
        rw [h1]; exact this.nil
      · cases h
    | true =>
      simp only [comp] at hc
      split at hc
      · simp only [Option.map_eq_some_iff] at hc; obtain ⟨l, hl, rfl⟩ := hc
        cases h
      · cases hc
  | seq x y ihx ihy =>
    intro cc hc F H H1 h ρ a w hH hG hS hr
    simp only [comp] at hc
    split at hc
    · rename_i cx cy hx hy
      cases hc
      simp only [execP] at h
      refine wpIn_seq ?_
      split at h
      · rename_i F2 H2 hxx
        refine wpIn_mono (exec_sim hO hD n x hx hxx hH hG hS (r := none) hr) ?_
        rintro e' a' w' ⟨rfl, hrd, ρ', hS', hsim⟩
        exact wpIn_mono (ihy hy h hsim.rel (hsim.gRel hG) hS' (by rw [hrd, hr])) fun e' a' w' hp => PPost.trans hsim hp
      · cases h
      · refine wpIn_mono (ihx hx h hH hG hS hr) ?_
        rintro e' a' w' ⟨rfl, hrest⟩
        exact ⟨rfl, hrest⟩
    · cases hc
  | cond x c1 c2 ih1 ih2 =>
    intro cc hc F H H1 h ρ a w hH hG hS hr
    simp only [comp] at hc
    split at hc
    · rename_i ca cb hx h1 h2
      cases hc
      have hx' := evR hS.fr hG x hx
      simp only [execP] at h
      split at h
      · rename_i hb
        rw [hb] at hx'
        exact wpIn_cond_true hx'.bool (ih1 h1 h hH hG hS hr)
      · rename_i hb
        rw [hb] at hx'
        exact wpIn_cond_false hx'.bool (ih2 h2 h hH hG hS hr)
      · cases h
    · cases hc
  | block id x ih =>
    intro cc hc F H H1 h ρ a w hH hG hS hr
    simp only [comp, Option.map_eq_some_iff] at hc; obtain ⟨cx, hx, rfl⟩ := hc
    simp only [execP] at h
    refine wpIn_block (wpIn_mono (ih hx h hH hG hS hr) ?_)
    rintro e' a' w' ⟨rfl, hrest⟩
    exact ⟨rfl, hrest⟩
  | loop x ih =>
    intro cc hc F H H1 h ρ a w hH hG hS hr
    simp only [comp, Option.map_eq_some_iff] at hc; obtain ⟨cx, hx, rfl⟩ := hc
    simp only [execP] at h
    exact loop_enter (loopP_sim (exec_sim hO hD n x hx) (fun {F H H1} h {ρ a w} hH hG hS hr => ih hx h hH hG hS hr) n h hH hG hS hr)
  | scope x ih =>
    intro cc hc F H H1 h ρ a w hH hG hS hr
    simp only [comp, Option.map_eq_some_iff] at hc; obtain ⟨cx, hx, rfl⟩ := hc
    simp only [execP] at h
    refine scope_enter (scope_turn (wpIn_mono (ih hx h hH hG hS hr) ?_))
    rintro e' a' w' ⟨rfl, hrest⟩
    exact ⟨rfl, hrest⟩
  | rangeFunc f ps as bd _ _ =>
    intro cc hc F H H1 h
    simp only [comp] at hc
    split at hc
    · cases hc; cases h
    · cases hc
  | _ =>
    intro cc hc F H H1 h
    simp only [comp, Option.some.injEq] at hc; subst hc; cases h

theorem pcall_sound {E : Env} {nd : FuncId} (hE : EnvOK P base E) (hnd : ∀ {H ρ w}, HRel P base ρ H w → PanicOK P base V ρ H w H nd #[.bool false]) : ∀ n, PSound P base V (pcall E nd n) := by
  intro n
  induction n with
  | zero => intro f args H H1 h; cases h
  | succ n ih =>
    intro f args H H1 h ρ w args' hH hG ha
    have hO := oracle_sound hE n
    have hD : DrawOK P base (oracle E n) := draw_ok hE.mixed hO (oracle_low hE.low n)
    simp only [pcall] at h
    cases hb : Nat.beq f nd with
    | true =>
      rw [hb] at h
      have e := Nat.eq_of_beq_eq_true hb
      subst e
      simp only [cond] at h
      split at h
      · rename_i hargs
        cases h
        rw [hargs] at ha
        obtain ⟨y, r, e1, h1, h2⟩ := ha.inv_cons
        have h3 := h1.bool
        subst h3
        have e2 : r = [] := List.eq_nil_of_length_eq_zero h2.1.symm
        subst e2
        have : args' = #[.bool false] := by cases args'; simp_all
        rw [this]
        exact hnd hH
      · cases h
    | false =>
      rw [hb] at h
      simp only [cond] at h
      split at h
      · rename_i cf hcf
        split at h
        · cases h
        · rename_i hn
          obtain ⟨fn, hf, hc⟩ := hE.code f cf hcf
          unfold compF at hc
          split at hc
          · cases hc
          · rename_i c hbd
            split at hc
            · cases hc
            · rename_i hname
              split at hc
              · rename_i cc crs hcc hcrs
                cases hc
                have hn' : args.size ≤ fn.ntmps := by simpa using hn
                have hrun : (callFunc f args').run P w = .ok (.enter f args') w := by
                  have : ¬ fn.name = "runtime.NumGoroutine" := by simpa using hname
                  simp [callFunc, hf, this, hbd]
                refine ⟨hrun, ?_⟩
                have hS : SRel ρ (Fr.ofArgs args fn.ntmps) { tmps := args' ++ Array.replicate (fn.ntmps - args'.size) undef, defers := [] } := ⟨FRel.ofArgs ha hn', trivial⟩
                refine callsIn_of_wp_marks hf hbd trivial (wpIn_mono (execP_sim hO hD ih n c hcc h hH hG hS rfl) ?_)
                rintro e' a' w' ⟨rfl, hd, ρ', hsim⟩
                show LeavesInM (WF none) 0 P fn a'.tmps _ a'.defers (.panicking _) w'
                rw [hd]
                exact ⟨rfl, ρ', hsim⟩
              · cases hc
      · cases h
end
end Go.Proofs.YtiblfhiiombfcaaGreatDoor.Am

/- Calls that panic, as the kernel runs them fast; and the fast interpreter with functions that are known by a check of their own. By an AI agent. No person has read it. -/
namespace Go.Proofs.YtiblfhiiombfcaaGreatDoor.Am
open Go

abbrev KP := Hp → Bool
abbrev FPn := FuncId → List Value → Hp → KP → Bool
noncomputable def or2 (a b : Bool) : Bool := @Bool.rec (fun _ => Bool) b true a
theorem or2_true {a b : Bool} (h : or2 a b = true) : a = true ∨ b = true := by
  cases a
  · exact .inr h
  · exact .inl rfl

structure FPOK (O : Oracle) (pf : PF) (Y : FPn) : Prop where
  some : ∀ f l H k, Y f l H k = true → ∃ H1, pf f l.toArray H = Option.some H1 ∧ k H1 = true
  no : ∀ f args H H1, pf f args H = Option.some H1 → O.cf f args H = none

noncomputable def callPF (Y : FPn) (H : Hp) (f : Value) (args : List Value) (k : KP) : Bool :=
  vFunc f fun fn first cap => @Fn.rec (fun _ => Bool) (fun g => Y g (first.toList ++ (args ++ cap.toList)) H k) (fun _ => false) (fun _ _ => false) (fun _ _ _ _ => false) (fun _ => false) fn
noncomputable def fopP (o : COp) (Y : FPn) (F : Fr) (H : Hp) (k : KP) : Bool :=
  match o with
  | .call f args => callPF Y H (evalF f F) (evalsF args F) k
  | _ => false
noncomputable def fopsPC (o : CO) (_ : List CO) (ih : FO → FPn → Fr → Hp → KP → Bool) (X : FO) (Y : FPn) (F : Fr) (H : Hp) (k : KP) : Bool :=
  @CO.rec (fun _ => Bool) (fun dst g op => wantK F g (or2 (fopA op X F H fun v H1 => putK dst v F fun F1 => ih X Y F1 H1 k) (fopP op Y F H k)) (putK dst undef F fun F1 => ih X Y F1 H k)) o
noncomputable def fopsP (l : List CO) : FO → FPn → Fr → Hp → KP → Bool := @List.rec CO (fun _ => FO → FPn → Fr → Hp → KP → Bool) (fun _ _ _ _ _ => false) fopsPC l

section
variable {O : Oracle} {pf : PF} {X : FO} {Y : FPn}
theorem fopP_sound (hY : FPOK O pf Y) {o : COp} {F : Fr} {H : Hp} {k : KP} (h : fopP o Y F H k = true) : ∃ H1, opP pf F H o = some H1 ∧ opA O F H o = none ∧ k H1 = true := by
  unfold fopP at h
  split at h
  · rename_i f args
    obtain ⟨fn, a, c, h1, h2⟩ := vFunc_true h
    cases fn with
    | func g =>
      obtain ⟨H1, h3, h4⟩ := hY.some _ _ _ _ h2
      rw [evalF_eq] at h1
      rw [evalsF_eq] at h3
      have h5 : pf g (a ++ (args.map F.eval).toArray ++ c) H = some H1 := by
        rw [← h3]; congr 1
        obtain ⟨a⟩ := a
        obtain ⟨c⟩ := c
        simp
      refine ⟨H1, ?_, ?_, h4⟩
      · simp only [opP, callP, h1]; exact h5
      · simp only [opA, callV, h1]; exact hY.no _ _ _ _ h5
    | _ => cases h2
  · cases h
theorem fopsP_sound (hX : FOK O X) (hY : FPOK O pf Y) : ∀ {l : List CO} {F : Fr} {H : Hp} {k : KP}, fopsP l X Y F H k = true → ∃ H1, opsP O pf l F H = some H1 ∧ k H1 = true := by
  intro l
  induction l with
  | nil => intro F H k h; cases h
  | cons o l ih =>
    intro F H k h
    obtain ⟨dst, g, op⟩ := o
    rcases wantK_true (show wantK F g (or2 (fopA op X F H fun v H1 => putK dst v F fun F1 => fopsP l X Y F1 H1 k) (fopP op Y F H k)) (putK dst undef F fun F1 => fopsP l X Y F1 H k) = true from h) with ⟨h1, h2⟩ | ⟨h1, h2⟩
    · rcases or2_true h2 with h2 | h2
      · obtain ⟨v, H1, h3, h4⟩ := fopA_sound hX h2
        obtain ⟨F1, h5, h6⟩ := putK_true h4
        obtain ⟨H2, h7, h8⟩ := ih h6
        exact ⟨H2, by simp only [opsP, h1, h3, h5, h7], h8⟩
      · obtain ⟨H1, h3, h4, h5⟩ := fopP_sound hY h2
        exact ⟨H1, by simp only [opsP, h1, h4, h3], h5⟩
    · obtain ⟨F1, h5, h6⟩ := putK_true h2
      obtain ⟨H2, h7, h8⟩ := ih h6
      exact ⟨H2, by simp only [opsP, h1, h5, h7], h8⟩
end

/-! ### Statements -/
abbrev SP := FO → FPn → Nat → Fr → Hp → KP → Bool
noncomputable def nilB (F : Fr) (b : Bool) : Bool := @Fr.rec (fun _ => Bool) (fun _ _ m _ => @List.rec Nat (fun _ => Bool) b (fun _ _ _ => false) m) F
theorem nilB_true {F : Fr} {b : Bool} (h : nilB F b = true) : F.marks = [] ∧ b = true := by
  obtain ⟨tr, n, m, r⟩ := F
  cases m with
  | nil => exact ⟨rfl, h⟩
  | cons x l => cases h
noncomputable def noSP (_ : FO) (_ : FPn) (_ : Nat) (_ : Fr) (_ : Hp) (_ : KP) : Bool := false
noncomputable def opsSP (l : List CO) (X : FO) (Y : FPn) (_ : Nat) (F : Fr) (H : Hp) (k : KP) : Bool := nilB F (fopsP l X Y F H k)
noncomputable def kSeqP (b : Fr → Hp → KP → Bool) (k : KP) (e : Ex) (F : Fr) (H : Hp) : Bool := exB e (b F H k) (fun _ => false) (fun _ => false) false
noncomputable def seqSP (a _ : CC) (da db : SP) (X : FO) (Y : FPn) (n : Nat) (F : Fr) (H : Hp) (k : KP) : Bool := or2 (fexec a X n F H (kSeqP (db X Y n) k)) (da X Y n F H k)
noncomputable def condSP (c : Operand) (_ _ : CC) (da db : SP) (X : FO) (Y : FPn) (n : Nat) (F : Fr) (H : Hp) (k : KP) : Bool := vBool (evalF c F) (da X Y n F H k) (db X Y n F H k)
noncomputable def blockSP (_ : Nat) (_ : CC) (d : SP) : SP := d
noncomputable def fiterPS (f : Fr → Hp → KE → Bool) (g : Fr → Hp → KP → Bool) (_ : Nat) (ih : Fr → Hp → KP → Bool) (F : Fr) (H : Hp) (k : KP) : Bool := or2 (f F H (kSeqP ih k)) (g F H k)
noncomputable def fiterP (f : Fr → Hp → KE → Bool) (g : Fr → Hp → KP → Bool) (n : Nat) : Fr → Hp → KP → Bool := @Nat.rec (fun _ => Fr → Hp → KP → Bool) (fun _ _ _ => false) (fiterPS f g) n
noncomputable def loopSP (c : CC) (d : SP) (X : FO) (Y : FPn) (n : Nat) (F : Fr) (H : Hp) (k : KP) : Bool := fiterP (fexec c X n) (d X Y n) n F H k
noncomputable def scopeSP (_ : CC) (d : SP) : SP := d
noncomputable def fexecP (c : CC) : SP :=
  @CC.rec (fun _ => SP) noSP opsSP (fun _ _ => noSP) seqSP condSP blockSP loopSP (fun _ => noSP) (fun _ => noSP) (fun _ => noSP) noSP scopeSP (fun _ _ _ _ _ _ => noSP) noSP c

section
variable {O : Oracle} {pf : PF} {X : FO} {Y : FPn}
theorem fiterP_sound {n : Nat} {c : CC} {f : Fr → Hp → KE → Bool} {g : Fr → Hp → KP → Bool} (hf : ∀ {F : Fr} {H : Hp} {k : KE}, f F H k = true → ∃ e F' H', exec O n c F H = some (e, F', H') ∧ k e F' H' = true)
    (hg : ∀ {F : Fr} {H : Hp} {k : KP}, g F H k = true → ∃ H1, execP O pf n c F H = some H1 ∧ k H1 = true) : ∀ m {F : Fr} {H : Hp} {k : KP}, fiterP f g m F H k = true → ∃ H1, iterP (exec O n c) (execP O pf n c) m F H = some H1 ∧ k H1 = true := by
  intro m
  induction m with
  | zero => intro F H k h; cases h
  | succ m ih =>
    intro F H k h
    rcases or2_true (show or2 (f F H (kSeqP (fiterP f g m) k)) (g F H k) = true from h) with h1 | h1
    · obtain ⟨e, F1, H1, h2, h3⟩ := hf h1
      cases e with
      | normal =>
        obtain ⟨H2, h4, h5⟩ := ih (show fiterP f g m F1 H1 k = true from h3)
        exact ⟨H2, by simp only [iterP, h2]; exact h4, h5⟩
      | exit i => cases h3
      | goto i => cases h3
      | ret => cases h3
    · obtain ⟨H2, h4, h5⟩ := hg h1
      exact ⟨H2, by simp only [iterP, execP_none h4]; exact h4, h5⟩
theorem fexecP_sound (hX : FOK O X) (hY : FPOK O pf Y) {n : Nat} : ∀ {c : CC} {F : Fr} {H : Hp} {k : KP}, fexecP c X Y n F H k = true → ∃ H1, execP O pf n c F H = some H1 ∧ k H1 = true := by
  intro c
  induction c with
  | ops l =>
    intro F H k h
    obtain ⟨h1, h2⟩ := nilB_true (show nilB F (fopsP l X Y F H k) = true from h)
    obtain ⟨H1, h3, h4⟩ := fopsP_sound hX hY h2
    exact ⟨H1, by simp only [execP, h1]; exact h3, h4⟩
  | seq a b iha ihb =>
    intro F H k h
    rcases or2_true (show or2 (fexec a X n F H (kSeqP (fexecP b X Y n) k)) (fexecP a X Y n F H k) = true from h) with h1 | h1
    · obtain ⟨e, F1, H1, h2, h3⟩ := fexec_sound hX h1
      cases e with
      | normal =>
        obtain ⟨H2, h4, h5⟩ := ihb (show fexecP b X Y n F1 H1 k = true from h3)
        exact ⟨H2, by simp only [execP, h2]; exact h4, h5⟩
      | exit i => cases h3
      | goto i => cases h3
      | ret => cases h3
    · obtain ⟨H2, h4, h5⟩ := iha h1
      exact ⟨H2, by simp only [execP, execP_none h4]; exact h4, h5⟩
  | cond c a b iha ihb =>
    intro F H k h
    rcases vBool_true (show vBool (evalF c F) (fexecP a X Y n F H k) (fexecP b X Y n F H k) = true from h) with ⟨h1, h2⟩ | ⟨h1, h2⟩
    · rw [evalF_eq] at h1
      obtain ⟨H1, h3, h4⟩ := iha h2
      exact ⟨H1, by simp only [execP, h1]; exact h3, h4⟩
    · rw [evalF_eq] at h1
      obtain ⟨H1, h3, h4⟩ := ihb h2
      exact ⟨H1, by simp only [execP, h1]; exact h3, h4⟩
  | block id c ih =>
    intro F H k h
    obtain ⟨H1, h3, h4⟩ := ih (show fexecP c X Y n F H k = true from h)
    exact ⟨H1, by simp only [execP]; exact h3, h4⟩
  | scope c ih =>
    intro F H k h
    obtain ⟨H1, h3, h4⟩ := ih (show fexecP c X Y n F H k = true from h)
    exact ⟨H1, by simp only [execP]; exact h3, h4⟩
  | loop c ih =>
    intro F H k h
    obtain ⟨H1, h3, h4⟩ := fiterP_sound (O := O) (pf := pf) (c := c) (n := n) (fexec_sound hX) ih n (show fiterP (fexec c X n) (fexecP c X Y n) n F H k = true from h)
    exact ⟨H1, by simp only [execP]; exact h3, h4⟩
  | _ => intro F H k h; cases h
end

/-! ### Calls -/
noncomputable def fbodyP (X : FO) (Y : FPn) (n : Nat) (cf : CF) (l : List Value) (H : Hp) (k : KP) : Bool :=
  @CF.rec (fun _ => Bool) (fun m _ body => bc (Nat.ble l.length m) (fexecP body X Y n ⟨fsetArgs l .leaf 0, m, [], false⟩ H k) false) cf
noncomputable def isFalse1 (l : List Value) (b : Bool) : Bool :=
  match l with
  | [v] => vBool v false b
  | _ => false
noncomputable def fpcallS (E : Env) (nd : FuncId) (n : Nat) (Y : FPn) : FPn := fun f l H k =>
  bc (Nat.beq f nd) (isFalse1 l (k H)) (@Option.rec CF (fun _ => Bool) false (fun cf => fbodyP (foracle E n) Y n cf l H k) (E.code f))
noncomputable def fpcall (E : Env) (nd : FuncId) (n : Nat) : FPn := @Nat.rec (fun _ => FPn) (fun _ _ _ _ => false) (fpcallS E nd) n
theorem fpcall_ok {E : Env} {nd : FuncId} (hnd : ∀ n H, (oracle E (n + 1)).cf nd #[.bool false] H = none) : ∀ n, FPOK (oracle E n) (pcall E nd n) (fpcall E nd n) := by
  intro n
  induction n with
  | zero => exact ⟨fun _ _ _ _ h => (by cases h), fun _ _ _ _ h => (by cases h)⟩
  | succ n ih =>
    refine ⟨fun f l H k h => ?_, fun f args H H1 h => pcall_none hnd h⟩
    rcases bc_true (show bc (Nat.beq f nd) (isFalse1 l (k H)) (@Option.rec CF (fun _ => Bool) false (fun cf => fbodyP (foracle E n) (fpcall E nd n) n cf l H k) (E.code f)) = true from h) with ⟨h1, h2⟩ | ⟨h1, h2⟩
    · unfold isFalse1 at h2
      split at h2
      · rename_i v
        rcases vBool_true h2 with ⟨_, h3⟩ | ⟨rfl, h3⟩
        · cases h3
        · exact ⟨H, by simp only [pcall, h1, cond], h3⟩
      · cases h2
    · cases hc : E.code f with
      | none => rw [hc] at h2; cases h2
      | some cf =>
        rw [hc] at h2
        obtain ⟨m, rs, body⟩ := cf
        rcases bc_true (show bc (Nat.ble l.length m) (fexecP body (foracle E n) (fpcall E nd n) n ⟨fsetArgs l .leaf 0, m, [], false⟩ H k) false = true from h2) with ⟨h3, h4⟩ | ⟨_, h4⟩
        · obtain ⟨H1, h5, h6⟩ := fexecP_sound (foracle_sound E n) ih h4
          have h7 : l.length ≤ m := Nat.le_of_ble_eq_true h3
          refine ⟨H1, ?_, h6⟩
          simp only [pcall, h1, cond, hc]
          rw [if_neg (by simpa using h7), ← h5, fsetArgs_eq]
          rfl
        · cases h4

/-! ### Functions that are known by a check of their own -/
abbrev FPr := FuncId → List Value → Hp → FK → Bool
noncomputable def foracle2S (E : Env) (fp : FPr) (n : Nat) (X : FO) : FO :=
  ⟨fun f l H k => @Option.rec CF (fun _ => Bool) (fp f l H k) (fun cf => fbody X n cf l H k) (E.code f), fround X n, fun c F H k => fexec c X n F H k, fun f => (E.code f).isSome⟩
noncomputable def foracle2 (E : Env) (fp : FPr) (n : Nat) : FO := @Nat.rec (fun _ => FO) ⟨fun _ _ _ _ => false, fun _ _ _ _ => false, fun _ _ _ _ => false, fun _ => false⟩ (foracle2S E fp) n
theorem foracle2_sound {E : Env} {fp : FPr} (hp : ∀ f l H k, fp f l H k = true → ∃ v H', E.prim f l.toArray H = some (v, H') ∧ k v H' = true) : ∀ n, FOK (oracle E n) (foracle2 E fp n) := by
  intro n
  induction n with
  | zero => exact ⟨fun _ _ _ _ h => (by cases h), fun _ _ _ _ h => (by cases h), fun _ _ _ _ h => (by cases h), rfl⟩
  | succ n ih =>
    refine ⟨fun f l H k h => ?_, fun l a H k h => fround_sound ih h, fun c F H k h => fexec_sound ih h, rfl⟩
    have h' : @Option.rec CF (fun _ => Bool) (fp f l H k) (fun cf => fbody (foracle2 E fp n) n cf l H k) (E.code f) = true := h
    simp only [oracle]
    cases hc : E.code f with
    | none => rw [hc] at h'; exact hp _ _ _ _ h'
    | some cf => rw [hc] at h'; exact fbody_sound ih h'
noncomputable def fcall2 (E : Env) (fp : FPr) (n : Nat) (f : FuncId) (args : List Value) (H : Hp) : Bool := (foracle2 E fp n).cf f args H fun v _ => isTrueV v
theorem fcall2_true {E : Env} {fp : FPr} (hp : ∀ f l H k, fp f l H k = true → ∃ v H', E.prim f l.toArray H = some (v, H') ∧ k v H' = true) {n : Nat} {f : FuncId} {args : List Value} {H : Hp} (h : fcall2 E fp n f args H = true) : ∃ H', call E n f args.toArray H = some (.bool true, H') := by
  obtain ⟨v, H', h1, h2⟩ := (foracle2_sound hp n).cf _ _ _ _ h
  rcases vBool_true (show vBool v true false = true from h2) with ⟨rfl, _⟩ | ⟨_, h3⟩
  · exact ⟨H', h1⟩
  · cases h3
end Go.Proofs.YtiblfhiiombfcaaGreatDoor.Am

/- A function that defers a closure that recovers (of the one shape that the program has): what it does, by the abstract machine. By an AI agent. No person has read it. -/
namespace Go.Proofs.YtiblfhiiombfcaaGreatDoor.Am
open Go

/-- the end of such a call -/
def showEnd (v : Option Value) (H H' : Hp) : Option (Value × Hp) :=
  cond (Nat.ble H.size H'.size) (v.map fun v => (v, { tr := H'.tr, size := H'.size, low := 0 })) none
/-- the body: the result's variable is made (l1), the closure is deferred, what may panic is called (l3), the rest (l4, l5) -/
def showA (O : Oracle) (pf : PF) (nt : Nat) (clo : FuncId) (l1 l3 l4 l5 : List CO) (args : Array Value) (H : Hp) : Option (Value × Hp) :=
  if nt < args.size then none else
  match opsA O l1 (Fr.ofArgs args nt) H with
  | some (F1, H1) =>
    match F1.get 2 with
    | .pointer (some a) =>
      match F1.put (some 5) (.func (.func clo) #[] #[.pointer (some a)]) with
      | some F2 =>
        match opsA O l3 F2 H1 with
        | some (F3, H3) =>
          match opsA O l4 F3 H3 with
          | some (F4, H4) =>
            match opsA O l5 F4 H4 with
            | some (F5, H5) => showEnd (resultA F5 H5 (.cell1 2)) H H5
            | none => none
          | none => none
        | none =>
          match opsP O pf l3 F2 H1 with
          | some H3 =>
            match H3.setCells a [.bool false] with
            | some H4 => showEnd (some (.bool false)) H H4
            | none => none
          | none => none
      | none => none
    | _ => none
  | none => none

theorem showEnd_some {v : Option Value} {H H' H2 : Hp} {u : Value} (h : showEnd v H H' = some (u, H2)) : v = some u ∧ H2 = { tr := H'.tr, size := H'.size, low := 0 } ∧ H.size ≤ H'.size := by
  unfold showEnd at h
  cases hb : Nat.ble H.size H'.size with
  | false => rw [hb] at h; cases h
  | true =>
    rw [hb] at h
    simp only [cond, Option.map_eq_some_iff, Prod.mk.injEq] at h
    obtain ⟨x, h1, rfl, rfl⟩ := h
    exact ⟨h1, rfl, Nat.le_of_ble_eq_true hb⟩
theorem showEnd_low {v : Option Value} {H H' H2 : Hp} {u : Value} (h : showEnd v H H' = some (u, H2)) : LowOK H H2 := by
  obtain ⟨_, rfl, h2⟩ := showEnd_some h
  exact ⟨Nat.zero_le _, h2, fun b hb => absurd hb (Nat.not_lt_zero _)⟩
theorem showA_low {O : Oracle} {pf : PF} {nt : Nat} {clo : FuncId} {l1 l3 l4 l5 : List CO} {args : Array Value} {H H' : Hp} {v : Value} (h : showA O pf nt clo l1 l3 l4 l5 args H = some (v, H')) : LowOK H H' := by
  unfold showA at h
  repeat' split at h
  all_goals first | cases h | exact showEnd_low h

theorem Sim.low {P : Program} {base : Nat} {ρ ρ' : Ren} {H H' : Hp} {w w' : World} (h : Sim P base ρ H w ρ' H' w') (n : Nat) : Sim P base ρ H w ρ' { tr := H'.tr, size := H'.size, low := n } w' :=
  ⟨h.le, h.rel.low n, h.kp, h.ext, h.hsize, h.new⟩
theorem Sim.more {P : Program} {base : Nat} {ρ : Ren} {H : Hp} {w w' : World} (hH : HRel P base ρ H w) (hs : w.heap.size ≤ w'.heap.size) (h1 : w'.os = w.os) (h2 : w'.tape = w.tape) (h3 : w'.output = w.output) (hw : ∀ g, g < w.heap.size → w'.heap[g]? = w.heap[g]?) : Sim P base ρ H w ρ H w' :=
  ⟨Ren.le_refl _, hH.keep hs hw, ⟨hs, h1, h2, h3, fun g hg _ => hw g hg⟩, fun _ _ h => h, Nat.le_refl _, fun b x hb hn => by rw [hn] at hb; cases hb⟩
theorem setAll_at : ∀ (o : Nat) (c : List Value) (v : Value), o < c.length → (setAll c o [v])[o]? = some v ∧ (setAll c o [v]).length = c.length
  | 0, c, v, h => by
    cases c with
    | nil => simp at h
    | cons x c => exact ⟨rfl, by simp [setAll]⟩
  | o + 1, c, v, h => by
    cases c with
    | nil => simp at h
    | cons x c =>
      obtain ⟨h1, h2⟩ := setAll_at o c v (by simpa using h)
      exact ⟨by simpa [setAll] using h1, by simpa [setAll] using h2⟩
theorem setCells_at {H H' : Hp} {a : Addr} {v : Value} (h : H.setCells a [v] = some H') : ∃ c, (H.get a.block = .row c true ∨ ∃ t, H.get a.block = .trow c t) ∧ a.off < c.length ∧ H'.cell? a = some v := by
  unfold Hp.setCells at h
  split at h
  · rename_i c hx
    split at h
    · rename_i hc
      cases h
      have h1 := hc.1
      simp at h1
      refine ⟨c, .inl hx, by omega, ?_⟩
      simp only [Hp.cell?, Hp.get_upd, if_true]
      exact (setAll_at _ _ _ (by omega)).1
    · cases h
  · rename_i c t hx
    split at h
    · rename_i hc
      cases h
      have h1 := hc.1
      simp at h1
      refine ⟨c, .inr ⟨t, hx⟩, by omega, ?_⟩
      simp only [Hp.cell?, Hp.get_upd, if_true]
      exact (setAll_at _ _ _ (by omega)).1
    · cases h
  · cases h

section
variable {P : Program} {base : Nat} {O : Oracle} {pf : PF} {V : Value}

theorem HRel.open {ρ : Ren} {H : Hp} {w : World} (hH : HRel P base ρ H w) {b g s o : Nat} {c : List Value} (hg : ρ b = some (g, s)) (hx : H.get b = .row c true ∨ ∃ t, H.get b = .trow c t) (ho : o < c.length) : (∃ x, w.cell? ⟨g, s + o, none⟩ = some x) ∧ w.frozen? ⟨g, s + o, none⟩ = false ∧ g < w.heap.size := by
  have hb : BRel P base ρ w g s (.row c true) := by
    have hb0 := hH.blk _ _ _ hg
    rcases hx with hx | ⟨t, hx⟩
    · rw [hx] at hb0; exact hb0
    · rw [hx] at hb0; exact hb0.untype
  obtain ⟨_, cc, t, fr, h1, h2, h3, h4, h5⟩ := hb
  have hlt : s + o < cc.size := by omega
  refine ⟨⟨cc[s + o], by simp [World.cell?, h1, hlt]⟩, ?_, (Array.getElem?_eq_some_iff.1 h1).1⟩
  have := h2 (s + o) hlt
  simp only [World.frozen?, h1]
  simp only [Bool.and_eq_false_iff, decide_eq_false_iff_not]
  omega

theorem results_run {fn : Func} {tmps : Array Value} {w : World} {vs' : List Value} (h : (fn.results.toList.mapM (m := Sem) fun
      | .tmp t => pure (tmps.getD t undef)
      | .cell a t => do loadVar t (← asAddr (tmps.getD a undef))).run P w = .ok vs' w) : (results fn tmps).run P w = .ok (if h : vs'.toArray.size = 1 then vs'.toArray[0] else .tuple vs'.toArray) w := by
  have e : (fn.results.mapM (m := Sem) fun
      | .tmp t => pure (tmps.getD t undef)
      | .cell a t => do loadVar t (← asAddr (tmps.getD a undef))).run P w = .ok vs'.toArray w := by
    rw [Array.mapM_eq_mapM_toList, Sem.run_map]
    exact congrArg (fun (r : Result (List Value)) => r.andThen fun a w' => .ok a.toArray w') h
  unfold results
  rw [Sem.run_bind]
  exact congrArg (fun (r : Result (Array Value)) => r.andThen fun vs w' => (pure (if h : vs.size = 1 then vs[0] else .tuple vs) : Sem Value).run P w') e

/-- what a call of such a function does, in the model -/
theorem showA_sim (hO : OSound P base O) (hP : PSound P base V pf) {f clo : FuncId} {fn : Func} {i1 i2 i3 i4 i5 : Nat} {p1 p2 p3 p4 p5 : Array Oper} {l1 l3 l4 l5 : List CO} {o1 : Obj}
    (hf : P.funcs[f]? = some fn) (hrun : ∀ args w, (callFunc f args).run P w = .ok (.enter f args) w)
    (hbody : fn.body = some (.seq (.region i1 p1 false) (.seq (.region i2 p2 false) (.seq (.region i3 p3 false) (.seq (.region i4 p4 false) (.seq (.region i5 p5 false) .ret))))))
    (hrs : compRs P fn.results.toList = some [.cell1 2])
    (c1 : compOps P p1 p1.toList = some l1) (c3 : compOps P p3 p3.toList = some l3) (c4 : compOps P p4 p4.toList = some l4) (c5 : compOps P p5 p5.toList = some l5)
    (hd3 : ∀ o ∈ p3.toList, o.dst ≠ some 2)
    (h2 : ∀ (a : Act) (w : World) (Q : Exit → Act → World → Prop), 5 < a.tmps.size → Q .normal { (a.put (some 5) (.func (.func clo) #[] #[a.tmps.getD 2 undef])) with defers := { target := .fn (.func clo) #[a.tmps.getD 2 undef], args := #[] } :: a.defers } w → (Code.region i2 p2 false).wpIn (WF none) 0 P Q a w)
    (hinv : ∀ (v : Value) (w : World), (invoke (.fn (.func clo) #[v]) #[]).run P w = .ok (.enter clo #[v]) w)
    (hclo1 : ∀ (p : Addr) (x : Value) (w : World), (w.alloc o1).cell? p = some x → (w.alloc o1).frozen? p = false → CallsDIn (WF none) 0 P clo #[.pointer (some p)] (.panicking [{ v := V, recovered := false }]) w fun e u' w' => e = .returned (.tuple #[]) ∧ u' = .panicking [{ v := V, recovered := true }] ∧ w' = (w.alloc o1).setCell p (.bool false))
    (hclo2 : ∀ (p : Addr) (w : World), CallsDIn (WF none) 0 P clo #[.pointer (some p)] .returning w fun e u' w' => e = .returned (.tuple #[]) ∧ u' = .returning ∧ w' = w)
    {args args' : Array Value} {H H' : Hp} {v : Value} (hv : showA O pf fn.ntmps clo l1 l3 l4 l5 args H = some (v, H')) {ρ : Ren} {w : World} (hH : HRel P base ρ H w) (hG : GRel P ρ) (ha : VsRel ρ args.toList args'.toList) : EnterOK P base ρ H w v H' (callFunc f args') := by
  unfold showA at hv
  split at hv
  · cases hv
  rename_i hn
  have hn' : args.size ≤ fn.ntmps := by omega
  split at hv
  case h_2 => cases hv
  rename_i F1 H1 e1
  split at hv
  case h_2 => cases hv
  rename_i a ea
  split at hv
  case h_2 => cases hv
  rename_i F2 e2
  refine ⟨_, w, hrun args' w, ?_⟩
  show CallsIn (WF none) 0 P f args' w fun e w' => ∃ v', e = .returned v' ∧ ∃ ρ', VRel ρ' v v' ∧ Sim P base ρ H w ρ' H' w'
  refine callsIn_of_wp_marks hf hbody trivial ?_
  refine wpIn_seq (wpIn_region ?_)
  rw [List.range_eq_range']
  refine opsF_wp hO c1 p1.size 0 _ H F1 H1 ρ _ w (by omega) (by simpa using e1) hH hG (FRel.ofArgs ha hn') ?_
  intro ρ1 a1 w1 hd1 hF1 hs1
  have hd1' : a1.defers = [] := hd1
  obtain ⟨g, s, hg, ep⟩ := (ea ▸ hF1.get 2 : VRel ρ1 (.pointer (some a)) (a1.tmps.getD 2 undef)).inv_pointer
  have hsz : 5 < a1.tmps.size := by
    have h := e2
    rw [Fr.put_some] at h
    split at h
    · rw [← hF1.n]; assumption
    · cases h
  refine wpIn_seq (h2 a1 w1 _ hsz ?_)
  rw [ep]
  generalize hA : ({ (a1.put (some 5) (.func (.func clo) #[] #[.pointer (some ⟨g, s + a.off, none⟩)])) with defers := { target := .fn (.func clo) #[.pointer (some ⟨g, s + a.off, none⟩)], args := #[] } :: a1.defers } : Act) = a2
  have hF2 : FRel ρ1 F2 a2.tmps := by
    have := (hF1.putA (v := .func (.func clo) #[] #[.pointer (some a)]) (v' := .func (.func clo) #[] #[.pointer (some ⟨g, s + a.off, none⟩)]) (.func rfl rfl (fun i v v' h => by simp at h) (fun i v v' h h' => by
      cases i with
      | zero => simp at h h'; subst h h'; exact .pointer hg
      | succ i => simp at h)) e2).1
    rw [← hA]; exact this
  have hd2 : a2.defers = [{ target := .fn (.func clo) #[.pointer (some ⟨g, s + a.off, none⟩)], args := #[] }] := by rw [← hA]; simp only; rw [hd1']
  show (Code.seq (.region i3 p3 false) _).wpIn (WF none) 0 P _ a2 w1
  split at hv
  · rename_i F3 H3 e3
    split at hv
    case h_2 => cases hv
    rename_i F4 H4 e4
    split at hv
    case h_2 => cases hv
    rename_i F5 H5 e5
    obtain ⟨er, rfl, _⟩ := showEnd_some hv
    refine wpIn_seq (wpIn_region ?_)
    rw [List.range_eq_range']
    refine opsF_wp hO c3 p3.size 0 _ H1 F3 H3 ρ1 _ w1 (by omega) (by simpa using e3) hs1.rel (hs1.gRel hG) hF2 ?_
    intro ρ3 a3 w3 hd3' hF3 hs3
    show (Code.seq (.region i4 p4 false) _).wpIn (WF none) 0 P _ a3 w3
    refine wpIn_seq (wpIn_region ?_)
    rw [List.range_eq_range']
    refine opsF_wp hO c4 p4.size 0 _ H3 F4 H4 ρ3 _ w3 (by omega) (by simpa using e4) hs3.rel (hs3.gRel (hs1.gRel hG)) hF3 ?_
    intro ρ4 a4 w4 hd4 hF4 hs4
    show (Code.seq (.region i5 p5 false) _).wpIn (WF none) 0 P _ a4 w4
    refine wpIn_seq (wpIn_region ?_)
    rw [List.range_eq_range']
    refine opsF_wp hO c5 p5.size 0 _ H4 F5 H5 ρ4 _ w4 (by omega) (by simpa using e5) hs4.rel (hs4.gRel (hs3.gRel (hs1.gRel hG))) hF4 ?_
    intro ρ5 a5 w5 hd5 hF5 hs5
    show (Code.ret).wpIn (WF none) 0 P _ a5 w5
    refine wpIn_ret ?_
    show LeavesInM (WF none) 0 P fn a5.tmps _ a5.defers .returning w5
    rw [hd5, hd4, hd3', hd2]
    refine ⟨by simp, .inr ⟨fun h => by simp [WF, Fence.wide] at h, _, _, clo, #[.pointer (some ⟨g, s + a.off, none⟩)], rfl, hinv _ w5, fun _ _ => trivial, (hclo2 ⟨g, s + a.off, none⟩ w5).mono ?_⟩⟩
    rintro e u' w' ⟨rfl, rfl, rfl⟩
    have hsim := ((hs1.trans hs3).trans hs4).trans hs5
    have hr : resultsA F5 H5 [.cell1 2] = some [v] := by simp only [resultsA, er]
    obtain ⟨vs', q1, q2⟩ := results_sim hF5 hs5.rel hrs hr
    refine ⟨_, ?_, _, rfl, ρ5, tupled_rel q2, hsim.low 0⟩
    exact results_run q1
  · split at hv
    case h_2 => cases hv
    rename_i H3 e3
    split at hv
    case h_2 => cases hv
    rename_i H4 e4
    obtain ⟨er, rfl, _⟩ := showEnd_some hv
    cases er
    refine wpIn_seq (wpIn_region ?_)
    rw [List.range_eq_range']
    refine opsP_wp hO hP c3 p3.size 0 _ H1 H3 ρ1 _ w1 (by omega) (by simpa using e3) hs1.rel (hs1.gRel hG) hF2 ?_
    intro F3 ρ3 a3 w3 hd3' hF3 ht3 hs3
    have hg3 : ρ3 a.block = some (g, s) := hs3.le.1 _ _ hg
    obtain ⟨c, hx, ho, hcell⟩ := setCells_at e4
    have hk := Kp.alloc (fun _ => False) w3 o1
    have hs4 : Sim P base ρ3 H3 w3 ρ3 H3 (w3.alloc o1) := Sim.more hs3.rel hk.size hk.os hk.tape hk.output fun k hk1 => hk.same k hk1 fun h => h
    obtain ⟨⟨x, hx1⟩, hx2, hx3⟩ := hs4.rel.open hg3 hx ho
    show LeavesInM (WF none) 0 P fn a3.tmps _ a3.defers (.panicking _) w3
    rw [hd3', hd2]
    refine ⟨by simp, .inr ⟨fun h => by simp [WF, Fence.wide] at h, _, _, clo, #[.pointer (some ⟨g, s + a.off, none⟩)], rfl, hinv _ w3, fun _ _ => trivial, (hclo1 ⟨g, s + a.off, none⟩ x w3 hx1 hx2).mono ?_⟩⟩
    rintro e u' w' ⟨rfl, rfl, rfl⟩
    have hs5 := (store_sim hs4.rel hg3 (vs := [.bool false]) (vs' := [.bool false]) (VsRel.cons (.flat rfl) (VsRel.nil _)) e4).2
    have hsim := ((hs1.trans hs3).trans hs4).trans hs5
    have hF2a : F2.get 2 = .pointer (some a) := by rw [Fr.put_other e2 (by simp), ea]
    have hF3a : F3.get 2 = .pointer (some a) := by rw [ht3 2 hd3, hF2a]
    have hr : resultsA F3 H4 [.cell1 2] = some [.bool false] := by
      simp only [resultsA, resultA, hF3a, hcell]
    obtain ⟨vs', q1, q2⟩ := results_sim hF3 hs5.rel hrs hr
    show LeavesInM (WF none) 0 P fn a3.tmps _ [] (settle (.panicking [{ v := V, recovered := true }])) _
    refine ⟨_, results_run (w := (w3.alloc o1).setCell ⟨g, s + a.off, none⟩ (.bool false)) q1, _, rfl, ρ3, tupled_rel q2, hsim.low 0⟩
end

/-! ### Fast -/
noncomputable def fshowA (X : FO) (Y : FPn) (nt : Nat) (clo : FuncId) (l1 l3 l4 l5 : List CO) (l : List Value) (H : Hp) (k : FK) : Bool :=
  bc (Nat.ble l.length nt) (fops l1 X ⟨fsetArgs l .leaf 0, nt, [], false⟩ H fun F1 H1 => vPtr (getV F1 2) fun a => putK (some 5) (.func (.func clo) #[] #[.pointer (some a)]) F1 fun F2 =>
    or2 (fops l3 X F2 H1 fun F3 H3 => fops l4 X F3 H3 fun F4 H4 => fops l5 X F4 H4 fun F5 H5 => optK (showEnd (resultA F5 H5 (.cell1 2)) H H5) k)
      (fopsP l3 X Y F2 H1 fun H3 => optB (H3.setCells a [.bool false]) fun H4 => optK (showEnd (some (.bool false)) H H4) k)) false
theorem fshowA_sound {O : Oracle} {pf : PF} {X : FO} {Y : FPn} (hX : FOK O X) (hY : FPOK O pf Y) {nt : Nat} {clo : FuncId} {l1 l3 l4 l5 : List CO} {l : List Value} {H : Hp} {k : FK} (h : fshowA X Y nt clo l1 l3 l4 l5 l H k = true) : ∃ v H', showA O pf nt clo l1 l3 l4 l5 l.toArray H = some (v, H') ∧ k v H' = true := by
  rcases bc_true h with ⟨h1, h2⟩ | ⟨_, h2⟩
  · have h3 : ¬ nt < l.toArray.size := by have := Nat.le_of_ble_eq_true h1; simp; omega
    obtain ⟨F1, H1, e1, h4⟩ := fops_sound hX h2
    have e1' : opsA O l1 (Fr.ofArgs l.toArray nt) H = some (F1, H1) := by rw [← e1, fsetArgs_eq]; rfl
    obtain ⟨a, ea, h5⟩ := vPtr_true h4
    rw [getV_eq] at ea
    obtain ⟨F2, e2, h6⟩ := putK_true h5
    rcases or2_true h6 with h7 | h7
    · obtain ⟨F3, H3, e3, h8⟩ := fops_sound hX h7
      obtain ⟨F4, H4, e4, h9⟩ := fops_sound hX h8
      obtain ⟨F5, H5, e5, h10⟩ := fops_sound hX h9
      obtain ⟨v, H', e6, h11⟩ := optK_true h10
      refine ⟨v, H', ?_, h11⟩
      unfold showA
      rw [if_neg h3, e1']
      simp only [ea, e2, e3, e4, e5, e6]
    · obtain ⟨H3, e3, h8⟩ := fopsP_sound hX hY h7
      obtain ⟨H4, e4, h9⟩ := optB_true h8
      obtain ⟨v, H', e6, h11⟩ := optK_true h9
      refine ⟨v, H', ?_, h11⟩
      unfold showA
      rw [if_neg h3, e1']
      simp only [ea, e2, opsP_none e3, e3, e4, e6]
  · cases h2
end Go.Proofs.YtiblfhiiombfcaaGreatDoor.Am
