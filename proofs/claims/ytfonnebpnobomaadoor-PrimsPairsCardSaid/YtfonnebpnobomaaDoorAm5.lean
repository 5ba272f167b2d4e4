/- Functions of Go's library that the model itself answers; calls that are known. By an AI agent. No person has read it. -/
import Derived.Test.YtfonnebpnobomaaDoorAm4
import Derived.Lib.Bytealg

/- The abstract machine: functions of Go's library that the model itself answers. -/
namespace Go.Proofs.YtfonnebpnobomaaDoor.Am
open Go

theorem VsRel.eq_of_flat0 {ρ : Ren} : ∀ {l l' : List Value}, VsRel ρ l l' → l.all flat0 = true → l' = l
  | [], l', h, _ => by
    have := h.1
    cases l' with
    | nil => rfl
    | cons a b => simp at this
  | x :: l, l', h, hf => by
    obtain ⟨y, r, rfl, h1, h2⟩ := h.inv_cons
    simp only [List.all_cons, Bool.and_eq_true] at hf
    rw [h1.eq_of_flat0 hf.1, VsRel.eq_of_flat0 h2 hf.2]

theorem enter_value {P : Program} {base : Nat} {ρ : Ren} {H : Hp} {w : World} {v : Value} {s : Sem Next} (hs : s.run P w = .ok (.value v) w) (hv : Am.flat v = true) (hH : HRel P base ρ H w) : EnterOK P base ρ H w v H s :=
  ⟨_, _, hs, ρ, VRel.of_flat hv, Sim.refl hH⟩

theorem run_extern {P : Program} {f : FuncId} {fn : Func} {e : Array Value → Sem Value} (hf : P.funcs[f]? = some fn) (hn : (fn.name == "runtime.NumGoroutine") = false) (hb : fn.body.isNone = true)
    (h1 : (Extern.findNext fn).isNone = true) (h2 : Extern.find fn = some e) {args : Array Value} {w : World} {v : Value} (he : (e args).run P w = .ok v w) : (callFunc f args).run P w = .ok (.value v) w := by
  have h1' : Extern.findNext fn = none := by simpa using h1
  have hn' : ¬ fn.name = "runtime.NumGoroutine" := by simpa using hn
  have hb' : fn.body = none := by simpa using hb
  unfold callFunc
  simp [hf, hn', hb', h1', h2, he]

/-- internal/bytealg.IndexByteString, where it is function b -/
def primIB (b : FuncId) (f : FuncId) (args : Array Value) (H : Hp) : Option (Value × Hp) :=
  cond (Nat.beq f b) (match args.toList with
    | [.string s, .int .u8 c] => some (.int .i64 (Lib.indexByte s.data.toList c.toNat.toUInt8), H)
    | _ => none) none

theorem primIB_ok {P : Program} {base b : Nat} {fn : Func} (hf : P.funcs[b]? = some fn) (hn : (fn.name == "runtime.NumGoroutine") = false) (hb : fn.body.isNone = true)
    (h1 : (Extern.findNext fn).isNone = true) (h2 : Extern.find fn = some Extern.BytealgIndexByte.indexByte) {f : FuncId} {args args' : Array Value} {H H' : Hp} {v : Value} (h : primIB b f args H = some (v, H'))
    {ρ : Ren} {w : World} (hH : HRel P base ρ H w) (ha : VsRel ρ args.toList args'.toList) : EnterOK P base ρ H w v H' (callFunc f args') := by
  unfold primIB at h
  cases hfb : Nat.beq f b with
  | false => rw [hfb] at h; cases h
  | true =>
    have : f = b := Nat.eq_of_beq_eq_true hfb
    subst this
    rw [hfb] at h
    simp only [cond] at h
    split at h
    · rename_i s c hargs
      cases h
      rw [hargs] at ha
      have := ha.eq_of_flat0 rfl
      obtain rfl : args' = #[.string s, .int .u8 c] := by cases args'; simp_all
      exact enter_value (run_extern hf hn hb h1 h2 (Lib.run_indexByteString s c w)) rfl hH
    · cases h
theorem primIB_low {b : FuncId} {f : FuncId} {args : Array Value} {H H' : Hp} {v : Value} (h : primIB b f args H = some (v, H')) : H' = H := by
  unfold primIB at h
  cases hfb : Nat.beq f b with
  | false => rw [hfb] at h; cases h
  | true =>
    rw [hfb] at h
    simp only [cond] at h
    split at h
    · cases h; rfl
    · cases h
end Go.Proofs.YtfonnebpnobomaaDoor.Am

/- The abstract machine: a call of which it is known, from any memory, what it hands back, and that what lay there stays. -/
namespace Go.Proofs.YtfonnebpnobomaaDoor.Am
open Go

theorem BRel.lt_size {P : Program} {base : Nat} {ρ : Ren} {w : World} {g s : Nat} {x : Blk} (h : BRel P base ρ w g s x) (hb : base ≤ w.heap.size) (hx : x ≠ .dead) : g < w.heap.size := by
  have some_lt : ∀ {o : Obj}, w.heap[g]? = some o → g < w.heap.size := fun h => by
    obtain ⟨h1, _⟩ := Array.getElem?_eq_some_iff.1 h
    exact h1
  cases x with
  | dead => exact absurd rfl hx
  | row c o => cases o with
    | true => obtain ⟨_, cc, t, fr, h1, _⟩ := h; exact some_lt h1
    | false => exact Nat.lt_of_lt_of_le h.1 hb
  | map es c => obtain ⟨_, _, es', h1, _⟩ := h; exact some_lt h1
  | iter st p => exact some_lt h.2.2
  | loop st p F ps a b => obtain ⟨_, _, l, h1, _⟩ := h; exact some_lt h1
  | deferred => exact some_lt h.2.2

theorem HRel.keep {P : Program} {base : Nat} {ρ : Ren} {H : Hp} {w w' : World} (h : HRel P base ρ H w) (hs : w.heap.size ≤ w'.heap.size) (hw : ∀ g, g < w.heap.size → w'.heap[g]? = w.heap[g]?) : HRel P base ρ H w' := by
  refine ⟨fun b g s hb => ?_, h.inj, h.lt, fun g k hk => Nat.lt_of_lt_of_le (h.nlt g k hk) hs, Nat.le_trans h.sz hs⟩
  have := h.blk b g s hb
  by_cases hd : H.get b = .dead
  · rw [hd]; trivial
  · exact this.keep (Ren.le_refl _) (hw g (this.lt_size h.sz hd))

/-- what is known of such a call -/
def Known (P : Program) (f : FuncId) (args : Array Value) (v : Value) : Prop :=
  ∀ w, Calls P f args w fun e w' => e = .returned v ∧ w.heap.size ≤ w'.heap.size ∧ w'.os = w.os ∧ w'.tape = w.tape ∧ w'.output = w.output ∧ ∀ g, g < w.heap.size → w'.heap[g]? = w.heap[g]?

theorem known_of_call {P : Program} {E : Env} (hE : ∀ base, EnvOK P base E) {n : Nat} {f : FuncId} {args : Array Value} {v : Value} {H' : Hp} (h : call E n f args { tr := .leaf, size := P.globals.size, low := P.globals.size } = some (v, H')) (hf : (E.code f).isSome = true)
    (ha : args.all flat = true) (hv : flat0 v = true) : Known P f args v := fun w => call_start (w := w) ⟨rfl, fun b _ => .inl rfl⟩ (hE _) h hf ha hv

theorem Known.enter {P : Program} {base : Nat} {f : FuncId} {args : Array Value} {v : Value} (h : Known P f args v) (hv : Am.flat v = true) (hr : ∀ w, (callFunc f args).run P w = .ok (.enter f args) w)
    {ρ : Ren} {H : Hp} {w : World} (hH : HRel P base ρ H w) : EnterOK P base ρ H w v H (callFunc f args) := by
  refine ⟨_, _, hr w, callsIn_wide.2 ((h w).mono ?_)⟩
  rintro e w' ⟨rfl, h1, h2, h3, h4, h5⟩
  exact ⟨v, rfl, ρ, .of_flat hv, Ren.le_refl _, hH.keep h1 h5, ⟨h1, h2, h3, h4, fun g hg _ => h5 g hg⟩, fun _ _ h => h, Nat.le_refl _, fun b x hb hn => by rw [hn] at hb; cases hb⟩
end Go.Proofs.YtfonnebpnobomaaDoor.Am

/- The abstract machine: a start from a memory of which some rows are known: tables, and what the arguments point to. -/
namespace Go.Proofs.YtfonnebpnobomaaDoor.Am
open Go

def blkOf : List Value → Blk
  | [] => .dead
  | c => .row c false
def addRows (H : Hp) : List (List Value) → Hp
  | [] => H
  | c :: r => addRows (H.new (blkOf c)) r
theorem addRows_size : ∀ (rows : List (List Value)) (H : Hp), (addRows H rows).size = H.size + rows.length := by
  intro rows
  induction rows with
  | nil => intro H; rfl
  | cons c r ih => intro H; show (addRows (H.new (blkOf c)) r).size = _; rw [ih, Hp.size_new, List.length_cons]; omega
theorem addRows_old : ∀ (rows : List (List Value)) (H : Hp) (b : Nat), b < H.size → (addRows H rows).get b = H.get b := by
  intro rows
  induction rows with
  | nil => intro H b _; rfl
  | cons c r ih =>
    intro H b hb
    show (addRows (H.new (blkOf c)) r).get b = _
    rw [ih _ b (by rw [Hp.size_new]; omega), Hp.get_new, if_neg (by omega)]
theorem addRows_new : ∀ (rows : List (List Value)) (H : Hp) (k : Nat) (c : List Value), rows[k]? = some c → (addRows H rows).get (H.size + k) = blkOf c := by
  intro rows
  induction rows with
  | nil => intro H k c h; simp at h
  | cons x r ih =>
    intro H k c h
    show (addRows (H.new (blkOf x)) r).get (H.size + k) = _
    cases k with
    | zero =>
      simp at h; subst h
      rw [Nat.add_zero, addRows_old r _ _ (by rw [Hp.size_new]; omega), Hp.get_new, if_pos rfl]
    | succ k =>
      have := ih (H.new (blkOf x)) k c (by simpa using h)
      rw [Hp.size_new] at this
      rw [← this]; congr 1; omega
/-- the globals' memory: two tables are known -/
def tabH (N : Nat) (t0 t1 : List Value) : Hp := (({ tr := .leaf, size := N, low := N } : Hp).upd 0 (.row t0 false)).upd 1 (.row t1 false)
theorem tabH_size (N : Nat) (t0 t1 : List Value) : (tabH N t0 t1).size = N := rfl
theorem tabH_get (N : Nat) (t0 t1 : List Value) (b : Nat) : (tabH N t0 t1).get b = if b = 1 then .row t1 false else if b = 0 then .row t0 false else .dead := by
  unfold tabH
  rw [Hp.get_upd, Hp.get_upd]; rfl
/-- what the world has where the tables are laid -/
structure TabW (t0 t1 : List Value) (w : World) : Prop where
  c0 : ∀ (i : Nat) v, t0[i]? = some v → flat0 v = true ∧ w.cell? ⟨0, i, none⟩ = some v
  c1 : ∀ (i : Nat) v, t1[i]? = some v → flat0 v = true ∧ w.cell? ⟨1, i, none⟩ = some v
def renA (N : Nat) (at_ : List (Nat × Nat)) : Ren := ⟨fun b => if b < N then some (b, 0) else at_[b - N]?, fun _ => none⟩
theorem start_args {P : Program} {w : World} {t0 t1 : List Value} (hne0 : t0 ≠ []) (hne1 : t1 ≠ []) (hT : TabW t0 t1 w) (rows : List (List Value)) (at_ : List (Nat × Nat)) (hl : rows.length = at_.length)
    (hrow : ∀ (k : Nat) c g s, rows[k]? = some c → at_[k]? = some (g, s) → ∀ (i : Nat) v, c[i]? = some v → ∃ v', w.cell? ⟨g, s + i, none⟩ = some v' ∧ VRel (renA P.globals.size at_) v v') :
    HRel P w.heap.size (renA P.globals.size at_) (addRows (tabH P.globals.size t0 t1) rows) w ∧ GRel P (renA P.globals.size at_) := by
  have hsz := addRows_size rows (tabH P.globals.size t0 t1)
  rw [tabH_size] at hsz
  have hm : ∀ b x, renA P.globals.size at_ b = some x → (b < P.globals.size ∧ x = (b, 0)) ∨ ∃ k, b = P.globals.size + k ∧ at_[k]? = some x := by
    intro b x h
    simp only [renA] at h
    split at h
    · cases h; exact .inl ⟨‹_›, rfl⟩
    · exact .inr ⟨b - P.globals.size, by omega, h⟩
  have hrowlt : ∀ (c : List Value) (g s : Nat), c ≠ [] → (∀ (i : Nat) v, c[i]? = some v → ∃ v', w.cell? ⟨g, s + i, none⟩ = some v' ∧ VRel (renA P.globals.size at_) v v') → BRel P w.heap.size (renA P.globals.size at_) w g s (.row c false) := by
    intro c g s hne h
    refine ⟨?_, h⟩
    cases c with
    | nil => exact absurd rfl hne
    | cons x r =>
      obtain ⟨v', h1, _⟩ := h 0 x rfl
      exact block_lt_of_cell h1
  have hflat : ∀ (t : List Value) (g : Nat), t ≠ [] → (∀ (i : Nat) v, t[i]? = some v → flat0 v = true ∧ w.cell? ⟨g, i, none⟩ = some v) → BRel P w.heap.size (renA P.globals.size at_) w g 0 (.row t false) := fun t g hne h =>
    hrowlt t g 0 hne fun i v hv => ⟨v, by rw [Nat.zero_add]; exact (h i v hv).2, .flat (h i v hv).1⟩
  have hown : ∀ b x, renA P.globals.size at_ b = some x → own ((addRows (tabH P.globals.size t0 t1) rows).get b) = false := by
    intro b x h
    rcases hm b x h with ⟨h1, _⟩ | ⟨k, rfl, h2⟩
    · rw [addRows_old _ _ _ (by rw [tabH_size]; exact h1), tabH_get]
      split
      · rfl
      · split <;> rfl
    · have hk : k < rows.length := by rw [hl]; exact (List.getElem?_eq_some_iff.1 h2).1
      have := addRows_new rows (tabH P.globals.size t0 t1) k _ (List.getElem?_eq_getElem hk)
      rw [tabH_size] at this
      rw [this]
      unfold blkOf
      split <;> rfl
  refine ⟨⟨fun b g s hb => ?_, fun b c g s s' hb _ hob _ => ?_, fun b x hb => ?_, fun g k hk => ?_, Nat.le_refl _⟩, fun g hg => ?_⟩
  · rcases hm b _ hb with ⟨h1, h2⟩ | ⟨k, rfl, h2⟩
    · cases h2
      rw [addRows_old _ _ _ (by rw [tabH_size]; exact h1), tabH_get]
      split
      · rename_i e; subst e; exact hflat t1 1 hne1 hT.c1
      · split
        · rename_i e; subst e; exact hflat t0 0 hne0 hT.c0
        · trivial
    · have hk : k < rows.length := by rw [hl]; exact (List.getElem?_eq_some_iff.1 h2).1
      have := addRows_new rows (tabH P.globals.size t0 t1) k _ (List.getElem?_eq_getElem hk)
      rw [tabH_size] at this
      rw [this]
      have hr := hrow k _ g s (List.getElem?_eq_getElem hk) h2
      revert hr
      generalize rows[k] = c
      intro hr
      cases c with
      | nil => trivial
      | cons x r => exact hrowlt (x :: r) g s (by simp) hr
  · rw [hown b _ hb] at hob; cases hob
  · rw [hsz]
    rcases hm b x hb with ⟨h1, _⟩ | ⟨k, rfl, h2⟩
    · omega
    · have hk : k < at_.length := (List.getElem?_eq_some_iff.1 h2).1
      omega
  · simp [renA] at hk
  · simp [renA, hg]
/-- A CALL FROM SUCH A START, to a value without an address -/
theorem call_args {P : Program} {E : Env} {w : World} {ρ : Ren} {H H' : Hp} (hE : EnvOK P w.heap.size E) (hH : HRel P w.heap.size ρ H w) (hG : GRel P ρ) {n : Nat} {f : FuncId} {args args' : Array Value} {v : Value} (h : call E n f args H = some (v, H')) (hf : (E.code f).isSome = true) (ha : VsRel ρ args.toList args'.toList) (hv : flat0 v = true) :
    Calls P f args' w fun e w' => e = .returned v ∧ w.heap.size ≤ w'.heap.size ∧ w'.os = w.os ∧ w'.tape = w.tape ∧ w'.output = w.output ∧ ∀ g, g < w.heap.size → w'.heap[g]? = w.heap[g]? := by
  refine Calls.mono (call_sim hE h hf hH hG ha) ?_
  rintro e w' ⟨v', rfl, ρ', h1, h2⟩
  have := h1.eq_of_flat0 hv
  subst this
  refine ⟨rfl, h2.kp.size, h2.kp.os, h2.kp.tape, h2.kp.output, fun g hg => h2.kp.same g hg ?_⟩
  rintro ⟨b, s, hb, ho⟩
  have := (hH.blk b g s hb).base ho
  omega
/-- a call of which it is known, in every world that has the two tables -/
def KnownT (P : Program) (t0 t1 : List Value) (f : FuncId) (args : Array Value) (v : Value) : Prop :=
  ∀ w, TabW t0 t1 w → Calls P f args w fun e w' => e = .returned v ∧ w.heap.size ≤ w'.heap.size ∧ w'.os = w.os ∧ w'.tape = w.tape ∧ w'.output = w.output ∧ ∀ g, g < w.heap.size → w'.heap[g]? = w.heap[g]?
theorem knownT_of_call {P : Program} {E : Env} {t0 t1 : List Value} (hne0 : t0 ≠ []) (hne1 : t1 ≠ []) (hE : ∀ base, EnvOK P base E) {n : Nat} {f : FuncId} {args : Array Value} {v : Value} {H' : Hp} (h : call E n f args (tabH P.globals.size t0 t1) = some (v, H')) (hf : (E.code f).isSome = true)
    (ha : args.all flat = true) (hv : flat0 v = true) : KnownT P t0 t1 f args v := fun w hT => by
  obtain ⟨h1, h2⟩ := start_args (P := P) hne0 hne1 hT [] [] rfl (fun k c g s hk => by simp at hk)
  refine call_args (hE _) h1 h2 h hf ⟨rfl, fun i x x' e1 e2 => ?_⟩ hv
  rw [e1] at e2; cases e2
  exact .of_flat (Array.all_eq_true_iff_forall_mem.1 ha x (Array.mem_of_getElem? (by simpa using e1)))
theorem enter_of_calls {P : Program} {base : Nat} {f : FuncId} {args : Array Value} {v : Value} {ρ : Ren} {H : Hp} {w : World} (h : Calls P f args w fun e w' => e = .returned v ∧ w.heap.size ≤ w'.heap.size ∧ w'.os = w.os ∧ w'.tape = w.tape ∧ w'.output = w.output ∧ ∀ g, g < w.heap.size → w'.heap[g]? = w.heap[g]?) (hv : Am.flat v = true) (hr : ∀ w, (callFunc f args).run P w = .ok (.enter f args) w)
    (hH : HRel P base ρ H w) : EnterOK P base ρ H w v H (callFunc f args) := by
  refine ⟨_, _, hr w, callsIn_wide.2 (h.mono ?_)⟩
  rintro e w' ⟨rfl, h1, h2, h3, h4, h5⟩
  exact ⟨v, rfl, ρ, .of_flat hv, Ren.le_refl _, hH.keep h1 h5, ⟨h1, h2, h3, h4, fun g hg _ => h5 g hg⟩, fun _ _ h => h, Nat.le_refl _, fun b x hb hn => by rw [hn] at hb; cases hb⟩
/-- the tables' cells, from the rows of the abstract memory -/
theorem tabW_of_rel {P : Program} {base : Nat} {ρ : Ren} {H : Hp} {w : World} {t0 t1 : List Value} (hH : HRel P base ρ H w) (hG : GRel P ρ) (hN : 1 < P.globals.size) (h0 : H.get 0 = .row t0 false) (h1 : H.get 1 = .row t1 false) (f0 : ∀ v ∈ t0, flat0 v = true) (f1 : ∀ v ∈ t1, flat0 v = true) : TabW t0 t1 w := by
  have key : ∀ (g : Nat) (t : List Value), g < P.globals.size → H.get g = .row t false → (∀ v ∈ t, flat0 v = true) → ∀ (i : Nat) v, t[i]? = some v → flat0 v = true ∧ w.cell? ⟨g, i, none⟩ = some v := by
    intro g t hg hrow hf i v hv
    have hb := hH.blk g g 0 (hG g hg)
    rw [hrow] at hb
    obtain ⟨v', e1, e2⟩ := hb.2 i v hv
    have hfl := hf v (List.mem_of_getElem? hv)
    have := e2.eq_of_flat0 hfl
    subst this
    exact ⟨hfl, by simpa using e1⟩
  exact ⟨key 0 t0 (by omega) h0 f0, key 1 t1 hN h1 f1⟩
end Go.Proofs.YtfonnebpnobomaaDoor.Am
