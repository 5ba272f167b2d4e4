/- Functions of Go's library that the model itself answers; calls that are known. By an AI agent. No person has read it. -/
import Derived.Test.YtjmohjemgohlpaaGreatDoorAm4
import Derived.Lib.Builder
import Derived.Lib.Bytealg

/- The abstract machine: functions of Go's library that the model itself answers. -/
namespace Go.Proofs.YtjmohjemgohlpaaGreatDoor.Am
open Go

theorem VsRel.eq_of_flat0 {ρ : Ren} : ∀ {l l' : List Value}, VsRel ρ l l' → l.all flat0 = true → l' = l
  | [], l', h, _ => by
    have := h.1
    cases l' with
    | nil => rfl
    | cons a b => simp at this
  | x :: l, l', h, hf => by
    obtain ⟨y, r, rfl, h1, h2⟩ := h.inv_cons
    simp only [List.all_cons, Bool.and_eq_true] at hf
    rw [h1.eq_of_flat0 hf.1, VsRel.eq_of_flat0 h2 hf.2]

theorem enter_value {P : Program} {base : Nat} {ρ : Ren} {H : Hp} {w : World} {v : Value} {s : Sem Next} (hs : s.run P w = .ok (.value v) w) (hv : Am.flat v = true) (hH : HRel P base ρ H w) : EnterOK P base ρ H w v H s :=
  ⟨_, _, hs, ρ, VRel.of_flat hv, Sim.refl hH⟩

theorem run_extern {P : Program} {f : FuncId} {fn : Func} {e : Array Value → Sem Value} (hf : P.funcs[f]? = some fn) (hn : (fn.name == "runtime.NumGoroutine") = false) (hb : fn.body.isNone = true)
    (h1 : (Extern.findNext fn).isNone = true) (h2 : Extern.find fn = some e) {args : Array Value} {w : World} {v : Value} (he : (e args).run P w = .ok v w) : (callFunc f args).run P w = .ok (.value v) w := by
  have h1' : Extern.findNext fn = none := by simpa using h1
  have hn' : ¬ fn.name = "runtime.NumGoroutine" := by simpa using hn
  have hb' : fn.body = none := by simpa using hb
  unfold callFunc
  simp [hf, hn', hb', h1', h2, he]

/-- internal/bytealg.IndexByteString, where it is function b -/
def primIB (b : FuncId) (f : FuncId) (args : Array Value) (H : Hp) : Option (Value × Hp) :=
  cond (Nat.beq f b) (match args.toList with
    | [.string s, .int .u8 c] => some (.int .i64 (Lib.indexByte s.data.toList c.toNat.toUInt8), H)
    | _ => none) none

theorem primIB_ok {P : Program} {base b : Nat} {fn : Func} (hf : P.funcs[b]? = some fn) (hn : (fn.name == "runtime.NumGoroutine") = false) (hb : fn.body.isNone = true)
    (h1 : (Extern.findNext fn).isNone = true) (h2 : Extern.find fn = some Extern.BytealgIndexByte.indexByte) {f : FuncId} {args args' : Array Value} {H H' : Hp} {v : Value} (h : primIB b f args H = some (v, H'))
    {ρ : Ren} {w : World} (hH : HRel P base ρ H w) (ha : VsRel ρ args.toList args'.toList) : EnterOK P base ρ H w v H' (callFunc f args') := by
  unfold primIB at h
  cases hfb : Nat.beq f b with
  | false => rw [hfb] at h; cases h
  | true =>
    have : f = b := Nat.eq_of_beq_eq_true hfb
    subst this
    rw [hfb] at h
    simp only [cond] at h
    split at h
    · rename_i s c hargs
      cases h
      rw [hargs] at ha
      have := ha.eq_of_flat0 rfl
      obtain rfl : args' = #[.string s, .int .u8 c] := by cases args'; simp_all
      exact enter_value (run_extern hf hn hb h1 h2 (Lib.run_indexByteString s c w)) rfl hH
    · cases h
/-- internal/abi.NoEscape, where it is function b -/
def primNE (b : FuncId) (f : FuncId) (args : Array Value) (H : Hp) : Option (Value × Hp) :=
  cond (Nat.beq f b) (match args.toList with
    | [.pointer (some a)] => some (.pointer (some ⟨a.block, a.off, none⟩), H)
    | _ => none) none
theorem primNE_ok {P : Program} {base b : Nat} {fn : Func} (hf : P.funcs[b]? = some fn) (hn : (fn.name == "runtime.NumGoroutine") = false) (hb : fn.body.isNone = true)
    (h1 : (Extern.findNext fn).isNone = true) (h2 : Extern.find fn = some Extern.AbiNoEscape.same) {f : FuncId} {args args' : Array Value} {H H' : Hp} {v : Value} (h : primNE b f args H = some (v, H'))
    {ρ : Ren} {w : World} (hH : HRel P base ρ H w) (ha : VsRel ρ args.toList args'.toList) : EnterOK P base ρ H w v H' (callFunc f args') := by
  unfold primNE at h
  cases hfb : Nat.beq f b with
  | false => rw [hfb] at h; cases h
  | true =>
    have : f = b := Nat.eq_of_beq_eq_true hfb
    subst this
    rw [hfb] at h
    simp only [cond] at h
    split at h
    · rename_i a hargs
      cases h
      rw [hargs] at ha
      obtain ⟨y, r, e1, hy, hr⟩ := ha.inv_cons
      have e2 : r = [] := List.eq_nil_of_length_eq_zero hr.1.symm
      subst e2
      obtain ⟨g, s, hg, e3⟩ := hy.inv_pointer
      subst e3
      obtain rfl : args' = #[.pointer (some ⟨g, s + a.off, none⟩)] := by cases args'; simp_all
      refine ⟨.value (.pointer (some ⟨g, s + a.off, none⟩)), w, run_extern hf hn hb h1 h2 (Lib.run_noEscape w _), ρ, ?_, Sim.refl hH⟩
      exact VRel.pointer (ρ := ρ) (a := ⟨a.block, a.off, none⟩) (g := g) (s := s) hg
    · cases h
theorem primNE_low {b : FuncId} {f : FuncId} {args : Array Value} {H H' : Hp} {v : Value} (h : primNE b f args H = some (v, H')) : H' = H := by
  unfold primNE at h
  cases hfb : Nat.beq f b with
  | false => rw [hfb] at h; cases h
  | true =>
    rw [hfb] at h
    simp only [cond] at h
    split at h
    · cases h; rfl
    · cases h
theorem primIB_low {b : FuncId} {f : FuncId} {args : Array Value} {H H' : Hp} {v : Value} (h : primIB b f args H = some (v, H')) : H' = H := by
  unfold primIB at h
  cases hfb : Nat.beq f b with
  | false => rw [hfb] at h; cases h
  | true =>
    rw [hfb] at h
    simp only [cond] at h
    split at h
    · cases h; rfl
    · cases h
end Go.Proofs.YtjmohjemgohlpaaGreatDoor.Am

/- The abstract machine: a call of which it is known, from any memory, what it hands back, and that what lay there stays. -/
namespace Go.Proofs.YtjmohjemgohlpaaGreatDoor.Am
open Go

theorem BRel.lt_size {P : Program} {base : Nat} {ρ : Ren} {w : World} {g s : Nat} {x : Blk} (h : BRel P base ρ w g s x) (hb : base ≤ w.heap.size) (hx : x ≠ .dead) : g < w.heap.size := by
  have some_lt : ∀ {o : Obj}, w.heap[g]? = some o → g < w.heap.size := fun h => by
    obtain ⟨h1, _⟩ := Array.getElem?_eq_some_iff.1 h
    exact h1
  cases x with
  | dead => exact absurd rfl hx
  | row c o => cases o with
    | true => obtain ⟨_, cc, t, fr, h1, _⟩ := h; exact some_lt h1
    | false => exact Nat.lt_of_lt_of_le h.1 hb
  | trow c t => obtain ⟨_, _, cc, fr, h1, _⟩ := h; exact some_lt h1
  | map es c => obtain ⟨_, _, es', h1, _⟩ := h; exact some_lt h1
  | iter st p => exact some_lt h.2.2
  | loop st p F ps a b => obtain ⟨_, _, l, h1, _⟩ := h; exact some_lt h1
  | deferred => exact some_lt h.2.2

theorem HRel.keep {P : Program} {base : Nat} {ρ : Ren} {H : Hp} {w w' : World} (h : HRel P base ρ H w) (hs : w.heap.size ≤ w'.heap.size) (hw : ∀ g, g < w.heap.size → w'.heap[g]? = w.heap[g]?) : HRel P base ρ H w' := by
  refine ⟨fun b g s hb => ?_, h.inj, h.lt, fun g k hk => Nat.lt_of_lt_of_le (h.nlt g k hk) hs, Nat.le_trans h.sz hs⟩
  have := h.blk b g s hb
  by_cases hd : H.get b = .dead
  · rw [hd]; trivial
  · exact this.keep (Ren.le_refl _) (hw g (this.lt_size h.sz hd))

/-- what is known of such a call -/
def Known (P : Program) (f : FuncId) (args : Array Value) (v : Value) : Prop :=
  ∀ w, Calls P f args w fun e w' => e = .returned v ∧ w.heap.size ≤ w'.heap.size ∧ w'.os = w.os ∧ w'.tape = w.tape ∧ w'.output = w.output ∧ ∀ g, g < w.heap.size → w'.heap[g]? = w.heap[g]?

theorem known_of_call {P : Program} {E : Env} (hE : ∀ base, EnvOK P base E) {n : Nat} {f : FuncId} {args : Array Value} {v : Value} {H' : Hp} (h : call E n f args { tr := .leaf, size := P.globals.size, low := P.globals.size } = some (v, H')) (hf : (E.code f).isSome = true)
    (ha : args.all flat = true) (hv : flat0 v = true) : Known P f args v := fun w => call_start (w := w) ⟨rfl, fun b _ => .inl rfl⟩ (hE _) h hf ha hv

theorem Known.enter {P : Program} {base : Nat} {f : FuncId} {args : Array Value} {v : Value} (h : Known P f args v) (hv : Am.flat v = true) (hr : ∀ w, (callFunc f args).run P w = .ok (.enter f args) w)
    {ρ : Ren} {H : Hp} {w : World} (hH : HRel P base ρ H w) : EnterOK P base ρ H w v H (callFunc f args) := by
  refine ⟨_, _, hr w, callsIn_wide.2 ((h w).mono ?_)⟩
  rintro e w' ⟨rfl, h1, h2, h3, h4, h5⟩
  exact ⟨v, rfl, ρ, .of_flat hv, Ren.le_refl _, hH.keep h1 h5, ⟨h1, h2, h3, h4, fun g hg _ => h5 g hg⟩, fun _ _ h => h, Nat.le_refl _, fun b x hb hn => by rw [hn] at hb; cases hb⟩
end Go.Proofs.YtjmohjemgohlpaaGreatDoor.Am

/- Calls that read one row of known cells and hand back a value without an address: known by a run of their own, they stand in a greater run. By an AI agent. No person has read it. -/
namespace Go.Proofs.YtjmohjemgohlpaaGreatDoor.Am
open Go

theorem VRel.eq_of_flat {ρ : Ren} {v v' : Value} (h : VRel ρ v v') (hf : Am.flat v = true) : v' = v := by
  cases h with
  | agg ha h1 =>
    rename_i a a'
    have hall := Array.all_eq_true_iff_forall_mem.1 (show a.all flat0 = true from hf)
    congr 1
    apply Array.ext ha.symm
    intro i h2 h3
    exact (h1 i a[i] a'[i] (by simp) (by simp)).eq_of_flat0 (hall _ (by simp))
  | tuple ha h1 =>
    rename_i a a'
    have hall := Array.all_eq_true_iff_forall_mem.1 (show a.all flat0 = true from hf)
    congr 1
    apply Array.ext ha.symm
    intro i h2 h3
    exact (h1 i a[i] a'[i] (by simp) (by simp)).eq_of_flat0 (hall _ (by simp))
  | flat h => rfl
  | _ => simp_all [Am.flat, Am.flat0]
theorem VsRel.eq_of_flat1 {ρ : Ren} : ∀ {l l' : List Value}, VsRel ρ l l' → l.all Am.flat = true → l' = l
  | [], l', h, _ => by
    have := h.1
    cases l' with
    | nil => rfl
    | cons a b => simp at this
  | x :: l, l', h, hf => by
    obtain ⟨y, r, rfl, h1, h2⟩ := h.inv_cons
    simp only [List.all_cons, Bool.and_eq_true] at hf
    rw [h1.eq_of_flat hf.1, VsRel.eq_of_flat1 h2 hf.2]

/-- what lay there lies there as it did -/
def StayC (w w' : World) : Prop := w.heap.size ≤ w'.heap.size ∧ w'.os = w.os ∧ w'.tape = w.tape ∧ w'.output = w.output ∧ ∀ g, g < w.heap.size → w'.heap[g]? = w.heap[g]?

/-! ### The start: one row is known -/
def rowH (N : Nat) (c : List Value) : Hp := ({ tr := .leaf, size := N, low := N } : Hp).new (.row c false)
def renR (N g s : Nat) : Ren := ⟨fun b => if b < N then some (b, 0) else if b = N then some (g, s) else none, fun _ => none⟩
theorem start_row {P : Program} {w : World} {c : List Value} (hne : c ≠ []) {g s : Nat} (hc : ∀ (i : Nat) v, c[i]? = some v → flat0 v = true ∧ w.cell? ⟨g, s + i, none⟩ = some v) :
    HRel P w.heap.size (renR P.globals.size g s) (rowH P.globals.size c) w ∧ GRel P (renR P.globals.size g s) := by
  have hget : ∀ b, (rowH P.globals.size c).get b = if b = P.globals.size then .row c false else .dead := by
    intro b
    unfold rowH
    rw [Hp.get_new]; rfl
  have hown : ∀ b, own ((rowH P.globals.size c).get b) = false := by
    intro b; rw [hget]; split <;> rfl
  have hlt : g < w.heap.size := by
    cases c with
    | nil => exact absurd rfl hne
    | cons x r => exact block_lt_of_cell (hc 0 x rfl).2
  have hm : ∀ b x, renR P.globals.size g s b = some x → (b < P.globals.size ∧ x = (b, 0)) ∨ (b = P.globals.size ∧ x = (g, s)) := by
    intro b x h
    simp only [renR] at h
    split at h
    · cases h; exact .inl ⟨‹_›, rfl⟩
    · split at h
      · cases h; exact .inr ⟨‹_›, rfl⟩
      · cases h
  refine ⟨⟨fun b g' s' hb => ?_, fun b d g' s1 s2 hb _ hob _ => ?_, fun b x hb => ?_, fun k j hk => ?_, Nat.le_refl _⟩, fun k hk => ?_⟩
  · rw [hget]
    rcases hm b _ hb with ⟨h1, h2⟩ | ⟨h1, h2⟩
    · rw [if_neg (by omega)]; trivial
    · cases h2
      rw [if_pos h1]
      exact ⟨hlt, fun i v hv => ⟨v, (hc i v hv).2, .flat (hc i v hv).1⟩⟩
  · rw [hown] at hob; cases hob
  · show b < (rowH P.globals.size c).size
    unfold rowH
    rw [Hp.size_new]
    show b < P.globals.size + 1
    rcases hm b x hb with ⟨h1, _⟩ | ⟨h1, _⟩ <;> omega
  · simp [renR] at hk
  · simp [renR, hk]

structure Ent where
  f : FuncId
  sz : Nat
  len : Nat
  cells : List Value
  rest : List Value
  v : Value
def entOK (P : Program) (e : Ent) : Prop := flat e.v = true ∧ e.cells.all flat0 = true ∧ e.rest.all flat = true ∧ e.cells.length = e.len * e.sz ∧ 0 < e.len ∧ (∀ args w, (callFunc e.f args).run P w = .ok (.enter e.f args) w) ∧
  ∀ (w : World) (g s cap : Nat), e.len ≤ cap → (∀ (i : Nat) v, e.cells[i]? = some v → w.cell? ⟨g, s + i, none⟩ = some v) → Calls P e.f (.slice (some ⟨g, s, none⟩) e.len cap :: e.rest).toArray w fun x w' => x = .returned e.v ∧ StayC w w'

def entArgs (N : Nat) (e : Ent) : List Value := .slice (some ⟨N, 0, none⟩) e.len e.len :: e.rest
theorem ent_of_call {P : Program} {E : Env} (hE : ∀ base, EnvOK P base E) {n : Nat} {e : Ent} {H' : Hp} (h : call E n e.f (entArgs P.globals.size e).toArray (rowH P.globals.size e.cells) = some (e.v, H')) (hf : (E.code e.f).isSome = true)
    (hv : flat e.v = true) (hc : e.cells.all flat0 = true) (hr : e.rest.all flat = true) (hl : e.cells.length = e.len * e.sz) (h0 : 0 < e.len) (hs : 0 < e.sz) (hrun : ∀ args w, (callFunc e.f args).run P w = .ok (.enter e.f args) w) : entOK P e := by
  refine ⟨hv, hc, hr, hl, h0, hrun, fun w g s cap hcap hcells => ?_⟩
  have hne : e.cells ≠ [] := by
    intro h
    rw [h] at hl
    have : 0 < e.len * e.sz := Nat.mul_pos h0 hs
    simp at hl; omega
  obtain ⟨h1, h2⟩ := start_row (P := P) hne (g := g) (s := s) fun i v hv => ⟨List.all_eq_true.1 hc v (List.mem_of_getElem? hv), hcells i v hv⟩
  have ha : VsRel (renR P.globals.size g s) (entArgs P.globals.size e) (.slice (some ⟨g, s, none⟩) e.len cap :: e.rest) := by
    refine VsRel.cons (.slice (Nat.le_refl _) hcap (fun h => by simp [isExact] at h) (fun _ => ⟨g, s, by simp [renR], rfl⟩) (fun k h => by simp [isRoomy] at h)) ⟨rfl, fun i x x' e1 e2 => ?_⟩
    rw [e1] at e2; cases e2
    exact .of_flat (List.all_eq_true.1 hr x (List.mem_of_getElem? e1))
  refine Calls.mono (call_sim (hE _) h hf h1 h2 (args' := (.slice (some ⟨g, s, none⟩) e.len cap :: e.rest).toArray) ha) ?_
  rintro x w' ⟨v', rfl, ρ', h3, h4⟩
  have := h3.eq_of_flat hv
  subst this
  refine ⟨rfl, h4.kp.size, h4.kp.os, h4.kp.tape, h4.kp.output, fun k hk => h4.kp.same k hk ?_⟩
  rintro ⟨b, s', hb, ho⟩
  have := (h1.blk b k s' hb).base ho
  omega

/-! ### As a function of the memory -/
def veq : Value → Value → Bool
  | .int .i64 a, .int .i64 b => a == b
  | .int .i32 a, .int .i32 b => a == b
  | .int .u32 a, .int .u32 b => a == b
  | .int .u8 a, .int .u8 b => a == b
  | .string a, .string b => a.data.toList == b.data.toList
  | .bool a, .bool b => a == b
  | .slice none a b, .slice none c d => Nat.beq a c && Nat.beq b d
  | _, _ => false
theorem veq_eq {a b : Value} (h : veq a b = true) : a = b := by
  unfold veq at h
  split at h
  · rw [eq_of_beq h]
  · rw [eq_of_beq h]
  · rw [eq_of_beq h]
  · rw [eq_of_beq h]
  · rename_i x y
    have := eq_of_beq h
    congr 1
    exact ByteArray.ext (Array.toList_inj.1 this)
  · rw [eq_of_beq h]
  · rw [Bool.and_eq_true] at h
    rw [Nat.eq_of_beq_eq_true h.1, Nat.eq_of_beq_eq_true h.2]
  · cases h
def vseq : List Value → List Value → Bool
  | [], [] => true
  | a :: l, b :: r => cond (veq a b) (vseq l r) false
  | _, _ => false
theorem vseq_eq : ∀ {l r : List Value}, vseq l r = true → l = r
  | [], [], _ => rfl
  | [], _ :: _, h => by cases h
  | _ :: _, [], h => by cases h
  | a :: l, b :: r, h => by
    simp only [vseq] at h
    cases hab : veq a b with
    | false => rw [hab] at h; cases h
    | true => rw [hab] at h; rw [veq_eq hab, vseq_eq h]
def lookE (f : FuncId) (a : Addr) (len : Nat) (rest : List Value) (H : Hp) : List Ent → Option (Value × Hp)
  | [] => none
  | e :: r => cond (Nat.beq e.f f) (cond (Nat.beq e.len len) (cond (vseq e.rest rest) (match H.cells? a (e.len * e.sz) with
      | some c => cond (vseq e.cells c) (some (e.v, H)) (lookE f a len rest H r)
      | none => none) (lookE f a len rest H r)) (lookE f a len rest H r)) (lookE f a len rest H r)
def primE (tab : List Ent) (f : FuncId) (args : Array Value) (H : Hp) : Option (Value × Hp) :=
  match args.toList with
  | .slice (some a) len _ :: rest => lookE f a len rest H tab
  | _ => none
theorem lookE_some {f : FuncId} {a : Addr} {len : Nat} {rest : List Value} {H H' : Hp} {v : Value} : ∀ {tab : List Ent}, lookE f a len rest H tab = some (v, H') → ∃ e ∈ tab, e.f = f ∧ e.len = len ∧ e.rest = rest ∧ H.cells? a (e.len * e.sz) = some e.cells ∧ v = e.v ∧ H' = H
  | [], h => by cases h
  | e :: r, h => by
    have next : lookE f a len rest H r = some (v, H') → ∃ e' ∈ e :: r, e'.f = f ∧ e'.len = len ∧ e'.rest = rest ∧ H.cells? a (e'.len * e'.sz) = some e'.cells ∧ v = e'.v ∧ H' = H := fun h => by
      obtain ⟨e', h1, h2⟩ := lookE_some h
      exact ⟨e', List.mem_cons_of_mem _ h1, h2⟩
    simp only [lookE] at h
    cases h1 : Nat.beq e.f f with
    | false => rw [h1] at h; exact next h
    | true =>
      rw [h1] at h
      cases h2 : Nat.beq e.len len with
      | false => rw [h2] at h; exact next h
      | true =>
        rw [h2] at h
        cases h3 : vseq e.rest rest with
        | false => rw [h3] at h; exact next h
        | true =>
          rw [h3] at h
          simp only [cond] at h
          split at h
          · rename_i c hc
            cases h4 : vseq e.cells c with
            | false => rw [h4] at h; exact next h
            | true =>
              rw [h4] at h
              cases h
              exact ⟨e, List.mem_cons_self .., Nat.eq_of_beq_eq_true h1, Nat.eq_of_beq_eq_true h2, vseq_eq h3, by rw [hc, vseq_eq h4], rfl, rfl⟩
          · cases h
theorem primE_low {tab : List Ent} {f : FuncId} {args : Array Value} {H H' : Hp} {v : Value} (h : primE tab f args H = some (v, H')) : H' = H := by
  unfold primE at h
  split at h
  · obtain ⟨e, _, _, _, _, _, _, h7⟩ := lookE_some h
    exact h7
  · cases h
theorem primE_ok {P : Program} {base : Nat} {tab : List Ent} (ht : ∀ e ∈ tab, entOK P e) {f : FuncId} {args args' : Array Value} {H H' : Hp} {v : Value} (h : primE tab f args H = some (v, H'))
    {ρ : Ren} {w : World} (hH : HRel P base ρ H w) (ha : VsRel ρ args.toList args'.toList) : EnterOK P base ρ H w v H' (callFunc f args') := by
  unfold primE at h
  split at h
  · rename_i a len cap rest hargs
    obtain ⟨e, hmem, rfl, rfl, rfl, hc, rfl, rfl⟩ := lookE_some h
    obtain ⟨hv, hcf, hr, hl, h0, hrun, hcalls⟩ := ht e hmem
    rw [hargs] at ha
    obtain ⟨y, r, e1, hy, hrr⟩ := ha.inv_cons
    obtain ⟨a', cap', rfl, k1, k2, _, k4, _⟩ := hy.inv_slice
    obtain ⟨g, s, hg, rfl⟩ := k4 (by omega)
    have := hrr.eq_of_flat1 hr
    subst this
    have e2 : args' = (.slice (some ⟨g, s + a.off, none⟩) e.len cap' :: e.rest).toArray := by rw [← e1]
    rw [e2]
    obtain ⟨cs', q1, q2, q3⟩ := hH.cells hc hg
    have hcs := VsRel.eq_of_flat0 q1 hcf
    subst hcs
    refine ⟨_, _, hrun _ w, callsIn_wide.2 ((hcalls w g (s + a.off) cap' (by omega) fun i v hi => q3 i v hi).mono ?_)⟩
    rintro x w' ⟨rfl, h1, h2, h3, h4, h5⟩
    exact ⟨e.v, rfl, ρ, .of_flat hv, Ren.le_refl _, hH.keep h1 h5, ⟨h1, h2, h3, h4, fun g hg _ => h5 g hg⟩, fun _ _ h => h, Nat.le_refl _, fun b x hb hn => by rw [hn] at hb; cases hb⟩
  · cases h

def vsame : Value → Value → Bool
  | .tuple a, .tuple b => vseq a.toList b.toList
  | a, b => veq a b
theorem vsame_eq {a b : Value} (h : vsame a b = true) : a = b := by
  unfold vsame at h
  split at h
  · congr 1; exact Array.toList_inj.1 (vseq_eq h)
  · exact veq_eq h
/-- the check of an entry, as the kernel runs it: what the call hands back is this value -/
noncomputable def entRan (X : FO) (N : Nat) (e : Ent) : Bool := X.cf e.f (entArgs N e) (rowH N e.cells) fun v _ => vsame v e.v
theorem entRan_ok {O : Oracle} {X : FO} (hX : FOK O X) {N : Nat} {e : Ent} (h : entRan X N e = true) : ∃ H', O.cf e.f (entArgs N e).toArray (rowH N e.cells) = some (e.v, H') := by
  obtain ⟨v, H', h1, h2⟩ := hX.cf _ _ _ _ h
  rw [vsame_eq h2] at h1
  exact ⟨H', h1⟩

/-! ### Calls at flat arguments -/
structure EntF where
  f : FuncId
  args : List Value
  v : Value
def entFAt (P : Program) (w : World) (e : EntF) : Prop := flat e.v = true ∧ e.args.all flat = true ∧ (∀ args w, (callFunc e.f args).run P w = .ok (.enter e.f args) w) ∧
  Calls P e.f e.args.toArray w fun x w' => x = .returned e.v ∧ StayC w w'
def entFOK (P : Program) (e : EntF) : Prop := ∀ w, entFAt P w e
theorem start_none {P : Program} {w : World} : HRel P w.heap.size (ren0 P) { tr := .leaf, size := P.globals.size, low := P.globals.size } w ∧ GRel P (ren0 P) :=
  ⟨Start.hrel (P := P) ⟨rfl, fun b _ => .inl rfl⟩, gRel0 P⟩
theorem entF_at {P : Program} {E : Env} (hE : ∀ base, EnvOK P base E) {n : Nat} {e : EntF} {H0 H' : Hp} {w : World} (h1 : HRel P w.heap.size (ren0 P) H0 w) (h2 : GRel P (ren0 P)) (h : call E n e.f e.args.toArray H0 = some (e.v, H')) (hf : (E.code e.f).isSome = true)
    (hv : flat e.v = true) (hr : e.args.all flat = true) (hrun : ∀ args w, (callFunc e.f args).run P w = .ok (.enter e.f args) w) : entFAt P w e := by
  refine ⟨hv, hr, hrun, ?_⟩
  have ha : VsRel (ren0 P) e.args e.args := ⟨rfl, fun i x x' e1 e2 => by
    rw [e1] at e2; cases e2
    exact .of_flat (List.all_eq_true.1 hr x (List.mem_of_getElem? e1))⟩
  refine Calls.mono (call_sim (hE _) h hf h1 h2 (args' := e.args.toArray) ha) ?_
  rintro x w' ⟨v', rfl, ρ', h3, h4⟩
  have := h3.eq_of_flat hv
  subst this
  refine ⟨rfl, h4.kp.size, h4.kp.os, h4.kp.tape, h4.kp.output, fun k hk => h4.kp.same k hk ?_⟩
  rintro ⟨b, s', hb, ho⟩
  have := (h1.blk b k s' hb).base ho
  omega
theorem entF_of_call {P : Program} {E : Env} (hE : ∀ base, EnvOK P base E) {n : Nat} {e : EntF} {H' : Hp} (h : call E n e.f e.args.toArray { tr := .leaf, size := P.globals.size, low := P.globals.size } = some (e.v, H')) (hf : (E.code e.f).isSome = true)
    (hv : flat e.v = true) (hr : e.args.all flat = true) (hrun : ∀ args w, (callFunc e.f args).run P w = .ok (.enter e.f args) w) : entFOK P e := fun w => by
  obtain ⟨h1, h2⟩ := start_none (P := P) (w := w)
  exact entF_at hE h1 h2 h hf hv hr hrun
def lookF (f : FuncId) (args : List Value) : List EntF → Option Value
  | [] => none
  | e :: r => cond (Nat.beq e.f f) (cond (vseq e.args args) (some e.v) (lookF f args r)) (lookF f args r)
def primF (tab : List EntF) (f : FuncId) (args : Array Value) (H : Hp) : Option (Value × Hp) := (lookF f args.toList tab).map fun v => (v, H)
theorem lookF_some {f : FuncId} {args : List Value} {v : Value} : ∀ {tab : List EntF}, lookF f args tab = some v → ∃ e ∈ tab, e.f = f ∧ e.args = args ∧ v = e.v
  | [], h => by cases h
  | e :: r, h => by
    have next : lookF f args r = some v → ∃ e' ∈ e :: r, e'.f = f ∧ e'.args = args ∧ v = e'.v := fun h => by
      obtain ⟨e', h1, h2⟩ := lookF_some h
      exact ⟨e', List.mem_cons_of_mem _ h1, h2⟩
    simp only [lookF] at h
    cases h1 : Nat.beq e.f f with
    | false => rw [h1] at h; exact next h
    | true =>
      rw [h1] at h
      cases h2 : vseq e.args args with
      | false => rw [h2] at h; exact next h
      | true =>
        rw [h2] at h
        cases h
        exact ⟨e, List.mem_cons_self .., Nat.eq_of_beq_eq_true h1, vseq_eq h2, rfl⟩
theorem primF_low {tab : List EntF} {f : FuncId} {args : Array Value} {H H' : Hp} {v : Value} (h : primF tab f args H = some (v, H')) : H' = H := by
  unfold primF at h
  obtain ⟨u, _, h2⟩ := Option.map_eq_some_iff.1 h
  cases h2; rfl
theorem primF_ok {P : Program} {base : Nat} {tab : List EntF} {w : World} (ht : ∀ e ∈ tab, entFAt P w e) {f : FuncId} {args args' : Array Value} {H H' : Hp} {v : Value} (h : primF tab f args H = some (v, H'))
    {ρ : Ren} (hH : HRel P base ρ H w) (ha : VsRel ρ args.toList args'.toList) : EnterOK P base ρ H w v H' (callFunc f args') := by
  unfold primF at h
  obtain ⟨u, h1, h2⟩ := Option.map_eq_some_iff.1 h
  cases h2
  obtain ⟨e, hmem, rfl, h3, rfl⟩ := lookF_some h1
  obtain ⟨hv, hr, hrun, hcalls⟩ := ht e hmem
  rw [← h3] at ha
  have := ha.eq_of_flat1 hr
  have e2 : args' = e.args.toArray := by rw [← this]
  rw [e2]
  refine ⟨_, _, hrun _ w, callsIn_wide.2 (hcalls.mono ?_)⟩
  rintro x w' ⟨rfl, h1, h2, h3, h4, h5⟩
  exact ⟨e.v, rfl, ρ, .of_flat hv, Ren.le_refl _, hH.keep h1 h5, ⟨h1, h2, h3, h4, fun g hg _ => h5 g hg⟩, fun _ _ h => h, Nat.le_refl _, fun b x hb hn => by rw [hn] at hb; cases hb⟩
noncomputable def entFRan (X : FO) (N : Nat) (e : EntF) : Bool := X.cf e.f e.args { tr := .leaf, size := N, low := N } fun v _ => vsame v e.v
theorem entFRan_ok {O : Oracle} {X : FO} (hX : FOK O X) {N : Nat} {e : EntF} (h : entFRan X N e = true) : ∃ H', O.cf e.f e.args.toArray { tr := .leaf, size := N, low := N } = some (e.v, H') := by
  obtain ⟨v, H', h1, h2⟩ := hX.cf _ _ _ _ h
  rw [vsame_eq h2] at h1
  exact ⟨H', h1⟩
/-! ### Both, ahead of another -/
def primX (tabE : List Ent) (tabF : List EntF) (pb : FuncId → Array Value → Hp → Option (Value × Hp)) (f : FuncId) (args : Array Value) (H : Hp) : Option (Value × Hp) :=
  match primE tabE f args H with
  | some r => some r
  | none => match primF tabF f args H with
    | some r => some r
    | none => pb f args H
theorem primX_low {tabE : List Ent} {tabF : List EntF} {pb : FuncId → Array Value → Hp → Option (Value × Hp)} (hb : ∀ {f args H v H'}, pb f args H = some (v, H') → H' = H) {f : FuncId} {args : Array Value} {H H' : Hp} {v : Value} (h : primX tabE tabF pb f args H = some (v, H')) : H' = H := by
  unfold primX at h
  split at h
  · rename_i r hr; cases h; exact primE_low hr
  · split at h
    · rename_i r hr; cases h; exact primF_low hr
    · exact hb h
theorem primX_ok {P : Program} {base : Nat} {tabE : List Ent} {tabF : List EntF} {pb : FuncId → Array Value → Hp → Option (Value × Hp)} (hE : ∀ e ∈ tabE, entOK P e) (hF : ∀ e ∈ tabF, entFOK P e)
    (hb : ∀ {f : FuncId} {args args' : Array Value} {H H' : Hp} {v : Value}, pb f args H = some (v, H') → ∀ {ρ : Ren} {w : World}, HRel P base ρ H w → VsRel ρ args.toList args'.toList → EnterOK P base ρ H w v H' (callFunc f args'))
    {f : FuncId} {args args' : Array Value} {H H' : Hp} {v : Value} (h : primX tabE tabF pb f args H = some (v, H')) {ρ : Ren} {w : World} (hH : HRel P base ρ H w) (ha : VsRel ρ args.toList args'.toList) : EnterOK P base ρ H w v H' (callFunc f args') := by
  unfold primX at h
  split at h
  · rename_i r hr; cases h; exact primE_ok hE hr hH ha
  · split at h
    · rename_i r hr; cases h; exact primF_ok (fun e he => hF e he _) hr hH ha
    · exact hb h hH ha
noncomputable def cutCode (l : List FuncId) (c : FuncId → Option CF) (f : FuncId) : Option CF := @Bool.rec (fun _ => Option CF) (c f) none (isIn f l)
theorem cutCode_some {l : List FuncId} {c : FuncId → Option CF} {f : FuncId} {cf : CF} (h : cutCode l c f = some cf) : c f = some cf := by
  unfold cutCode at h
  cases hb : isIn f l with
  | true => rw [hb] at h; cases h
  | false => rw [hb] at h; exact h
end Go.Proofs.YtjmohjemgohlpaaGreatDoor.Am

/- Calls at flat arguments that hand back a new slice of cells without an address, and one value more: known by a run of their own, they stand in a greater run. By an AI agent. No person has read it. -/
namespace Go.Proofs.YtjmohjemgohlpaaGreatDoor.Am
open Go

structure EntH where
  f : FuncId
  args : List Value
  cells : List Value
  sp : Option Nat
  len : Nat
  cap : Nat
  x : Value
def freshV (e : EntH) (b : Nat) : Value := .tuple #[.slice (some ⟨b, 0, e.sp⟩) e.len e.cap, e.x]
/-- what is laid: the slice's cells in a new row -/
def FreshAt (e : EntH) (w w' : World) (y : Value) : Prop :=
  ∃ (g s cap' : Nat) (cc : Array Value) (t : TypeId) (fr : Nat × Nat), y = .tuple #[.slice (some ⟨g, s, none⟩) e.len cap', e.x] ∧ w.heap.size ≤ g ∧ w'.heap[g]? = some (.cells cc t fr) ∧ okFrozen fr cc.size ∧ s + e.cells.length ≤ cc.size ∧
    (∀ (i : Nat) v, e.cells[i]? = some v → cc[s + i]? = some v) ∧ e.len ≤ e.cap ∧ e.cap ≤ cap' ∧ (isExact ⟨0, 0, e.sp⟩ = true → e.cap = cap') ∧ (∀ k, isRoomy ⟨0, 0, e.sp⟩ k = true → s + cap' * k ≤ cc.size)
def entHAt (P : Program) (w : World) (e : EntH) : Prop := flat0 e.x = true ∧ e.cells.all flat0 = true ∧ e.args.all flat = true ∧ 0 < e.cap ∧ (∀ args w, (callFunc e.f args).run P w = .ok (.enter e.f args) w) ∧
  Calls P e.f e.args.toArray w fun y w' => ∃ v, y = .returned v ∧ FreshAt e w w' v ∧ StayC w w'
theorem isExact_sp {b o : Nat} {sp : Option Nat} : isExact ⟨b, o, sp⟩ = isExact ⟨0, 0, sp⟩ := rfl
theorem isRoomy_sp {b o k : Nat} {sp : Option Nat} : isRoomy ⟨b, o, sp⟩ k = isRoomy ⟨0, 0, sp⟩ k := rfl
theorem entH_at {P : Program} {E : Env} (hE : ∀ base, EnvOK P base E) {n : Nat} {e : EntH} {H0 H' : Hp} {w : World} (h1 : HRel P w.heap.size (ren0 P) H0 w) (h2 : GRel P (ren0 P)) {b : Nat} (h : call E n e.f e.args.toArray H0 = some (freshV e b, H')) (hb : H'.get b = .row e.cells true) (hf : (E.code e.f).isSome = true)
    (hv : flat0 e.x = true) (hc : e.cells.all flat0 = true) (hr : e.args.all flat = true) (h0 : 0 < e.cap) (hrun : ∀ args w, (callFunc e.f args).run P w = .ok (.enter e.f args) w) : entHAt P w e := by
  refine ⟨hv, hc, hr, h0, hrun, ?_⟩
  have ha : VsRel (ren0 P) e.args e.args := ⟨rfl, fun i x x' e1 e2 => by
    rw [e1] at e2; cases e2
    exact .of_flat (List.all_eq_true.1 hr x (List.mem_of_getElem? e1))⟩
  refine Calls.mono (call_sim (hE _) h hf h1 h2 (args' := e.args.toArray) ha) ?_
  rintro y w' ⟨v', rfl, ρ', h3, h4⟩
  have hstay : StayC w w' := by
    refine ⟨h4.kp.size, h4.kp.os, h4.kp.tape, h4.kp.output, fun k hk => h4.kp.same k hk ?_⟩
    rintro ⟨b, s', hb, ho⟩
    have := (h1.blk b k s' hb).base ho
    omega
  refine ⟨v', rfl, ?_, hstay⟩
  obtain ⟨cs', rfl, h5⟩ := VRel.inv_tuple h3
  obtain ⟨v1, r1, e1, k1, h6⟩ := h5.inv_cons
  obtain ⟨v2, r2, e2, k2, h7⟩ := h6.inv_cons
  have e3 : r2 = [] := List.eq_nil_of_length_eq_zero h7.1.symm
  subst e3
  have k3 := k2.eq_of_flat0 hv
  subst k3
  obtain ⟨a', c', rfl, q1, q2, q3, q4, q5⟩ := k1.inv_slice
  obtain ⟨g, s, hg, rfl⟩ := q4 h0
  have hbl := h4.rel.blk b g s hg
  rw [hb] at hbl
  obtain ⟨hbase, cc, t, fr, m1, m2, m3, m4, m5⟩ := hbl
  refine ⟨g, s, c', cc, t, fr, ?_, hbase, m1, m2, m3, fun i v hi => ?_, q1, q2, fun h => q3 h, fun k hk => ?_⟩
  · congr 1
    rw [← Array.toList_inj]
    rw [e1, e2]; simp
  · obtain ⟨v', n1, n2⟩ := m5 i v hi
    have := n2.eq_of_flat0 (List.all_eq_true.1 hc v (List.mem_of_getElem? hi))
    subst this
    exact n1
  · obtain ⟨N, n1, n2⟩ := q5 k hk h0
    rw [m4] at n1
    cases n1
    simpa using n2
def lookH (f : FuncId) (args : List Value) : List EntH → Option EntH
  | [] => none
  | e :: r => cond (Nat.beq e.f f) (cond (vseq e.args args) (some e) (lookH f args r)) (lookH f args r)
def primH (tab : List EntH) (f : FuncId) (args : Array Value) (H : Hp) : Option (Value × Hp) :=
  match lookH f args.toList tab with
  | some e => some (freshV e H.size, H.new (.row e.cells true))
  | none => none
theorem lookH_some {f : FuncId} {args : List Value} {d : EntH} : ∀ {tab : List EntH}, lookH f args tab = some d → d ∈ tab ∧ d.f = f ∧ d.args = args
  | [], h => by cases h
  | e :: r, h => by
    have next : lookH f args r = some d → d ∈ e :: r ∧ d.f = f ∧ d.args = args := fun h => by
      obtain ⟨h1, h2⟩ := lookH_some h
      exact ⟨List.mem_cons_of_mem _ h1, h2⟩
    simp only [lookH] at h
    cases h1 : Nat.beq e.f f with
    | false => rw [h1] at h; exact next h
    | true =>
      rw [h1] at h
      cases h2 : vseq e.args args with
      | false => rw [h2] at h; exact next h
      | true =>
        rw [h2] at h
        cases h
        exact ⟨List.mem_cons_self .., Nat.eq_of_beq_eq_true h1, vseq_eq h2⟩
theorem primH_low {tab : List EntH} {f : FuncId} {args : Array Value} {H H' : Hp} {v : Value} (h : primH tab f args H = some (v, H')) : LowOK H H' := by
  unfold primH at h
  split at h
  · cases h; exact LowOK.new _ _
  · cases h
theorem primH_ok {P : Program} {base : Nat} {tab : List EntH} {w : World} (ht : ∀ e ∈ tab, entHAt P w e) {f : FuncId} {args args' : Array Value} {H H' : Hp} {v : Value} (h : primH tab f args H = some (v, H'))
    {ρ : Ren} (hH : HRel P base ρ H w) (ha : VsRel ρ args.toList args'.toList) : EnterOK P base ρ H w v H' (callFunc f args') := by
  unfold primH at h
  split at h
  case h_2 => cases h
  rename_i e hl
  cases h
  obtain ⟨hmem, rfl, h3⟩ := lookH_some hl
  obtain ⟨hv, hcf, hr, h0, hrun, hcalls⟩ := ht e hmem
  rw [← h3] at ha
  have := ha.eq_of_flat1 hr
  have e2 : args' = e.args.toArray := by rw [← this]
  rw [e2]
  refine ⟨_, _, hrun _ w, callsIn_wide.2 (hcalls.mono ?_)⟩
  rintro y w' ⟨u, rfl, ⟨g, s, cap', cc, t, fr, rfl, hg, m1, m2, m3, m5, q1, q2, q3, q5⟩, k1, k2, k3, k4, k5⟩
  have hkeep := hH.keep (w' := w') k1 k5
  have hn : ρ H.size = none := by
    cases e : ρ H.size with
    | none => rfl
    | some y => have := hH.lt _ _ e; omega
  have hn2 : ρ.n g = none := by
    cases e : ρ.n g with
    | none => rfl
    | some y => have := hH.nlt _ _ e; omega
  have hle := Ren.le_add (g, s) (some cc.size) hn
  have hadd := Ren.add_n ρ H.size (g, s) (some cc.size) hn2
  have hglt : g < w'.heap.size := (Array.getElem?_eq_some_iff.1 m1).1
  have hold : ∀ c g' s', ρ.add H.size (g, s) (some cc.size) c = some (g', s') → (c = H.size ∧ g' = g ∧ s' = s) ∨ (c ≠ H.size ∧ ρ c = some (g', s')) := by
    intro c g' s' hc
    by_cases e : c = H.size
    · subst e; rw [Ren.add_same] at hc; cases hc; exact .inl ⟨rfl, rfl, rfl⟩
    · rw [Ren.add_ne _ _ _ e] at hc; exact .inr ⟨e, hc⟩
  have hget : ∀ c, (H.new (.row e.cells true)).get c = if c = H.size then .row e.cells true else H.get c := fun c => Hp.get_new _ _ _
  have hrel : HRel P base (ρ.add H.size (g, s) (some cc.size)) (H.new (.row e.cells true)) w' := by
    refine ⟨fun c g' s' hc => ?_, fun c d g' s1 s2 hc hd hoc hod => ?_, fun c x hc => ?_, fun k j hk => ?_, hkeep.sz⟩
    · rw [hget]
      rcases hold c g' s' hc with ⟨rfl, rfl, rfl⟩ | ⟨hne, hc'⟩
      · rw [if_pos rfl]
        exact ⟨Nat.le_trans hH.sz hg, cc, t, fr, m1, m2, m3, hadd, fun i v hi => ⟨v, m5 i v hi, .flat (List.all_eq_true.1 hcf v (List.mem_of_getElem? hi))⟩⟩
      · rw [if_neg hne]
        exact (hkeep.blk c g' s' hc').keep hle rfl
    · rw [hget] at hoc hod
      rcases hold c g' s1 hc with ⟨rfl, rfl, rfl⟩ | ⟨hnc, hc'⟩
      · rcases hold d _ s2 hd with ⟨rfl, _, _⟩ | ⟨hnd, hd'⟩
        · rfl
        · rw [if_neg hnd] at hod
          have := (hH.blk d _ s2 hd').lt hod
          omega
      · rw [if_neg hnc] at hoc
        rcases hold d _ s2 hd with ⟨rfl, rfl, rfl⟩ | ⟨hnd, hd'⟩
        · have := (hH.blk c _ s1 hc').lt hoc
          omega
        · rw [if_neg hnd] at hod
          exact hH.inj c d g' s1 s2 hc' hd' hoc hod
    · obtain ⟨g', s'⟩ := x
      rw [Hp.size_new]
      rcases hold c g' s' hc with ⟨rfl, _, _⟩ | ⟨_, hc'⟩
      · omega
      · have := hH.lt _ _ hc'; omega
    · by_cases e : k = g
      · rw [e]; exact hglt
      · have h9 : (ρ.add H.size (g, s) (some cc.size)).n k = ρ.n k := by
          show (if k = g ∧ ρ.n k = none then some cc.size else ρ.n k) = ρ.n k
          rw [if_neg (fun h => e h.1)]
        rw [h9] at hk
        exact hkeep.nlt k j hk
  refine ⟨_, rfl, ρ.add H.size (g, s) (some cc.size), ?_, hle, hrel, ⟨k1, k2, k3, k4, fun k hk _ => k5 k hk⟩, fun k hk hx => ?_, by rw [Hp.size_new]; omega, fun c x hc hc0 => ?_⟩
  · refine .tuple rfl fun i u u' e1 e2 => ?_
    match i with
    | 0 =>
      simp at e1 e2
      subst e1 e2
      refine .slice q1 q2 (fun h => q3 h) (fun _ => ⟨g, s, Ren.add_same _ _ _ _, by simp⟩) (fun k hk _ => ⟨cc.size, hadd, q5 k hk⟩)
    | 1 =>
      simp at e1 e2
      subst e1 e2
      exact .flat hv
    | i + 2 => simp at e1
  · obtain ⟨c, s', hc, hoc⟩ := hx
    rw [hget] at hoc
    rcases hold c k s' hc with ⟨rfl, rfl, _⟩ | ⟨hnc, hc'⟩
    · omega
    · rw [if_neg hnc] at hoc
      exact ⟨c, s', hc', hoc⟩
  · obtain ⟨g', s'⟩ := x
    rcases hold c g' s' hc with ⟨rfl, rfl, _⟩ | ⟨_, hc'⟩
    · exact Nat.le_refl _
    · rw [hc'] at hc0; cases hc0

/-- the check of an entry, as the kernel runs it -/
def freshIs (e : EntH) (v : Value) (H : Hp) : Bool :=
  match v with
  | .tuple a => match a.toList with
    | [.slice (some ⟨b, 0, sp⟩) l c, x] => decide (sp = e.sp) && Nat.beq l e.len && Nat.beq c e.cap && veq x e.x && (match H.get b with
      | .row cs true => vseq cs e.cells
      | _ => false)
    | _ => false
  | _ => false
theorem freshIs_ok {e : EntH} {v : Value} {H : Hp} (h : freshIs e v H = true) : ∃ b, v = freshV e b ∧ H.get b = .row e.cells true := by
  unfold freshIs at h
  split at h
  · rename_i a
    split at h
    · rename_i b sp l c x ha
      simp only [Bool.and_eq_true, decide_eq_true_eq] at h
      obtain ⟨⟨⟨⟨h1, h2⟩, h3⟩, h4⟩, h5⟩ := h
      split at h5
      · rename_i cs hb
        refine ⟨b, ?_, by rw [hb, vseq_eq h5]⟩
        have e2 := Nat.eq_of_beq_eq_true h2
        have e3 := Nat.eq_of_beq_eq_true h3
        have e4 := veq_eq h4
        subst h1 e2 e3 e4
        unfold freshV
        congr 1
        rw [← Array.toList_inj, ha]
      · cases h5
    · cases h
  · cases h
noncomputable def entHRan (X : FO) (H0 : Hp) (e : EntH) : Bool := X.cf e.f e.args H0 fun v H => freshIs e v H
theorem entHRan_ok {O : Oracle} {X : FO} (hX : FOK O X) {H0 : Hp} {e : EntH} (h : entHRan X H0 e = true) : ∃ b H', O.cf e.f e.args.toArray H0 = some (freshV e b, H') ∧ H'.get b = .row e.cells true := by
  obtain ⟨v, H', h1, h2⟩ := hX.cf _ _ _ _ h
  obtain ⟨b, rfl, h3⟩ := freshIs_ok h2
  exact ⟨b, H', h1, h3⟩

/-! ### A table that must lie in memory -/
def TabAt (gm : Nat) (T : List Value) (w : World) : Prop := ∀ (i : Nat) v, T[i]? = some v → w.cell? ⟨gm, i, none⟩ = some v
def tabIn (gm : Nat) (T : List Value) (H : Hp) : Bool :=
  match H.get gm with
  | .row c false => vseq T c
  | _ => false
theorem tabIn_at {P : Program} {base : Nat} {ρ : Ren} {gm : Nat} {T : List Value} {H : Hp} {w : World} (h : tabIn gm T H = true) (hT : T.all flat0 = true) (hg : gm < P.globals.size) (hH : HRel P base ρ H w) (hG : GRel P ρ) : TabAt gm T w := by
  unfold tabIn at h
  split at h
  · rename_i c hc
    have := vseq_eq h
    subst this
    have hb := hH.blk gm gm 0 (hG gm hg)
    rw [hc] at hb
    intro i v hv
    obtain ⟨v', h1, h2⟩ := hb.2 i v hv
    have := h2.eq_of_flat0 (List.all_eq_true.1 hT v (List.mem_of_getElem? hv))
    subst this
    simpa using h1
  · cases h
def tabHp (N gm : Nat) (T : List Value) : Hp := { tr := Tr.leaf.set gm (.row T false), size := N, low := N }
theorem start_tab {P : Program} {gm : Nat} {T : List Value} (hne : T ≠ []) (hT : T.all flat0 = true) {w : World} (hw : TabAt gm T w) : Start P (tabHp P.globals.size gm T) w := by
  refine ⟨rfl, fun b _ => ?_⟩
  have hg : (tabHp P.globals.size gm T).get b = if b = gm then Blk.row T false else Blk.dead := by
    show ((Tr.leaf.set gm (Blk.row T false)).get b).getD Blk.dead = _
    rw [Tr.get_set]
    split <;> rfl
  rw [hg]
  by_cases h : b = gm
  · rw [if_pos h]
    exact .inr ⟨_, rfl, hne, fun i v hv => ⟨List.all_eq_true.1 hT v (List.mem_of_getElem? hv), by rw [h]; exact hw i v hv⟩⟩
  · rw [if_neg h]; exact .inl rfl
noncomputable def entFRanT (X : FO) (H0 : Hp) (e : EntF) : Bool := X.cf e.f e.args H0 fun v _ => vsame v e.v
theorem entFRanT_ok {O : Oracle} {X : FO} (hX : FOK O X) {H0 : Hp} {e : EntF} (h : entFRanT X H0 e = true) : ∃ H', O.cf e.f e.args.toArray H0 = some (e.v, H') := by
  obtain ⟨v, H', h1, h2⟩ := hX.cf _ _ _ _ h
  rw [vsame_eq h2] at h1
  exact ⟨H', h1⟩
/-- functions that need the table: of one value, and of a new slice -/
def primT (gm : Nat) (T : List Value) (tabF : List EntF) (tabH : List EntH) (pb : FuncId → Array Value → Hp → Option (Value × Hp)) (f : FuncId) (args : Array Value) (H : Hp) : Option (Value × Hp) :=
  match primF tabF f args H with
  | some r => cond (tabIn gm T H) (some r) none
  | none => match primH tabH f args H with
    | some r => cond (tabIn gm T H) (some r) none
    | none => pb f args H
theorem primT_low {gm : Nat} {T : List Value} {tabF : List EntF} {tabH : List EntH} {pb : FuncId → Array Value → Hp → Option (Value × Hp)} (hb : ∀ {f args H v H'}, pb f args H = some (v, H') → LowOK H H') {f : FuncId} {args : Array Value} {H H' : Hp} {v : Value} (h : primT gm T tabF tabH pb f args H = some (v, H')) : LowOK H H' := by
  unfold primT at h
  split at h
  · rename_i r hr
    cases ht : tabIn gm T H with
    | false => rw [ht] at h; cases h
    | true => rw [ht] at h; cases h; rw [primF_low hr]; exact LowOK.refl H
  · split at h
    · rename_i r hr
      cases ht : tabIn gm T H with
      | false => rw [ht] at h; cases h
      | true => rw [ht] at h; cases h; exact primH_low hr
    · exact hb h
theorem primT_ok {P : Program} {base gm : Nat} {T : List Value} {tabF : List EntF} {tabH : List EntH} {pb : FuncId → Array Value → Hp → Option (Value × Hp)} (hT : T.all flat0 = true) (hgm : gm < P.globals.size) (hF : ∀ e ∈ tabF, ∀ w, TabAt gm T w → entFAt P w e) (hHt : ∀ e ∈ tabH, ∀ w, TabAt gm T w → entHAt P w e)
    (hb : ∀ {f : FuncId} {args args' : Array Value} {H H' : Hp} {v : Value}, pb f args H = some (v, H') → ∀ {ρ : Ren} {w : World}, HRel P base ρ H w → VsRel ρ args.toList args'.toList → EnterOK P base ρ H w v H' (callFunc f args'))
    {f : FuncId} {args args' : Array Value} {H H' : Hp} {v : Value} (h : primT gm T tabF tabH pb f args H = some (v, H')) {ρ : Ren} {w : World} (hH : HRel P base ρ H w) (hG : GRel P ρ) (ha : VsRel ρ args.toList args'.toList) : EnterOK P base ρ H w v H' (callFunc f args') := by
  unfold primT at h
  split at h
  · rename_i r hr
    cases ht : tabIn gm T H with
    | false => rw [ht] at h; cases h
    | true =>
      rw [ht] at h; cases h
      exact primF_ok (fun e he => hF e he w (tabIn_at ht hT hgm hH hG)) hr hH ha
  · split at h
    · rename_i r hr
      cases ht : tabIn gm T H with
      | false => rw [ht] at h; cases h
      | true =>
        rw [ht] at h; cases h
        exact primH_ok (fun e he => hHt e he w (tabIn_at ht hT hgm hH hG)) hr hH ha
    · exact hb h hH ha
end Go.Proofs.YtjmohjemgohlpaaGreatDoor.Am
