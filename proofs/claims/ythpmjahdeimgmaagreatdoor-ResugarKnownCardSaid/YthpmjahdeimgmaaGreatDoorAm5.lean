/- Functions of Go's library that the model itself answers; calls that are known. By an AI agent. No person has read it. -/
import Derived.Test.YthpmjahdeimgmaaGreatDoorAm4
import Derived.Lib.Bytealg

/- The abstract machine: functions of Go's library that the model itself answers. -/
namespace Go.Proofs.YthpmjahdeimgmaaGreatDoor.Am
open Go

theorem VsRel.eq_of_flat0 {ρ : Ren} : ∀ {l l' : List Value}, VsRel ρ l l' → l.all flat0 = true → l' = l
  | [], l', h, _ => by
    have := h.1
    cases l' with
    | nil => rfl
    | cons a b => simp at this
  | x :: l, l', h, hf => by
    obtain ⟨y, r, rfl, h1, h2⟩ := h.inv_cons
    simp only [List.all_cons, Bool.and_eq_true] at hf
    rw [h1.eq_of_flat0 hf.1, VsRel.eq_of_flat0 h2 hf.2]

theorem enter_value {P : Program} {base : Nat} {ρ : Ren} {H : Hp} {w : World} {v : Value} {s : Sem Next} (hs : s.run P w = .ok (.value v) w) (hv : Am.flat v = true) (hH : HRel P base ρ H w) : EnterOK P base ρ H w v H s :=
  ⟨_, _, hs, ρ, VRel.of_flat hv, Sim.refl hH⟩

theorem run_extern {P : Program} {f : FuncId} {fn : Func} {e : Array Value → Sem Value} (hf : P.funcs[f]? = some fn) (hn : (fn.name == "runtime.NumGoroutine") = false) (hb : fn.body.isNone = true)
    (h1 : (Extern.findNext fn).isNone = true) (h2 : Extern.find fn = some e) {args : Array Value} {w : World} {v : Value} (he : (e args).run P w = .ok v w) : (callFunc f args).run P w = .ok (.value v) w := by
  have h1' : Extern.findNext fn = none := by simpa using h1
  have hn' : ¬ fn.name = "runtime.NumGoroutine" := by simpa using hn
  have hb' : fn.body = none := by simpa using hb
  unfold callFunc
  simp [hf, hn', hb', h1', h2, he]

/-- internal/bytealg.IndexByteString, where it is function b -/
def primIB (b : FuncId) (f : FuncId) (args : Array Value) (H : Hp) : Option (Value × Hp) :=
  cond (Nat.beq f b) (match args.toList with
    | [.string s, .int .u8 c] => some (.int .i64 (Lib.indexByte s.data.toList c.toNat.toUInt8), H)
    | _ => none) none

theorem primIB_ok {P : Program} {base b : Nat} {fn : Func} (hf : P.funcs[b]? = some fn) (hn : (fn.name == "runtime.NumGoroutine") = false) (hb : fn.body.isNone = true)
    (h1 : (Extern.findNext fn).isNone = true) (h2 : Extern.find fn = some Extern.BytealgIndexByte.indexByte) {f : FuncId} {args args' : Array Value} {H H' : Hp} {v : Value} (h : primIB b f args H = some (v, H'))
    {ρ : Ren} {w : World} (hH : HRel P base ρ H w) (ha : VsRel ρ args.toList args'.toList) : EnterOK P base ρ H w v H' (callFunc f args') := by
  unfold primIB at h
  cases hfb : Nat.beq f b with
  | false => rw [hfb] at h; cases h
  | true =>
    have : f = b := Nat.eq_of_beq_eq_true hfb
    subst this
    rw [hfb] at h
    simp only [cond] at h
    split at h
    · rename_i s c hargs
      cases h
      rw [hargs] at ha
      have := ha.eq_of_flat0 rfl
      obtain rfl : args' = #[.string s, .int .u8 c] := by cases args'; simp_all
      exact enter_value (run_extern hf hn hb h1 h2 (Lib.run_indexByteString s c w)) rfl hH
    · cases h
theorem primIB_low {b : FuncId} {f : FuncId} {args : Array Value} {H H' : Hp} {v : Value} (h : primIB b f args H = some (v, H')) : H' = H := by
  unfold primIB at h
  cases hfb : Nat.beq f b with
  | false => rw [hfb] at h; cases h
  | true =>
    rw [hfb] at h
    simp only [cond] at h
    split at h
    · cases h; rfl
    · cases h
end Go.Proofs.YthpmjahdeimgmaaGreatDoor.Am

/- The abstract machine: a call of which it is known, from any memory, what it hands back, and that what lay there stays. -/
namespace Go.Proofs.YthpmjahdeimgmaaGreatDoor.Am
open Go

theorem BRel.lt_size {P : Program} {base : Nat} {ρ : Ren} {w : World} {g s : Nat} {x : Blk} (h : BRel P base ρ w g s x) (hb : base ≤ w.heap.size) (hx : x ≠ .dead) : g < w.heap.size := by
  have some_lt : ∀ {o : Obj}, w.heap[g]? = some o → g < w.heap.size := fun h => by
    obtain ⟨h1, _⟩ := Array.getElem?_eq_some_iff.1 h
    exact h1
  cases x with
  | dead => exact absurd rfl hx
  | row c o => cases o with
    | true => obtain ⟨_, cc, t, fr, h1, _⟩ := h; exact some_lt h1
    | false => exact Nat.lt_of_lt_of_le h.1 hb
  | map es c => obtain ⟨_, _, es', h1, _⟩ := h; exact some_lt h1
  | iter st p => exact some_lt h.2.2
  | loop st p F ps a b => obtain ⟨_, _, l, h1, _⟩ := h; exact some_lt h1
  | deferred => exact some_lt h.2.2

theorem HRel.keep {P : Program} {base : Nat} {ρ : Ren} {H : Hp} {w w' : World} (h : HRel P base ρ H w) (hs : w.heap.size ≤ w'.heap.size) (hw : ∀ g, g < w.heap.size → w'.heap[g]? = w.heap[g]?) : HRel P base ρ H w' := by
  refine ⟨fun b g s hb => ?_, h.inj, h.lt, fun g k hk => Nat.lt_of_lt_of_le (h.nlt g k hk) hs, Nat.le_trans h.sz hs⟩
  have := h.blk b g s hb
  by_cases hd : H.get b = .dead
  · rw [hd]; trivial
  · exact this.keep (Ren.le_refl _) (hw g (this.lt_size h.sz hd))

/-- what is known of such a call -/
def Known (P : Program) (f : FuncId) (args : Array Value) (v : Value) : Prop :=
  ∀ w, Calls P f args w fun e w' => e = .returned v ∧ w.heap.size ≤ w'.heap.size ∧ w'.os = w.os ∧ w'.tape = w.tape ∧ w'.output = w.output ∧ ∀ g, g < w.heap.size → w'.heap[g]? = w.heap[g]?

theorem known_of_call {P : Program} {E : Env} (hE : ∀ base, EnvOK P base E) {n : Nat} {f : FuncId} {args : Array Value} {v : Value} {H' : Hp} (h : call E n f args { tr := .leaf, size := P.globals.size, low := P.globals.size } = some (v, H')) (hf : (E.code f).isSome = true)
    (ha : args.all flat = true) (hv : flat0 v = true) : Known P f args v := fun w => call_start (w := w) ⟨rfl, fun b _ => .inl rfl⟩ (hE _) h hf ha hv

theorem Known.enter {P : Program} {base : Nat} {f : FuncId} {args : Array Value} {v : Value} (h : Known P f args v) (hv : Am.flat v = true) (hr : ∀ w, (callFunc f args).run P w = .ok (.enter f args) w)
    {ρ : Ren} {H : Hp} {w : World} (hH : HRel P base ρ H w) : EnterOK P base ρ H w v H (callFunc f args) := by
  refine ⟨_, _, hr w, callsIn_wide.2 ((h w).mono ?_)⟩
  rintro e w' ⟨rfl, h1, h2, h3, h4, h5⟩
  exact ⟨v, rfl, ρ, .of_flat hv, Ren.le_refl _, hH.keep h1 h5, ⟨h1, h2, h3, h4, fun g hg _ => h5 g hg⟩, fun _ _ h => h, Nat.le_refl _, fun b x hb hn => by rw [hn] at hb; cases hb⟩
end Go.Proofs.YthpmjahdeimgmaaGreatDoor.Am
