/- Functions of Go's library that the model itself answers; calls that are known. By an AI agent. No person has read it. -/
import Derived.Test.YtfonnebpnobomaaDoorAm4
import Derived.Lib.Bytealg
import Derived.Lib.Join
import Derived.Below

/- The abstract machine: functions of Go's library that the model itself answers. -/
namespace Go.Proofs.YtfonnebpnobomaaDoor.Am
open Go

theorem VsRel.eq_of_flat0 {ρ : Ren} : ∀ {l l' : List Value}, VsRel ρ l l' → l.all flat0 = true → l' = l
  | [], l', h, _ => by
    have := h.1
    cases l' with
    | nil => rfl
    | cons a b => simp at this
  | x :: l, l', h, hf => by
    obtain ⟨y, r, rfl, h1, h2⟩ := h.inv_cons
    simp only [List.all_cons, Bool.and_eq_true] at hf
    rw [h1.eq_of_flat0 hf.1, VsRel.eq_of_flat0 h2 hf.2]

theorem enter_value {P : Program} {base : Nat} {ρ : Ren} {H : Hp} {w : World} {v : Value} {s : Sem Next} (hs : s.run P w = .ok (.value v) w) (hv : Am.flat v = true) (hH : HRel P base ρ H w) : EnterOK P base ρ H w v H s :=
  ⟨_, _, hs, ρ, VRel.of_flat hv, Sim.refl hH⟩

theorem run_extern {P : Program} {f : FuncId} {fn : Func} {e : Array Value → Sem Value} (hf : P.funcs[f]? = some fn) (hn : (fn.name == "runtime.NumGoroutine") = false) (hb : fn.body.isNone = true)
    (h1 : (Extern.findNext fn).isNone = true) (h2 : Extern.find fn = some e) {args : Array Value} {w : World} {v : Value} (he : (e args).run P w = .ok v w) : (callFunc f args).run P w = .ok (.value v) w := by
  have h1' : Extern.findNext fn = none := by simpa using h1
  have hn' : ¬ fn.name = "runtime.NumGoroutine" := by simpa using hn
  have hb' : fn.body = none := by simpa using hb
  unfold callFunc
  simp [hf, hn', hb', h1', h2, he]

/-- internal/bytealg.IndexByteString, where it is function b -/
def primIB (b : FuncId) (f : FuncId) (args : Array Value) (H : Hp) : Option (Value × Hp) :=
  cond (Nat.beq f b) (match args.toList with
    | [.string s, .int .u8 c] => some (.int .i64 (Lib.indexByte s.data.toList c.toNat.toUInt8), H)
    | _ => none) none

theorem primIB_ok {P : Program} {base b : Nat} {fn : Func} (hf : P.funcs[b]? = some fn) (hn : (fn.name == "runtime.NumGoroutine") = false) (hb : fn.body.isNone = true)
    (h1 : (Extern.findNext fn).isNone = true) (h2 : Extern.find fn = some Extern.BytealgIndexByte.indexByte) {f : FuncId} {args args' : Array Value} {H H' : Hp} {v : Value} (h : primIB b f args H = some (v, H'))
    {ρ : Ren} {w : World} (hH : HRel P base ρ H w) (ha : VsRel ρ args.toList args'.toList) : EnterOK P base ρ H w v H' (callFunc f args') := by
  unfold primIB at h
  cases hfb : Nat.beq f b with
  | false => rw [hfb] at h; cases h
  | true =>
    have : f = b := Nat.eq_of_beq_eq_true hfb
    subst this
    rw [hfb] at h
    simp only [cond] at h
    split at h
    · rename_i s c hargs
      cases h
      rw [hargs] at ha
      have := ha.eq_of_flat0 rfl
      obtain rfl : args' = #[.string s, .int .u8 c] := by cases args'; simp_all
      exact enter_value (run_extern hf hn hb h1 h2 (Lib.run_indexByteString s c w)) rfl hH
    · cases h
theorem primIB_low {b : FuncId} {f : FuncId} {args : Array Value} {H H' : Hp} {v : Value} (h : primIB b f args H = some (v, H')) : H' = H := by
  unfold primIB at h
  cases hfb : Nat.beq f b with
  | false => rw [hfb] at h; cases h
  | true =>
    rw [hfb] at h
    simp only [cond] at h
    split at h
    · cases h; rfl
    · cases h
end Go.Proofs.YtfonnebpnobomaaDoor.Am

/- The abstract machine: a call of which it is known, from any memory, what it hands back, and that what lay there stays. -/
namespace Go.Proofs.YtfonnebpnobomaaDoor.Am
open Go

theorem BRel.lt_size {P : Program} {base : Nat} {ρ : Ren} {w : World} {g s : Nat} {x : Blk} (h : BRel P base ρ w g s x) (hb : base ≤ w.heap.size) (hx : x ≠ .dead) : g < w.heap.size := by
  have some_lt : ∀ {o : Obj}, w.heap[g]? = some o → g < w.heap.size := fun h => by
    obtain ⟨h1, _⟩ := Array.getElem?_eq_some_iff.1 h
    exact h1
  cases x with
  | dead => exact absurd rfl hx
  | row c o => cases o with
    | true => obtain ⟨_, cc, t, fr, h1, _⟩ := h; exact some_lt h1
    | false => exact Nat.lt_of_lt_of_le h.1 hb
  | map es c => obtain ⟨_, _, es', h1, _⟩ := h; exact some_lt h1
  | iter st p => exact some_lt h.2.2
  | loop st p F ps a b => obtain ⟨_, _, l, h1, _⟩ := h; exact some_lt h1
  | deferred => exact some_lt h.2.2

theorem HRel.keep {P : Program} {base : Nat} {ρ : Ren} {H : Hp} {w w' : World} (h : HRel P base ρ H w) (hs : w.heap.size ≤ w'.heap.size) (hw : ∀ g, g < w.heap.size → w'.heap[g]? = w.heap[g]?) : HRel P base ρ H w' := by
  refine ⟨fun b g s hb => ?_, h.inj, h.lt, fun g k hk => Nat.lt_of_lt_of_le (h.nlt g k hk) hs, Nat.le_trans h.sz hs⟩
  have := h.blk b g s hb
  by_cases hd : H.get b = .dead
  · rw [hd]; trivial
  · exact this.keep (Ren.le_refl _) (hw g (this.lt_size h.sz hd))

/-- what is known of such a call -/
def Known (P : Program) (f : FuncId) (args : Array Value) (v : Value) : Prop :=
  ∀ w, Calls P f args w fun e w' => e = .returned v ∧ w.heap.size ≤ w'.heap.size ∧ w'.os = w.os ∧ w'.tape = w.tape ∧ w'.output = w.output ∧ ∀ g, g < w.heap.size → w'.heap[g]? = w.heap[g]?

theorem known_of_call {P : Program} {E : Env} (hE : ∀ base, EnvOK P base E) {n : Nat} {f : FuncId} {args : Array Value} {v : Value} {H' : Hp} (h : call E n f args { tr := .leaf, size := P.globals.size, low := P.globals.size } = some (v, H')) (hf : (E.code f).isSome = true)
    (ha : args.all flat = true) (hv : flat0 v = true) : Known P f args v := fun w => call_start (w := w) ⟨rfl, fun b _ => .inl rfl⟩ (hE _) h hf ha hv

theorem Known.enter {P : Program} {base : Nat} {f : FuncId} {args : Array Value} {v : Value} (h : Known P f args v) (hv : Am.flat v = true) (hr : ∀ w, (callFunc f args).run P w = .ok (.enter f args) w)
    {ρ : Ren} {H : Hp} {w : World} (hH : HRel P base ρ H w) : EnterOK P base ρ H w v H (callFunc f args) := by
  refine ⟨_, _, hr w, callsIn_wide.2 ((h w).mono ?_)⟩
  rintro e w' ⟨rfl, h1, h2, h3, h4, h5⟩
  exact ⟨v, rfl, ρ, .of_flat hv, Ren.le_refl _, hH.keep h1 h5, ⟨h1, h2, h3, h4, fun g hg _ => h5 g hg⟩, fun _ _ h => h, Nat.le_refl _, fun b x hb hn => by rw [hn] at hb; cases hb⟩
end Go.Proofs.YtfonnebpnobomaaDoor.Am

/- The abstract machine: strings.Join, by a contract. -/
namespace Go.Proofs.YtfonnebpnobomaaDoor.Am
open Go

def strsOf : List Value → Option (List ByteArray)
  | [] => some []
  | .string s :: r => (strsOf r).map (s :: ·)
  | _ => none
def joinB (xs : List ByteArray) (sep : ByteArray) : List UInt8 := Lib.join (xs.map (·.data.toList)) sep.data.toList
/-- strings.Join, where it is function j -/
def primJoin (j : FuncId) (f : FuncId) (args : Array Value) (H : Hp) : Option (Value × Hp) :=
  cond (Nat.beq f j) (match args.toList with
    | [.slice (some a) n _, .string sep] => cond (Nat.ble 1 n && Nat.ble n 1000000000) (((H.cells? a n).bind strsOf).bind fun xs => cond (Nat.ble (joinB xs sep).length 1000000000) (some (.string ⟨(joinB xs sep).toArray⟩, H)) none) none
    | _ => none) none
/-- what is asked of the function -/
structure JoinOK (P : Program) (j : FuncId) : Prop where
  calls : ∀ (xs : List ByteArray) (bk o c : Nat) (sep : ByteArray) (w : World), (∀ (k : Nat) x, xs[k]? = some x → w.cell? ⟨bk, o + k, none⟩ = some (.string x)) → bk < w.heap.size → xs.length ≤ 140737488355328 → xs.length ≤ c → (joinB xs sep).length ≤ 140737488355328 →
    Calls P j #[.slice (some ⟨bk, o, none⟩) xs.length c, .string sep] w fun e w' => e = .returned (.string ⟨(joinB xs sep).toArray⟩) ∧ Go.RowKit.Below w.heap.size w w'
  enters : ∀ args w, (callFunc j args).run P w = .ok (.enter j args) w

theorem strsOf_some : ∀ {cs : List Value} {xs : List ByteArray}, strsOf cs = some xs → cs = xs.map .string := by
  intro cs
  induction cs with
  | nil => intro xs h; cases h; rfl
  | cons v r ih =>
    intro xs h
    cases v with
    | string s =>
      simp only [strsOf] at h
      cases hr : strsOf r with
      | none => rw [hr] at h; cases h
      | some ys => rw [hr] at h; cases h; rw [ih hr]; rfl
    | _ => cases h

theorem primJoin_ok {P : Program} {base j : Nat} (hJ : JoinOK P j) {f : FuncId} {args args' : Array Value} {H H' : Hp} {v : Value} (h : primJoin j f args H = some (v, H')) {ρ : Ren} {w : World} (hH : HRel P base ρ H w) (ha : VsRel ρ args.toList args'.toList) : EnterOK P base ρ H w v H' (callFunc f args') := by
  unfold primJoin at h
  cases hfb : Nat.beq f j with
  | false => rw [hfb] at h; cases h
  | true =>
    have : f = j := Nat.eq_of_beq_eq_true hfb
    subst this
    rw [hfb] at h
    simp only [cond] at h
    split at h
    · rename_i a n cap sep hargs
      cases hn : (Nat.ble 1 n && Nat.ble n 1000000000) with
      | false => rw [hn] at h; cases h
      | true =>
        rw [hn] at h
        simp only [cond] at h
        rw [Bool.and_eq_true] at hn
        have hn1 : 1 ≤ n := Nat.le_of_ble_eq_true hn.1
        have hn2 : n ≤ 1000000000 := Nat.le_of_ble_eq_true hn.2
        cases hc : H.cells? a n with
        | none => rw [hc] at h; cases h
        | some cs =>
          rw [hc] at h
          simp only [Option.bind_some] at h
          cases hs : strsOf cs with
          | none => rw [hs] at h; cases h
          | some xs =>
            rw [hs] at h
            simp only [Option.bind_some] at h
            cases hl : Nat.ble (joinB xs sep).length 1000000000 with
            | false => rw [hl] at h; cases h
            | true =>
              rw [hl] at h
              simp only [cond] at h
              cases h
              have hlen := Nat.le_of_ble_eq_true hl
              have hcs := strsOf_some hs
              rw [hargs] at ha
              obtain ⟨y, r, e1, h1, h2⟩ := ha.inv_cons
              obtain ⟨y2, r2, rfl, h3, h4⟩ := h2.inv_cons
              have h5 := VsRel.eq_of_flat0 h4 rfl
              subst h5
              obtain rfl := h3.string
              obtain ⟨a', c', rfl, g1, g2, _, g3, _⟩ := h1.inv_slice
              obtain ⟨g, s, g4, rfl⟩ := g3 (by omega)
              have hargs' : args' = #[.slice (some ⟨g, s + a.off, none⟩) n c', .string sep] := by cases args'; simp_all
              subst hargs'
              obtain ⟨cs', v1, v2, v3⟩ := hH.cells hc g4
              have hxl : xs.length = n := by
                have := v1.1
                rw [hcs, List.length_map, v2] at this; exact this
              subst hxl
              have hcell : ∀ (k : Nat) x, xs[k]? = some x → w.cell? ⟨g, s + a.off + k, none⟩ = some (.string x) := by
                intro k x hk
                have hk2 : cs[k]? = some (.string x) := by rw [hcs]; simp [hk]
                obtain ⟨v', k1, k2⟩ := v1.get hk2
                rw [v3 k v' k1, k2.string]
              have hsome : ∃ x, xs[0]? = some x := by
                cases xs with
                | nil => simp at hn1
                | cons x r => exact ⟨x, rfl⟩
              obtain ⟨x0, hx0⟩ := hsome
              have hlt : g < w.heap.size := block_lt_of_cell (hcell 0 x0 hx0)
              refine ⟨_, _, hJ.enters _ w, callsIn_wide.2 ((hJ.calls xs g (s + a.off) c' sep w hcell hlt (by omega) (by omega) (by omega)).mono ?_)⟩
              rintro e w' ⟨rfl, hb⟩
              exact ⟨_, rfl, ρ, .flat rfl, Ren.le_refl _, hH.keep hb.size (fun g hg => hb.block g hg), ⟨hb.size, hb.os, hb.tape, hb.output, fun g hg _ => hb.block g hg⟩, fun _ _ h => h, Nat.le_refl _, fun b x hb hn => by rw [hn] at hb; cases hb⟩
    · cases h
theorem primJoin_low {j f : FuncId} {args : Array Value} {H H' : Hp} {v : Value} (h : primJoin j f args H = some (v, H')) : H' = H := by
  unfold primJoin at h
  cases hfb : Nat.beq f j with
  | false => rw [hfb] at h; cases h
  | true =>
    rw [hfb] at h
    simp only [cond] at h
    split at h
    · rename_i a n cap sep hargs
      cases hn : (Nat.ble 1 n && Nat.ble n 1000000000) with
      | false => rw [hn] at h; cases h
      | true =>
        rw [hn] at h
        simp only [cond] at h
        cases hc : (H.cells? a n).bind strsOf with
        | none => rw [hc] at h; cases h
        | some xs =>
          rw [hc] at h
          simp only [Option.bind_some] at h
          split at h
          · cases h; rfl
          · cases h
    · cases h
end Go.Proofs.YtfonnebpnobomaaDoor.Am
