/- data.Symbol: for every string it comes to a truth value, in every memory that has the two tables. By an AI agent. No person has read it. -/
import Derived.Test.YtfonnebpnobomaaDoorStr
import Derived.Test.YtfonnebpnobomaaDoorAwake
namespace Go.Proofs.YtfonnebpnobomaaDoor.symb
open Go Am
set_option maxRecDepth 100000
set_option maxHeartbeats 0
noncomputable def codeS (f : FuncId) : Option CF := @Bool.rec (fun _ => Option CF) (code.code f) none (Nat.beq f 62 || (Nat.beq f 61 || (Nat.beq f 63 || Nat.beq f 64)))
open Classical in
noncomputable def primS (f : FuncId) (args : Array Value) (H : Hp) : Option (Value × Hp) :=
  if f = 62 then (match args.toList with
    | [.string s, .string p] => some (.string ⟨(Lib.trimPrefix s.data.toList p.data.toList).toArray⟩, H)
    | _ => none)
  else if f = 61 then (match args.toList with
    | [.string s, .string c] => if c = W.digits then some (.string ⟨(Lib.trimLeftS s.data.toList W.digits.data.toList).toArray⟩, H) else none
    | _ => none)
  else if f = 63 then (match args.toList with
    | [.string s, .string c] => if c = W.digits ∧ s.size ≤ 24 ∧ (∀ b ∈ s.data.toList, b.toNat < 128) then some (.bool (Lib.containsAny s.data.toList W.digits.data.toList), H) else none
    | _ => none)
  else if f = 64 then (match args.toList with
    | [.string s, .string p] => some (.bool (Lib.hasPrefix s.data.toList p.data.toList), H)
    | _ => none)
  else none
noncomputable def ES : Env := ⟨codeS, primS⟩
theorem primS_eq (f : FuncId) (args : Array Value) (H : Hp) : ES.prim f args H = primS f args H := rfl
theorem mixed : Tryd.prog.follows .mixedOrders = true := by kernel_rfl
theorem globals : Tryd.prog.globals.size = 3 := by kernel_rfl
theorem flat2 {ρ : Am.Ren} {s p : ByteArray} {args' : Array Value} (h : VsRel ρ [.string s, .string p] args'.toList) : args' = #[.string s, .string p] := by
  obtain ⟨y, r, e1, h1, h2⟩ := h.inv_cons
  obtain ⟨y2, r2, rfl, h3, h4⟩ := h2.inv_cons
  have h5 := h1.eq_of_flat0 rfl
  have h6 := h3.eq_of_flat0 rfl
  subst h5 h6
  have h7 : r2 = [] := by
    have := h4.1
    exact List.eq_nil_of_length_eq_zero this.symm
  subst h7
  cases args'; simp_all
theorem flat1 {ρ : Am.Ren} {s : ByteArray} {args' : Array Value} (h : VsRel ρ [.string s] args'.toList) : args' = #[.string s] := by
  obtain ⟨y, r, e1, h1, h2⟩ := h.inv_cons
  have h5 := h1.eq_of_flat0 rfl
  subst h5
  have h7 : r = [] := by
    have := h2.1
    exact List.eq_nil_of_length_eq_zero this.symm
  subst h7
  cases args'; simp_all
theorem primS_low {f : FuncId} {args : Array Value} {H H1 : Hp} {v : Value} (h : primS f args H = some (v, H1)) : H1 = H := by
  unfold primS at h
  repeat' split at h
  all_goals first | (cases h; rfl) | cases h
theorem envOKS (base : Nat) : EnvOK Tryd.prog base ES := by
  constructor
  · exact mixed
  · intro f cf h
    have h' : @Bool.rec (fun _ => Option CF) (code.code f) none (Nat.beq f 62 || (Nat.beq f 61 || (Nat.beq f 63 || Nat.beq f 64))) = some cf := h
    cases hb : (Nat.beq f 62 || (Nat.beq f 61 || (Nat.beq f 63 || Nat.beq f 64))) with
    | true => rw [hb] at h'; cases h'
    | false => rw [hb] at h'; exact code.code_ok f cf h'
  · intro f args H v H' _ h ρ w args' hH _ ha
    have h' : primS f args H = some (v, H') := h
    unfold primS at h'
    split at h'
    · rename_i hf; subst hf
      split at h'
      · rename_i s p hargs
        cases h'
        rw [hargs] at ha
        rw [flat2 ha]
        exact (str.kTP s p).enter rfl (str.enters62 _) hH
      · cases h'
    · split at h'
      · rename_i hf; subst hf
        split at h'
        · rename_i s p hargs
          split at h'
          · rename_i hc; subst hc
            cases h'
            rw [hargs] at ha
            rw [flat2 ha]
            exact (str.kTL s).enter rfl (str.enters61 _) hH
          · cases h'
        · cases h'
      · split at h'
        · rename_i hf; subst hf
          split at h'
          · rename_i s p hargs
            split at h'
            · rename_i hc
              obtain ⟨hc1, hc2, hc3⟩ := hc
              subst hc1
              cases h'
              rw [hargs] at ha
              rw [flat2 ha]
              exact (str.kCA s hc2 hc3).enter rfl (str.enters63 _) hH
            · cases h'
          · cases h'
        · split at h'
          · rename_i hf; subst hf
            split at h'
            · rename_i s p hargs
              cases h'
              rw [hargs] at ha
              rw [flat2 ha]
              exact (str.kHP s p).enter rfl (str.enters64 _) hH
            · cases h'
          · cases h'
  · intro f args H v H1 h
    rw [primS_low h]; exact LowOK.refl H
theorem hasS : W.HasS ES where
  h56 := by kernel_rfl
  h65 := by kernel_rfl
  h74 := by kernel_rfl
  h75 := by kernel_rfl
  h86 := by kernel_rfl
  h85 := by kernel_rfl
  h66 := by kernel_rfl
  h76 := by kernel_rfl
  h77 := by kernel_rfl
  h78 := by kernel_rfl
  h92 := by kernel_rfl
  h95 := by kernel_rfl
  h93 := by kernel_rfl
  h87 := by kernel_rfl
  h84 := by kernel_rfl
theorem noCode62 : ES.code 62 = none := by kernel_rfl
theorem noCode61 : ES.code 61 = none := by kernel_rfl
theorem noCode63 : ES.code 63 = none := by kernel_rfl
theorem noCode64 : ES.code 64 = none := by kernel_rfl
theorem strOK : W.StrOK ES where
  tp := fun s p H => sc_prim noCode62 (by rw [primS_eq]; unfold primS; rw [if_pos rfl])
  tl := fun s H => sc_prim noCode61 (by rw [primS_eq]; unfold primS; rw [if_neg (by decide), if_pos rfl]; simp)
  ca := fun s H h1 h2 => sc_primB noCode63 (by rw [primS_eq]; unfold primS; rw [if_neg (by decide), if_neg (by decide), if_pos rfl]; show (if W.digits = W.digits ∧ _ then _ else _) = _; rw [if_pos ⟨rfl, h1, h2⟩])
  hp := fun s p H => sc_primB noCode64 (by rw [primS_eq]; unfold primS; rw [if_neg (by decide), if_neg (by decide), if_neg (by decide), if_pos rfl])
theorem tabH_ok (N : Nat) (hN : 1 < N) : W.TabOK (tabH N W.firstT W.accT) := ⟨by rw [tabH_get, if_neg (by decide), if_pos rfl], by rw [tabH_get, if_pos rfl], hN⟩
theorem comes (s : ByteArray) : ∃ (p : Bool) (n : Nat) (H' : Hp), call ES n 56 #[.string s] (tabH Tryd.prog.globals.size W.firstT W.accT) = some (.bool p, H') := by
  obtain ⟨v, H', ⟨n, hn⟩, M1, _, p, rfl⟩ := (W.symbol_spec hasS strOK s _ (tabH_ok Tryd.prog.globals.size (by rw [globals]; decide))).run
  exact ⟨p, n, H', hn n (Nat.le_refl _)⟩
noncomputable def symB (s : ByteArray) : Bool := Classical.choose (comes s)
theorem known (s : ByteArray) : KnownT Tryd.prog W.firstT W.accT 56 #[.string s] (.bool (symB s)) := by
  obtain ⟨n, H', h⟩ := Classical.choose_spec (comes s)
  exact knownT_of_call W.firstT_ne W.accT_ne envOKS h (by kernel_rfl) (by simp [flat, flat0]) rfl
theorem enters (args : Array Value) (w : World) : (callFunc 56 args).run Tryd.prog w = .ok (.enter 56 args) w := by
  have hn : ¬ Tryd.f56.name = "runtime.NumGoroutine" := by
    have h : (Tryd.f56.name == "runtime.NumGoroutine") = false := by kernel_rfl
    simpa using h
  have hb : Tryd.f56.body.isSome = true := by kernel_rfl
  obtain ⟨b, hb⟩ := Option.isSome_iff_exists.1 hb
  simp [callFunc, Tryd.func56, hn, hb]
theorem entersAwake (args : Array Value) (w : World) : (callFunc 9 args).run Tryd.prog w = .ok (.enter 9 args) w := by
  have hn : ¬ Tryd.f9.name = "runtime.NumGoroutine" := by
    have h : (Tryd.f9.name == "runtime.NumGoroutine") = false := by kernel_rfl
    simpa using h
  have hb : Tryd.f9.body.isSome = true := by kernel_rfl
  obtain ⟨b, hb⟩ := Option.isSome_iff_exists.1 hb
  simp [callFunc, Tryd.func9, hn, hb]
/-! the functions, with data.Symbol and awake as what is known of them -/
noncomputable def codeL (f : FuncId) : Option CF := @Bool.rec (fun _ => Option CF) (code.code f) none (Nat.beq f 56 || Nat.beq f 9)
open Classical in
noncomputable def primL (f : FuncId) (args : Array Value) (H : Hp) : Option (Value × Hp) :=
  if f = 9 then (match args.toList with
    | [] => some (.bool true, H)
    | _ => none)
  else if f = 56 then (match args.toList with
    | [.string s] => if H.get 0 = .row W.firstT false ∧ H.get 1 = .row W.accT false then some (.bool (symB s), H) else none
    | _ => none)
  else none
noncomputable def EL : Env := ⟨codeL, primL⟩
theorem primL_eq (f : FuncId) (args : Array Value) (H : Hp) : EL.prim f args H = primL f args H := rfl
theorem primL_low {f : FuncId} {args : Array Value} {H H1 : Hp} {v : Value} (h : primL f args H = some (v, H1)) : H1 = H := by
  unfold primL at h
  repeat' split at h
  all_goals first | (cases h; rfl) | cases h
theorem envOKL (base : Nat) : EnvOK Tryd.prog base EL := by
  constructor
  · exact mixed
  · intro f cf h
    have h' : @Bool.rec (fun _ => Option CF) (code.code f) none (Nat.beq f 56 || Nat.beq f 9) = some cf := h
    cases hb : (Nat.beq f 56 || Nat.beq f 9) with
    | true => rw [hb] at h'; cases h'
    | false => rw [hb] at h'; exact code.code_ok f cf h'
  · intro f args H v H' _ h ρ w args' hH hG ha
    have h' : primL f args H = some (v, H') := h
    unfold primL at h'
    split at h'
    · rename_i hf; subst hf
      split at h'
      · rename_i hargs
        cases h'
        rw [hargs] at ha
        have e2 : args' = #[] := by
          have := ha.1
          have := List.eq_nil_of_length_eq_zero this.symm
          cases args'; simp_all
        subst e2
        exact run.known.enter rfl (entersAwake _) hH
      · cases h'
    · split at h'
      · rename_i hf; subst hf
        split at h'
        · rename_i s hargs
          split at h'
          · rename_i hc
            cases h'
            rw [hargs] at ha
            rw [flat1 ha]
            exact enter_of_calls (known s w (tabW_of_rel hH hG (by rw [globals]; decide) hc.1 hc.2 (W.tab_flat _) (W.tab_flat _))) rfl (enters _) hH
          · cases h'
        · cases h'
      · cases h'
  · intro f args H v H1 h
    rw [primL_low h]; exact LowOK.refl H
theorem noCodeA : EL.code 9 = none := by kernel_rfl
theorem noCodeY : EL.code 56 = none := by kernel_rfl
theorem awakes (H : Hp) : Sc EL 9 [] H [] fun v _ => v = .bool true := sc_prim noCodeA (by rw [primL_eq]; unfold primL; rw [if_pos rfl])
theorem syms (t : List W.Node) {H : Hp} (hT : W.TabOK H) : W.SymsOK EL symB t H := fun x _ _ H1 M h1 => sc_prim noCodeY (by
  have h := hT.mono h1
  rw [primL_eq]
  unfold primL
  rw [if_neg (by decide), if_pos rfl]
  exact if_pos ⟨h.t0, h.t1⟩)
end Go.Proofs.YtfonnebpnobomaaDoor.symb
