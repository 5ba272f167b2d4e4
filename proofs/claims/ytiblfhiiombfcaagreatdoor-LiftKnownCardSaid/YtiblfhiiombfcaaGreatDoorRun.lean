/- The law LiftKnown, run by the interpreter: it comes to true. By an AI agent. No person has read it. -/
import Derived.Test.YtiblfhiiombfcaaGreatDoorShow
import Derived.Test.YtiblfhiiombfcaaGreatDoorKn
namespace Go.Proofs.YtiblfhiiombfcaaGreatDoor.run
open Go Am
set_option maxRecDepth 100000
set_option maxHeartbeats 0
noncomputable def E0 : Env := ⟨cutCode [33, 37, 38, 44, 84, 94, 122] code.code, primX tabE tabF primB⟩
noncomputable def prim2 (f : FuncId) (args : Array Value) (H : Hp) : Option (Value × Hp) := cond (Nat.beq f 43) (showA (oracle E0 3000) (pcall E0 131 3000) 19 85 shw.l0 shw.l2 shw.l3 shw.l4 args H) (primX tabE tabF primB f args H)
noncomputable def E : Env := ⟨cutCode [33, 37, 38, 44, 84, 94, 122] code.code, prim2⟩
noncomputable def fp : FPr := fun f l H k => bc (Nat.beq f 43) (fshowA (foracle E0 3000) (fpcall E0 131 3000) 19 85 shw.l0 shw.l2 shw.l3 shw.l4 l H k) (optK (primX tabE tabF primB f l.toArray H) k)
def makers : List Int := [0, 12, 12, 13, 13, 13, 13, 14, 15, 15, 15, 18, 18, 18, 19, 19, 19, 19, 19, 20, 21, 22, 22, 22, 22, 23, 14, 14, 18, 18, 19, 19, 23, 23]
def makersT : List Value := makers.map fun z => .int .i64 z
def H0 : Hp := { tr := Tr.leaf.set 3 (.row makersT false), size := 7, low := 7 }
theorem ran : fcall2 E fp 3000 3 [] H0 = true := by kernel_rfl
theorem hnd (n : Nat) (H : Hp) : (oracle E0 (n + 1)).cf 131 #[.bool false] H = none := rfl
theorem fp_ok (f : FuncId) (l : List Value) (H : Hp) (k : FK) (h : fp f l H k = true) : ∃ v H', E.prim f l.toArray H = some (v, H') ∧ k v H' = true := by
  show ∃ v H', prim2 f l.toArray H = some (v, H') ∧ k v H' = true
  unfold prim2
  rcases bc_true h with ⟨h1, h2⟩ | ⟨h1, h2⟩
  · rw [h1]; exact fshowA_sound (foracle_sound E0 _) (fpcall_ok hnd _) h2
  · rw [h1]; exact optK_true h2
theorem comes : ∃ H', call E 3000 3 #[] H0 = some (.bool true, H') := fcall2_true fp_ok ran
theorem envOK0 (base : Nat) : EnvOK Tryz.prog base E0 := by
  constructor
  · exact mixed
  · exact fun f cf h => code.code_ok f cf (cutCode_some h)
  · intro f args H v H' _ h ρ w args' hH _ ha
    exact primX_ok tabE_ok tabF_ok (by intro _ _ _ _ _ _ h _ _ hH ha; exact primB_ok h hH ha) h hH ha
  · intro f args H v H1 h
    rw [primX_low primB_low h]; exact LowOK.refl H
theorem envOK (base : Nat) : EnvOK Tryz.prog base E := by
  constructor
  · exact mixed
  · exact fun f cf h => code.code_ok f cf (cutCode_some h)
  · intro f args H v H' _ h ρ w args' hH hG ha
    have h' : prim2 f args H = some (v, H') := h
    unfold prim2 at h'
    cases hb : Nat.beq f 43 with
    | false => rw [hb] at h'; exact primX_ok tabE_ok tabF_ok (by intro _ _ _ _ _ _ h _ _ hH ha; exact primB_ok h hH ha) h' hH ha
    | true =>
      rw [hb] at h'
      rw [Nat.eq_of_beq_eq_true hb]
      exact shw.show_sim (oracle_sound (envOK0 base) _) (pcall_sound (envOK0 base) (fun hH => shw.need_panics hH) _) h' hH hG ha
  · intro f args H v H1 h
    have h' : prim2 f args H = some (v, H1) := h
    unfold prim2 at h'
    cases hb : Nat.beq f 43 with
    | false => rw [hb] at h'; rw [primX_low primB_low h']; exact LowOK.refl H
    | true =>
      rw [hb] at h'
      simp only [cond] at h'
      exact showA_low h'
theorem start (w : World) (hw : ∀ (i : Nat) v, makersT[i]? = some v → w.cell? ⟨3, i, none⟩ = some v) : Am.Start Tryz.prog H0 w := by
  refine ⟨globals.symm, fun b _ => ?_⟩
  have hg : H0.get b = if b = 3 then Blk.row makersT false else Blk.dead := by
    show ((Tr.leaf.set 3 (Blk.row makersT false)).get b).getD Blk.dead = _
    rw [Tr.get_set]
    split <;> rfl
  rw [hg]
  by_cases h : b = 3
  · rw [if_pos h]
    refine .inr ⟨_, rfl, by decide, fun i v hv => ⟨?_, by rw [h]; exact hw i v hv⟩⟩
    obtain ⟨k, _, rfl⟩ := List.mem_map.1 (List.mem_of_getElem? hv)
    rfl
  · rw [if_neg h]; exact .inl rfl
theorem calls (w : World) (hw : ∀ (i : Nat) v, makersT[i]? = some v → w.cell? ⟨3, i, none⟩ = some v) : Calls Tryz.prog 3 #[] w fun e w' => e = .returned (.bool true) ∧ Kept w w' := by
  obtain ⟨H', h⟩ := comes
  refine Calls.mono (call_start (start w hw) (envOK _) h (by kernel_rfl) (by simp) rfl) ?_
  rintro e w' ⟨h1, h2, h3, h4, h5, h6⟩
  exact ⟨h1, h2, h3, h5, h6⟩
end Go.Proofs.YtiblfhiiombfcaaGreatDoor.run
