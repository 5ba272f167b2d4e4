/- The law ResugarKnown, run by the interpreter: it comes to true. By an AI agent. No person has read it. -/
import Derived.Test.YthpmjahdeimgmaaGreatDoorShow
namespace Go.Proofs.YthpmjahdeimgmaaGreatDoor.run
open Go Am
set_option maxRecDepth 100000
set_option maxHeartbeats 0
noncomputable def E0 : Env := ⟨code.code, primIB 138⟩
noncomputable def prim2 (f : FuncId) (args : Array Value) (H : Hp) : Option (Value × Hp) := cond (Nat.beq f 20) (showA (oracle E0 3000) (pcall E0 36 3000) 19 23 shw.l0 shw.l2 shw.l3 shw.l4 args H) (primIB 138 f args H)
noncomputable def E : Env := ⟨code.code, prim2⟩
noncomputable def fp : FPr := fun f l H k => bc (Nat.beq f 20) (fshowA (foracle E0 3000) (fpcall E0 36 3000) 19 23 shw.l0 shw.l2 shw.l3 shw.l4 l H k) (optK (primIB 138 f l.toArray H) k)
def makers : List Int := [0, 12, 12, 13, 13, 13, 13, 14, 15, 15, 15, 18, 18, 18, 19, 19, 19, 19, 19, 20, 21, 22, 22, 22, 22, 23, 14, 14, 18, 18, 19, 19, 23, 23]
def makersT : List Value := makers.map fun z => .int .i64 z
def H0 : Hp := { tr := Tr.leaf.set 0 (.row makersT false), size := 4, low := 4 }
theorem ran : fcall2 E fp 3000 3 [] H0 = true := by kernel_rfl
theorem hnd (n : Nat) (H : Hp) : (oracle E0 (n + 1)).cf 36 #[.bool false] H = none := rfl
theorem fp_ok (f : FuncId) (l : List Value) (H : Hp) (k : FK) (h : fp f l H k = true) : ∃ v H', E.prim f l.toArray H = some (v, H') ∧ k v H' = true := by
  show ∃ v H', prim2 f l.toArray H = some (v, H') ∧ k v H' = true
  unfold prim2
  rcases bc_true h with ⟨h1, h2⟩ | ⟨h1, h2⟩
  · rw [h1]; exact fshowA_sound (foracle_sound E0 _) (fpcall_ok hnd _) h2
  · rw [h1]; exact optK_true h2
theorem comes : ∃ H', call E 3000 3 #[] H0 = some (.bool true, H') := fcall2_true fp_ok ran
theorem globals : Tryz.prog.globals.size = 4 := by kernel_rfl
theorem mixed : Tryz.prog.follows .mixedOrders = true := by kernel_rfl
theorem ib1 : (Tryz.f138.name == "runtime.NumGoroutine") = false := by kernel_rfl
theorem ib2 : Tryz.f138.body.isNone = true := by kernel_rfl
theorem ib3 : (Extern.findNext Tryz.f138).isNone = true := by kernel_rfl
theorem ib4 : Extern.find Tryz.f138 = some Extern.BytealgIndexByte.indexByte := by kernel_rfl
theorem envOK0 (base : Nat) : EnvOK Tryz.prog base E0 := by
  constructor
  · exact mixed
  · exact code.code_ok
  · intro f args H v H' _ h ρ w args' hH _ ha
    exact primIB_ok Tryz.func138 ib1 ib2 ib3 ib4 h hH ha
  · intro f args H v H1 h
    rw [primIB_low h]; exact LowOK.refl H
theorem envOK (base : Nat) : EnvOK Tryz.prog base E := by
  constructor
  · exact mixed
  · exact code.code_ok
  · intro f args H v H' _ h ρ w args' hH hG ha
    have h' : prim2 f args H = some (v, H') := h
    unfold prim2 at h'
    cases hb : Nat.beq f 20 with
    | false => rw [hb] at h'; exact primIB_ok Tryz.func138 ib1 ib2 ib3 ib4 h' hH ha
    | true =>
      rw [hb] at h'
      rw [Nat.eq_of_beq_eq_true hb]
      exact shw.show_sim (oracle_sound (envOK0 base) _) (pcall_sound (envOK0 base) (fun hH => shw.need_panics hH) _) h' hH hG ha
  · intro f args H v H1 h
    have h' : prim2 f args H = some (v, H1) := h
    unfold prim2 at h'
    cases hb : Nat.beq f 20 with
    | false => rw [hb] at h'; rw [primIB_low h']; exact LowOK.refl H
    | true =>
      rw [hb] at h'
      simp only [cond] at h'
      exact showA_low h'
theorem start (w : World) (hw : ∀ (i : Nat) v, makersT[i]? = some v → w.cell? ⟨0, i, none⟩ = some v) : Am.Start Tryz.prog H0 w := by
  refine ⟨globals.symm, fun b _ => ?_⟩
  have hg : H0.get b = if b = 0 then Blk.row makersT false else Blk.dead := by
    show ((Tr.leaf.set 0 (Blk.row makersT false)).get b).getD Blk.dead = _
    rw [Tr.get_set]
    split <;> rfl
  rw [hg]
  by_cases h : b = 0
  · rw [if_pos h]
    refine .inr ⟨_, rfl, by decide, fun i v hv => ⟨?_, by rw [h]; exact hw i v hv⟩⟩
    obtain ⟨k, _, rfl⟩ := List.mem_map.1 (List.mem_of_getElem? hv)
    rfl
  · rw [if_neg h]; exact .inl rfl
theorem calls (w : World) (hw : ∀ (i : Nat) v, makersT[i]? = some v → w.cell? ⟨0, i, none⟩ = some v) : Calls Tryz.prog 3 #[] w fun e w' => e = .returned (.bool true) ∧ Kept w w' := by
  obtain ⟨H', h⟩ := comes
  refine Calls.mono (call_start (start w hw) (envOK _) h (by kernel_rfl) (by simp) rfl) ?_
  rintro e w' ⟨h1, h2, h3, h4, h5, h6⟩
  exact ⟨h1, h2, h3, h5, h6⟩
end Go.Proofs.YthpmjahdeimgmaaGreatDoor.run
