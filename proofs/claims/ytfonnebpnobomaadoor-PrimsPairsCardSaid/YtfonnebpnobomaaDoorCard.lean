/- Proved: the law PrimsPairs of mummer/mummerlaw23 comes to true for all arguments, in every memory that holds the listed tables as the program's text lays them; what lay in memory is as it was. By an AI agent. No person has read it. -/
import Derived.Test.YtfonnebpnobomaaDoorRun
import Derived.Test.YtfonnebpnobomaaDoorCards
import Derived.Test.YtfonnebpnobomaaDoorTie
import Derived.WalkKit
import Derived.ProofKit
import Derived.OpenShut
import Derived.Deep.DeepHandedRow
import Derived.Lib.LaidTab
import Derived.WideKeyArgs
namespace Go.Proofs.YtfonnebpnobomaaDoor.primsPairs
open Go.ChangeShapes Go.WideShapes Go.ChangeAt Go.RowKit
set_option maxRecDepth 100000
set_option maxHeartbeats 1000000

theorem own : ownKnob Tryd.prog.godebug = none := by kernel_rfl

theorem laidOut : laidOutB Tryd.prog = true := by kernel_rfl
theorem nodeT : W.NodeT Tryd.prog 30 where
  cells := by kernel_rfl
  st := ⟨_, Tryd.underlying30, _, _, _, _, _, _, rfl, ⟨rfl, rfl, rfl, rfl, rfl, rfl⟩, ⟨by kernel_rfl, by kernel_rfl, by kernel_rfl, by kernel_rfl, by kernel_rfl, by kernel_rfl⟩, Tryd.underlying3, Tryd.underlying3, Tryd.underlying2, Tryd.underlying9, Tryd.underlying21, Tryd.underlying21⟩
theorem tabT : W.TabT Tryd.prog where
  g0 := by kernel_rfl
  g1 := by kernel_rfl
  first := ⟨124, 5, by kernel_rfl, Tryd.underlying124, Tryd.underlying5, by kernel_rfl, by kernel_rfl⟩
  acc := ⟨127, 126, _, _, by kernel_rfl, Tryd.underlying127, Tryd.underlying126, by kernel_rfl, by kernel_rfl, rfl, rfl, by kernel_rfl, by kernel_rfl, Tryd.underlying5, Tryd.underlying5⟩
theorem first_laid : Rows.laid_unicode_utf8_first = Lib.tabData .u8 (W.firstN.map fun (k : Nat) => (k : Int)) := by
  show DataW.agg _ = DataW.agg _
  rw [List.map_map]
  rfl
theorem acc_laid : (Rows.laid_unicode_utf8_acceptRanges : DataW Unit) = W.accD := by rfl
theorem kept_same {W W' : World} (h : Am.Kept W W') {p : MemPlace} (hp : p.block < W.heap.size) : W.sameAt W' p := by
  cases p with
  | cell b o => exact World.cell?_of_block (w := W) (h.same b hp)
  | map b => exact h.same b hp

theorem contract (H : Type) (enc : TypeId × Value → H) (W0 : World) (base : Nat) (args : Array Value) (ds gs : List (DataW H)) (before : List MemPlace) (hval0 : ∀ (j : Nat) t v, Tryd.f4.params[j]? = some t → args[j]? = some v → Value.okWide Tryd.prog W0 .any base t v)
    (hW : DataW.Whole enc Tryd.prog Tryd.f4.params.toList Rows.primsPairsSpec.vars false W0 args.toList ds gs before) (hT : Am.TabW W.firstT W.accT W0) :
    Calls Tryd.prog 4 args W0 fun e W' => ∃ v, e = .returned v ∧ Rows.primsPairsSpec.post enc Tryd.prog Tryd.f4 false true false false W0 args v W' := by
  have hval := hval0
  have hW' := hW
  obtain ⟨p, q, hA0, hV, rfl, hfz, hnd⟩ := hW
  have hA : DataW.TrodAll enc Tryd.prog W0 0 (fun _ => true) true Tryd.f4.params.toList args.toList ds p := hA0
  rw [Tryd.params4] at hA hval
  obtain ⟨v0, vs0, d0, ds0, p0, q0, hargs, rfl, rfl, h0, r0⟩ := trodAll_cons hA
  obtain ⟨v1, vs1, d1, ds1, p1, q1, rfl, rfl, rfl, h1, r1⟩ := trodAll_cons r0
  obtain ⟨rfl, rfl, rfl⟩ := trodAll_nil r1
  obtain rfl : args = #[v0, v1] := by cases args; simp_all
  obtain ⟨rfl, rfl⟩ := trodVars_none hV
  obtain ⟨t0, a0⟩ := W.read_nodes Tryd.underlying22 nodeT (okWide_slice Tryd.underlying22 (hval 0 22 v0 rfl rfl)) h0
  obtain ⟨t1, a1⟩ := W.read_nodes Tryd.underlying22 nodeT (okWide_slice Tryd.underlying22 (hval 1 22 v1 rfl rfl)) h1
  clear hA0 hval0
  have hlt := fun p hp => DataW.Whole.lt hW' (p := p) hp
  simp only [List.append_nil] at hW' hlt
  refine (lawrun.calls  W0 hT a0 a1).mono fun e W' ⟨he, hk⟩ => ?_
  subst he
  exact ⟨_, rfl, Am.post_of_kept (pv := []) hW' (fun _ _ _ => trodAll_cons_mk (shut_bool Tryd.underlying4 _) trodAll_mk0) (fun sp hsp => (trodAll_cons_mk (WideElems.Trod_stays laidOut (by kernel_rfl) (of_decide_eq_true (by kernel_rfl)) h0 (fun p hp => kept_same hk (hlt p (by simp [hp]))) (fun p hp => hsp p (by simp [hp]))) (trodAll_cons_mk (WideElems.Trod_stays laidOut (by kernel_rfl) (of_decide_eq_true (by kernel_rfl)) h1 (fun p hp => kept_same hk (hlt p (by simp [hp]))) (fun p hp => hsp p (by simp [hp]))) trodAll_mk0))) (fun _ _ => rfl) (by simp)
    hk (ok_one (by kernel_rfl) rfl (okWide_bool_mk Tryd.underlying4 _))⟩

/-- A world for the witness: the listed tables lie in it. -/
noncomputable def laidWorld (os : Os) : World :=
  { World.holding Tryd.prog os ⟨#[], #[], []⟩ with heap := (((World.holding Tryd.prog os ⟨#[], #[], []⟩).heap.modify 0 fun
      | .cells _ t frozen => .cells (Go.Pinned.utf8FirstZ.map fun n => Value.int .u8 (n : Nat)).toArray t frozen
      | o => o).modify 1 fun
      | .cells _ t frozen => .cells #[.int .u8 128, .int .u8 191, .int .u8 160, .int .u8 191, .int .u8 128, .int .u8 159, .int .u8 144, .int .u8 191, .int .u8 128, .int .u8 143, .int .u8 0, .int .u8 0, .int .u8 0, .int .u8 0, .int .u8 0, .int .u8 0, .int .u8 0, .int .u8 0, .int .u8 0, .int .u8 0, .int .u8 0, .int .u8 0, .int .u8 0, .int .u8 0, .int .u8 0, .int .u8 0, .int .u8 0, .int .u8 0, .int .u8 0, .int .u8 0, .int .u8 0, .int .u8 0] t frozen
      | o => o) }
theorem laid_met (os : Os) : laidMet Tryd.prog Rows.primsPairsRow.laid ((laidWorld os).forCall (fun _ _ => 0) ⟨#[], #[.slice none 0 0, .slice none 0 0], []⟩).memory :=
  laidMet_of_run' 8 (by kernel_rfl) (by kernel_rfl)
theorem reads (os : Os) {H : Type} (enc : TypeId × Value → H) : ∃ places, DataW.whole enc Tryd.prog ((laidWorld os).forCall (fun _ _ => 0) ⟨#[], #[.slice none 0 0, .slice none 0 0], []⟩).memory Tryd.f4.params.toList Rows.primsPairsSpec.vars false (#[.slice none 0 0, .slice none 0 0] : Array Value).toList 8 = some ([.nil, .nil], [], places) :=
  ⟨[], by kernel_rfl⟩

theorem lifted (os : Os) (started : os.Started) (H : Type) (enc : TypeId × Value → H) (F : Stop.Interp) :
    ReturnsInHanded {} Tryd.checked os 4 .any ((OpenSpec.ofChange Rows.primsPairsSpec).preRow enc Tryd.prog Tryd.f4 Rows.primsPairsRow.domain false Rows.primsPairsRow.laid) (((OpenSpec.ofChange Rows.primsPairsSpec).at F).post enc Tryd.prog Tryd.f4 false true false false) := by
  obtain ⟨places, hx⟩ := reads os enc
  refine returnsInHanded_of_row (C := Tryd.checked) (s := OpenSpec.ofChange Rows.primsPairsSpec) own started (by kernel_rfl) Tryd.func4
    (witness_row_at (enc := enc) (C := Tryd.checked) false (laidWorld os) #[.slice none 0 0, .slice none 0 0] rfl (by kernel_rfl) (by kernel_rfl) (by kernel_rfl)
      (OpenSpec.preRow_of_cond 8 hx (by kernel_rfl) (fun k hk => by cases hk) (by kernel_rfl) (laid_met os))) ?_
  intro W0 base args ds gs before hval hW _ _ _ hL _ _
  exact contract H enc W0 base args ds gs before hval hW (W.tabW_of_laid tabT first_laid acc_laid hL)

theorem said : Rows.PrimsPairsSaid :=
  OpenClaim.holds_of_cond 4 Tryd.f4 rfl rfl rfl rfl rfl rfl rfl ⟨rfl, rfl, rfl, rfl, rfl⟩ rfl rfl rfl rfl rfl (by kernel_rfl) Tryd.func4 (by kernel_rfl)
    (of_decide_eq_true (by kernel_rfl)) (by unfold Func.isWrapper; first | (rw [if_pos (by decide +kernel)]; kernel_rfl) | (rw [if_neg (by decide +kernel)]; exact ⟨rfl, rfl⟩))
    (fun os started H enc _ F => by rw [OpenClaim.pre_eq_preRow]; exact lifted os started H enc F)

theorem plain (f : FuncId) (fn : Func) (hf : Tryd.pinned.checked.prog.funcNamed "mummer/mummerlaw23.PrimsPairs" = some f) (hfn : Tryd.pinned.checked.prog.funcs[f]? = some fn) :
    false = Tryd.pinned.checked.prog.looks [] ∧ ∀ (j : Nat) t, fn.params[j]? = some t → Tryd.pinned.checked.prog.wantsStandIn t = false := by
  obtain rfl : f = 4 := Option.some.inj ((show Tryd.prog.funcNamed "mummer/mummerlaw23.PrimsPairs" = some 4 by kernel_rfl).symm.trans hf) |>.symm
  obtain rfl : fn = Tryd.f4 := (Option.some.inj (Tryd.func4.symm.trans hfn)).symm
  refine ⟨by kernel_rfl, fun j t ht => ?_⟩
  have hp : Tryd.f4.params = #[22, 22] := by kernel_rfl
  rw [hp] at ht
  match j with
  | 0 =>
    obtain rfl : t = 22 := by simpa using ht.symm
    show Tryd.prog.wantsStandIn 22 = false
    kernel_rfl
  | 1 =>
    obtain rfl : t = 22 := by simpa using ht.symm
    show Tryd.prog.wantsStandIn 22 = false
    kernel_rfl
  | j + 2 => simp at ht

theorem card : Rows.PrimsPairsCardSaid :=
  Claim7.holds_tied_plain_at .later [] _ _ _ _ said (fun _ h => by cases h) (by kernel_rfl) (fun _ h => by cases h) primsPairs_row_tie rfl ⟨rfl, rfl⟩ (by kernel_rfl) rfl plain (by kernel_rfl)
end Go.Proofs.YtfonnebpnobomaaDoor.primsPairs
