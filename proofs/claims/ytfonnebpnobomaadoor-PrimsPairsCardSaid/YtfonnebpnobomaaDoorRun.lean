/- The law PrimsPairs, by the calculus: it comes to true, whatever its arguments are. By an AI agent. No person has read it. -/
import Derived.Test.YtfonnebpnobomaaDoorSymb
namespace Go.Proofs.YtfonnebpnobomaaDoor.lawrun
open Go Am symb
set_option maxRecDepth 100000
set_option maxHeartbeats 0
theorem has : W.Has EL where
  h34 := by kernel_rfl
  h35 := by kernel_rfl
  h26 := by kernel_rfl
  h27 := by kernel_rfl
  h7 := by kernel_rfl
  h15 := by kernel_rfl
  h17 := by kernel_rfl
  h36 := by kernel_rfl
  h38 := by kernel_rfl
  h40 := by kernel_rfl
  h37 := by kernel_rfl
  h39 := by kernel_rfl
  h41 := by kernel_rfl
  h53 := by kernel_rfl
  h54 := by kernel_rfl
  h52 := by kernel_rfl
  h60 := by kernel_rfl
  h18 := by kernel_rfl
  h23 := by kernel_rfl
  h13 := by kernel_rfl
  h21 := by kernel_rfl
  h20 := by kernel_rfl
  h8 := by kernel_rfl
  h49 := by kernel_rfl
  h29 := by kernel_rfl
  h30 := by kernel_rfl
  h32 := by kernel_rfl
  h33 := by kernel_rfl
  h28 := by kernel_rfl
  h55 := by kernel_rfl
  h42 := by kernel_rfl
  h48 := by kernel_rfl
  h43 := by kernel_rfl
  h58 := by kernel_rfl
  h57 := by kernel_rfl
  h45 := by kernel_rfl
  h44 := by kernel_rfl
  h46 := by kernel_rfl
  h24 := by kernel_rfl
  h59 := by kernel_rfl
  h47 := by kernel_rfl
  h25 := by kernel_rfl
  h19 := by kernel_rfl
  h22 := by kernel_rfl
  h11 := by kernel_rfl
  h12 := by kernel_rfl
  h31 := by kernel_rfl
  h50 := by kernel_rfl
  h51 := by kernel_rfl
  h4 := by kernel_rfl
theorem calls {v0 : Value} {t0 : List W.Node} {v1 : Value} {t1 : List W.Node} (w : World) (hT : TabW W.firstT W.accT w) (a0 : W.WArg w v0 t0) (a1 : W.WArg w v1 t1) : Calls Tryd.prog 4 #[v0, v1] w fun e w' => e = .returned (.bool true) ∧ Kept w w' := by
  obtain ⟨hH, hG⟩ := start_args (P := Tryd.prog) W.firstT_ne W.accT_ne hT [(t0.map W.Node.cells).flatten, (t1.map W.Node.cells).flatten] [W.atOf v0, W.atOf v1] rfl (fun k c g s hk hat => by
    match k with
    | 0 =>
      simp only [List.getElem?_cons_zero, List.getElem?_cons_succ, Option.some.injEq] at hk hat
      subst hk
      exact a0.row _ hat
    | 1 =>
      simp only [List.getElem?_cons_zero, List.getElem?_cons_succ, Option.some.injEq] at hk hat
      subst hk
      exact a1.row _ hat
    | k + 2 => simp at hk)
  have hsz := addRows_size [(t0.map W.Node.cells).flatten, (t1.map W.Node.cells).flatten] (tabH Tryd.prog.globals.size W.firstT W.accT)
  rw [tabH_size] at hsz
  have hg := addRows_new [(t0.map W.Node.cells).flatten, (t1.map W.Node.cells).flatten] (tabH Tryd.prog.globals.size W.firstT W.accT)
  rw [tabH_size] at hg
  have hold := addRows_old [(t0.map W.Node.cells).flatten, (t1.map W.Node.cells).flatten] (tabH Tryd.prog.globals.size W.firstT W.accT)
  rw [tabH_size] at hold
  have hN : 1 < Tryd.prog.globals.size := by rw [globals]; decide
  generalize addRows (tabH Tryd.prog.globals.size W.firstT W.accT) [(t0.map W.Node.cells).flatten, (t1.map W.Node.cells).flatten] = Hs at hH hsz hg hold
  have hTab : W.TabOK Hs := ⟨by rw [hold 0 (by omega), tabH_get, if_neg (by decide), if_pos rfl], by rw [hold 1 hN, tabH_get, if_pos rfl], by rw [hsz]; omega⟩
  have b0 : W.ArgIs Hs (W.absV Tryd.prog.globals.size 0 v0) t0 := a0.arg (hg 0 _ rfl) (by rw [hsz]; simp)
  obtain ⟨ob0, cap0, e0, hcap0, hsl0⟩ := b0.is
  have b1 : W.ArgIs Hs (W.absV Tryd.prog.globals.size 1 v1) t1 := a1.arg (hg 1 _ rfl) (by rw [hsz]; simp)
  obtain ⟨ob1, cap1, e1, hcap1, hsl1⟩ := b1.is
  obtain ⟨v, H', ⟨n, hn⟩, M1, _, rfl⟩ := (W.PrimsPairs_spec has symB awakes  b0.ok b1.ok Hs (syms t0 hTab) (syms t1 hTab) ob0 cap0 hcap0 hsl0 ob1 cap1 hcap1 hsl1).run
  have hc := hn n (Nat.le_refl _)
  simp only at hc
  rw [← e0, ← e1] at hc
  refine (call_args (envOKL _) hH hG hc (by kernel_rfl) (VsRel.cons (a0.rel rfl) (VsRel.cons (a1.rel rfl) (VsRel.nil _))) rfl).mono ?_
  rintro e w' ⟨h1, h2, h3, _, h5, h6⟩
  exact ⟨h1, h2, h3, h5, h6⟩
end Go.Proofs.YtfonnebpnobomaaDoor.lawrun
