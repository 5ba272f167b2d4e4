/- What stops the reading (need) panics with the one value; the closure that show defers recovers it, and lays false; without a panic it does nothing. By an AI agent. No person has read it. -/
import Derived.Test.YtiblfhiiombfcaaGreatDoorChecked
import Derived.Tactics
import Derived.Tactics2
import Derived.Defers
import Derived.Recover
import Derived.Laws.Pointers
import Derived.TacticsInMore
import Derived.RegionIn
import Derived.LoopNIn
import Derived.RecoverIn
import Derived.WalkSmall
import Derived.KernelRfl
namespace Go.Proofs.YtiblfhiiombfcaaGreatDoor.shw
open Go
set_option maxRecDepth 100000
set_option maxHeartbeats 2000000
def V : Value := .iface 165 (.agg #[])
theorem need_calls (w : World) : Calls Tryz.prog 131 #[.bool false] w fun e w' => e = .panicked [{ v := V, recovered := false }] ∧ w' = w := by
  go_enter Tryz.func131, Tryz.ntmps131
  go_wp2
  exact ⟨rfl, rfl, rfl⟩
theorem clo_idle (p : Addr) (w : World) : CallsDIn { Fence.wide with round := none } 0 Tryz.prog 85 #[.pointer (some p)] .returning w fun e u' w' => e = .returned (.tuple #[]) ∧ u' = .returning ∧ w' = w := by
  refine callsDIn_of_wpSIn Tryz.func85 rfl trivial ?_
  intro c₀ cs hu
  refine wpSIn_seq (wpSIn_region ?_)
  simp [wpOpsSIn, go_sem, recoverD, hu, Tryz.ntmps85, Exit.thenS]
  refine wpSIn_of_wpIn rfl ?_
  gi_wp2
  cases c₀
  simp_all [bodyPostS, results, Tryz.results85]
theorem clo_panics (p : Addr) (x : Value) (w : World) (h1 : (w.alloc (.cells #[] 165)).cell? p = some x) (h2 : (w.alloc (.cells #[] 165)).frozen? p = false) : CallsDIn { Fence.wide with round := none } 0 Tryz.prog 85 #[.pointer (some p)] (.panicking [{ v := V, recovered := false }]) w fun e u' w' => e = .returned (.tuple #[]) ∧ u' = .panicking [{ v := V, recovered := true }] ∧ w' = (w.alloc (.cells #[] 165)).setCell p (.bool false) := by
  have hta : ∀ w, (Instr.typeAssert (.iface 165 (.agg #[])) 20 165 true).run Tryz.prog w = .ok (.tuple #[.agg #[], .bool true]) w := fun w => by kernel_rfl
  unfold V
  refine callsDIn_of_wpSIn Tryz.func85 rfl trivial ?_
  intro c₀ cs hu
  refine wpSIn_seq (wpSIn_region ?_)
  simp [wpOpsSIn, go_sem, recoverD, hu, Tryz.ntmps85, Exit.thenS]
  refine wpSIn_of_wpIn rfl ?_
  gi_wp2
  cases c₀
  simp_all [bodyPostS, results, Tryz.results85]
end Go.Proofs.YtiblfhiiombfcaaGreatDoor.shw
