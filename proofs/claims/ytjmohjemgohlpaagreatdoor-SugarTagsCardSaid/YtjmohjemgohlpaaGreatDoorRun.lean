/- The law SugarTags, by the interpreter, whatever its two numbers are. By an AI agent. No person has read it. -/
import Derived.Test.YtjmohjemgohlpaaGreatDoorRa
import Derived.Test.YtjmohjemgohlpaaGreatDoorRb
import Derived.Test.YtjmohjemgohlpaaGreatDoorRc
import Derived.Test.YtjmohjemgohlpaaGreatDoorRd
namespace Go.Proofs.YtjmohjemgohlpaaGreatDoor.run
open Go Am
theorem good : ∀ (k t : Int), ps k t = true ∨ pt k t = true
  | .negSucc 0, t => .inl (negz t)
  | .negSucc (q + 1), t => .inl (neg q t)
  | .ofNat 0, t => .inl (zero t)
  | .ofNat 1, t => .inr (k1x t)
  | .ofNat 2, t => .inr (k2x t)
  | .ofNat 3, t => .inr (k3x t)
  | .ofNat 4, t => .inr (k4x t)
  | .ofNat 5, t => .inr (k5x t)
  | .ofNat 6, t => .inr (k6x t)
  | .ofNat 7, t => .inr (k7x t)
  | .ofNat 8, t => .inr (k8x t)
  | .ofNat 9, t => .inr (k9x t)
  | .ofNat 10, t => .inr (k10x t)
  | .ofNat 11, t => .inr (k11x t)
  | .ofNat 12, t => .inr (k12x t)
  | .ofNat 13, t => .inr (k13x t)
  | .ofNat 14, t => .inr (k14x t)
  | .ofNat 15, t => .inr (k15x t)
  | .ofNat 16, t => .inr (k16x t)
  | .ofNat 17, t => .inr (k17x t)
  | .ofNat 18, t => .inr (k18x t)
  | .ofNat 19, t => .inr (k19x t)
  | .ofNat 20, t => .inr (k20x t)
  | .ofNat 21, t => .inr (k21x t)
  | .ofNat 22, t => .inr (k22x t)
  | .ofNat 23, t => .inr (k23x t)
  | .ofNat 24, t => .inr (k24x t)
  | .ofNat (q + 25), t => .inl (big q t)
theorem calls (k t : Int) (w : World) (hw : TabAt 0 makersT w) : Calls Tryz.prog 3 #[.int .i64 k, .int .i64 t] w fun e w' => e = .returned (.bool true) ∧ Kept w w' := by
  rcases good k t with h | h
  · obtain ⟨H', h1⟩ := fcall_true (E := Es) (n := 3000) (f := 3) (args := [.int .i64 k, .int .i64 t]) (H := H0) h
    refine Calls.mono (call_start (startT hw) (envOKs _) h1 (by kernel_rfl) (by simp [Am.flat, Am.flat0]) rfl) ?_
    rintro e w' ⟨h1, h2, h3, h4, h5, h6⟩
    exact ⟨h1, h2, h3, h5, h6⟩
  · obtain ⟨H', h1⟩ := fcall_true (E := Et) (n := 3000) (f := 3) (args := [.int .i64 k, .int .i64 t]) (H := H0) h
    refine Calls.mono (call_start (startT hw) (envOKt _) h1 (by kernel_rfl) (by simp [Am.flat, Am.flat0]) rfl) ?_
    rintro e w' ⟨h1, h2, h3, h4, h5, h6⟩
    exact ⟨h1, h2, h3, h5, h6⟩
end Go.Proofs.YtjmohjemgohlpaaGreatDoor.run
