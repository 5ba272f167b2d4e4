/- The law SugarTags at some of the kinds, by the interpreter. By an AI agent. No person has read it. -/
import Derived.Test.YtjmohjemgohlpaaGreatDoorKn
namespace Go.Proofs.YtjmohjemgohlpaaGreatDoor.run
open Go Am
set_option maxRecDepth 100000
set_option maxHeartbeats 0
theorem k2xd : pt (.ofNat 2) (.negSucc 0) = true := by kernel_rfl
theorem k2xa (m : Nat) : pt (.ofNat 2) (.negSucc (m + 1)) = true := by kernel_rfl
theorem k2xb : ((List.range 34).all fun n => pt (.ofNat 2) (.ofNat n)) = true := by kernel_rfl
theorem k2xc (m : Nat) : pt (.ofNat 2) (.ofNat (m + 34)) = true := by kernel_rfl
theorem k2x (t : Int) : pt (.ofNat 2) t = true := int_cases (p := pt (.ofNat 2)) 34 k2xd k2xa k2xb k2xc t
theorem k6xd : pt (.ofNat 6) (.negSucc 0) = true := by kernel_rfl
theorem k6xa (m : Nat) : pt (.ofNat 6) (.negSucc (m + 1)) = true := by kernel_rfl
theorem k6xb : ((List.range 34).all fun n => pt (.ofNat 6) (.ofNat n)) = true := by kernel_rfl
theorem k6xc (m : Nat) : pt (.ofNat 6) (.ofNat (m + 34)) = true := by kernel_rfl
theorem k6x (t : Int) : pt (.ofNat 6) t = true := int_cases (p := pt (.ofNat 6)) 34 k6xd k6xa k6xb k6xc t
theorem k10xd : pt (.ofNat 10) (.negSucc 0) = true := by kernel_rfl
theorem k10xa (m : Nat) : pt (.ofNat 10) (.negSucc (m + 1)) = true := by kernel_rfl
theorem k10xb : ((List.range 34).all fun n => pt (.ofNat 10) (.ofNat n)) = true := by kernel_rfl
theorem k10xc (m : Nat) : pt (.ofNat 10) (.ofNat (m + 34)) = true := by kernel_rfl
theorem k10x (t : Int) : pt (.ofNat 10) t = true := int_cases (p := pt (.ofNat 10)) 34 k10xd k10xa k10xb k10xc t
theorem k14xd : pt (.ofNat 14) (.negSucc 0) = true := by kernel_rfl
theorem k14xa (m : Nat) : pt (.ofNat 14) (.negSucc (m + 1)) = true := by kernel_rfl
theorem k14xb : ((List.range 34).all fun n => pt (.ofNat 14) (.ofNat n)) = true := by kernel_rfl
theorem k14xc (m : Nat) : pt (.ofNat 14) (.ofNat (m + 34)) = true := by kernel_rfl
theorem k14x (t : Int) : pt (.ofNat 14) t = true := int_cases (p := pt (.ofNat 14)) 34 k14xd k14xa k14xb k14xc t
theorem k18xd : pt (.ofNat 18) (.negSucc 0) = true := by kernel_rfl
theorem k18xa (m : Nat) : pt (.ofNat 18) (.negSucc (m + 1)) = true := by kernel_rfl
theorem k18xb : ((List.range 34).all fun n => pt (.ofNat 18) (.ofNat n)) = true := by kernel_rfl
theorem k18xc (m : Nat) : pt (.ofNat 18) (.ofNat (m + 34)) = true := by kernel_rfl
theorem k18x (t : Int) : pt (.ofNat 18) t = true := int_cases (p := pt (.ofNat 18)) 34 k18xd k18xa k18xb k18xc t
theorem k22xd : pt (.ofNat 22) (.negSucc 0) = true := by kernel_rfl
theorem k22xa (m : Nat) : pt (.ofNat 22) (.negSucc (m + 1)) = true := by kernel_rfl
theorem k22xb : ((List.range 34).all fun n => pt (.ofNat 22) (.ofNat n)) = true := by kernel_rfl
theorem k22xc (m : Nat) : pt (.ofNat 22) (.ofNat (m + 34)) = true := by kernel_rfl
theorem k22x (t : Int) : pt (.ofNat 22) t = true := int_cases (p := pt (.ofNat 22)) 34 k22xd k22xa k22xb k22xc t
end Go.Proofs.YtjmohjemgohlpaaGreatDoor.run
