/- The law SugarTags at some of the kinds, by the interpreter. By an AI agent. No person has read it. -/
import Derived.Test.YtjmohjemgohlpaaGreatDoorKn
namespace Go.Proofs.YtjmohjemgohlpaaGreatDoor.run
open Go Am
set_option maxRecDepth 100000
set_option maxHeartbeats 0
theorem k3xd : pt (.ofNat 3) (.negSucc 0) = true := by kernel_rfl
theorem k3xa (m : Nat) : pt (.ofNat 3) (.negSucc (m + 1)) = true := by kernel_rfl
theorem k3xb : ((List.range 34).all fun n => pt (.ofNat 3) (.ofNat n)) = true := by kernel_rfl
theorem k3xc (m : Nat) : pt (.ofNat 3) (.ofNat (m + 34)) = true := by kernel_rfl
theorem k3x (t : Int) : pt (.ofNat 3) t = true := int_cases (p := pt (.ofNat 3)) 34 k3xd k3xa k3xb k3xc t
theorem k7xd : pt (.ofNat 7) (.negSucc 0) = true := by kernel_rfl
theorem k7xa (m : Nat) : pt (.ofNat 7) (.negSucc (m + 1)) = true := by kernel_rfl
theorem k7xb : ((List.range 34).all fun n => pt (.ofNat 7) (.ofNat n)) = true := by kernel_rfl
theorem k7xc (m : Nat) : pt (.ofNat 7) (.ofNat (m + 34)) = true := by kernel_rfl
theorem k7x (t : Int) : pt (.ofNat 7) t = true := int_cases (p := pt (.ofNat 7)) 34 k7xd k7xa k7xb k7xc t
theorem k11xd : pt (.ofNat 11) (.negSucc 0) = true := by kernel_rfl
theorem k11xa (m : Nat) : pt (.ofNat 11) (.negSucc (m + 1)) = true := by kernel_rfl
theorem k11xb : ((List.range 34).all fun n => pt (.ofNat 11) (.ofNat n)) = true := by kernel_rfl
theorem k11xc (m : Nat) : pt (.ofNat 11) (.ofNat (m + 34)) = true := by kernel_rfl
theorem k11x (t : Int) : pt (.ofNat 11) t = true := int_cases (p := pt (.ofNat 11)) 34 k11xd k11xa k11xb k11xc t
theorem k15xd : pt (.ofNat 15) (.negSucc 0) = true := by kernel_rfl
theorem k15xa (m : Nat) : pt (.ofNat 15) (.negSucc (m + 1)) = true := by kernel_rfl
theorem k15xb : ((List.range 34).all fun n => pt (.ofNat 15) (.ofNat n)) = true := by kernel_rfl
theorem k15xc (m : Nat) : pt (.ofNat 15) (.ofNat (m + 34)) = true := by kernel_rfl
theorem k15x (t : Int) : pt (.ofNat 15) t = true := int_cases (p := pt (.ofNat 15)) 34 k15xd k15xa k15xb k15xc t
theorem k19xd : pt (.ofNat 19) (.negSucc 0) = true := by kernel_rfl
theorem k19xa (m : Nat) : pt (.ofNat 19) (.negSucc (m + 1)) = true := by kernel_rfl
theorem k19xb : ((List.range 34).all fun n => pt (.ofNat 19) (.ofNat n)) = true := by kernel_rfl
theorem k19xc (m : Nat) : pt (.ofNat 19) (.ofNat (m + 34)) = true := by kernel_rfl
theorem k19x (t : Int) : pt (.ofNat 19) t = true := int_cases (p := pt (.ofNat 19)) 34 k19xd k19xa k19xb k19xc t
theorem k23xd : pt (.ofNat 23) (.negSucc 0) = true := by kernel_rfl
theorem k23xa (m : Nat) : pt (.ofNat 23) (.negSucc (m + 1)) = true := by kernel_rfl
theorem k23xb : ((List.range 34).all fun n => pt (.ofNat 23) (.ofNat n)) = true := by kernel_rfl
theorem k23xc (m : Nat) : pt (.ofNat 23) (.ofNat (m + 34)) = true := by kernel_rfl
theorem k23x (t : Int) : pt (.ofNat 23) t = true := int_cases (p := pt (.ofNat 23)) 34 k23xd k23xa k23xb k23xc t
end Go.Proofs.YtjmohjemgohlpaaGreatDoor.run
