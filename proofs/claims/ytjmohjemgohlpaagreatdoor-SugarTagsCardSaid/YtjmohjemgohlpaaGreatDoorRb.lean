/- The law SugarTags at some of the kinds, by the interpreter. By an AI agent. No person has read it. -/
import Derived.Test.YtjmohjemgohlpaaGreatDoorKn
namespace Go.Proofs.YtjmohjemgohlpaaGreatDoor.run
open Go Am
set_option maxRecDepth 100000
set_option maxHeartbeats 0
theorem k1xd : pt (.ofNat 1) (.negSucc 0) = true := by kernel_rfl
theorem k1xa (m : Nat) : pt (.ofNat 1) (.negSucc (m + 1)) = true := by kernel_rfl
theorem k1xb : ((List.range 34).all fun n => pt (.ofNat 1) (.ofNat n)) = true := by kernel_rfl
theorem k1xc (m : Nat) : pt (.ofNat 1) (.ofNat (m + 34)) = true := by kernel_rfl
theorem k1x (t : Int) : pt (.ofNat 1) t = true := int_cases (p := pt (.ofNat 1)) 34 k1xd k1xa k1xb k1xc t
theorem k5xd : pt (.ofNat 5) (.negSucc 0) = true := by kernel_rfl
theorem k5xa (m : Nat) : pt (.ofNat 5) (.negSucc (m + 1)) = true := by kernel_rfl
theorem k5xb : ((List.range 34).all fun n => pt (.ofNat 5) (.ofNat n)) = true := by kernel_rfl
theorem k5xc (m : Nat) : pt (.ofNat 5) (.ofNat (m + 34)) = true := by kernel_rfl
theorem k5x (t : Int) : pt (.ofNat 5) t = true := int_cases (p := pt (.ofNat 5)) 34 k5xd k5xa k5xb k5xc t
theorem k9xd : pt (.ofNat 9) (.negSucc 0) = true := by kernel_rfl
theorem k9xa (m : Nat) : pt (.ofNat 9) (.negSucc (m + 1)) = true := by kernel_rfl
theorem k9xb : ((List.range 34).all fun n => pt (.ofNat 9) (.ofNat n)) = true := by kernel_rfl
theorem k9xc (m : Nat) : pt (.ofNat 9) (.ofNat (m + 34)) = true := by kernel_rfl
theorem k9x (t : Int) : pt (.ofNat 9) t = true := int_cases (p := pt (.ofNat 9)) 34 k9xd k9xa k9xb k9xc t
theorem k13xd : pt (.ofNat 13) (.negSucc 0) = true := by kernel_rfl
theorem k13xa (m : Nat) : pt (.ofNat 13) (.negSucc (m + 1)) = true := by kernel_rfl
theorem k13xb : ((List.range 34).all fun n => pt (.ofNat 13) (.ofNat n)) = true := by kernel_rfl
theorem k13xc (m : Nat) : pt (.ofNat 13) (.ofNat (m + 34)) = true := by kernel_rfl
theorem k13x (t : Int) : pt (.ofNat 13) t = true := int_cases (p := pt (.ofNat 13)) 34 k13xd k13xa k13xb k13xc t
theorem k17xd : pt (.ofNat 17) (.negSucc 0) = true := by kernel_rfl
theorem k17xa (m : Nat) : pt (.ofNat 17) (.negSucc (m + 1)) = true := by kernel_rfl
theorem k17xb : ((List.range 34).all fun n => pt (.ofNat 17) (.ofNat n)) = true := by kernel_rfl
theorem k17xc (m : Nat) : pt (.ofNat 17) (.ofNat (m + 34)) = true := by kernel_rfl
theorem k17x (t : Int) : pt (.ofNat 17) t = true := int_cases (p := pt (.ofNat 17)) 34 k17xd k17xa k17xb k17xc t
theorem k21xd : pt (.ofNat 21) (.negSucc 0) = true := by kernel_rfl
theorem k21xa (m : Nat) : pt (.ofNat 21) (.negSucc (m + 1)) = true := by kernel_rfl
theorem k21xb : ((List.range 34).all fun n => pt (.ofNat 21) (.ofNat n)) = true := by kernel_rfl
theorem k21xc (m : Nat) : pt (.ofNat 21) (.ofNat (m + 34)) = true := by kernel_rfl
theorem k21x (t : Int) : pt (.ofNat 21) t = true := int_cases (p := pt (.ofNat 21)) 34 k21xd k21xa k21xb k21xc t
end Go.Proofs.YtjmohjemgohlpaaGreatDoor.run
