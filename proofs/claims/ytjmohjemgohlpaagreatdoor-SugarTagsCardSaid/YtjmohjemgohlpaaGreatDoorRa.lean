/- The law SugarTags at some of the kinds, by the interpreter. By an AI agent. No person has read it. -/
import Derived.Test.YtjmohjemgohlpaaGreatDoorKn
namespace Go.Proofs.YtjmohjemgohlpaaGreatDoor.run
open Go Am
set_option maxRecDepth 100000
set_option maxHeartbeats 0
theorem negzd : ps (.negSucc 0) (.negSucc 0) = true := by kernel_rfl
theorem negza (m : Nat) : ps (.negSucc 0) (.negSucc (m + 1)) = true := by kernel_rfl
theorem negzb : ((List.range 34).all fun n => ps (.negSucc 0) (.ofNat n)) = true := by kernel_rfl
theorem negzc (m : Nat) : ps (.negSucc 0) (.ofNat (m + 34)) = true := by kernel_rfl
theorem negz (t : Int) : ps (.negSucc 0) t = true := int_cases (p := ps (.negSucc 0)) 34 negzd negza negzb negzc t
theorem negd (q : Nat) : ps (.negSucc (q + 1)) (.negSucc 0) = true := by kernel_rfl
theorem nega (q : Nat) (m : Nat) : ps (.negSucc (q + 1)) (.negSucc (m + 1)) = true := by kernel_rfl
theorem negb (q : Nat) : ((List.range 34).all fun n => ps (.negSucc (q + 1)) (.ofNat n)) = true := by kernel_rfl
theorem negc (q : Nat) (m : Nat) : ps (.negSucc (q + 1)) (.ofNat (m + 34)) = true := by kernel_rfl
theorem neg (q : Nat) (t : Int) : ps (.negSucc (q + 1)) t = true := int_cases (p := ps (.negSucc (q + 1))) 34 (negd q) (nega q) (negb q) (negc q) t
theorem zerod : ps (.ofNat 0) (.negSucc 0) = true := by kernel_rfl
theorem zeroa (m : Nat) : ps (.ofNat 0) (.negSucc (m + 1)) = true := by kernel_rfl
theorem zerob : ((List.range 34).all fun n => ps (.ofNat 0) (.ofNat n)) = true := by kernel_rfl
theorem zeroc (m : Nat) : ps (.ofNat 0) (.ofNat (m + 34)) = true := by kernel_rfl
theorem zero (t : Int) : ps (.ofNat 0) t = true := int_cases (p := ps (.ofNat 0)) 34 zerod zeroa zerob zeroc t
theorem bigd (q : Nat) : ps (.ofNat (q + 25)) (.negSucc 0) = true := by kernel_rfl
theorem biga (q : Nat) (m : Nat) : ps (.ofNat (q + 25)) (.negSucc (m + 1)) = true := by kernel_rfl
theorem bigb (q : Nat) : ((List.range 34).all fun n => ps (.ofNat (q + 25)) (.ofNat n)) = true := by kernel_rfl
theorem bigc (q : Nat) (m : Nat) : ps (.ofNat (q + 25)) (.ofNat (m + 34)) = true := by kernel_rfl
theorem big (q : Nat) (t : Int) : ps (.ofNat (q + 25)) t = true := int_cases (p := ps (.ofNat (q + 25))) 34 (bigd q) (biga q) (bigb q) (bigc q) t
theorem k4xd : pt (.ofNat 4) (.negSucc 0) = true := by kernel_rfl
theorem k4xa (m : Nat) : pt (.ofNat 4) (.negSucc (m + 1)) = true := by kernel_rfl
theorem k4xb : ((List.range 34).all fun n => pt (.ofNat 4) (.ofNat n)) = true := by kernel_rfl
theorem k4xc (m : Nat) : pt (.ofNat 4) (.ofNat (m + 34)) = true := by kernel_rfl
theorem k4x (t : Int) : pt (.ofNat 4) t = true := int_cases (p := pt (.ofNat 4)) 34 k4xd k4xa k4xb k4xc t
theorem k8xd : pt (.ofNat 8) (.negSucc 0) = true := by kernel_rfl
theorem k8xa (m : Nat) : pt (.ofNat 8) (.negSucc (m + 1)) = true := by kernel_rfl
theorem k8xb : ((List.range 34).all fun n => pt (.ofNat 8) (.ofNat n)) = true := by kernel_rfl
theorem k8xc (m : Nat) : pt (.ofNat 8) (.ofNat (m + 34)) = true := by kernel_rfl
theorem k8x (t : Int) : pt (.ofNat 8) t = true := int_cases (p := pt (.ofNat 8)) 34 k8xd k8xa k8xb k8xc t
theorem k12xd : pt (.ofNat 12) (.negSucc 0) = true := by kernel_rfl
theorem k12xa (m : Nat) : pt (.ofNat 12) (.negSucc (m + 1)) = true := by kernel_rfl
theorem k12xb : ((List.range 34).all fun n => pt (.ofNat 12) (.ofNat n)) = true := by kernel_rfl
theorem k12xc (m : Nat) : pt (.ofNat 12) (.ofNat (m + 34)) = true := by kernel_rfl
theorem k12x (t : Int) : pt (.ofNat 12) t = true := int_cases (p := pt (.ofNat 12)) 34 k12xd k12xa k12xb k12xc t
theorem k16xd : pt (.ofNat 16) (.negSucc 0) = true := by kernel_rfl
theorem k16xa (m : Nat) : pt (.ofNat 16) (.negSucc (m + 1)) = true := by kernel_rfl
theorem k16xb : ((List.range 34).all fun n => pt (.ofNat 16) (.ofNat n)) = true := by kernel_rfl
theorem k16xc (m : Nat) : pt (.ofNat 16) (.ofNat (m + 34)) = true := by kernel_rfl
theorem k16x (t : Int) : pt (.ofNat 16) t = true := int_cases (p := pt (.ofNat 16)) 34 k16xd k16xa k16xb k16xc t
theorem k20xd : pt (.ofNat 20) (.negSucc 0) = true := by kernel_rfl
theorem k20xa (m : Nat) : pt (.ofNat 20) (.negSucc (m + 1)) = true := by kernel_rfl
theorem k20xb : ((List.range 34).all fun n => pt (.ofNat 20) (.ofNat n)) = true := by kernel_rfl
theorem k20xc (m : Nat) : pt (.ofNat 20) (.ofNat (m + 34)) = true := by kernel_rfl
theorem k20x (t : Int) : pt (.ofNat 20) t = true := int_cases (p := pt (.ofNat 20)) 34 k20xd k20xa k20xb k20xc t
theorem k24xd : pt (.ofNat 24) (.negSucc 0) = true := by kernel_rfl
theorem k24xa (m : Nat) : pt (.ofNat 24) (.negSucc (m + 1)) = true := by kernel_rfl
theorem k24xb : ((List.range 34).all fun n => pt (.ofNat 24) (.ofNat n)) = true := by kernel_rfl
theorem k24xc (m : Nat) : pt (.ofNat 24) (.ofNat (m + 34)) = true := by kernel_rfl
theorem k24x (t : Int) : pt (.ofNat 24) t = true := int_cases (p := pt (.ofNat 24)) 34 k24xd k24xa k24xb k24xc t
end Go.Proofs.YtjmohjemgohlpaaGreatDoor.run
