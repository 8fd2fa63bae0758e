/- Runs behind kept answers, part 4. -/
import Derived.Test.YtdifpleoipjjfaaGreatDoorHeadC
namespace Go.Proofs.YtdifpleoipjjfaaGreatDoor
open Go Go.Refl
theorem run1 (pf : Nat × Nat) : runEnt (envT pf tab1) 100000 ent1 = true := by kernel_rfl
theorem run12 (pf : Nat × Nat) : runEnt (envT pf tab12) 100000 ent12 = true := by kernel_rfl
theorem run17 (pf : Nat × Nat) : runEnt (envT pf tab17) 100000 ent17 = true := by kernel_rfl
theorem run26 (pf : Nat × Nat) : runEnt (envT pf tab26) 100000 ent26 = true := by kernel_rfl
theorem run34 (pf : Nat × Nat) : runEnt (envT pf tab34) 100000 ent34 = true := by kernel_rfl
theorem run43 (pf : Nat × Nat) : runEnt (envT pf tab43) 100000 ent43 = true := by kernel_rfl
theorem run49 (pf : Nat × Nat) : runEnt (envT pf tab49) 100000 ent49 = true := by kernel_rfl
theorem run58 (pf : Nat × Nat) : runEnt (envT pf tab58) 100000 ent58 = true := by kernel_rfl
theorem run71 (pf : Nat × Nat) : runEnt (envT pf tab71) 100000 ent71 = true := by kernel_rfl
theorem run75 (pf : Nat × Nat) : runEnt (envT pf tab75) 100000 ent75 = true := by kernel_rfl
theorem run79 (pf : Nat × Nat) : runEnt (envT pf tab79) 100000 ent79 = true := by kernel_rfl
theorem run91 (pf : Nat × Nat) : runEnt (envT pf tab91) 100000 ent91 = true := by kernel_rfl
theorem run98 (pf : Nat × Nat) : runEnt (envT pf tab98) 100000 ent98 = true := by kernel_rfl
theorem run102 (pf : Nat × Nat) : runEnt (envT pf tab102) 100000 ent102 = true := by kernel_rfl
theorem run108 (pf : Nat × Nat) : runEnt (envT pf tab108) 100000 ent108 = true := by kernel_rfl
theorem run113 (pf : Nat × Nat) : runEnt (envT pf tab113) 100000 ent113 = true := by kernel_rfl
theorem run120 (pf : Nat × Nat) : runEnt (envT pf tab120) 100000 ent120 = true := by kernel_rfl
theorem run122 (pf : Nat × Nat) : runEnt (envT pf tab122) 100000 ent122 = true := by kernel_rfl
theorem run140 (pf : Nat × Nat) : runEnt (envT pf tab140) 100000 ent140 = true := by kernel_rfl
end Go.Proofs.YtdifpleoipjjfaaGreatDoor
