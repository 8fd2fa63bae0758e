/- Runs behind kept answers, part 2. -/
import Derived.Test.YtdifpleoipjjfaaGreatDoorHeadC
namespace Go.Proofs.YtdifpleoipjjfaaGreatDoor
open Go Go.Refl
theorem run5 (pf : Nat × Nat) : runEnt (envT pf tab5) 100000 ent5 = true := by kernel_rfl
theorem run13 (pf : Nat × Nat) : runEnt (envT pf tab13) 100000 ent13 = true := by kernel_rfl
theorem run24 (pf : Nat × Nat) : runEnt (envT pf tab24) 100000 ent24 = true := by kernel_rfl
theorem run36 (pf : Nat × Nat) : runEnt (envT pf tab36) 100000 ent36 = true := by kernel_rfl
theorem run39 (pf : Nat × Nat) : runEnt (envT pf tab39) 100000 ent39 = true := by kernel_rfl
theorem run42 (pf : Nat × Nat) : runEnt (envT pf tab42) 100000 ent42 = true := by kernel_rfl
theorem run59 (pf : Nat × Nat) : runEnt (envT pf tab59) 100000 ent59 = true := by kernel_rfl
theorem run63 (pf : Nat × Nat) : runEnt (envT pf tab63) 100000 ent63 = true := by kernel_rfl
theorem run66 (pf : Nat × Nat) : runEnt (envT pf tab66) 100000 ent66 = true := by kernel_rfl
theorem run77 (pf : Nat × Nat) : runEnt (envT pf tab77) 100000 ent77 = true := by kernel_rfl
theorem run86 (pf : Nat × Nat) : runEnt (envT pf tab86) 100000 ent86 = true := by kernel_rfl
theorem run103 (pf : Nat × Nat) : runEnt (envT pf tab103) 100000 ent103 = true := by kernel_rfl
theorem run105 (pf : Nat × Nat) : runEnt (envT pf tab105) 100000 ent105 = true := by kernel_rfl
theorem run110 (pf : Nat × Nat) : runEnt (envT pf tab110) 100000 ent110 = true := by kernel_rfl
theorem run126 (pf : Nat × Nat) : runEnt (envT pf tab126) 100000 ent126 = true := by kernel_rfl
theorem run143 (pf : Nat × Nat) : runEnt (envT pf tab143) 100000 ent143 = true := by kernel_rfl
theorem run144 (pf : Nat × Nat) : runEnt (envT pf tab144) 100000 ent144 = true := by kernel_rfl
theorem run145 (pf : Nat × Nat) : runEnt (envT pf tab145) 100000 ent145 = true := by kernel_rfl
end Go.Proofs.YtdifpleoipjjfaaGreatDoor
