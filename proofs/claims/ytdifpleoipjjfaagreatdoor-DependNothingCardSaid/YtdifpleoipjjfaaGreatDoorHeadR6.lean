/- Runs behind kept answers, part 6. -/
import Derived.Test.YtdifpleoipjjfaaGreatDoorHeadC
namespace Go.Proofs.YtdifpleoipjjfaaGreatDoor
open Go Go.Refl
theorem run8 (pf : Nat × Nat) : runEnt (envT pf tab8) 100000 ent8 = true := by kernel_rfl
theorem run10 (pf : Nat × Nat) : runEnt (envT pf tab10) 100000 ent10 = true := by kernel_rfl
theorem run11 (pf : Nat × Nat) : runEnt (envT pf tab11) 100000 ent11 = true := by kernel_rfl
theorem run25 (pf : Nat × Nat) : runEnt (envT pf tab25) 100000 ent25 = true := by kernel_rfl
theorem run30 (pf : Nat × Nat) : runEnt (envT pf tab30) 100000 ent30 = true := by kernel_rfl
theorem run38 (pf : Nat × Nat) : runEnt (envT pf tab38) 100000 ent38 = true := by kernel_rfl
theorem run46 (pf : Nat × Nat) : runEnt (envT pf tab46) 100000 ent46 = true := by kernel_rfl
theorem run52 (pf : Nat × Nat) : runEnt (envT pf tab52) 100000 ent52 = true := by kernel_rfl
theorem run53 (pf : Nat × Nat) : runEnt (envT pf tab53) 100000 ent53 = true := by kernel_rfl
theorem run61 (pf : Nat × Nat) : runEnt (envT pf tab61) 100000 ent61 = true := by kernel_rfl
theorem run73 (pf : Nat × Nat) : runEnt (envT pf tab73) 100000 ent73 = true := by kernel_rfl
theorem run85 (pf : Nat × Nat) : runEnt (envT pf tab85) 100000 ent85 = true := by kernel_rfl
theorem run94 (pf : Nat × Nat) : runEnt (envT pf tab94) 100000 ent94 = true := by kernel_rfl
theorem run97 (pf : Nat × Nat) : runEnt (envT pf tab97) 100000 ent97 = true := by kernel_rfl
theorem run115 (pf : Nat × Nat) : runEnt (envT pf tab115) 100000 ent115 = true := by kernel_rfl
theorem run118 (pf : Nat × Nat) : runEnt (envT pf tab118) 100000 ent118 = true := by kernel_rfl
theorem run135 (pf : Nat × Nat) : runEnt (envT pf tab135) 100000 ent135 = true := by kernel_rfl
theorem run146 (pf : Nat × Nat) : runEnt (envT pf tab146) 100000 ent146 = true := by kernel_rfl
end Go.Proofs.YtdifpleoipjjfaaGreatDoor
