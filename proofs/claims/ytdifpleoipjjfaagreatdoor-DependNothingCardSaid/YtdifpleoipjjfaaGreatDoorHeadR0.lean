/- Runs behind kept answers, part 0. -/
import Derived.Test.YtdifpleoipjjfaaGreatDoorHeadC
namespace Go.Proofs.YtdifpleoipjjfaaGreatDoor
open Go Go.Refl
theorem run3 (pf : Nat × Nat) : runEnt (envT pf tab3) 100000 ent3 = true := by kernel_rfl
theorem run7 (pf : Nat × Nat) : runEnt (envT pf tab7) 100000 ent7 = true := by kernel_rfl
theorem run14 (pf : Nat × Nat) : runEnt (envT pf tab14) 100000 ent14 = true := by kernel_rfl
theorem run18 (pf : Nat × Nat) : runEnt (envT pf tab18) 100000 ent18 = true := by kernel_rfl
theorem run27 (pf : Nat × Nat) : runEnt (envT pf tab27) 100000 ent27 = true := by kernel_rfl
theorem run28 (pf : Nat × Nat) : runEnt (envT pf tab28) 100000 ent28 = true := by kernel_rfl
theorem run35 (pf : Nat × Nat) : runEnt (envT pf tab35) 100000 ent35 = true := by kernel_rfl
theorem run70 (pf : Nat × Nat) : runEnt (envT pf tab70) 100000 ent70 = true := by kernel_rfl
theorem run74 (pf : Nat × Nat) : runEnt (envT pf tab74) 100000 ent74 = true := by kernel_rfl
theorem run90 (pf : Nat × Nat) : runEnt (envT pf tab90) 100000 ent90 = true := by kernel_rfl
theorem run92 (pf : Nat × Nat) : runEnt (envT pf tab92) 100000 ent92 = true := by kernel_rfl
theorem run99 (pf : Nat × Nat) : runEnt (envT pf tab99) 100000 ent99 = true := by kernel_rfl
theorem run124 (pf : Nat × Nat) : runEnt (envT pf tab124) 100000 ent124 = true := by kernel_rfl
theorem run125 (pf : Nat × Nat) : runEnt (envT pf tab125) 100000 ent125 = true := by kernel_rfl
theorem run131 (pf : Nat × Nat) : runEnt (envT pf tab131) 100000 ent131 = true := by kernel_rfl
theorem run136 (pf : Nat × Nat) : runEnt (envT pf tab136) 100000 ent136 = true := by kernel_rfl
theorem run138 (pf : Nat × Nat) : runEnt (envT pf tab138) 100000 ent138 = true := by kernel_rfl
theorem run139 (pf : Nat × Nat) : runEnt (envT pf tab139) 100000 ent139 = true := by kernel_rfl
end Go.Proofs.YtdifpleoipjjfaaGreatDoor
