/- Runs behind kept answers, part 1. -/
import Derived.Test.YtdifpleoipjjfaaGreatDoorHeadC
namespace Go.Proofs.YtdifpleoipjjfaaGreatDoor
open Go Go.Refl
theorem run2 (pf : Nat × Nat) : runEnt (envT pf tab2) 100000 ent2 = true := by kernel_rfl
theorem run6 (pf : Nat × Nat) : runEnt (envT pf tab6) 100000 ent6 = true := by kernel_rfl
theorem run9 (pf : Nat × Nat) : runEnt (envT pf tab9) 100000 ent9 = true := by kernel_rfl
theorem run41 (pf : Nat × Nat) : runEnt (envT pf tab41) 100000 ent41 = true := by kernel_rfl
theorem run47 (pf : Nat × Nat) : runEnt (envT pf tab47) 100000 ent47 = true := by kernel_rfl
theorem run57 (pf : Nat × Nat) : runEnt (envT pf tab57) 100000 ent57 = true := by kernel_rfl
theorem run60 (pf : Nat × Nat) : runEnt (envT pf tab60) 100000 ent60 = true := by kernel_rfl
theorem run64 (pf : Nat × Nat) : runEnt (envT pf tab64) 100000 ent64 = true := by kernel_rfl
theorem run67 (pf : Nat × Nat) : runEnt (envT pf tab67) 100000 ent67 = true := by kernel_rfl
theorem run81 (pf : Nat × Nat) : runEnt (envT pf tab81) 100000 ent81 = true := by kernel_rfl
theorem run84 (pf : Nat × Nat) : runEnt (envT pf tab84) 100000 ent84 = true := by kernel_rfl
theorem run96 (pf : Nat × Nat) : runEnt (envT pf tab96) 100000 ent96 = true := by kernel_rfl
theorem run100 (pf : Nat × Nat) : runEnt (envT pf tab100) 100000 ent100 = true := by kernel_rfl
theorem run107 (pf : Nat × Nat) : runEnt (envT pf tab107) 100000 ent107 = true := by kernel_rfl
theorem run119 (pf : Nat × Nat) : runEnt (envT pf tab119) 100000 ent119 = true := by kernel_rfl
theorem run128 (pf : Nat × Nat) : runEnt (envT pf tab128) 100000 ent128 = true := by kernel_rfl
theorem run130 (pf : Nat × Nat) : runEnt (envT pf tab130) 100000 ent130 = true := by kernel_rfl
theorem run133 (pf : Nat × Nat) : runEnt (envT pf tab133) 100000 ent133 = true := by kernel_rfl
theorem run137 (pf : Nat × Nat) : runEnt (envT pf tab137) 100000 ent137 = true := by kernel_rfl
end Go.Proofs.YtdifpleoipjjfaaGreatDoor
