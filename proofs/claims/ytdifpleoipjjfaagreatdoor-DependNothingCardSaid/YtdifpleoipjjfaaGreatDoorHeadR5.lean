/- Runs behind kept answers, part 5. -/
import Derived.Test.YtdifpleoipjjfaaGreatDoorHeadC
namespace Go.Proofs.YtdifpleoipjjfaaGreatDoor
open Go Go.Refl
theorem run4 (pf : Nat × Nat) : runEnt (envT pf tab4) 100000 ent4 = true := by kernel_rfl
theorem run20 (pf : Nat × Nat) : runEnt (envT pf tab20) 100000 ent20 = true := by kernel_rfl
theorem run21 (pf : Nat × Nat) : runEnt (envT pf tab21) 100000 ent21 = true := by kernel_rfl
theorem run22 (pf : Nat × Nat) : runEnt (envT pf tab22) 100000 ent22 = true := by kernel_rfl
theorem run48 (pf : Nat × Nat) : runEnt (envT pf tab48) 100000 ent48 = true := by kernel_rfl
theorem run51 (pf : Nat × Nat) : runEnt (envT pf tab51) 100000 ent51 = true := by kernel_rfl
theorem run54 (pf : Nat × Nat) : runEnt (envT pf tab54) 100000 ent54 = true := by kernel_rfl
theorem run62 (pf : Nat × Nat) : runEnt (envT pf tab62) 100000 ent62 = true := by kernel_rfl
theorem run68 (pf : Nat × Nat) : runEnt (envT pf tab68) 100000 ent68 = true := by kernel_rfl
theorem run80 (pf : Nat × Nat) : runEnt (envT pf tab80) 100000 ent80 = true := by kernel_rfl
theorem run89 (pf : Nat × Nat) : runEnt (envT pf tab89) 100000 ent89 = true := by kernel_rfl
theorem run93 (pf : Nat × Nat) : runEnt (envT pf tab93) 100000 ent93 = true := by kernel_rfl
theorem run109 (pf : Nat × Nat) : runEnt (envT pf tab109) 100000 ent109 = true := by kernel_rfl
theorem run111 (pf : Nat × Nat) : runEnt (envT pf tab111) 100000 ent111 = true := by kernel_rfl
theorem run121 (pf : Nat × Nat) : runEnt (envT pf tab121) 100000 ent121 = true := by kernel_rfl
theorem run129 (pf : Nat × Nat) : runEnt (envT pf tab129) 100000 ent129 = true := by kernel_rfl
theorem run132 (pf : Nat × Nat) : runEnt (envT pf tab132) 100000 ent132 = true := by kernel_rfl
theorem run142 (pf : Nat × Nat) : runEnt (envT pf tab142) 100000 ent142 = true := by kernel_rfl
end Go.Proofs.YtdifpleoipjjfaaGreatDoor
