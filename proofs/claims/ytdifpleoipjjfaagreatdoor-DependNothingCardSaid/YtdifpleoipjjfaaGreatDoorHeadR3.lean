/- Runs behind kept answers, part 3. -/
import Derived.Test.YtdifpleoipjjfaaGreatDoorHeadC
namespace Go.Proofs.YtdifpleoipjjfaaGreatDoor
open Go Go.Refl
theorem run16 (pf : Nat × Nat) : runEnt (envT pf tab16) 100000 ent16 = true := by kernel_rfl
theorem run23 (pf : Nat × Nat) : runEnt (envT pf tab23) 100000 ent23 = true := by kernel_rfl
theorem run29 (pf : Nat × Nat) : runEnt (envT pf tab29) 100000 ent29 = true := by kernel_rfl
theorem run32 (pf : Nat × Nat) : runEnt (envT pf tab32) 100000 ent32 = true := by kernel_rfl
theorem run44 (pf : Nat × Nat) : runEnt (envT pf tab44) 100000 ent44 = true := by kernel_rfl
theorem run45 (pf : Nat × Nat) : runEnt (envT pf tab45) 100000 ent45 = true := by kernel_rfl
theorem run50 (pf : Nat × Nat) : runEnt (envT pf tab50) 100000 ent50 = true := by kernel_rfl
theorem run65 (pf : Nat × Nat) : runEnt (envT pf tab65) 100000 ent65 = true := by kernel_rfl
theorem run69 (pf : Nat × Nat) : runEnt (envT pf tab69) 100000 ent69 = true := by kernel_rfl
theorem run72 (pf : Nat × Nat) : runEnt (envT pf tab72) 100000 ent72 = true := by kernel_rfl
theorem run78 (pf : Nat × Nat) : runEnt (envT pf tab78) 100000 ent78 = true := by kernel_rfl
theorem run87 (pf : Nat × Nat) : runEnt (envT pf tab87) 100000 ent87 = true := by kernel_rfl
theorem run88 (pf : Nat × Nat) : runEnt (envT pf tab88) 100000 ent88 = true := by kernel_rfl
theorem run101 (pf : Nat × Nat) : runEnt (envT pf tab101) 100000 ent101 = true := by kernel_rfl
theorem run104 (pf : Nat × Nat) : runEnt (envT pf tab104) 100000 ent104 = true := by kernel_rfl
theorem run106 (pf : Nat × Nat) : runEnt (envT pf tab106) 100000 ent106 = true := by kernel_rfl
theorem run114 (pf : Nat × Nat) : runEnt (envT pf tab114) 100000 ent114 = true := by kernel_rfl
theorem run127 (pf : Nat × Nat) : runEnt (envT pf tab127) 100000 ent127 = true := by kernel_rfl
end Go.Proofs.YtdifpleoipjjfaaGreatDoor
