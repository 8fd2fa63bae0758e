/- Runs behind kept answers, part 7. -/
import Derived.Test.YtdifpleoipjjfaaGreatDoorHeadC
namespace Go.Proofs.YtdifpleoipjjfaaGreatDoor
open Go Go.Refl
theorem run0 (pf : Nat × Nat) : runEnt (envT pf tab0) 100000 ent0 = true := by kernel_rfl
theorem run15 (pf : Nat × Nat) : runEnt (envT pf tab15) 100000 ent15 = true := by kernel_rfl
theorem run19 (pf : Nat × Nat) : runEnt (envT pf tab19) 100000 ent19 = true := by kernel_rfl
theorem run31 (pf : Nat × Nat) : runEnt (envT pf tab31) 100000 ent31 = true := by kernel_rfl
theorem run33 (pf : Nat × Nat) : runEnt (envT pf tab33) 100000 ent33 = true := by kernel_rfl
theorem run37 (pf : Nat × Nat) : runEnt (envT pf tab37) 100000 ent37 = true := by kernel_rfl
theorem run40 (pf : Nat × Nat) : runEnt (envT pf tab40) 100000 ent40 = true := by kernel_rfl
theorem run55 (pf : Nat × Nat) : runEnt (envT pf tab55) 100000 ent55 = true := by kernel_rfl
theorem run56 (pf : Nat × Nat) : runEnt (envT pf tab56) 100000 ent56 = true := by kernel_rfl
theorem run76 (pf : Nat × Nat) : runEnt (envT pf tab76) 100000 ent76 = true := by kernel_rfl
theorem run82 (pf : Nat × Nat) : runEnt (envT pf tab82) 100000 ent82 = true := by kernel_rfl
theorem run83 (pf : Nat × Nat) : runEnt (envT pf tab83) 100000 ent83 = true := by kernel_rfl
theorem run95 (pf : Nat × Nat) : runEnt (envT pf tab95) 100000 ent95 = true := by kernel_rfl
theorem run112 (pf : Nat × Nat) : runEnt (envT pf tab112) 100000 ent112 = true := by kernel_rfl
theorem run116 (pf : Nat × Nat) : runEnt (envT pf tab116) 100000 ent116 = true := by kernel_rfl
theorem run117 (pf : Nat × Nat) : runEnt (envT pf tab117) 100000 ent117 = true := by kernel_rfl
theorem run123 (pf : Nat × Nat) : runEnt (envT pf tab123) 100000 ent123 = true := by kernel_rfl
theorem run134 (pf : Nat × Nat) : runEnt (envT pf tab134) 100000 ent134 = true := by kernel_rfl
theorem run141 (pf : Nat × Nat) : runEnt (envT pf tab141) 100000 ent141 = true := by kernel_rfl
theorem run147 (pf : Nat × Nat) : runEnt (envT pf tab147) 100000 ent147 = true := by kernel_rfl
end Go.Proofs.YtdifpleoipjjfaaGreatDoor
