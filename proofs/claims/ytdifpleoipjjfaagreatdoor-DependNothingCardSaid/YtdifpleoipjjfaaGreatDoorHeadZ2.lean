/- Facts of the tie, part 2: what the program's own initialisers lay. -/
import Derived.Test.YtdifpleoipjjfaaGreatDoorRows
import Derived.LaidByTextLater
import Derived.SevenTiedAt
namespace Go.Proofs.YtdifpleoipjjfaaGreatDoor
open Go
theorem tie_hd : ∀ os tape, varsDone Tryz.prog 400 (varsId Tryz.prog) os tape = true := fun _ _ => by kernel_rfl
end Go.Proofs.YtdifpleoipjjfaaGreatDoor
