/- A closed fact of the card: what the program looks at. -/
import Derived.Test.YtdifpleoipjjfaaGreatDoorHeadU
import Derived.Test.YtdifpleoipjjfaaGreatDoorRows
import Derived.SevenTiedAt
namespace Go.Proofs.YtdifpleoipjjfaaGreatDoor
open Go
theorem cd3 : true = Tryz.prog.looks [] := by kernel_rfl
end Go.Proofs.YtdifpleoipjjfaaGreatDoor
