/- The closed facts that the row's form asks of the program, one by one. -/
import Derived.Test.YtdifpleoipjjfaaGreatDoorHeadU
import Derived.Test.YtdifpleoipjjfaaGreatDoorRows
import Derived.JoinedOf
namespace Go.Proofs.YtdifpleoipjjfaaGreatDoor
open Go
theorem jf12 : ((Rows.dependNothingRow.named == Tryz.prog.varsNamed 3)) = true := by kernel_rfl
end Go.Proofs.YtdifpleoipjjfaaGreatDoor
