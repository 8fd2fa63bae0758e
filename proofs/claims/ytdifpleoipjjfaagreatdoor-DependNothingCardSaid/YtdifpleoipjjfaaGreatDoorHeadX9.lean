/- The closed facts that the row's form asks of the program, one by one. -/
import Derived.Test.YtdifpleoipjjfaaGreatDoorHeadU
import Derived.Test.YtdifpleoipjjfaaGreatDoorRows
import Derived.JoinedOf
namespace Go.Proofs.YtdifpleoipjjfaaGreatDoor
open Go
theorem jf9 : ((Rows.dependNothingRow.inPlace == Tryz.prog.inPlace 3)) = true := by kernel_rfl
end Go.Proofs.YtdifpleoipjjfaaGreatDoor
