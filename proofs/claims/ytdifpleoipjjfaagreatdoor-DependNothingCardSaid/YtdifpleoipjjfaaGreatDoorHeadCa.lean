/- A closed fact of the card: the row is of the form. Another: the program of which it speaks. -/
import Derived.Test.YtdifpleoipjjfaaGreatDoorHeadU
import Derived.Test.YtdifpleoipjjfaaGreatDoorRows
import Derived.SevenTiedAt
namespace Go.Proofs.YtdifpleoipjjfaaGreatDoor
open Go
theorem cd1 : Rows.dependNothingRow.wfByText (OpenSpec.ofChange Rows.dependNothingSpec) = true := by kernel_rfl
theorem cd2 : Tryz.prog.mainIs = some (true, "69e4fb66398286a592784f239ec27cb53363b510a9eaa67f9c80f7b1d8633336".toList) := by kernel_rfl
theorem cd5a : ([22, 28, 3].all fun u => !Tryz.prog.wantsStandIn u) = true := by kernel_rfl
end Go.Proofs.YtdifpleoipjjfaaGreatDoor
