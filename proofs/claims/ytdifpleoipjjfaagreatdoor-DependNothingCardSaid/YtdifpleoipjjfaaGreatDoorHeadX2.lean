/- The closed facts that the row's form asks of the program, together. -/
import Derived.Test.YtdifpleoipjjfaaGreatDoorHeadX1
import Derived.Test.YtdifpleoipjjfaaGreatDoorHeadX9
import Derived.Test.YtdifpleoipjjfaaGreatDoorHeadX10
import Derived.Test.YtdifpleoipjjfaaGreatDoorHeadX11
import Derived.Test.YtdifpleoipjjfaaGreatDoorHeadX12
namespace Go.Proofs.YtdifpleoipjjfaaGreatDoor
open Go
theorem and2 {a b : Bool} (h : a = true) (k : b = true) : (a && b) = true := by rw [h, k]; rfl
set_option maxRecDepth 100000 in
theorem closed : joinedFacts Tryz.prog 3 Tryz.f3 Rows.dependNothingSpec Rows.dependNothingRow = true := by
  unfold joinedFacts
  exact and2 (and2 (and2 (and2 (and2 (and2 (and2 (and2 (and2 (and2 (and2 (and2 (and2 (and2 (and2 (and2 (and2 (and2 (and2 (and2 (and2 (and2 (and2 (and2 (and2 (and2 (and2 (and2 (and2 (and2 (and2 (jf0) jf1) jf2) jf3) jf4) jf5) jf6) jf7) jf8) jf9) jf10) jf11) jf12) jf13) jf14) jf15) jf16) jf17) jf18) jf19) jf20) jf21) jf22) jf23) jf24) jf25) jf26) jf27) jf28) jf29) jf30) jf31
end Go.Proofs.YtdifpleoipjjfaaGreatDoor
