/- DependNothing answers true for whatever versions, trade, step and instant can be read: the card of the seventh form, its listed tables tied to the program's text. -/
import Derived.Test.YtdifpleoipjjfaaGreatDoorHeadV
import Derived.Test.YtdifpleoipjjfaaGreatDoorHeadZ
import Derived.Test.YtdifpleoipjjfaaGreatDoorHeadCa
import Derived.Test.YtdifpleoipjjfaaGreatDoorHeadCb
import Derived.Test.YtdifpleoipjjfaaGreatDoorHeadCc
import Derived.Test.YtdifpleoipjjfaaGreatDoorCards
namespace Go.Proofs.YtdifpleoipjjfaaGreatDoor
open Go
theorem card_holds : Rows.DependNothingCardSaid :=
  Claim7.holds_tied_plain_at .later [] [.pinned, .data, .pinned, .sentinel, .sentinel, .data, .data, .data] true (true, "69e4fb66398286a592784f239ec27cb53363b510a9eaa67f9c80f7b1d8633336") true
    row_holds (fun _ h => by cases h) cd1 (fun _ h => by cases h) row_tied rfl ⟨rfl, rfl⟩ cd2 rfl
    (fun f fn hf hfn => by
      obtain rfl : f = 3 := Option.some.inj (named3.symm.trans hf) |>.symm
      obtain rfl : fn = Tryz.f3 := (Option.some.inj (Tryz.func3.symm.trans hfn)).symm
      exact ⟨cd3, fun j t ht => by
        rw [Tryz.params3] at ht
        have hm : t ∈ [22, 28, 3] := by
          have : t ∈ [22, 28, 3, 3] := by simpa using Array.mem_of_getElem? ht
          simpa using this
        exact (show Tryz.prog.wantsStandIn t = false by simpa using List.all_eq_true.1 cd5a t hm)⟩)
    cd4
#print axioms card_holds
end Go.Proofs.YtdifpleoipjjfaaGreatDoor
