/- A start that meets the row's condition: the listed tables laid, the arguments zero. -/
import Derived.Test.YtdifpleoipjjfaaGreatDoorHeadYb
import Derived.LaidMore
import Derived.LaidLaws
import Derived.MakeChecks
namespace Go.Proofs.YtdifpleoipjjfaaGreatDoor
open Go

def zeroTrade : Value := .agg #[.string ⟨#[]⟩, .slice none 0 0, .slice none 0 0, .string ⟨#[]⟩, .int .i64 0, .string ⟨#[]⟩, .int .i64 0, .int .i64 0, .int .i64 0, .int .i64 0]
def zeroArgs : Array Value := #[.slice none 0 0, zeroTrade, .int .i64 0, .int .i64 0]
noncomputable def startE (os : Os) : World := { World.holding Tryz.prog os ⟨#[], #[], []⟩ with heap := ⟨Lay.setRows (World.holding Tryz.prog os ⟨#[], #[], []⟩).heap.toList laidRows ++ laidObjs⟩ }
noncomputable def startC (os : Os) : World := (startE os).forCall (fun _ _ => 0) ⟨#[], zeroArgs, []⟩

theorem hold_sizeB (os : Os) : ((World.holding Tryz.prog os ⟨#[], #[], []⟩).heap.size == 14) = true := by kernel_rfl
theorem hold_size (os : Os) : (World.holding Tryz.prog os ⟨#[], #[], []⟩).heap.size = 14 := eq_of_beq (hold_sizeB os)
theorem layVars_of {P : Program} {w : World} {l : List (String × DataW Unit)} {n : Nat} {a : List (Nat × List Value)} {b : List Obj} (hn : w.heap.size = n) (hy : Lay.layList P n l = some (a, b)) : w.layVars P l = { w with heap := ⟨Lay.setRows w.heap.toList a ++ b⟩ } := by
  unfold World.layVars
  rw [hn, hy]
theorem startE_eq (os : Os) : startE os = { World.holding Tryz.prog os ⟨#[], #[], []⟩ with heap := ⟨Lay.setRows (World.holding Tryz.prog os ⟨#[], #[], []⟩).heap.toList laidRows ++ laidObjs⟩ } := by unfold startE; rfl
theorem laidAll_def (P : Program) (os : Os) (laid : List (String × DataW Unit)) : World.laidAll P os laid = (World.holding P os ⟨#[], #[], []⟩).layVars P laid := rfl
theorem laid_eq (os : Os) : World.laidAll Tryz.prog os Rows.dependNothingRow.laid = startE os :=
  (laidAll_def _ _ _).trans ((layVars_of (hold_size os) list_eq).trans (startE_eq os).symm)

theorem c1 : (laidRows.map (·.1)) = [4, 5, 6, 1, 2, 3, 7, 8] := by rfl
theorem c2 (os : Os) : ([4, 5, 6, 1, 2, 3, 7, 8].all fun r => Lay.isRow (World.holding Tryz.prog os ⟨#[], #[], []⟩).heap.toList[r]?) = true := by kernel_rfl
theorem fits_of {P : Program} {w : World} {l : List (String × DataW Unit)} {n : Nat} {y : List (Nat × List Value) × List Obj} (hn : w.heap.size = n) (hy : Lay.layList P n l = some y) (h1 : (y.1.map (·.1)).Nodup)
    (h2 : ((y.1.map (·.1)).all fun r => Lay.isRow w.heap.toList[r]?) = true) : w.layFits P l [] = true := by
  unfold World.layFits
  rw [hn, hy]
  simp only [Bool.and_eq_true, decide_eq_true_eq, List.all_eq_true]
  refine ⟨⟨h1, fun r hr => ⟨?_, by simp⟩⟩, by simp⟩
  rw [List.all_eq_true] at h2
  exact h2 r.1 (List.mem_map.2 ⟨r, hr, rfl⟩)
theorem y7 (os : Os) : (World.holding Tryz.prog os ⟨#[], #[], []⟩).layFits Tryz.prog Rows.dependNothingRow.laid [] = true :=
  fits_of (hold_size os) list_eq (by show (laidRows.map (·.1)).Nodup; rw [c1]; decide) (by show ((laidRows.map (·.1)).all _) = true; rw [c1]; exact c2 os)
theorem ifaces_of {P : Program} {w w' : World} {l : List (String × DataW Unit)} {n : Nat} {y : List (Nat × List Value) × List Obj} (hn : w.heap.size = n) (hy : Lay.layList P n l = some y) (h1 : (y.1.all fun r => r.2.all (Lay.okV P w')) = true)
    (h2 : y.2.all (Lay.okO P w') = true) : w.layIfaces P l w' = true := by
  unfold World.layIfaces
  rw [hn, hy]
  simp only [h1, h2, Bool.and_self]
theorem y8a (os : Os) : (laidRows.all fun r => r.2.all (Lay.okV Tryz.prog (startE os))) = true := by kernel_rfl
theorem y8b (os : Os) : (laidObjs.all (Lay.okO Tryz.prog (startE os))) = true := by kernel_rfl
theorem y8 (os : Os) : (World.holding Tryz.prog os ⟨#[], #[], []⟩).layIfaces Tryz.prog Rows.dependNothingRow.laid (World.laidAll Tryz.prog os Rows.dependNothingRow.laid) = true := by
  rw [laid_eq]
  exact ifaces_of (hold_size os) list_eq (y8a os) (y8b os)
theorem y6 : (Rows.dependNothingRow.laid.all fun x => x.2.handleName?.isNone) = true := by kernel_rfl
theorem y3 (os : Os) : Input.okWideB Tryz.checked.prog (startC os) 3 ⟨#[], zeroArgs, []⟩ = true := by kernel_rfl
theorem y4 (os : Os) (H : Type) (enc : TypeId × Value → H) : Rows.dependNothingSpec.preB enc Tryz.checked.prog Tryz.f3 [] false (startC os).memory zeroArgs 8 = true := by kernel_rfl
theorem y5 (os : Os) (H : Type) (enc : TypeId × Value → H) : Rows.dependNothingSpec.sizedB enc Tryz.checked.prog Tryz.f3 false (startC os).memory zeroArgs 8 = true := by kernel_rfl
theorem y2 (os : Os) : ((startC os).heap.toList.drop Tryz.checked.prog.globals.size).take ((begin Tryz.checked.prog (fun _ _ => 0) default).world.heap.size - Tryz.checked.prog.globals.size) =
      (begin Tryz.checked.prog (fun _ _ => 0) default).world.heap.toList.drop Tryz.checked.prog.globals.size := by kernel_rfl
theorem y1 (os : Os) : (startC os).variablesZipB Tryz.checked.prog = true := by kernel_rfl
theorem witness_holds (os : Os) (H : Type) (enc : TypeId × Value → H) : ∃ (w : World) (tape : Tape) (i : Input), w.os = os ∧ (w.forCall tape i).Shaped Tryz.checked.prog ∧ i.vars = [] ∧ Input.okWide Tryz.checked.prog (w.forCall tape i) .any w.heap.size 3 i ∧
      ((Rows.dependNothingSpec.pre enc Tryz.checked.prog Tryz.f3 [] false (w.forCall tape i).memory i.args ∧ laidMetH Tryz.prog Rows.dependNothingRow.laid (w.forCall tape i).memory) ∧ sizedMet enc Tryz.checked.prog Tryz.f3 (OpenSpec.ofChange Rows.dependNothingSpec) false (w.forCall tape i).memory i.args) ∧
      Assume.holds {} Tryz.checked.prog (lone (Frame.enter Tryz.checked.prog 3 i.args .normal) [] (w.forCall tape i)) :=
  ChangeSpec.witness_shaped (enc := enc) (C := Tryz.checked) (os := os) (X := fun w _ => laidMetH Tryz.prog Rows.dependNothingRow.laid w) false (startE os) zeroArgs 8 (by rw [← laid_eq]; exact World.laidAll_os _ _ _)
      (World.shaped_of_ZipB (y1 os) (y2 os)) (y3 os) (y4 os H enc) (y5 os H enc)
      (by
        rw [MakeChecks.laidMetH_plain _ _ _ y6]
        have := laidMet_laidAll (os := os) zeroArgs (y7 os) (y8 os)
        rw [laid_eq] at this
        exact this)
end Go.Proofs.YtdifpleoipjjfaaGreatDoor
