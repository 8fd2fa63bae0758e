/- The program's types are laid out well: the closed check, in pieces. -/
import Derived.Test.YtdifpleoipjjfaaGreatDoorProg
import Derived.Carry
import Derived.KernelRfl
namespace Go.Proofs.YtdifpleoipjjfaaGreatDoor
open Go

theorem rows0 : (List.range' 0 40).all (rowFine Tryz.prog) = true := by kernel_rfl
theorem rows1 : (List.range' 40 40).all (rowFine Tryz.prog) = true := by kernel_rfl
theorem rows2 : (List.range' 80 40).all (rowFine Tryz.prog) = true := by kernel_rfl
theorem rows3 : (List.range' 120 40).all (rowFine Tryz.prog) = true := by kernel_rfl
theorem rows4 : (List.range' 160 40).all (rowFine Tryz.prog) = true := by kernel_rfl
theorem rows5 : (List.range' 200 40).all (rowFine Tryz.prog) = true := by kernel_rfl
theorem rows6 : (List.range' 240 40).all (rowFine Tryz.prog) = true := by kernel_rfl
theorem rows7 : (List.range' 280 40).all (rowFine Tryz.prog) = true := by kernel_rfl
theorem rows8 : (List.range' 320 40).all (rowFine Tryz.prog) = true := by kernel_rfl
theorem rows9 : (List.range' 360 40).all (rowFine Tryz.prog) = true := by kernel_rfl
theorem rows10 : (List.range' 400 40).all (rowFine Tryz.prog) = true := by kernel_rfl
theorem rows11 : (List.range' 440 40).all (rowFine Tryz.prog) = true := by kernel_rfl
theorem rows12 : (List.range' 480 40).all (rowFine Tryz.prog) = true := by kernel_rfl
theorem rows13 : (List.range' 520 40).all (rowFine Tryz.prog) = true := by kernel_rfl
theorem rows14 : (List.range' 560 40).all (rowFine Tryz.prog) = true := by kernel_rfl
theorem rows15 : (List.range' 600 40).all (rowFine Tryz.prog) = true := by kernel_rfl
theorem rows16 : (List.range' 640 40).all (rowFine Tryz.prog) = true := by kernel_rfl
theorem rows17 : (List.range' 680 40).all (rowFine Tryz.prog) = true := by kernel_rfl
theorem rows18 : (List.range' 720 40).all (rowFine Tryz.prog) = true := by kernel_rfl
theorem rows19 : (List.range' 760 34).all (rowFine Tryz.prog) = true := by kernel_rfl
theorem rowsAll : ∀ t : Nat, t < 794 → rowFine Tryz.prog t = true := by
  intro t ht
  rcases Nat.lt_or_ge t 40 with h | h0
  · exact List.all_eq_true.1 rows0 t (List.mem_range'_1.2 (by omega))
  rcases Nat.lt_or_ge t 80 with h | h1
  · exact List.all_eq_true.1 rows1 t (List.mem_range'_1.2 (by omega))
  rcases Nat.lt_or_ge t 120 with h | h2
  · exact List.all_eq_true.1 rows2 t (List.mem_range'_1.2 (by omega))
  rcases Nat.lt_or_ge t 160 with h | h3
  · exact List.all_eq_true.1 rows3 t (List.mem_range'_1.2 (by omega))
  rcases Nat.lt_or_ge t 200 with h | h4
  · exact List.all_eq_true.1 rows4 t (List.mem_range'_1.2 (by omega))
  rcases Nat.lt_or_ge t 240 with h | h5
  · exact List.all_eq_true.1 rows5 t (List.mem_range'_1.2 (by omega))
  rcases Nat.lt_or_ge t 280 with h | h6
  · exact List.all_eq_true.1 rows6 t (List.mem_range'_1.2 (by omega))
  rcases Nat.lt_or_ge t 320 with h | h7
  · exact List.all_eq_true.1 rows7 t (List.mem_range'_1.2 (by omega))
  rcases Nat.lt_or_ge t 360 with h | h8
  · exact List.all_eq_true.1 rows8 t (List.mem_range'_1.2 (by omega))
  rcases Nat.lt_or_ge t 400 with h | h9
  · exact List.all_eq_true.1 rows9 t (List.mem_range'_1.2 (by omega))
  rcases Nat.lt_or_ge t 440 with h | h10
  · exact List.all_eq_true.1 rows10 t (List.mem_range'_1.2 (by omega))
  rcases Nat.lt_or_ge t 480 with h | h11
  · exact List.all_eq_true.1 rows11 t (List.mem_range'_1.2 (by omega))
  rcases Nat.lt_or_ge t 520 with h | h12
  · exact List.all_eq_true.1 rows12 t (List.mem_range'_1.2 (by omega))
  rcases Nat.lt_or_ge t 560 with h | h13
  · exact List.all_eq_true.1 rows13 t (List.mem_range'_1.2 (by omega))
  rcases Nat.lt_or_ge t 600 with h | h14
  · exact List.all_eq_true.1 rows14 t (List.mem_range'_1.2 (by omega))
  rcases Nat.lt_or_ge t 640 with h | h15
  · exact List.all_eq_true.1 rows15 t (List.mem_range'_1.2 (by omega))
  rcases Nat.lt_or_ge t 680 with h | h16
  · exact List.all_eq_true.1 rows16 t (List.mem_range'_1.2 (by omega))
  rcases Nat.lt_or_ge t 720 with h | h17
  · exact List.all_eq_true.1 rows17 t (List.mem_range'_1.2 (by omega))
  rcases Nat.lt_or_ge t 760 with h | h18
  · exact List.all_eq_true.1 rows18 t (List.mem_range'_1.2 (by omega))
  exact List.all_eq_true.1 rows19 t (List.mem_range'_1.2 (by omega))
theorem laidGlobals : Tryz.prog.globals.all (fun g => decide (g.type < 794)) = true := by kernel_rfl
theorem laidFuncs : Tryz.prog.funcs.all (fun f => f.params.all fun t => decide (t < 794)) = true := by kernel_rfl
theorem laidOut : laidOutB Tryz.prog = true := by
  have hs : Tryz.prog.types.size = 794 := Tryz.types_size
  unfold laidOutB
  rw [hs, laidGlobals, laidFuncs]
  simp only [Bool.and_true, List.all_eq_true, List.mem_range]
  exact rowsAll
end Go.Proofs.YtdifpleoipjjfaaGreatDoor
