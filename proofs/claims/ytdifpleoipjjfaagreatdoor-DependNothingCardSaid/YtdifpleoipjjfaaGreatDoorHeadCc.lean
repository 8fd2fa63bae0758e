/- No function of the program starts a goroutine: the closed fact, in pieces. -/
import Derived.Test.YtdifpleoipjjfaaGreatDoorHeadU
import Derived.Test.YtdifpleoipjjfaaGreatDoorRows
import Derived.SevenTiedAt
namespace Go.Proofs.YtdifpleoipjjfaaGreatDoor
open Go

theorem still0 : (List.range' 0 40).all (fun g => !((Tryz.prog.funcs[g]?).any Func.goes)) = true := by kernel_rfl
theorem still1 : (List.range' 40 40).all (fun g => !((Tryz.prog.funcs[g]?).any Func.goes)) = true := by kernel_rfl
theorem still2 : (List.range' 80 40).all (fun g => !((Tryz.prog.funcs[g]?).any Func.goes)) = true := by kernel_rfl
theorem still3 : (List.range' 120 40).all (fun g => !((Tryz.prog.funcs[g]?).any Func.goes)) = true := by kernel_rfl
theorem still4 : (List.range' 160 40).all (fun g => !((Tryz.prog.funcs[g]?).any Func.goes)) = true := by kernel_rfl
theorem still5 : (List.range' 200 40).all (fun g => !((Tryz.prog.funcs[g]?).any Func.goes)) = true := by kernel_rfl
theorem still6 : (List.range' 240 40).all (fun g => !((Tryz.prog.funcs[g]?).any Func.goes)) = true := by kernel_rfl
theorem still7 : (List.range' 280 40).all (fun g => !((Tryz.prog.funcs[g]?).any Func.goes)) = true := by kernel_rfl
theorem still8 : (List.range' 320 40).all (fun g => !((Tryz.prog.funcs[g]?).any Func.goes)) = true := by kernel_rfl
theorem still9 : (List.range' 360 40).all (fun g => !((Tryz.prog.funcs[g]?).any Func.goes)) = true := by kernel_rfl
theorem still10 : (List.range' 400 40).all (fun g => !((Tryz.prog.funcs[g]?).any Func.goes)) = true := by kernel_rfl
theorem still11 : (List.range' 440 40).all (fun g => !((Tryz.prog.funcs[g]?).any Func.goes)) = true := by kernel_rfl
theorem still12 : (List.range' 480 40).all (fun g => !((Tryz.prog.funcs[g]?).any Func.goes)) = true := by kernel_rfl
theorem still13 : (List.range' 520 40).all (fun g => !((Tryz.prog.funcs[g]?).any Func.goes)) = true := by kernel_rfl
theorem still14 : (List.range' 560 37).all (fun g => !((Tryz.prog.funcs[g]?).any Func.goes)) = true := by kernel_rfl
theorem funcsSize : (Tryz.prog.funcs.size == 597) = true := by kernel_rfl
theorem stillAll : ∀ g : Nat, (Tryz.prog.funcs[g]?).any Func.goes = false := by
  intro g
  have key : g < 597 → (!((Tryz.prog.funcs[g]?).any Func.goes)) = true := by
    intro hg
    rcases Nat.lt_or_ge g 40 with h | h0
    · exact List.all_eq_true.1 still0 g (List.mem_range'_1.2 (by omega))
    rcases Nat.lt_or_ge g 80 with h | h1
    · exact List.all_eq_true.1 still1 g (List.mem_range'_1.2 (by omega))
    rcases Nat.lt_or_ge g 120 with h | h2
    · exact List.all_eq_true.1 still2 g (List.mem_range'_1.2 (by omega))
    rcases Nat.lt_or_ge g 160 with h | h3
    · exact List.all_eq_true.1 still3 g (List.mem_range'_1.2 (by omega))
    rcases Nat.lt_or_ge g 200 with h | h4
    · exact List.all_eq_true.1 still4 g (List.mem_range'_1.2 (by omega))
    rcases Nat.lt_or_ge g 240 with h | h5
    · exact List.all_eq_true.1 still5 g (List.mem_range'_1.2 (by omega))
    rcases Nat.lt_or_ge g 280 with h | h6
    · exact List.all_eq_true.1 still6 g (List.mem_range'_1.2 (by omega))
    rcases Nat.lt_or_ge g 320 with h | h7
    · exact List.all_eq_true.1 still7 g (List.mem_range'_1.2 (by omega))
    rcases Nat.lt_or_ge g 360 with h | h8
    · exact List.all_eq_true.1 still8 g (List.mem_range'_1.2 (by omega))
    rcases Nat.lt_or_ge g 400 with h | h9
    · exact List.all_eq_true.1 still9 g (List.mem_range'_1.2 (by omega))
    rcases Nat.lt_or_ge g 440 with h | h10
    · exact List.all_eq_true.1 still10 g (List.mem_range'_1.2 (by omega))
    rcases Nat.lt_or_ge g 480 with h | h11
    · exact List.all_eq_true.1 still11 g (List.mem_range'_1.2 (by omega))
    rcases Nat.lt_or_ge g 520 with h | h12
    · exact List.all_eq_true.1 still12 g (List.mem_range'_1.2 (by omega))
    rcases Nat.lt_or_ge g 560 with h | h13
    · exact List.all_eq_true.1 still13 g (List.mem_range'_1.2 (by omega))
    exact List.all_eq_true.1 still14 g (List.mem_range'_1.2 (by omega))
  rcases Nat.lt_or_ge g 597 with h | h
  · simpa using key h
  · have hs : Tryz.prog.funcs.size = 597 := eq_of_beq funcsSize
    rw [Array.getElem?_eq_none (by rw [hs]; exact h)]
    rfl
theorem goes_none {P : Program} (h : ∀ g : Nat, (P.funcs[g]?).any Func.goes = false) (f : FuncId) : P.goes f = false := by
  have h2 : P.funcs.any Func.goes = false := by
    rw [Bool.eq_false_iff]
    intro hh
    rw [Array.any_eq_true] at hh
    obtain ⟨i, hi, hg⟩ := hh
    have := h i
    rw [Array.getElem?_eq_getElem hi] at this
    simp [hg] at this
  unfold Program.goes
  rw [h2, Bool.and_false, Bool.or_false, Bool.eq_false_iff]
  intro hh
  rw [List.any_eq_true] at hh
  obtain ⟨g, _, hg⟩ := hh
  rw [h g] at hg; cases hg
theorem cd4 : false = Rows.dependNothingRow.goesBy Tryz.prog := by
  have h := goes_none stillAll
  unfold OpenClaim.goesBy Program.goesAt Program.goesFrom
  cases hf : Tryz.prog.funcNamed Rows.dependNothingRow.func with
  | none => rfl
  | some f => simp only [Option.any_some, h f, Bool.false_or]; rfl
end Go.Proofs.YtdifpleoipjjfaaGreatDoor
