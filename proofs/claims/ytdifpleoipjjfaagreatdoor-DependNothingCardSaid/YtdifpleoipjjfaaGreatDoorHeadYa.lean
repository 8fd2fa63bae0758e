/- Which row of the types is that of errors.New's errors: found by its name. -/
import Derived.Test.YtdifpleoipjjfaaGreatDoorProg
import Derived.Lay
import Derived.KernelRfl
namespace Go.Proofs.YtdifpleoipjjfaaGreatDoor
open Go

noncomputable def isErr (u : Nat) : Bool := Tryz.prog.typeName? 3 u == some "*errors.errorString"
theorem notErr0 : (List.range' 0 40).all (fun u => !(isErr u)) = true := by kernel_rfl
theorem notErr1 : (List.range' 40 40).all (fun u => !(isErr u)) = true := by kernel_rfl
theorem notErr2 : (List.range' 80 40).all (fun u => !(isErr u)) = true := by kernel_rfl
theorem notErr3 : (List.range' 120 40).all (fun u => !(isErr u)) = true := by kernel_rfl
theorem notErr4 : (List.range' 160 40).all (fun u => !(isErr u)) = true := by kernel_rfl
theorem notErr5 : (List.range' 200 40).all (fun u => !(isErr u)) = true := by kernel_rfl
theorem notErr6 : (List.range' 240 40).all (fun u => !(isErr u)) = true := by kernel_rfl
theorem notErr7 : (List.range' 280 40).all (fun u => !(isErr u)) = true := by kernel_rfl
theorem notErr8 : (List.range' 320 40).all (fun u => !(isErr u)) = true := by kernel_rfl
theorem notErr9 : (List.range' 360 40).all (fun u => !(isErr u)) = true := by kernel_rfl
theorem notErr10 : (List.range' 400 40).all (fun u => !(isErr u)) = true := by kernel_rfl
theorem notErr11 : (List.range' 440 40).all (fun u => !(isErr u)) = true := by kernel_rfl
theorem notErr12 : (List.range' 480 40).all (fun u => !(isErr u)) = true := by kernel_rfl
theorem notErr13 : (List.range' 520 40).all (fun u => !(isErr u)) = true := by kernel_rfl
theorem notErr14 : (List.range' 560 40).all (fun u => !(isErr u)) = true := by kernel_rfl
theorem notErr15 : (List.range' 600 40).all (fun u => !(isErr u)) = true := by kernel_rfl
theorem notErr16 : (List.range' 640 40).all (fun u => !(isErr u)) = true := by kernel_rfl
theorem notErr17 : (List.range' 680 40).all (fun u => !(isErr u)) = true := by kernel_rfl
theorem notErr18 : (List.range' 720 31).all (fun u => !(isErr u)) = true := by kernel_rfl
theorem isErr751 : isErr 751 = true := by kernel_rfl
theorem notErr : ∀ t : Nat, t < 751 → isErr t = false := by
  intro t ht
  have key : (!(isErr t)) = true := by
    rcases Nat.lt_or_ge t 40 with h | h0
    · exact List.all_eq_true.1 notErr0 t (List.mem_range'_1.2 (by omega))
    rcases Nat.lt_or_ge t 80 with h | h1
    · exact List.all_eq_true.1 notErr1 t (List.mem_range'_1.2 (by omega))
    rcases Nat.lt_or_ge t 120 with h | h2
    · exact List.all_eq_true.1 notErr2 t (List.mem_range'_1.2 (by omega))
    rcases Nat.lt_or_ge t 160 with h | h3
    · exact List.all_eq_true.1 notErr3 t (List.mem_range'_1.2 (by omega))
    rcases Nat.lt_or_ge t 200 with h | h4
    · exact List.all_eq_true.1 notErr4 t (List.mem_range'_1.2 (by omega))
    rcases Nat.lt_or_ge t 240 with h | h5
    · exact List.all_eq_true.1 notErr5 t (List.mem_range'_1.2 (by omega))
    rcases Nat.lt_or_ge t 280 with h | h6
    · exact List.all_eq_true.1 notErr6 t (List.mem_range'_1.2 (by omega))
    rcases Nat.lt_or_ge t 320 with h | h7
    · exact List.all_eq_true.1 notErr7 t (List.mem_range'_1.2 (by omega))
    rcases Nat.lt_or_ge t 360 with h | h8
    · exact List.all_eq_true.1 notErr8 t (List.mem_range'_1.2 (by omega))
    rcases Nat.lt_or_ge t 400 with h | h9
    · exact List.all_eq_true.1 notErr9 t (List.mem_range'_1.2 (by omega))
    rcases Nat.lt_or_ge t 440 with h | h10
    · exact List.all_eq_true.1 notErr10 t (List.mem_range'_1.2 (by omega))
    rcases Nat.lt_or_ge t 480 with h | h11
    · exact List.all_eq_true.1 notErr11 t (List.mem_range'_1.2 (by omega))
    rcases Nat.lt_or_ge t 520 with h | h12
    · exact List.all_eq_true.1 notErr12 t (List.mem_range'_1.2 (by omega))
    rcases Nat.lt_or_ge t 560 with h | h13
    · exact List.all_eq_true.1 notErr13 t (List.mem_range'_1.2 (by omega))
    rcases Nat.lt_or_ge t 600 with h | h14
    · exact List.all_eq_true.1 notErr14 t (List.mem_range'_1.2 (by omega))
    rcases Nat.lt_or_ge t 640 with h | h15
    · exact List.all_eq_true.1 notErr15 t (List.mem_range'_1.2 (by omega))
    rcases Nat.lt_or_ge t 680 with h | h16
    · exact List.all_eq_true.1 notErr16 t (List.mem_range'_1.2 (by omega))
    rcases Nat.lt_or_ge t 720 with h | h17
    · exact List.all_eq_true.1 notErr17 t (List.mem_range'_1.2 (by omega))
    exact List.all_eq_true.1 notErr18 t (List.mem_range'_1.2 (by omega))
  simpa using key
theorem findErr : ((List.range Tryz.prog.types.size).find? fun u => Tryz.prog.typeName? 3 u == some "*errors.errorString") = some 751 := by
  have hs : Tryz.prog.types.size = 794 := Tryz.types_size
  rw [hs]
  show (List.range 794).find? isErr = some 751
  rw [List.find?_range_eq_some]
  exact ⟨isErr751, by simp, fun j hj => by rw [notErr j hj]; rfl⟩
end Go.Proofs.YtdifpleoipjjfaaGreatDoor
