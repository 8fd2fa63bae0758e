/- The types that the example of layer 49 reaches, as tables of an evaluator. -/
import Derived.Test.YtdifpleoipjjfaaGreatDoorProg
import Derived.Test.YtdifpleoipjjfaaGreatDoorReflEight
namespace Go.Proofs.YtdifpleoipjjfaaGreatDoor
open Go Go.Refl
def ty2 : TI := ⟨(.int .i64), 1, 8, [.int .i64 (.ofNat 0)], false⟩
theorem ty2_ok : TyOk Tryz.prog 2 ty2 := tyOk_of Tryz.types_size Tryz.type2 Tryz.underlying2 (noPlain rfl) (by kernel_rfl)
def ty3 : TI := ⟨(.int .i64), 1, 8, [.int .i64 (.ofNat 0)], false⟩
theorem ty3_ok : TyOk Tryz.prog 3 ty3 := tyOk_of Tryz.types_size Tryz.type3 Tryz.underlying3 (noPlain rfl) (by kernel_rfl)
def ty4 : TI := ⟨.bool, 1, 1, [.bool false], false⟩
theorem ty4_ok : TyOk Tryz.prog 4 ty4 := tyOk_of Tryz.types_size Tryz.type4 Tryz.underlying4 (noPlain rfl) (by kernel_rfl)
def ty5 : TI := ⟨(.int .u8), 1, 1, [.int .u8 (.ofNat 0)], false⟩
theorem ty5_ok : TyOk Tryz.prog 5 ty5 := tyOk_of Tryz.types_size Tryz.type5 Tryz.underlying5 (noPlain rfl) (by kernel_rfl)
def ty9 : TI := ⟨.string, 1, 16, [.str []], false⟩
theorem ty9_ok : TyOk Tryz.prog 9 ty9 := tyOk_of Tryz.types_size Tryz.type9 Tryz.underlying9 (noPlain rfl) (by kernel_rfl)
def ty22 : TI := ⟨(.slice 96), 1, 24, [.nils], false⟩
theorem ty22_ok : TyOk Tryz.prog 22 ty22 := tyOk_of Tryz.types_size Tryz.type22 Tryz.underlying22 (noPlain rfl) (by kernel_rfl)
def ty23 : TI := ⟨(.slice 98), 1, 24, [.nils], false⟩
theorem ty23_ok : TyOk Tryz.prog 23 ty23 := tyOk_of Tryz.types_size Tryz.type23 Tryz.underlying23 (noPlain rfl) (by kernel_rfl)
def ty24 : TI := ⟨(.slice 3), 1, 24, [.nils], false⟩
theorem ty24_ok : TyOk Tryz.prog 24 ty24 := tyOk_of Tryz.types_size Tryz.type24 Tryz.underlying24 (noPlain rfl) (by kernel_rfl)
def ty26 : TI := ⟨(.struct [(0, 9), (1, 3)]), 2, 24, [.str [], .int .i64 (.ofNat 0)], true⟩
theorem ty26_ok : TyOk Tryz.prog 26 ty26 := tyOk_of Tryz.types_size Tryz.type26 Tryz.underlying26 (fun _ => ⟨Tryz.stoodInHeld26, Tryz.eqGuardType26, by kernel_rfl⟩) (by kernel_rfl)
def ty28 : TI := ⟨(.struct [(0, 9), (1, 23), (2, 24), (3, 9), (4, 3), (5, 26), (7, 3), (8, 3), (9, 3)]), 10, 136, [.str [], .nils, .nils, .str [], .int .i64 (.ofNat 0), .str [], .int .i64 (.ofNat 0), .int .i64 (.ofNat 0), .int .i64 (.ofNat 0), .int .i64 (.ofNat 0)], true⟩
theorem ty28_ok : TyOk Tryz.prog 28 ty28 := tyOk_of Tryz.types_size Tryz.type28 Tryz.underlying28 (fun _ => ⟨Tryz.stoodInHeld28, Tryz.eqGuardType28, by kernel_rfl⟩) (by kernel_rfl)
def ty31 : TI := ⟨(.slice 65), 1, 24, [.nils], false⟩
theorem ty31_ok : TyOk Tryz.prog 31 ty31 := tyOk_of Tryz.types_size Tryz.type31 Tryz.underlying31 (noPlain rfl) (by kernel_rfl)
def ty32 : TI := ⟨(.slice 506), 1, 24, [.nils], false⟩
theorem ty32_ok : TyOk Tryz.prog 32 ty32 := tyOk_of Tryz.types_size Tryz.type32 Tryz.underlying32 (noPlain rfl) (by kernel_rfl)
def ty34 : TI := ⟨(.struct [(0, 31), (1, 32), (2, 32), (3, 3), (4, 3), (5, 3)]), 6, 96, [.nils, .nils, .nils, .int .i64 (.ofNat 0), .int .i64 (.ofNat 0), .int .i64 (.ofNat 0)], true⟩
theorem ty34_ok : TyOk Tryz.prog 34 ty34 := tyOk_of Tryz.types_size Tryz.type34 Tryz.underlying34 (fun _ => ⟨Tryz.stoodInHeld34, Tryz.eqGuardType34, by kernel_rfl⟩) (by kernel_rfl)
def ty35 : TI := ⟨(.slice 72), 1, 24, [.nils], false⟩
theorem ty35_ok : TyOk Tryz.prog 35 ty35 := tyOk_of Tryz.types_size Tryz.type35 Tryz.underlying35 (noPlain rfl) (by kernel_rfl)
def ty36 : TI := ⟨(.slice 62), 1, 24, [.nils], false⟩
theorem ty36_ok : TyOk Tryz.prog 36 ty36 := tyOk_of Tryz.types_size Tryz.type36 Tryz.underlying36 (noPlain rfl) (by kernel_rfl)
def ty37 : TI := ⟨(.slice 213), 1, 24, [.nils], false⟩
theorem ty37_ok : TyOk Tryz.prog 37 ty37 := tyOk_of Tryz.types_size Tryz.type37 Tryz.underlying37 (noPlain rfl) (by kernel_rfl)
def ty39 : TI := ⟨(.struct [(0, 37)]), 1, 24, [.nils], true⟩
theorem ty39_ok : TyOk Tryz.prog 39 ty39 := tyOk_of Tryz.types_size Tryz.type39 Tryz.underlying39 (fun _ => ⟨Tryz.stoodInHeld39, Tryz.eqGuardType39, by kernel_rfl⟩) (by kernel_rfl)
def ty40 : TI := ⟨(.slice 77), 1, 24, [.nils], false⟩
theorem ty40_ok : TyOk Tryz.prog 40 ty40 := tyOk_of Tryz.types_size Tryz.type40 Tryz.underlying40 (noPlain rfl) (by kernel_rfl)
def ty42 : TI := ⟨(.struct [(0, 39), (1, 40)]), 2, 48, [.nils, .nils], true⟩
theorem ty42_ok : TyOk Tryz.prog 42 ty42 := tyOk_of Tryz.types_size Tryz.type42 Tryz.underlying42 (fun _ => ⟨Tryz.stoodInHeld42, Tryz.eqGuardType42, by kernel_rfl⟩) (by kernel_rfl)
def ty43 : TI := ⟨(.slice 81), 1, 24, [.nils], false⟩
theorem ty43_ok : TyOk Tryz.prog 43 ty43 := tyOk_of Tryz.types_size Tryz.type43 Tryz.underlying43 (noPlain rfl) (by kernel_rfl)
def ty44 : TI := ⟨(.slice 357), 1, 24, [.nils], false⟩
theorem ty44_ok : TyOk Tryz.prog 44 ty44 := tyOk_of Tryz.types_size Tryz.type44 Tryz.underlying44 (noPlain rfl) (by kernel_rfl)
def ty46 : TI := ⟨(.struct [(0, 34), (6, 3), (7, 35), (8, 36), (9, 42), (11, 43), (12, 9), (13, 44), (14, 3), (15, 3), (16, 3)]), 17, 288, [.nils, .nils, .nils, .int .i64 (.ofNat 0), .int .i64 (.ofNat 0), .int .i64 (.ofNat 0), .int .i64 (.ofNat 0), .nils, .nils, .nils, .nils, .nils, .str [], .nils, .int .i64 (.ofNat 0), .int .i64 (.ofNat 0), .int .i64 (.ofNat 0)], true⟩
theorem ty46_ok : TyOk Tryz.prog 46 ty46 := tyOk_of Tryz.types_size Tryz.type46 Tryz.underlying46 (fun _ => ⟨Tryz.stoodInHeld46, Tryz.eqGuardType46, by kernel_rfl⟩) (by kernel_rfl)
def ty47 : TI := ⟨(.pointer 120), 1, 8, [.nilp], false⟩
theorem ty47_ok : TyOk Tryz.prog 47 ty47 := tyOk_of Tryz.types_size Tryz.type47 Tryz.underlying47 (noPlain rfl) (by kernel_rfl)
def ty48 : TI := ⟨(.slice 105), 1, 24, [.nils], false⟩
theorem ty48_ok : TyOk Tryz.prog 48 ty48 := tyOk_of Tryz.types_size Tryz.type48 Tryz.underlying48 (noPlain rfl) (by kernel_rfl)
def ty49 : TI := ⟨(.slice 9), 1, 24, [.nils], false⟩
theorem ty49_ok : TyOk Tryz.prog 49 ty49 := tyOk_of Tryz.types_size Tryz.type49 Tryz.underlying49 (noPlain rfl) (by kernel_rfl)
def ty51 : TI := ⟨(.struct [(0, 3), (1, 49), (2, 49)]), 3, 56, [.int .i64 (.ofNat 0), .nils, .nils], true⟩
theorem ty51_ok : TyOk Tryz.prog 51 ty51 := tyOk_of Tryz.types_size Tryz.type51 Tryz.underlying51 (fun _ => ⟨Tryz.stoodInHeld51, Tryz.eqGuardType51, by kernel_rfl⟩) (by kernel_rfl)
def ty53 : TI := ⟨(.struct [(0, 9), (1, 3), (2, 3), (3, 24), (4, 48), (5, 51), (8, 49)]), 9, 160, [.str [], .int .i64 (.ofNat 0), .int .i64 (.ofNat 0), .nils, .nils, .int .i64 (.ofNat 0), .nils, .nils, .nils], true⟩
theorem ty53_ok : TyOk Tryz.prog 53 ty53 := tyOk_of Tryz.types_size Tryz.type53 Tryz.underlying53 (fun _ => ⟨Tryz.stoodInHeld53, Tryz.eqGuardType53, by kernel_rfl⟩) (by kernel_rfl)
def ty54 : TI := ⟨(.int .i64), 1, 8, [.int .i64 (.ofNat 0)], false⟩
theorem ty54_ok : TyOk Tryz.prog 54 ty54 := tyOk_of Tryz.types_size Tryz.type54 Tryz.underlying54 (noPlain rfl) (by kernel_rfl)
def ty60 : TI := ⟨(.slice 162), 1, 24, [.nils], false⟩
theorem ty60_ok : TyOk Tryz.prog 60 ty60 := tyOk_of Tryz.types_size Tryz.type60 Tryz.underlying60 (noPlain rfl) (by kernel_rfl)
def ty62 : TI := ⟨(.struct [(0, 9), (1, 60)]), 2, 40, [.str [], .nils], true⟩
theorem ty62_ok : TyOk Tryz.prog 62 ty62 := tyOk_of Tryz.types_size Tryz.type62 Tryz.underlying62 (fun _ => ⟨Tryz.stoodInHeld62, Tryz.eqGuardType62, by kernel_rfl⟩) (by kernel_rfl)
def ty65 : TI := ⟨(.struct [(0, 3), (1, 9), (2, 9), (3, 3)]), 4, 48, [.int .i64 (.ofNat 0), .str [], .str [], .int .i64 (.ofNat 0)], true⟩
theorem ty65_ok : TyOk Tryz.prog 65 ty65 := tyOk_of Tryz.types_size Tryz.type65 Tryz.underlying65 (fun _ => ⟨Tryz.stoodInHeld65, Tryz.eqGuardType65, by kernel_rfl⟩) (by kernel_rfl)
def ty67 : TI := ⟨(.struct [(0, 3), (1, 3)]), 2, 16, [.int .i64 (.ofNat 0), .int .i64 (.ofNat 0)], true⟩
theorem ty67_ok : TyOk Tryz.prog 67 ty67 := tyOk_of Tryz.types_size Tryz.type67 Tryz.underlying67 (fun _ => ⟨Tryz.stoodInHeld67, Tryz.eqGuardType67, by kernel_rfl⟩) (by kernel_rfl)
def ty68 : TI := ⟨(.slice 67), 1, 24, [.nils], false⟩
theorem ty68_ok : TyOk Tryz.prog 68 ty68 := tyOk_of Tryz.types_size Tryz.type68 Tryz.underlying68 (noPlain rfl) (by kernel_rfl)
def ty70 : TI := ⟨(.struct [(0, 68)]), 1, 24, [.nils], true⟩
theorem ty70_ok : TyOk Tryz.prog 70 ty70 := tyOk_of Tryz.types_size Tryz.type70 Tryz.underlying70 (fun _ => ⟨Tryz.stoodInHeld70, Tryz.eqGuardType70, by kernel_rfl⟩) (by kernel_rfl)
def ty72 : TI := ⟨(.struct [(0, 9), (1, 70), (2, 9), (3, 4)]), 4, 64, [.str [], .nils, .str [], .bool false], true⟩
theorem ty72_ok : TyOk Tryz.prog 72 ty72 := tyOk_of Tryz.types_size Tryz.type72 Tryz.underlying72 (fun _ => ⟨Tryz.stoodInHeld72, Tryz.eqGuardType72, by kernel_rfl⟩) (by kernel_rfl)
def ty73 : TI := ⟨(.slice 75), 1, 24, [.nils], false⟩
theorem ty73_ok : TyOk Tryz.prog 73 ty73 := tyOk_of Tryz.types_size Tryz.type73 Tryz.underlying73 (noPlain rfl) (by kernel_rfl)
def ty75 : TI := ⟨(.struct [(0, 3), (1, 9), (2, 3), (3, 3), (4, 73)]), 5, 64, [.int .i64 (.ofNat 0), .str [], .int .i64 (.ofNat 0), .int .i64 (.ofNat 0), .nils], true⟩
theorem ty75_ok : TyOk Tryz.prog 75 ty75 := tyOk_of Tryz.types_size Tryz.type75 Tryz.underlying75 (fun _ => ⟨Tryz.stoodInHeld75, Tryz.eqGuardType75, by kernel_rfl⟩) (by kernel_rfl)
def ty77 : TI := ⟨(.struct [(0, 75), (5, 9), (6, 4)]), 7, 88, [.int .i64 (.ofNat 0), .str [], .int .i64 (.ofNat 0), .int .i64 (.ofNat 0), .nils, .str [], .bool false], true⟩
theorem ty77_ok : TyOk Tryz.prog 77 ty77 := tyOk_of Tryz.types_size Tryz.type77 Tryz.underlying77 (fun _ => ⟨Tryz.stoodInHeld77, Tryz.eqGuardType77, by kernel_rfl⟩) (by kernel_rfl)
def ty78 : TI := ⟨(.slice 3), 1, 24, [.nils], false⟩
theorem ty78_ok : TyOk Tryz.prog 78 ty78 := tyOk_of Tryz.types_size Tryz.type78 Tryz.underlying78 (noPlain rfl) (by kernel_rfl)
def ty79 : TI := ⟨(.slice 512), 1, 24, [.nils], false⟩
theorem ty79_ok : TyOk Tryz.prog 79 ty79 := tyOk_of Tryz.types_size Tryz.type79 Tryz.underlying79 (noPlain rfl) (by kernel_rfl)
def ty81 : TI := ⟨(.struct [(0, 9), (1, 78), (2, 26), (4, 79)]), 5, 88, [.str [], .nils, .str [], .int .i64 (.ofNat 0), .nils], true⟩
theorem ty81_ok : TyOk Tryz.prog 81 ty81 := tyOk_of Tryz.types_size Tryz.type81 Tryz.underlying81 (fun _ => ⟨Tryz.stoodInHeld81, Tryz.eqGuardType81, by kernel_rfl⟩) (by kernel_rfl)
def ty83 : TI := ⟨(.struct [(0, 3), (1, 9), (2, 62), (4, 3)]), 5, 72, [.int .i64 (.ofNat 0), .str [], .str [], .nils, .int .i64 (.ofNat 0)], true⟩
theorem ty83_ok : TyOk Tryz.prog 83 ty83 := tyOk_of Tryz.types_size Tryz.type83 Tryz.underlying83 (fun _ => ⟨Tryz.stoodInHeld83, Tryz.eqGuardType83, by kernel_rfl⟩) (by kernel_rfl)
def ty85 : TI := ⟨(.struct [(0, 9), (1, 9), (2, 3), (3, 9), (4, 75), (9, 3), (10, 3), (11, 3)]), 12, 144, [.str [], .str [], .int .i64 (.ofNat 0), .str [], .int .i64 (.ofNat 0), .str [], .int .i64 (.ofNat 0), .int .i64 (.ofNat 0), .nils, .int .i64 (.ofNat 0), .int .i64 (.ofNat 0), .int .i64 (.ofNat 0)], true⟩
theorem ty85_ok : TyOk Tryz.prog 85 ty85 := tyOk_of Tryz.types_size Tryz.type85 Tryz.underlying85 (fun _ => ⟨Tryz.stoodInHeld85, Tryz.eqGuardType85, by kernel_rfl⟩) (by kernel_rfl)
def ty87 : TI := ⟨(.struct [(0, 9), (1, 49), (2, 49), (3, 3), (4, 3), (5, 3), (6, 3)]), 7, 96, [.str [], .nils, .nils, .int .i64 (.ofNat 0), .int .i64 (.ofNat 0), .int .i64 (.ofNat 0), .int .i64 (.ofNat 0)], true⟩
theorem ty87_ok : TyOk Tryz.prog 87 ty87 := tyOk_of Tryz.types_size Tryz.type87 Tryz.underlying87 (fun _ => ⟨Tryz.stoodInHeld87, Tryz.eqGuardType87, by kernel_rfl⟩) (by kernel_rfl)
def ty89 : TI := ⟨(.struct [(0, 9), (1, 9), (2, 9), (3, 9), (4, 9), (5, 49), (6, 3), (7, 3), (8, 3), (9, 3)]), 10, 136, [.str [], .str [], .str [], .str [], .str [], .nils, .int .i64 (.ofNat 0), .int .i64 (.ofNat 0), .int .i64 (.ofNat 0), .int .i64 (.ofNat 0)], true⟩
theorem ty89_ok : TyOk Tryz.prog 89 ty89 := tyOk_of Tryz.types_size Tryz.type89 Tryz.underlying89 (fun _ => ⟨Tryz.stoodInHeld89, Tryz.eqGuardType89, by kernel_rfl⟩) (by kernel_rfl)
def ty91 : TI := ⟨(.struct [(0, 3), (1, 83), (6, 85), (18, 87), (25, 89), (35, 9), (36, 3)]), 37, 480, [.int .i64 (.ofNat 0), .int .i64 (.ofNat 0), .str [], .str [], .nils, .int .i64 (.ofNat 0), .str [], .str [], .int .i64 (.ofNat 0), .str [], .int .i64 (.ofNat 0), .str [], .int .i64 (.ofNat 0), .int .i64 (.ofNat 0), .nils, .int .i64 (.ofNat 0), .int .i64 (.ofNat 0), .int .i64 (.ofNat 0), .str [], .nils, .nils, .int .i64 (.ofNat 0), .int .i64 (.ofNat 0), .int .i64 (.ofNat 0), .int .i64 (.ofNat 0), .str [], .str [], .str [], .str [], .str [], .nils, .int .i64 (.ofNat 0), .int .i64 (.ofNat 0), .int .i64 (.ofNat 0), .int .i64 (.ofNat 0), .str [], .int .i64 (.ofNat 0)], true⟩
theorem ty91_ok : TyOk Tryz.prog 91 ty91 := tyOk_of Tryz.types_size Tryz.type91 Tryz.underlying91 (fun _ => ⟨Tryz.stoodInHeld91, Tryz.eqGuardType91, by kernel_rfl⟩) (by kernel_rfl)
def ty92 : TI := ⟨(.slice 91), 1, 24, [.nils], false⟩
theorem ty92_ok : TyOk Tryz.prog 92 ty92 := tyOk_of Tryz.types_size Tryz.type92 Tryz.underlying92 (noPlain rfl) (by kernel_rfl)
def ty96 : TI := ⟨(.struct [(0, 3), (1, 3), (2, 3), (3, 9), (4, 92), (5, 94)]), 8, 120, [.int .i64 (.ofNat 0), .int .i64 (.ofNat 0), .int .i64 (.ofNat 0), .str [], .nils, .int .i64 (.ofNat 0), .nils, .nils], true⟩
theorem ty96_ok : TyOk Tryz.prog 96 ty96 := tyOk_of Tryz.types_size Tryz.type96 Tryz.underlying96 (fun _ => ⟨Tryz.stoodInHeld96, Tryz.eqGuardType96, by kernel_rfl⟩) (by kernel_rfl)
def ty98 : TI := ⟨(.struct [(0, 9), (1, 3)]), 2, 24, [.str [], .int .i64 (.ofNat 0)], true⟩
theorem ty98_ok : TyOk Tryz.prog 98 ty98 := tyOk_of Tryz.types_size Tryz.type98 Tryz.underlying98 (fun _ => ⟨Tryz.stoodInHeld98, Tryz.eqGuardType98, by kernel_rfl⟩) (by kernel_rfl)
def ty102 : TI := ⟨(.slice 111), 1, 24, [.nils], false⟩
theorem ty102_ok : TyOk Tryz.prog 102 ty102 := tyOk_of Tryz.types_size Tryz.type102 Tryz.underlying102 (noPlain rfl) (by kernel_rfl)
def ty103 : TI := ⟨(.slice 157), 1, 24, [.nils], false⟩
theorem ty103_ok : TyOk Tryz.prog 103 ty103 := tyOk_of Tryz.types_size Tryz.type103 Tryz.underlying103 (noPlain rfl) (by kernel_rfl)
def ty105 : TI := ⟨(.struct [(0, 3), (1, 102), (2, 103), (3, 78)]), 4, 80, [.int .i64 (.ofNat 0), .nils, .nils, .nils], true⟩
theorem ty105_ok : TyOk Tryz.prog 105 ty105 := tyOk_of Tryz.types_size Tryz.type105 Tryz.underlying105 (fun _ => ⟨Tryz.stoodInHeld105, Tryz.eqGuardType105, by kernel_rfl⟩) (by kernel_rfl)
def ty106 : TI := ⟨(.slice 448), 1, 24, [.nils], false⟩
theorem ty106_ok : TyOk Tryz.prog 106 ty106 := tyOk_of Tryz.types_size Tryz.type106 Tryz.underlying106 (noPlain rfl) (by kernel_rfl)
def ty108 : TI := ⟨(.struct [(0, 3), (1, 4), (2, 106)]), 3, 40, [.int .i64 (.ofNat 0), .bool false, .nils], true⟩
theorem ty108_ok : TyOk Tryz.prog 108 ty108 := tyOk_of Tryz.types_size Tryz.type108 Tryz.underlying108 (fun _ => ⟨Tryz.stoodInHeld108, Tryz.eqGuardType108, by kernel_rfl⟩) (by kernel_rfl)
def ty109 : TI := ⟨(.slice 210), 1, 24, [.nils], false⟩
theorem ty109_ok : TyOk Tryz.prog 109 ty109 := tyOk_of Tryz.types_size Tryz.type109 Tryz.underlying109 (noPlain rfl) (by kernel_rfl)
def ty111 : TI := ⟨(.struct [(0, 9), (1, 9), (2, 3), (3, 3), (4, 108), (7, 109)]), 8, 112, [.str [], .str [], .int .i64 (.ofNat 0), .int .i64 (.ofNat 0), .int .i64 (.ofNat 0), .bool false, .nils, .nils], true⟩
theorem ty111_ok : TyOk Tryz.prog 111 ty111 := tyOk_of Tryz.types_size Tryz.type111 Tryz.underlying111 (fun _ => ⟨Tryz.stoodInHeld111, Tryz.eqGuardType111, by kernel_rfl⟩) (by kernel_rfl)
def ty116 : TI := ⟨(.map 299 108), 1, 8, [.nilm], false⟩
theorem ty116_ok : TyOk Tryz.prog 116 ty116 := tyOk_of Tryz.types_size Tryz.type116 Tryz.underlying116 (noPlain rfl) (by kernel_rfl)
def ty117 : TI := ⟨(.map 299 210), 1, 8, [.nilm], false⟩
theorem ty117_ok : TyOk Tryz.prog 117 ty117 := tyOk_of Tryz.types_size Tryz.type117 Tryz.underlying117 (noPlain rfl) (by kernel_rfl)
def ty118 : TI := ⟨.func, 1, 8, [.nilf], false⟩
theorem ty118_ok : TyOk Tryz.prog 118 ty118 := tyOk_of Tryz.types_size Tryz.type118 Tryz.underlying118 (noPlain rfl) (by kernel_rfl)
def ty120 : TI := ⟨(.struct [(0, 46), (17, 116), (18, 117), (19, 118)]), 20, 312, [.nils, .nils, .nils, .int .i64 (.ofNat 0), .int .i64 (.ofNat 0), .int .i64 (.ofNat 0), .int .i64 (.ofNat 0), .nils, .nils, .nils, .nils, .nils, .str [], .nils, .int .i64 (.ofNat 0), .int .i64 (.ofNat 0), .int .i64 (.ofNat 0), .nilm, .nilm, .nilf], true⟩
theorem ty120_ok : TyOk Tryz.prog 120 ty120 := tyOk_of Tryz.types_size Tryz.type120 Tryz.underlying120 (fun _ => ⟨Tryz.stoodInHeld120, Tryz.eqGuardType120, by kernel_rfl⟩) (by kernel_rfl)
def ty124 : TI := ⟨(.slice 139), 1, 24, [.nils], false⟩
theorem ty124_ok : TyOk Tryz.prog 124 ty124 := tyOk_of Tryz.types_size Tryz.type124 Tryz.underlying124 (noPlain rfl) (by kernel_rfl)
def ty125 : TI := ⟨(.slice 85), 1, 24, [.nils], false⟩
theorem ty125_ok : TyOk Tryz.prog 125 ty125 := tyOk_of Tryz.types_size Tryz.type125 Tryz.underlying125 (noPlain rfl) (by kernel_rfl)
def ty127 : TI := ⟨(.slice 89), 1, 24, [.nils], false⟩
theorem ty127_ok : TyOk Tryz.prog 127 ty127 := tyOk_of Tryz.types_size Tryz.type127 Tryz.underlying127 (noPlain rfl) (by kernel_rfl)
def ty129 : TI := ⟨(.struct [(0, 124), (1, 125), (2, 126), (3, 24), (4, 127)]), 5, 120, [.nils, .nils, .nils, .nils, .nils], true⟩
theorem ty129_ok : TyOk Tryz.prog 129 ty129 := tyOk_of Tryz.types_size Tryz.type129 Tryz.underlying129 (fun _ => ⟨Tryz.stoodInHeld129, Tryz.eqGuardType129, by kernel_rfl⟩) (by kernel_rfl)
def ty130 : TI := ⟨(.slice 54), 1, 24, [.nils], false⟩
theorem ty130_ok : TyOk Tryz.prog 130 ty130 := tyOk_of Tryz.types_size Tryz.type130 Tryz.underlying130 (noPlain rfl) (by kernel_rfl)
def ty133 : TI := ⟨(.slice 296), 1, 24, [.nils], false⟩
theorem ty133_ok : TyOk Tryz.prog 133 ty133 := tyOk_of Tryz.types_size Tryz.type133 Tryz.underlying133 (noPlain rfl) (by kernel_rfl)
def ty135 : TI := ⟨(.struct [(0, 49), (1, 133), (2, 133)]), 3, 72, [.nils, .nils, .nils], true⟩
theorem ty135_ok : TyOk Tryz.prog 135 ty135 := tyOk_of Tryz.types_size Tryz.type135 Tryz.underlying135 (fun _ => ⟨Tryz.stoodInHeld135, Tryz.eqGuardType135, by kernel_rfl⟩) (by kernel_rfl)
def ty139 : TI := ⟨(.slice 206), 1, 24, [.nils], false⟩
theorem ty139_ok : TyOk Tryz.prog 139 ty139 := tyOk_of Tryz.types_size Tryz.type139 Tryz.underlying139 (noPlain rfl) (by kernel_rfl)
def ty142 : TI := ⟨(.slice 70), 1, 24, [.nils], false⟩
theorem ty142_ok : TyOk Tryz.prog 142 ty142 := tyOk_of Tryz.types_size Tryz.type142 Tryz.underlying142 (noPlain rfl) (by kernel_rfl)
def ty143 : TI := ⟨(.slice 78), 1, 24, [.nils], false⟩
theorem ty143_ok : TyOk Tryz.prog 143 ty143 := tyOk_of Tryz.types_size Tryz.type143 Tryz.underlying143 (noPlain rfl) (by kernel_rfl)
def ty145 : TI := ⟨(.struct [(0, 39), (1, 49), (2, 142), (3, 143), (4, 3), (5, 3)]), 6, 112, [.nils, .nils, .nils, .nils, .int .i64 (.ofNat 0), .int .i64 (.ofNat 0)], true⟩
theorem ty145_ok : TyOk Tryz.prog 145 ty145 := tyOk_of Tryz.types_size Tryz.type145 Tryz.underlying145 (fun _ => ⟨Tryz.stoodInHeld145, Tryz.eqGuardType145, by kernel_rfl⟩) (by kernel_rfl)
def ty146 : TI := ⟨(.pointer 105), 1, 8, [.nilp], false⟩
theorem ty146_ok : TyOk Tryz.prog 146 ty146 := tyOk_of Tryz.types_size Tryz.type146 Tryz.underlying146 (noPlain rfl) (by kernel_rfl)
def ty157 : TI := ⟨(.struct [(0, 9), (1, 4), (2, 4), (3, 153), (6, 155)]), 8, 128, [.str [], .bool false, .bool false, .bool false, .nils, .nils, .nils, .nils], true⟩
theorem ty157_ok : TyOk Tryz.prog 157 ty157 := tyOk_of Tryz.types_size Tryz.type157 Tryz.underlying157 (fun _ => ⟨Tryz.stoodInHeld157, Tryz.eqGuardType157, by kernel_rfl⟩) (by kernel_rfl)
def ty162 : TI := ⟨(.struct [(0, 3), (1, 49)]), 2, 32, [.int .i64 (.ofNat 0), .nils], true⟩
theorem ty162_ok : TyOk Tryz.prog 162 ty162 := tyOk_of Tryz.types_size Tryz.type162 Tryz.underlying162 (fun _ => ⟨Tryz.stoodInHeld162, Tryz.eqGuardType162, by kernel_rfl⟩) (by kernel_rfl)
def ty175 : TI := ⟨.func, 1, 8, [.nilf], false⟩
theorem ty175_ok : TyOk Tryz.prog 175 ty175 := tyOk_of Tryz.types_size Tryz.type175 Tryz.underlying175 (noPlain rfl) (by kernel_rfl)
def ty182 : TI := ⟨(.map 4 3), 1, 8, [.nilm], false⟩
theorem ty182_ok : TyOk Tryz.prog 182 ty182 := tyOk_of Tryz.types_size Tryz.type182 Tryz.underlying182 (noPlain rfl) (by kernel_rfl)
def ty185 : TI := ⟨(.struct [(0, 129), (5, 3), (6, 9)]), 7, 144, [.nils, .nils, .nils, .nils, .nils, .int .i64 (.ofNat 0), .str []], true⟩
theorem ty185_ok : TyOk Tryz.prog 185 ty185 := tyOk_of Tryz.types_size Tryz.type185 Tryz.underlying185 (fun _ => ⟨Tryz.stoodInHeld185, Tryz.eqGuardType185, by kernel_rfl⟩) (by kernel_rfl)
def ty186 : TI := ⟨.func, 1, 8, [.nilf], false⟩
theorem ty186_ok : TyOk Tryz.prog 186 ty186 := tyOk_of Tryz.types_size Tryz.type186 Tryz.underlying186 (noPlain rfl) (by kernel_rfl)
def ty187 : TI := ⟨(.array 8 186), 8, 64, [.nilf, .nilf, .nilf, .nilf, .nilf, .nilf, .nilf, .nilf], true⟩
theorem ty187_ok : TyOk Tryz.prog 187 ty187 := tyOk_of Tryz.types_size Tryz.type187 Tryz.underlying187 (fun _ => ⟨by kernel_rfl, Tryz.eqGuardType187, by kernel_rfl⟩) (by kernel_rfl)
def ty191 : TI := ⟨.func, 1, 8, [.nilf], false⟩
theorem ty191_ok : TyOk Tryz.prog 191 ty191 := tyOk_of Tryz.types_size Tryz.type191 Tryz.underlying191 (noPlain rfl) (by kernel_rfl)
def ty193 : TI := ⟨(.map 198 3), 1, 8, [.nilm], false⟩
theorem ty193_ok : TyOk Tryz.prog 193 ty193 := tyOk_of Tryz.types_size Tryz.type193 Tryz.underlying193 (noPlain rfl) (by kernel_rfl)
def ty196 : TI := ⟨.func, 1, 8, [.nilf], false⟩
theorem ty196_ok : TyOk Tryz.prog 196 ty196 := tyOk_of Tryz.types_size Tryz.type196 Tryz.underlying196 (noPlain rfl) (by kernel_rfl)
def ty202 : TI := ⟨(.map 9 3), 1, 8, [.nilm], false⟩
theorem ty202_ok : TyOk Tryz.prog 202 ty202 := tyOk_of Tryz.types_size Tryz.type202 Tryz.underlying202 (noPlain rfl) (by kernel_rfl)
def ty206 : TI := ⟨(.struct [(0, 62), (2, 3), (3, 3), (4, 4)]), 5, 64, [.str [], .nils, .int .i64 (.ofNat 0), .int .i64 (.ofNat 0), .bool false], true⟩
theorem ty206_ok : TyOk Tryz.prog 206 ty206 := tyOk_of Tryz.types_size Tryz.type206 Tryz.underlying206 (fun _ => ⟨Tryz.stoodInHeld206, Tryz.eqGuardType206, by kernel_rfl⟩) (by kernel_rfl)
def ty208 : TI := ⟨(.slice 462), 1, 24, [.nils], false⟩
theorem ty208_ok : TyOk Tryz.prog 208 ty208 := tyOk_of Tryz.types_size Tryz.type208 Tryz.underlying208 (noPlain rfl) (by kernel_rfl)
def ty210 : TI := ⟨(.struct [(0, 3), (1, 208), (2, 24), (3, 24), (4, 24)]), 5, 104, [.int .i64 (.ofNat 0), .nils, .nils, .nils, .nils], true⟩
theorem ty210_ok : TyOk Tryz.prog 210 ty210 := tyOk_of Tryz.types_size Tryz.type210 Tryz.underlying210 (fun _ => ⟨Tryz.stoodInHeld210, Tryz.eqGuardType210, by kernel_rfl⟩) (by kernel_rfl)
def ty213 : TI := ⟨(.struct [(0, 9), (1, 3), (2, 3), (3, 3)]), 4, 40, [.str [], .int .i64 (.ofNat 0), .int .i64 (.ofNat 0), .int .i64 (.ofNat 0)], true⟩
theorem ty213_ok : TyOk Tryz.prog 213 ty213 := tyOk_of Tryz.types_size Tryz.type213 Tryz.underlying213 (fun _ => ⟨Tryz.stoodInHeld213, Tryz.eqGuardType213, by kernel_rfl⟩) (by kernel_rfl)
def ty217 : TI := ⟨(.struct [(0, 4), (1, 9), (2, 9)]), 3, 40, [.bool false, .str [], .str []], true⟩
theorem ty217_ok : TyOk Tryz.prog 217 ty217 := tyOk_of Tryz.types_size Tryz.type217 Tryz.underlying217 (fun _ => ⟨Tryz.stoodInHeld217, Tryz.eqGuardType217, by kernel_rfl⟩) (by kernel_rfl)
def ty245 : TI := ⟨.func, 1, 8, [.nilf], false⟩
theorem ty245_ok : TyOk Tryz.prog 245 ty245 := tyOk_of Tryz.types_size Tryz.type245 Tryz.underlying245 (noPlain rfl) (by kernel_rfl)
def ty252 : TI := ⟨(.array 5 9), 5, 80, [.str [], .str [], .str [], .str [], .str []], true⟩
theorem ty252_ok : TyOk Tryz.prog 252 ty252 := tyOk_of Tryz.types_size Tryz.type252 Tryz.underlying252 (fun _ => ⟨by kernel_rfl, Tryz.eqGuardType252, by kernel_rfl⟩) (by kernel_rfl)
def ty259 : TI := ⟨.func, 1, 8, [.nilf], false⟩
theorem ty259_ok : TyOk Tryz.prog 259 ty259 := tyOk_of Tryz.types_size Tryz.type259 Tryz.underlying259 (noPlain rfl) (by kernel_rfl)
def ty263 : TI := ⟨.func, 1, 8, [.nilf], false⟩
theorem ty263_ok : TyOk Tryz.prog 263 ty263 := tyOk_of Tryz.types_size Tryz.type263 Tryz.underlying263 (noPlain rfl) (by kernel_rfl)
def ty283 : TI := ⟨(.map 9 4), 1, 8, [.nilm], false⟩
theorem ty283_ok : TyOk Tryz.prog 283 ty283 := tyOk_of Tryz.types_size Tryz.type283 Tryz.underlying283 (noPlain rfl) (by kernel_rfl)
def ty285 : TI := ⟨(.int .u64), 1, 8, [.int .u64 (.ofNat 0)], false⟩
theorem ty285_ok : TyOk Tryz.prog 285 ty285 := tyOk_of Tryz.types_size Tryz.type285 Tryz.underlying285 (noPlain rfl) (by kernel_rfl)
def ty287 : TI := ⟨(.slice 198), 1, 24, [.nils], false⟩
theorem ty287_ok : TyOk Tryz.prog 287 ty287 := tyOk_of Tryz.types_size Tryz.type287 Tryz.underlying287 (noPlain rfl) (by kernel_rfl)
def ty298 : TI := ⟨(.array 2 9), 2, 32, [.str [], .str []], true⟩
theorem ty298_ok : TyOk Tryz.prog 298 ty298 := tyOk_of Tryz.types_size Tryz.type298 Tryz.underlying298 (fun _ => ⟨by kernel_rfl, Tryz.eqGuardType298, by kernel_rfl⟩) (by kernel_rfl)
def ty299 : TI := ⟨(.array 2 9), 2, 32, [.str [], .str []], true⟩
theorem ty299_ok : TyOk Tryz.prog 299 ty299 := tyOk_of Tryz.types_size Tryz.type299 Tryz.underlying299 (fun _ => ⟨by kernel_rfl, Tryz.eqGuardType299, by kernel_rfl⟩) (by kernel_rfl)
def ty312 : TI := ⟨(.slice 24), 1, 24, [.nils], false⟩
theorem ty312_ok : TyOk Tryz.prog 312 ty312 := tyOk_of Tryz.types_size Tryz.type312 Tryz.underlying312 (noPlain rfl) (by kernel_rfl)
def ty350 : TI := ⟨(.map 352 4), 1, 8, [.nilm], false⟩
theorem ty350_ok : TyOk Tryz.prog 350 ty350 := tyOk_of Tryz.types_size Tryz.type350 Tryz.underlying350 (noPlain rfl) (by kernel_rfl)
def ty352 : TI := ⟨(.struct [(0, 3), (1, 9), (2, 9)]), 3, 40, [.int .i64 (.ofNat 0), .str [], .str []], true⟩
theorem ty352_ok : TyOk Tryz.prog 352 ty352 := tyOk_of Tryz.types_size Tryz.type352 Tryz.underlying352 (fun _ => ⟨Tryz.stoodInHeld352, Tryz.eqGuardType352, by kernel_rfl⟩) (by kernel_rfl)
def ty357 : TI := ⟨(.struct [(0, 9), (1, 3), (2, 3), (3, 3)]), 4, 40, [.str [], .int .i64 (.ofNat 0), .int .i64 (.ofNat 0), .int .i64 (.ofNat 0)], true⟩
theorem ty357_ok : TyOk Tryz.prog 357 ty357 := tyOk_of Tryz.types_size Tryz.type357 Tryz.underlying357 (fun _ => ⟨Tryz.stoodInHeld357, Tryz.eqGuardType357, by kernel_rfl⟩) (by kernel_rfl)
def ty370 : TI := ⟨(.slice 5), 1, 24, [.nils], false⟩
theorem ty370_ok : TyOk Tryz.prog 370 ty370 := tyOk_of Tryz.types_size Tryz.type370 Tryz.underlying370 (noPlain rfl) (by kernel_rfl)
def ty372 : TI := ⟨(.struct [(0, 369), (1, 370)]), 2, 32, [.nilp, .nils], true⟩
theorem ty372_ok : TyOk Tryz.prog 372 ty372 := tyOk_of Tryz.types_size Tryz.type372 Tryz.underlying372 (fun _ => ⟨Tryz.stoodInHeld372, Tryz.eqGuardType372, by kernel_rfl⟩) (by kernel_rfl)
def ty375 : TI := ⟨.interface, 1, 16, [.nili], false⟩
theorem ty375_ok : TyOk Tryz.prog 375 ty375 := tyOk_of Tryz.types_size Tryz.type375 Tryz.underlying375 (noPlain rfl) (by kernel_rfl)
def ty379 : TI := ⟨(.slice 383), 1, 24, [.nils], false⟩
theorem ty379_ok : TyOk Tryz.prog 379 ty379 := tyOk_of Tryz.types_size Tryz.type379 Tryz.underlying379 (noPlain rfl) (by kernel_rfl)
def ty383 : TI := ⟨(.struct [(0, 3), (1, 3), (2, 3), (3, 9)]), 4, 40, [.int .i64 (.ofNat 0), .int .i64 (.ofNat 0), .int .i64 (.ofNat 0), .str []], true⟩
theorem ty383_ok : TyOk Tryz.prog 383 ty383 := tyOk_of Tryz.types_size Tryz.type383 Tryz.underlying383 (fun _ => ⟨Tryz.stoodInHeld383, Tryz.eqGuardType383, by kernel_rfl⟩) (by kernel_rfl)
def ty388 : TI := ⟨(.array 2 3), 2, 16, [.int .i64 (.ofNat 0), .int .i64 (.ofNat 0)], true⟩
theorem ty388_ok : TyOk Tryz.prog 388 ty388 := tyOk_of Tryz.types_size Tryz.type388 Tryz.underlying388 (fun _ => ⟨by kernel_rfl, Tryz.eqGuardType388, by kernel_rfl⟩) (by kernel_rfl)
def ty389 : TI := ⟨(.slice 388), 1, 24, [.nils], false⟩
theorem ty389_ok : TyOk Tryz.prog 389 ty389 := tyOk_of Tryz.types_size Tryz.type389 Tryz.underlying389 (noPlain rfl) (by kernel_rfl)
def ty394 : TI := ⟨(.pointer 539), 1, 8, [.nilp], false⟩
theorem ty394_ok : TyOk Tryz.prog 394 ty394 := tyOk_of Tryz.types_size Tryz.type394 Tryz.underlying394 (noPlain rfl) (by kernel_rfl)
def ty398 : TI := ⟨(.struct [(0, 217), (3, 54)]), 4, 48, [.bool false, .str [], .str [], .int .i64 (.ofNat 0)], true⟩
theorem ty398_ok : TyOk Tryz.prog 398 ty398 := tyOk_of Tryz.types_size Tryz.type398 Tryz.underlying398 (fun _ => ⟨Tryz.stoodInHeld398, Tryz.eqGuardType398, by kernel_rfl⟩) (by kernel_rfl)
def ty400 : TI := ⟨.func, 1, 8, [.nilf], false⟩
theorem ty400_ok : TyOk Tryz.prog 400 ty400 := tyOk_of Tryz.types_size Tryz.type400 Tryz.underlying400 (noPlain rfl) (by kernel_rfl)
def ty403 : TI := ⟨(.struct [(0, 4), (1, 263)]), 2, 16, [.bool false, .nilf], true⟩
theorem ty403_ok : TyOk Tryz.prog 403 ty403 := tyOk_of Tryz.types_size Tryz.type403 Tryz.underlying403 (fun _ => ⟨Tryz.stoodInHeld403, Tryz.eqGuardType403, by kernel_rfl⟩) (by kernel_rfl)
def ty404 : TI := ⟨.func, 1, 8, [.nilf], false⟩
theorem ty404_ok : TyOk Tryz.prog 404 ty404 := tyOk_of Tryz.types_size Tryz.type404 Tryz.underlying404 (noPlain rfl) (by kernel_rfl)
def ty420 : TI := ⟨(.struct [(0, 9), (1, 9), (2, 9), (3, 9), (4, 3), (5, 3), (6, 3), (7, 3), (8, 3), (9, 3), (10, 3), (11, 3)]), 12, 128, [.str [], .str [], .str [], .str [], .int .i64 (.ofNat 0), .int .i64 (.ofNat 0), .int .i64 (.ofNat 0), .int .i64 (.ofNat 0), .int .i64 (.ofNat 0), .int .i64 (.ofNat 0), .int .i64 (.ofNat 0), .int .i64 (.ofNat 0)], true⟩
theorem ty420_ok : TyOk Tryz.prog 420 ty420 := tyOk_of Tryz.types_size Tryz.type420 Tryz.underlying420 (fun _ => ⟨Tryz.stoodInHeld420, Tryz.eqGuardType420, by kernel_rfl⟩) (by kernel_rfl)
def ty422 : TI := ⟨(.struct [(0, 9), (1, 3), (2, 3), (3, 3), (4, 3), (5, 3), (6, 3)]), 7, 64, [.str [], .int .i64 (.ofNat 0), .int .i64 (.ofNat 0), .int .i64 (.ofNat 0), .int .i64 (.ofNat 0), .int .i64 (.ofNat 0), .int .i64 (.ofNat 0)], true⟩
theorem ty422_ok : TyOk Tryz.prog 422 ty422 := tyOk_of Tryz.types_size Tryz.type422 Tryz.underlying422 (fun _ => ⟨Tryz.stoodInHeld422, Tryz.eqGuardType422, by kernel_rfl⟩) (by kernel_rfl)
def ty424 : TI := ⟨(.struct [(0, 9), (1, 9), (2, 9), (3, 9), (4, 9), (5, 3), (6, 3), (7, 3), (8, 3), (9, 3)]), 10, 120, [.str [], .str [], .str [], .str [], .str [], .int .i64 (.ofNat 0), .int .i64 (.ofNat 0), .int .i64 (.ofNat 0), .int .i64 (.ofNat 0), .int .i64 (.ofNat 0)], true⟩
theorem ty424_ok : TyOk Tryz.prog 424 ty424 := tyOk_of Tryz.types_size Tryz.type424 Tryz.underlying424 (fun _ => ⟨Tryz.stoodInHeld424, Tryz.eqGuardType424, by kernel_rfl⟩) (by kernel_rfl)
def ty436 : TI := ⟨(.slice 444), 1, 24, [.nils], false⟩
theorem ty436_ok : TyOk Tryz.prog 436 ty436 := tyOk_of Tryz.types_size Tryz.type436 Tryz.underlying436 (noPlain rfl) (by kernel_rfl)
def ty438 : TI := ⟨(.struct [(0, 436), (1, 24)]), 2, 48, [.nils, .nils], true⟩
theorem ty438_ok : TyOk Tryz.prog 438 ty438 := tyOk_of Tryz.types_size Tryz.type438 Tryz.underlying438 (fun _ => ⟨Tryz.stoodInHeld438, Tryz.eqGuardType438, by kernel_rfl⟩) (by kernel_rfl)
def ty441 : TI := ⟨(.map 388 448), 1, 8, [.nilm], false⟩
theorem ty441_ok : TyOk Tryz.prog 441 ty441 := tyOk_of Tryz.types_size Tryz.type441 Tryz.underlying441 (noPlain rfl) (by kernel_rfl)
def ty442 : TI := ⟨(.slice 646), 1, 24, [.nils], false⟩
theorem ty442_ok : TyOk Tryz.prog 442 ty442 := tyOk_of Tryz.types_size Tryz.type442 Tryz.underlying442 (noPlain rfl) (by kernel_rfl)
def ty444 : TI := ⟨(.struct [(0, 3), (1, 442), (2, 49)]), 3, 56, [.int .i64 (.ofNat 0), .nils, .nils], true⟩
theorem ty444_ok : TyOk Tryz.prog 444 ty444 := tyOk_of Tryz.types_size Tryz.type444 Tryz.underlying444 (fun _ => ⟨Tryz.stoodInHeld444, Tryz.eqGuardType444, by kernel_rfl⟩) (by kernel_rfl)
def ty446 : TI := ⟨(.struct [(0, 3), (1, 24), (2, 24), (3, 9)]), 4, 72, [.int .i64 (.ofNat 0), .nils, .nils, .str []], true⟩
theorem ty446_ok : TyOk Tryz.prog 446 ty446 := tyOk_of Tryz.types_size Tryz.type446 Tryz.underlying446 (fun _ => ⟨Tryz.stoodInHeld446, Tryz.eqGuardType446, by kernel_rfl⟩) (by kernel_rfl)
def ty448 : TI := ⟨(.struct [(0, 3), (1, 3), (2, 3), (3, 3), (4, 3), (5, 3), (6, 446)]), 10, 120, [.int .i64 (.ofNat 0), .int .i64 (.ofNat 0), .int .i64 (.ofNat 0), .int .i64 (.ofNat 0), .int .i64 (.ofNat 0), .int .i64 (.ofNat 0), .int .i64 (.ofNat 0), .nils, .nils, .str []], true⟩
theorem ty448_ok : TyOk Tryz.prog 448 ty448 := tyOk_of Tryz.types_size Tryz.type448 Tryz.underlying448 (fun _ => ⟨Tryz.stoodInHeld448, Tryz.eqGuardType448, by kernel_rfl⟩) (by kernel_rfl)
def ty455 : TI := ⟨(.struct [(0, 3), (1, 24), (2, 24), (3, 24)]), 4, 80, [.int .i64 (.ofNat 0), .nils, .nils, .nils], true⟩
theorem ty455_ok : TyOk Tryz.prog 455 ty455 := tyOk_of Tryz.types_size Tryz.type455 Tryz.underlying455 (fun _ => ⟨Tryz.stoodInHeld455, Tryz.eqGuardType455, by kernel_rfl⟩) (by kernel_rfl)
def ty459 : TI := ⟨(.struct [(0, 34), (6, 162), (8, 162)]), 10, 160, [.nils, .nils, .nils, .int .i64 (.ofNat 0), .int .i64 (.ofNat 0), .int .i64 (.ofNat 0), .int .i64 (.ofNat 0), .nils, .int .i64 (.ofNat 0), .nils], true⟩
theorem ty459_ok : TyOk Tryz.prog 459 ty459 := tyOk_of Tryz.types_size Tryz.type459 Tryz.underlying459 (fun _ => ⟨Tryz.stoodInHeld459, Tryz.eqGuardType459, by kernel_rfl⟩) (by kernel_rfl)
def ty460 : TI := ⟨(.slice 583), 1, 24, [.nils], false⟩
theorem ty460_ok : TyOk Tryz.prog 460 ty460 := tyOk_of Tryz.types_size Tryz.type460 Tryz.underlying460 (noPlain rfl) (by kernel_rfl)
def ty462 : TI := ⟨(.struct [(0, 3), (1, 3), (2, 3), (3, 460)]), 4, 48, [.int .i64 (.ofNat 0), .int .i64 (.ofNat 0), .int .i64 (.ofNat 0), .nils], true⟩
theorem ty462_ok : TyOk Tryz.prog 462 ty462 := tyOk_of Tryz.types_size Tryz.type462 Tryz.underlying462 (fun _ => ⟨Tryz.stoodInHeld462, Tryz.eqGuardType462, by kernel_rfl⟩) (by kernel_rfl)
def ty498 : TI := ⟨(.array 256 4), 256, 256, [.bool false, .bool false, .bool false, .bool false, .bool false, .bool false, .bool false, .bool false, .bool false, .bool false, .bool false, .bool false, .bool false, .bool false, .bool false, .bool false, .bool false, .bool false, .bool false, .bool false, .bool false, .bool false, .bool false, .bool false, .bool false, .bool false, .bool false, .bool false, .bool false, .bool false, .bool false, .bool false, .bool false, .bool false, .bool false, .bool false, .bool false, .bool false, .bool false, .bool false, .bool false, .bool false, .bool false, .bool false, .bool false, .bool false, .bool false, .bool false, .bool false, .bool false, .bool false, .bool false, .bool false, .bool false, .bool false, .bool false, .bool false, .bool false, .bool false, .bool false, .bool false, .bool false, .bool false, .bool false, .bool false, .bool false, .bool false, .bool false, .bool false, .bool false, .bool false, .bool false, .bool false, .bool false, .bool false, .bool false, .bool false, .bool false, .bool false, .bool false, .bool false, .bool false, .bool false, .bool false, .bool false, .bool false, .bool false, .bool false, .bool false, .bool false, .bool false, .bool false, .bool false, .bool false, .bool false, .bool false, .bool false, .bool false, .bool false, .bool false, .bool false, .bool false, .bool false, .bool false, .bool false, .bool false, .bool false, .bool false, .bool false, .bool false, .bool false, .bool false, .bool false, .bool false, .bool false, .bool false, .bool false, .bool false, .bool false, .bool false, .bool false, .bool false, .bool false, .bool false, .bool false, .bool false, .bool false, .bool false, .bool false, .bool false, .bool false, .bool false, .bool false, .bool false, .bool false, .bool false, .bool false, .bool false, .bool false, .bool false, .bool false, .bool false, .bool false, .bool false, .bool false, .bool false, .bool false, .bool false, .bool false, .bool false, .bool false, .bool false, .bool false, .bool false, .bool false, .bool false, .bool false, .bool false, .bool false, .bool false, .bool false, .bool false, .bool false, .bool false, .bool false, .bool false, .bool false, .bool false, .bool false, .bool false, .bool false, .bool false, .bool false, .bool false, .bool false, .bool false, .bool false, .bool false, .bool false, .bool false, .bool false, .bool false, .bool false, .bool false, .bool false, .bool false, .bool false, .bool false, .bool false, .bool false, .bool false, .bool false, .bool false, .bool false, .bool false, .bool false, .bool false, .bool false, .bool false, .bool false, .bool false, .bool false, .bool false, .bool false, .bool false, .bool false, .bool false, .bool false, .bool false, .bool false, .bool false, .bool false, .bool false, .bool false, .bool false, .bool false, .bool false, .bool false, .bool false, .bool false, .bool false, .bool false, .bool false, .bool false, .bool false, .bool false, .bool false, .bool false, .bool false, .bool false, .bool false, .bool false, .bool false, .bool false, .bool false, .bool false, .bool false, .bool false, .bool false, .bool false, .bool false, .bool false, .bool false, .bool false, .bool false, .bool false, .bool false, .bool false, .bool false, .bool false, .bool false, .bool false, .bool false, .bool false, .bool false, .bool false], true⟩
theorem ty498_ok : TyOk Tryz.prog 498 ty498 := tyOk_of Tryz.types_size Tryz.type498 Tryz.underlying498 (fun _ => ⟨by kernel_rfl, Tryz.eqGuardType498, by kernel_rfl⟩) (by kernel_rfl)
def ty516 : TI := ⟨(.array 256 3), 256, 2048, [.int .i64 (.ofNat 0), .int .i64 (.ofNat 0), .int .i64 (.ofNat 0), .int .i64 (.ofNat 0), .int .i64 (.ofNat 0), .int .i64 (.ofNat 0), .int .i64 (.ofNat 0), .int .i64 (.ofNat 0), .int .i64 (.ofNat 0), .int .i64 (.ofNat 0), .int .i64 (.ofNat 0), .int .i64 (.ofNat 0), .int .i64 (.ofNat 0), .int .i64 (.ofNat 0), .int .i64 (.ofNat 0), .int .i64 (.ofNat 0), .int .i64 (.ofNat 0), .int .i64 (.ofNat 0), .int .i64 (.ofNat 0), .int .i64 (.ofNat 0), .int .i64 (.ofNat 0), .int .i64 (.ofNat 0), .int .i64 (.ofNat 0), .int .i64 (.ofNat 0), .int .i64 (.ofNat 0), .int .i64 (.ofNat 0), .int .i64 (.ofNat 0), .int .i64 (.ofNat 0), .int .i64 (.ofNat 0), .int .i64 (.ofNat 0), .int .i64 (.ofNat 0), .int .i64 (.ofNat 0), .int .i64 (.ofNat 0), .int .i64 (.ofNat 0), .int .i64 (.ofNat 0), .int .i64 (.ofNat 0), .int .i64 (.ofNat 0), .int .i64 (.ofNat 0), .int .i64 (.ofNat 0), .int .i64 (.ofNat 0), .int .i64 (.ofNat 0), .int .i64 (.ofNat 0), .int .i64 (.ofNat 0), .int .i64 (.ofNat 0), .int .i64 (.ofNat 0), .int .i64 (.ofNat 0), .int .i64 (.ofNat 0), .int .i64 (.ofNat 0), .int .i64 (.ofNat 0), .int .i64 (.ofNat 0), .int .i64 (.ofNat 0), .int .i64 (.ofNat 0), .int .i64 (.ofNat 0), .int .i64 (.ofNat 0), .int .i64 (.ofNat 0), .int .i64 (.ofNat 0), .int .i64 (.ofNat 0), .int .i64 (.ofNat 0), .int .i64 (.ofNat 0), .int .i64 (.ofNat 0), .int .i64 (.ofNat 0), .int .i64 (.ofNat 0), .int .i64 (.ofNat 0), .int .i64 (.ofNat 0), .int .i64 (.ofNat 0), .int .i64 (.ofNat 0), .int .i64 (.ofNat 0), .int .i64 (.ofNat 0), .int .i64 (.ofNat 0), .int .i64 (.ofNat 0), .int .i64 (.ofNat 0), .int .i64 (.ofNat 0), .int .i64 (.ofNat 0), .int .i64 (.ofNat 0), .int .i64 (.ofNat 0), .int .i64 (.ofNat 0), .int .i64 (.ofNat 0), .int .i64 (.ofNat 0), .int .i64 (.ofNat 0), .int .i64 (.ofNat 0), .int .i64 (.ofNat 0), .int .i64 (.ofNat 0), .int .i64 (.ofNat 0), .int .i64 (.ofNat 0), .int .i64 (.ofNat 0), .int .i64 (.ofNat 0), .int .i64 (.ofNat 0), .int .i64 (.ofNat 0), .int .i64 (.ofNat 0), .int .i64 (.ofNat 0), .int .i64 (.ofNat 0), .int .i64 (.ofNat 0), .int .i64 (.ofNat 0), .int .i64 (.ofNat 0), .int .i64 (.ofNat 0), .int .i64 (.ofNat 0), .int .i64 (.ofNat 0), .int .i64 (.ofNat 0), .int .i64 (.ofNat 0), .int .i64 (.ofNat 0), .int .i64 (.ofNat 0), .int .i64 (.ofNat 0), .int .i64 (.ofNat 0), .int .i64 (.ofNat 0), .int .i64 (.ofNat 0), .int .i64 (.ofNat 0), .int .i64 (.ofNat 0), .int .i64 (.ofNat 0), .int .i64 (.ofNat 0), .int .i64 (.ofNat 0), .int .i64 (.ofNat 0), .int .i64 (.ofNat 0), .int .i64 (.ofNat 0), .int .i64 (.ofNat 0), .int .i64 (.ofNat 0), .int .i64 (.ofNat 0), .int .i64 (.ofNat 0), .int .i64 (.ofNat 0), .int .i64 (.ofNat 0), .int .i64 (.ofNat 0), .int .i64 (.ofNat 0), .int .i64 (.ofNat 0), .int .i64 (.ofNat 0), .int .i64 (.ofNat 0), .int .i64 (.ofNat 0), .int .i64 (.ofNat 0), .int .i64 (.ofNat 0), .int .i64 (.ofNat 0), .int .i64 (.ofNat 0), .int .i64 (.ofNat 0), .int .i64 (.ofNat 0), .int .i64 (.ofNat 0), .int .i64 (.ofNat 0), .int .i64 (.ofNat 0), .int .i64 (.ofNat 0), .int .i64 (.ofNat 0), .int .i64 (.ofNat 0), .int .i64 (.ofNat 0), .int .i64 (.ofNat 0), .int .i64 (.ofNat 0), .int .i64 (.ofNat 0), .int .i64 (.ofNat 0), .int .i64 (.ofNat 0), .int .i64 (.ofNat 0), .int .i64 (.ofNat 0), .int .i64 (.ofNat 0), .int .i64 (.ofNat 0), .int .i64 (.ofNat 0), .int .i64 (.ofNat 0), .int .i64 (.ofNat 0), .int .i64 (.ofNat 0), .int .i64 (.ofNat 0), .int .i64 (.ofNat 0), .int .i64 (.ofNat 0), .int .i64 (.ofNat 0), .int .i64 (.ofNat 0), .int .i64 (.ofNat 0), .int .i64 (.ofNat 0), .int .i64 (.ofNat 0), .int .i64 (.ofNat 0), .int .i64 (.ofNat 0), .int .i64 (.ofNat 0), .int .i64 (.ofNat 0), .int .i64 (.ofNat 0), .int .i64 (.ofNat 0), .int .i64 (.ofNat 0), .int .i64 (.ofNat 0), .int .i64 (.ofNat 0), .int .i64 (.ofNat 0), .int .i64 (.ofNat 0), .int .i64 (.ofNat 0), .int .i64 (.ofNat 0), .int .i64 (.ofNat 0), .int .i64 (.ofNat 0), .int .i64 (.ofNat 0), .int .i64 (.ofNat 0), .int .i64 (.ofNat 0), .int .i64 (.ofNat 0), .int .i64 (.ofNat 0), .int .i64 (.ofNat 0), .int .i64 (.ofNat 0), .int .i64 (.ofNat 0), .int .i64 (.ofNat 0), .int .i64 (.ofNat 0), .int .i64 (.ofNat 0), .int .i64 (.ofNat 0), .int .i64 (.ofNat 0), .int .i64 (.ofNat 0), .int .i64 (.ofNat 0), .int .i64 (.ofNat 0), .int .i64 (.ofNat 0), .int .i64 (.ofNat 0), .int .i64 (.ofNat 0), .int .i64 (.ofNat 0), .int .i64 (.ofNat 0), .int .i64 (.ofNat 0), .int .i64 (.ofNat 0), .int .i64 (.ofNat 0), .int .i64 (.ofNat 0), .int .i64 (.ofNat 0), .int .i64 (.ofNat 0), .int .i64 (.ofNat 0), .int .i64 (.ofNat 0), .int .i64 (.ofNat 0), .int .i64 (.ofNat 0), .int .i64 (.ofNat 0), .int .i64 (.ofNat 0), .int .i64 (.ofNat 0), .int .i64 (.ofNat 0), .int .i64 (.ofNat 0), .int .i64 (.ofNat 0), .int .i64 (.ofNat 0), .int .i64 (.ofNat 0), .int .i64 (.ofNat 0), .int .i64 (.ofNat 0), .int .i64 (.ofNat 0), .int .i64 (.ofNat 0), .int .i64 (.ofNat 0), .int .i64 (.ofNat 0), .int .i64 (.ofNat 0), .int .i64 (.ofNat 0), .int .i64 (.ofNat 0), .int .i64 (.ofNat 0), .int .i64 (.ofNat 0), .int .i64 (.ofNat 0), .int .i64 (.ofNat 0), .int .i64 (.ofNat 0), .int .i64 (.ofNat 0), .int .i64 (.ofNat 0), .int .i64 (.ofNat 0), .int .i64 (.ofNat 0), .int .i64 (.ofNat 0), .int .i64 (.ofNat 0), .int .i64 (.ofNat 0), .int .i64 (.ofNat 0), .int .i64 (.ofNat 0), .int .i64 (.ofNat 0), .int .i64 (.ofNat 0), .int .i64 (.ofNat 0), .int .i64 (.ofNat 0), .int .i64 (.ofNat 0), .int .i64 (.ofNat 0), .int .i64 (.ofNat 0), .int .i64 (.ofNat 0), .int .i64 (.ofNat 0), .int .i64 (.ofNat 0), .int .i64 (.ofNat 0), .int .i64 (.ofNat 0), .int .i64 (.ofNat 0), .int .i64 (.ofNat 0), .int .i64 (.ofNat 0), .int .i64 (.ofNat 0), .int .i64 (.ofNat 0), .int .i64 (.ofNat 0), .int .i64 (.ofNat 0), .int .i64 (.ofNat 0)], true⟩
theorem ty516_ok : TyOk Tryz.prog 516 ty516 := tyOk_of Tryz.types_size Tryz.type516 Tryz.underlying516 (fun _ => ⟨by kernel_rfl, Tryz.eqGuardType516, by kernel_rfl⟩) (by kernel_rfl)
def ty519 : TI := ⟨(.struct [(0, 9), (1, 516)]), 257, 2064, [.str [], .int .i64 (.ofNat 0), .int .i64 (.ofNat 0), .int .i64 (.ofNat 0), .int .i64 (.ofNat 0), .int .i64 (.ofNat 0), .int .i64 (.ofNat 0), .int .i64 (.ofNat 0), .int .i64 (.ofNat 0), .int .i64 (.ofNat 0), .int .i64 (.ofNat 0), .int .i64 (.ofNat 0), .int .i64 (.ofNat 0), .int .i64 (.ofNat 0), .int .i64 (.ofNat 0), .int .i64 (.ofNat 0), .int .i64 (.ofNat 0), .int .i64 (.ofNat 0), .int .i64 (.ofNat 0), .int .i64 (.ofNat 0), .int .i64 (.ofNat 0), .int .i64 (.ofNat 0), .int .i64 (.ofNat 0), .int .i64 (.ofNat 0), .int .i64 (.ofNat 0), .int .i64 (.ofNat 0), .int .i64 (.ofNat 0), .int .i64 (.ofNat 0), .int .i64 (.ofNat 0), .int .i64 (.ofNat 0), .int .i64 (.ofNat 0), .int .i64 (.ofNat 0), .int .i64 (.ofNat 0), .int .i64 (.ofNat 0), .int .i64 (.ofNat 0), .int .i64 (.ofNat 0), .int .i64 (.ofNat 0), .int .i64 (.ofNat 0), .int .i64 (.ofNat 0), .int .i64 (.ofNat 0), .int .i64 (.ofNat 0), .int .i64 (.ofNat 0), .int .i64 (.ofNat 0), .int .i64 (.ofNat 0), .int .i64 (.ofNat 0), .int .i64 (.ofNat 0), .int .i64 (.ofNat 0), .int .i64 (.ofNat 0), .int .i64 (.ofNat 0), .int .i64 (.ofNat 0), .int .i64 (.ofNat 0), .int .i64 (.ofNat 0), .int .i64 (.ofNat 0), .int .i64 (.ofNat 0), .int .i64 (.ofNat 0), .int .i64 (.ofNat 0), .int .i64 (.ofNat 0), .int .i64 (.ofNat 0), .int .i64 (.ofNat 0), .int .i64 (.ofNat 0), .int .i64 (.ofNat 0), .int .i64 (.ofNat 0), .int .i64 (.ofNat 0), .int .i64 (.ofNat 0), .int .i64 (.ofNat 0), .int .i64 (.ofNat 0), .int .i64 (.ofNat 0), .int .i64 (.ofNat 0), .int .i64 (.ofNat 0), .int .i64 (.ofNat 0), .int .i64 (.ofNat 0), .int .i64 (.ofNat 0), .int .i64 (.ofNat 0), .int .i64 (.ofNat 0), .int .i64 (.ofNat 0), .int .i64 (.ofNat 0), .int .i64 (.ofNat 0), .int .i64 (.ofNat 0), .int .i64 (.ofNat 0), .int .i64 (.ofNat 0), .int .i64 (.ofNat 0), .int .i64 (.ofNat 0), .int .i64 (.ofNat 0), .int .i64 (.ofNat 0), .int .i64 (.ofNat 0), .int .i64 (.ofNat 0), .int .i64 (.ofNat 0), .int .i64 (.ofNat 0), .int .i64 (.ofNat 0), .int .i64 (.ofNat 0), .int .i64 (.ofNat 0), .int .i64 (.ofNat 0), .int .i64 (.ofNat 0), .int .i64 (.ofNat 0), .int .i64 (.ofNat 0), .int .i64 (.ofNat 0), .int .i64 (.ofNat 0), .int .i64 (.ofNat 0), .int .i64 (.ofNat 0), .int .i64 (.ofNat 0), .int .i64 (.ofNat 0), .int .i64 (.ofNat 0), .int .i64 (.ofNat 0), .int .i64 (.ofNat 0), .int .i64 (.ofNat 0), .int .i64 (.ofNat 0), .int .i64 (.ofNat 0), .int .i64 (.ofNat 0), .int .i64 (.ofNat 0), .int .i64 (.ofNat 0), .int .i64 (.ofNat 0), .int .i64 (.ofNat 0), .int .i64 (.ofNat 0), .int .i64 (.ofNat 0), .int .i64 (.ofNat 0), .int .i64 (.ofNat 0), .int .i64 (.ofNat 0), .int .i64 (.ofNat 0), .int .i64 (.ofNat 0), .int .i64 (.ofNat 0), .int .i64 (.ofNat 0), .int .i64 (.ofNat 0), .int .i64 (.ofNat 0), .int .i64 (.ofNat 0), .int .i64 (.ofNat 0), .int .i64 (.ofNat 0), .int .i64 (.ofNat 0), .int .i64 (.ofNat 0), .int .i64 (.ofNat 0), .int .i64 (.ofNat 0), .int .i64 (.ofNat 0), .int .i64 (.ofNat 0), .int .i64 (.ofNat 0), .int .i64 (.ofNat 0), .int .i64 (.ofNat 0), .int .i64 (.ofNat 0), .int .i64 (.ofNat 0), .int .i64 (.ofNat 0), .int .i64 (.ofNat 0), .int .i64 (.ofNat 0), .int .i64 (.ofNat 0), .int .i64 (.ofNat 0), .int .i64 (.ofNat 0), .int .i64 (.ofNat 0), .int .i64 (.ofNat 0), .int .i64 (.ofNat 0), .int .i64 (.ofNat 0), .int .i64 (.ofNat 0), .int .i64 (.ofNat 0), .int .i64 (.ofNat 0), .int .i64 (.ofNat 0), .int .i64 (.ofNat 0), .int .i64 (.ofNat 0), .int .i64 (.ofNat 0), .int .i64 (.ofNat 0), .int .i64 (.ofNat 0), .int .i64 (.ofNat 0), .int .i64 (.ofNat 0), .int .i64 (.ofNat 0), .int .i64 (.ofNat 0), .int .i64 (.ofNat 0), .int .i64 (.ofNat 0), .int .i64 (.ofNat 0), .int .i64 (.ofNat 0), .int .i64 (.ofNat 0), .int .i64 (.ofNat 0), .int .i64 (.ofNat 0), .int .i64 (.ofNat 0), .int .i64 (.ofNat 0), .int .i64 (.ofNat 0), .int .i64 (.ofNat 0), .int .i64 (.ofNat 0), .int .i64 (.ofNat 0), .int .i64 (.ofNat 0), .int .i64 (.ofNat 0), .int .i64 (.ofNat 0), .int .i64 (.ofNat 0), .int .i64 (.ofNat 0), .int .i64 (.ofNat 0), .int .i64 (.ofNat 0), .int .i64 (.ofNat 0), .int .i64 (.ofNat 0), .int .i64 (.ofNat 0), .int .i64 (.ofNat 0), .int .i64 (.ofNat 0), .int .i64 (.ofNat 0), .int .i64 (.ofNat 0), .int .i64 (.ofNat 0), .int .i64 (.ofNat 0), .int .i64 (.ofNat 0), .int .i64 (.ofNat 0), .int .i64 (.ofNat 0), .int .i64 (.ofNat 0), .int .i64 (.ofNat 0), .int .i64 (.ofNat 0), .int .i64 (.ofNat 0), .int .i64 (.ofNat 0), .int .i64 (.ofNat 0), .int .i64 (.ofNat 0), .int .i64 (.ofNat 0), .int .i64 (.ofNat 0), .int .i64 (.ofNat 0), .int .i64 (.ofNat 0), .int .i64 (.ofNat 0), .int .i64 (.ofNat 0), .int .i64 (.ofNat 0), .int .i64 (.ofNat 0), .int .i64 (.ofNat 0), .int .i64 (.ofNat 0), .int .i64 (.ofNat 0), .int .i64 (.ofNat 0), .int .i64 (.ofNat 0), .int .i64 (.ofNat 0), .int .i64 (.ofNat 0), .int .i64 (.ofNat 0), .int .i64 (.ofNat 0), .int .i64 (.ofNat 0), .int .i64 (.ofNat 0), .int .i64 (.ofNat 0), .int .i64 (.ofNat 0), .int .i64 (.ofNat 0), .int .i64 (.ofNat 0), .int .i64 (.ofNat 0), .int .i64 (.ofNat 0), .int .i64 (.ofNat 0), .int .i64 (.ofNat 0), .int .i64 (.ofNat 0), .int .i64 (.ofNat 0), .int .i64 (.ofNat 0), .int .i64 (.ofNat 0), .int .i64 (.ofNat 0), .int .i64 (.ofNat 0), .int .i64 (.ofNat 0), .int .i64 (.ofNat 0), .int .i64 (.ofNat 0), .int .i64 (.ofNat 0), .int .i64 (.ofNat 0), .int .i64 (.ofNat 0), .int .i64 (.ofNat 0), .int .i64 (.ofNat 0), .int .i64 (.ofNat 0), .int .i64 (.ofNat 0), .int .i64 (.ofNat 0), .int .i64 (.ofNat 0), .int .i64 (.ofNat 0), .int .i64 (.ofNat 0), .int .i64 (.ofNat 0), .int .i64 (.ofNat 0), .int .i64 (.ofNat 0), .int .i64 (.ofNat 0), .int .i64 (.ofNat 0), .int .i64 (.ofNat 0), .int .i64 (.ofNat 0), .int .i64 (.ofNat 0), .int .i64 (.ofNat 0), .int .i64 (.ofNat 0), .int .i64 (.ofNat 0)], true⟩
theorem ty519_ok : TyOk Tryz.prog 519 ty519 := tyOk_of Tryz.types_size Tryz.type519 Tryz.underlying519 (fun _ => ⟨Tryz.stoodInHeld519, Tryz.eqGuardType519, by kernel_rfl⟩) (by kernel_rfl)
def ty528 : TI := ⟨(.slice 612), 1, 24, [.nils], false⟩
theorem ty528_ok : TyOk Tryz.prog 528 ty528 := tyOk_of Tryz.types_size Tryz.type528 Tryz.underlying528 (noPlain rfl) (by kernel_rfl)
def ty537 : TI := ⟨(.map 9 81), 1, 8, [.nilm], false⟩
theorem ty537_ok : TyOk Tryz.prog 537 ty537 := tyOk_of Tryz.types_size Tryz.type537 Tryz.underlying537 (noPlain rfl) (by kernel_rfl)
def ty539 : TI := ⟨(.struct [(0, 42), (2, 537), (3, 44), (4, 9), (5, 3)]), 6, 104, [.nils, .nils, .nilm, .nils, .str [], .int .i64 (.ofNat 0)], true⟩
theorem ty539_ok : TyOk Tryz.prog 539 ty539 := tyOk_of Tryz.types_size Tryz.type539 Tryz.underlying539 (fun _ => ⟨Tryz.stoodInHeld539, Tryz.eqGuardType539, by kernel_rfl⟩) (by kernel_rfl)
def ty541 : TI := ⟨(.map 9 398), 1, 8, [.nilm], false⟩
theorem ty541_ok : TyOk Tryz.prog 541 ty541 := tyOk_of Tryz.types_size Tryz.type541 Tryz.underlying541 (noPlain rfl) (by kernel_rfl)
def ty542 : TI := ⟨.func, 1, 8, [.nilf], false⟩
theorem ty542_ok : TyOk Tryz.prog 542 ty542 := tyOk_of Tryz.types_size Tryz.type542 Tryz.underlying542 (noPlain rfl) (by kernel_rfl)
def ty561 : TI := ⟨(.struct [(0, 448), (10, 9), (11, 9)]), 12, 152, [.int .i64 (.ofNat 0), .int .i64 (.ofNat 0), .int .i64 (.ofNat 0), .int .i64 (.ofNat 0), .int .i64 (.ofNat 0), .int .i64 (.ofNat 0), .int .i64 (.ofNat 0), .nils, .nils, .str [], .str [], .str []], true⟩
theorem ty561_ok : TyOk Tryz.prog 561 ty561 := tyOk_of Tryz.types_size Tryz.type561 Tryz.underlying561 (fun _ => ⟨Tryz.stoodInHeld561, Tryz.eqGuardType561, by kernel_rfl⟩) (by kernel_rfl)
def ty566 : TI := ⟨(.slice 569), 1, 24, [.nils], false⟩
theorem ty566_ok : TyOk Tryz.prog 566 ty566 := tyOk_of Tryz.types_size Tryz.type566 Tryz.underlying566 (noPlain rfl) (by kernel_rfl)
def ty569 : TI := ⟨(.array 64 3), 64, 512, [.int .i64 (.ofNat 0), .int .i64 (.ofNat 0), .int .i64 (.ofNat 0), .int .i64 (.ofNat 0), .int .i64 (.ofNat 0), .int .i64 (.ofNat 0), .int .i64 (.ofNat 0), .int .i64 (.ofNat 0), .int .i64 (.ofNat 0), .int .i64 (.ofNat 0), .int .i64 (.ofNat 0), .int .i64 (.ofNat 0), .int .i64 (.ofNat 0), .int .i64 (.ofNat 0), .int .i64 (.ofNat 0), .int .i64 (.ofNat 0), .int .i64 (.ofNat 0), .int .i64 (.ofNat 0), .int .i64 (.ofNat 0), .int .i64 (.ofNat 0), .int .i64 (.ofNat 0), .int .i64 (.ofNat 0), .int .i64 (.ofNat 0), .int .i64 (.ofNat 0), .int .i64 (.ofNat 0), .int .i64 (.ofNat 0), .int .i64 (.ofNat 0), .int .i64 (.ofNat 0), .int .i64 (.ofNat 0), .int .i64 (.ofNat 0), .int .i64 (.ofNat 0), .int .i64 (.ofNat 0), .int .i64 (.ofNat 0), .int .i64 (.ofNat 0), .int .i64 (.ofNat 0), .int .i64 (.ofNat 0), .int .i64 (.ofNat 0), .int .i64 (.ofNat 0), .int .i64 (.ofNat 0), .int .i64 (.ofNat 0), .int .i64 (.ofNat 0), .int .i64 (.ofNat 0), .int .i64 (.ofNat 0), .int .i64 (.ofNat 0), .int .i64 (.ofNat 0), .int .i64 (.ofNat 0), .int .i64 (.ofNat 0), .int .i64 (.ofNat 0), .int .i64 (.ofNat 0), .int .i64 (.ofNat 0), .int .i64 (.ofNat 0), .int .i64 (.ofNat 0), .int .i64 (.ofNat 0), .int .i64 (.ofNat 0), .int .i64 (.ofNat 0), .int .i64 (.ofNat 0), .int .i64 (.ofNat 0), .int .i64 (.ofNat 0), .int .i64 (.ofNat 0), .int .i64 (.ofNat 0), .int .i64 (.ofNat 0), .int .i64 (.ofNat 0), .int .i64 (.ofNat 0), .int .i64 (.ofNat 0)], true⟩
theorem ty569_ok : TyOk Tryz.prog 569 ty569 := tyOk_of Tryz.types_size Tryz.type569 Tryz.underlying569 (fun _ => ⟨by kernel_rfl, Tryz.eqGuardType569, by kernel_rfl⟩) (by kernel_rfl)
def ty576 : TI := ⟨(.struct [(0, 3), (1, 3), (2, 3)]), 3, 24, [.int .i64 (.ofNat 0), .int .i64 (.ofNat 0), .int .i64 (.ofNat 0)], true⟩
theorem ty576_ok : TyOk Tryz.prog 576 ty576 := tyOk_of Tryz.types_size Tryz.type576 Tryz.underlying576 (fun _ => ⟨Tryz.stoodInHeld576, Tryz.eqGuardType576, by kernel_rfl⟩) (by kernel_rfl)
def ty578 : TI := ⟨(.struct [(0, 576), (3, 9), (4, 9), (5, 3)]), 6, 64, [.int .i64 (.ofNat 0), .int .i64 (.ofNat 0), .int .i64 (.ofNat 0), .str [], .str [], .int .i64 (.ofNat 0)], true⟩
theorem ty578_ok : TyOk Tryz.prog 578 ty578 := tyOk_of Tryz.types_size Tryz.type578 Tryz.underlying578 (fun _ => ⟨Tryz.stoodInHeld578, Tryz.eqGuardType578, by kernel_rfl⟩) (by kernel_rfl)
def ty579 : TI := ⟨(.slice 683), 1, 24, [.nils], false⟩
theorem ty579_ok : TyOk Tryz.prog 579 ty579 := tyOk_of Tryz.types_size Tryz.type579 Tryz.underlying579 (noPlain rfl) (by kernel_rfl)
def ty583 : TI := ⟨(.struct [(0, 3), (1, 3), (2, 3), (3, 3), (4, 579)]), 5, 56, [.int .i64 (.ofNat 0), .int .i64 (.ofNat 0), .int .i64 (.ofNat 0), .int .i64 (.ofNat 0), .nils], true⟩
theorem ty583_ok : TyOk Tryz.prog 583 ty583 := tyOk_of Tryz.types_size Tryz.type583 Tryz.underlying583 (fun _ => ⟨Tryz.stoodInHeld583, Tryz.eqGuardType583, by kernel_rfl⟩) (by kernel_rfl)
def ty612 : TI := ⟨(.int .u64), 1, 8, [.int .u64 (.ofNat 0)], false⟩
theorem ty612_ok : TyOk Tryz.prog 612 ty612 := tyOk_of Tryz.types_size Tryz.type612 Tryz.underlying612 (noPlain rfl) (by kernel_rfl)
def ty629 : TI := ⟨(.slice 298), 1, 24, [.nils], false⟩
theorem ty629_ok : TyOk Tryz.prog 629 ty629 := tyOk_of Tryz.types_size Tryz.type629 Tryz.underlying629 (noPlain rfl) (by kernel_rfl)
def ty640 : TI := ⟨(.int .u32), 1, 4, [.int .u32 (.ofNat 0)], false⟩
theorem ty640_ok : TyOk Tryz.prog 640 ty640 := tyOk_of Tryz.types_size Tryz.type640 Tryz.underlying640 (noPlain rfl) (by kernel_rfl)
def ty646 : TI := ⟨(.struct [(0, 9), (1, 3), (2, 3)]), 3, 32, [.str [], .int .i64 (.ofNat 0), .int .i64 (.ofNat 0)], true⟩
theorem ty646_ok : TyOk Tryz.prog 646 ty646 := tyOk_of Tryz.types_size Tryz.type646 Tryz.underlying646 (fun _ => ⟨Tryz.stoodInHeld646, Tryz.eqGuardType646, by kernel_rfl⟩) (by kernel_rfl)
def ty648 : TI := ⟨(.slice 664), 1, 24, [.nils], false⟩
theorem ty648_ok : TyOk Tryz.prog 648 ty648 := tyOk_of Tryz.types_size Tryz.type648 Tryz.underlying648 (noPlain rfl) (by kernel_rfl)
def ty650 : TI := ⟨(.struct [(0, 49), (1, 648)]), 2, 48, [.nils, .nils], true⟩
theorem ty650_ok : TyOk Tryz.prog 650 ty650 := tyOk_of Tryz.types_size Tryz.type650 Tryz.underlying650 (fun _ => ⟨Tryz.stoodInHeld650, Tryz.eqGuardType650, by kernel_rfl⟩) (by kernel_rfl)
def ty652 : TI := ⟨(.struct [(0, 650), (2, 650)]), 4, 96, [.nils, .nils, .nils, .nils], true⟩
theorem ty652_ok : TyOk Tryz.prog 652 ty652 := tyOk_of Tryz.types_size Tryz.type652 Tryz.underlying652 (fun _ => ⟨Tryz.stoodInHeld652, Tryz.eqGuardType652, by kernel_rfl⟩) (by kernel_rfl)
def ty655 : TI := ⟨(.map 658 3), 1, 8, [.nilm], false⟩
theorem ty655_ok : TyOk Tryz.prog 655 ty655 := tyOk_of Tryz.types_size Tryz.type655 Tryz.underlying655 (noPlain rfl) (by kernel_rfl)
def ty658 : TI := ⟨(.struct [(0, 3), (1, 3), (2, 9), (3, 4)]), 4, 40, [.int .i64 (.ofNat 0), .int .i64 (.ofNat 0), .str [], .bool false], true⟩
theorem ty658_ok : TyOk Tryz.prog 658 ty658 := tyOk_of Tryz.types_size Tryz.type658 Tryz.underlying658 (fun _ => ⟨Tryz.stoodInHeld658, Tryz.eqGuardType658, by kernel_rfl⟩) (by kernel_rfl)
def ty664 : TI := ⟨(.struct [(0, 3), (1, 3), (2, 49), (3, 9)]), 4, 56, [.int .i64 (.ofNat 0), .int .i64 (.ofNat 0), .nils, .str []], true⟩
theorem ty664_ok : TyOk Tryz.prog 664 ty664 := tyOk_of Tryz.types_size Tryz.type664 Tryz.underlying664 (fun _ => ⟨Tryz.stoodInHeld664, Tryz.eqGuardType664, by kernel_rfl⟩) (by kernel_rfl)
def ty668 : TI := ⟨(.slice 312), 1, 24, [.nils], false⟩
theorem ty668_ok : TyOk Tryz.prog 668 ty668 := tyOk_of Tryz.types_size Tryz.type668 Tryz.underlying668 (noPlain rfl) (by kernel_rfl)
def ty671 : TI := ⟨(.array 2 49), 2, 48, [.nils, .nils], true⟩
theorem ty671_ok : TyOk Tryz.prog 671 ty671 := tyOk_of Tryz.types_size Tryz.type671 Tryz.underlying671 (fun _ => ⟨by kernel_rfl, Tryz.eqGuardType671, by kernel_rfl⟩) (by kernel_rfl)
def ty673 : TI := ⟨(.struct [(0, 3), (1, 3), (2, 9), (3, 4)]), 4, 40, [.int .i64 (.ofNat 0), .int .i64 (.ofNat 0), .str [], .bool false], true⟩
theorem ty673_ok : TyOk Tryz.prog 673 ty673 := tyOk_of Tryz.types_size Tryz.type673 Tryz.underlying673 (fun _ => ⟨Tryz.stoodInHeld673, Tryz.eqGuardType673, by kernel_rfl⟩) (by kernel_rfl)
def ty675 : TI := ⟨(.struct [(0, 31), (1, 388), (3, 671), (5, 673)]), 9, 128, [.nils, .int .i64 (.ofNat 0), .int .i64 (.ofNat 0), .nils, .nils, .int .i64 (.ofNat 0), .int .i64 (.ofNat 0), .str [], .bool false], true⟩
theorem ty675_ok : TyOk Tryz.prog 675 ty675 := tyOk_of Tryz.types_size Tryz.type675 Tryz.underlying675 (fun _ => ⟨Tryz.stoodInHeld675, Tryz.eqGuardType675, by kernel_rfl⟩) (by kernel_rfl)
def ty678 : TI := ⟨(.map 673 3), 1, 8, [.nilm], false⟩
theorem ty678_ok : TyOk Tryz.prog 678 ty678 := tyOk_of Tryz.types_size Tryz.type678 Tryz.underlying678 (noPlain rfl) (by kernel_rfl)
def ty680 : TI := ⟨(.struct [(0, 675), (9, 678)]), 10, 136, [.nils, .int .i64 (.ofNat 0), .int .i64 (.ofNat 0), .nils, .nils, .int .i64 (.ofNat 0), .int .i64 (.ofNat 0), .str [], .bool false, .nilm], true⟩
theorem ty680_ok : TyOk Tryz.prog 680 ty680 := tyOk_of Tryz.types_size Tryz.type680 Tryz.underlying680 (fun _ => ⟨Tryz.stoodInHeld680, Tryz.eqGuardType680, by kernel_rfl⟩) (by kernel_rfl)
def ty683 : TI := ⟨(.struct [(0, 3), (1, 3), (2, 9), (3, 4), (4, 3)]), 5, 48, [.int .i64 (.ofNat 0), .int .i64 (.ofNat 0), .str [], .bool false, .int .i64 (.ofNat 0)], true⟩
theorem ty683_ok : TyOk Tryz.prog 683 ty683 := tyOk_of Tryz.types_size Tryz.type683 Tryz.underlying683 (fun _ => ⟨Tryz.stoodInHeld683, Tryz.eqGuardType683, by kernel_rfl⟩) (by kernel_rfl)
def ty686 : TI := ⟨(.array 24 5), 24, 24, [.int .u8 (.ofNat 0), .int .u8 (.ofNat 0), .int .u8 (.ofNat 0), .int .u8 (.ofNat 0), .int .u8 (.ofNat 0), .int .u8 (.ofNat 0), .int .u8 (.ofNat 0), .int .u8 (.ofNat 0), .int .u8 (.ofNat 0), .int .u8 (.ofNat 0), .int .u8 (.ofNat 0), .int .u8 (.ofNat 0), .int .u8 (.ofNat 0), .int .u8 (.ofNat 0), .int .u8 (.ofNat 0), .int .u8 (.ofNat 0), .int .u8 (.ofNat 0), .int .u8 (.ofNat 0), .int .u8 (.ofNat 0), .int .u8 (.ofNat 0), .int .u8 (.ofNat 0), .int .u8 (.ofNat 0), .int .u8 (.ofNat 0), .int .u8 (.ofNat 0)], true⟩
theorem ty686_ok : TyOk Tryz.prog 686 ty686 := tyOk_of Tryz.types_size Tryz.type686 Tryz.underlying686 (fun _ => ⟨by kernel_rfl, Tryz.eqGuardType686, by kernel_rfl⟩) (by kernel_rfl)
def ty705 : TI := ⟨.func, 1, 8, [.nilf], false⟩
theorem ty705_ok : TyOk Tryz.prog 705 ty705 := tyOk_of Tryz.types_size Tryz.type705 Tryz.underlying705 (noPlain rfl) (by kernel_rfl)
def ty726 : TI := ⟨.func, 1, 8, [.nilf], false⟩
theorem ty726_ok : TyOk Tryz.prog 726 ty726 := tyOk_of Tryz.types_size Tryz.type726 Tryz.underlying726 (noPlain rfl) (by kernel_rfl)
def ty738 : TI := ⟨(.array 20 612), 20, 160, [.int .u64 (.ofNat 0), .int .u64 (.ofNat 0), .int .u64 (.ofNat 0), .int .u64 (.ofNat 0), .int .u64 (.ofNat 0), .int .u64 (.ofNat 0), .int .u64 (.ofNat 0), .int .u64 (.ofNat 0), .int .u64 (.ofNat 0), .int .u64 (.ofNat 0), .int .u64 (.ofNat 0), .int .u64 (.ofNat 0), .int .u64 (.ofNat 0), .int .u64 (.ofNat 0), .int .u64 (.ofNat 0), .int .u64 (.ofNat 0), .int .u64 (.ofNat 0), .int .u64 (.ofNat 0), .int .u64 (.ofNat 0), .int .u64 (.ofNat 0)], true⟩
theorem ty738_ok : TyOk Tryz.prog 738 ty738 := tyOk_of Tryz.types_size Tryz.type738 Tryz.underlying738 (fun _ => ⟨by kernel_rfl, Tryz.eqGuardType738, by kernel_rfl⟩) (by kernel_rfl)
def tyL : List (Nat × TI) := [(2, ty2), (3, ty3), (4, ty4), (5, ty5), (9, ty9), (22, ty22), (23, ty23), (24, ty24), (26, ty26), (28, ty28), (31, ty31), (32, ty32), (34, ty34), (35, ty35), (36, ty36), (37, ty37), (39, ty39), (40, ty40), (42, ty42), (43, ty43), (44, ty44), (46, ty46), (47, ty47), (48, ty48), (49, ty49), (51, ty51), (53, ty53), (54, ty54), (60, ty60), (62, ty62), (65, ty65), (67, ty67), (68, ty68), (70, ty70), (72, ty72), (73, ty73), (75, ty75), (77, ty77), (78, ty78), (79, ty79), (81, ty81), (83, ty83), (85, ty85), (87, ty87), (89, ty89), (91, ty91), (92, ty92), (96, ty96), (98, ty98), (102, ty102), (103, ty103), (105, ty105), (106, ty106), (108, ty108), (109, ty109), (111, ty111), (116, ty116), (117, ty117), (118, ty118), (120, ty120), (124, ty124), (125, ty125), (127, ty127), (129, ty129), (130, ty130), (133, ty133), (135, ty135), (139, ty139), (142, ty142), (143, ty143), (145, ty145), (146, ty146), (157, ty157), (162, ty162), (175, ty175), (182, ty182), (185, ty185), (186, ty186), (187, ty187), (191, ty191), (193, ty193), (196, ty196), (202, ty202), (206, ty206), (208, ty208), (210, ty210), (213, ty213), (217, ty217), (245, ty245), (252, ty252), (259, ty259), (263, ty263), (283, ty283), (285, ty285), (287, ty287), (298, ty298), (299, ty299), (312, ty312), (350, ty350), (352, ty352), (357, ty357), (370, ty370), (372, ty372), (375, ty375), (379, ty379), (383, ty383), (388, ty388), (389, ty389), (394, ty394), (398, ty398), (400, ty400), (403, ty403), (404, ty404), (420, ty420), (422, ty422), (424, ty424), (436, ty436), (438, ty438), (441, ty441), (442, ty442), (444, ty444), (446, ty446), (448, ty448), (455, ty455), (459, ty459), (460, ty460), (462, ty462), (498, ty498), (516, ty516), (519, ty519), (528, ty528), (537, ty537), (539, ty539), (541, ty541), (542, ty542), (561, ty561), (566, ty566), (569, ty569), (576, ty576), (578, ty578), (579, ty579), (583, ty583), (612, ty612), (629, ty629), (640, ty640), (646, ty646), (648, ty648), (650, ty650), (652, ty652), (655, ty655), (658, ty658), (664, ty664), (668, ty668), (671, ty671), (673, ty673), (675, ty675), (678, ty678), (680, ty680), (683, ty683), (686, ty686), (705, ty705), (726, ty726), (738, ty738)]
theorem tyL_ok : AllOf (fun p => TyOk Tryz.prog p.1 p.2) tyL :=
  .cons ty2_ok <|
  .cons ty3_ok <|
  .cons ty4_ok <|
  .cons ty5_ok <|
  .cons ty9_ok <|
  .cons ty22_ok <|
  .cons ty23_ok <|
  .cons ty24_ok <|
  .cons ty26_ok <|
  .cons ty28_ok <|
  .cons ty31_ok <|
  .cons ty32_ok <|
  .cons ty34_ok <|
  .cons ty35_ok <|
  .cons ty36_ok <|
  .cons ty37_ok <|
  .cons ty39_ok <|
  .cons ty40_ok <|
  .cons ty42_ok <|
  .cons ty43_ok <|
  .cons ty44_ok <|
  .cons ty46_ok <|
  .cons ty47_ok <|
  .cons ty48_ok <|
  .cons ty49_ok <|
  .cons ty51_ok <|
  .cons ty53_ok <|
  .cons ty54_ok <|
  .cons ty60_ok <|
  .cons ty62_ok <|
  .cons ty65_ok <|
  .cons ty67_ok <|
  .cons ty68_ok <|
  .cons ty70_ok <|
  .cons ty72_ok <|
  .cons ty73_ok <|
  .cons ty75_ok <|
  .cons ty77_ok <|
  .cons ty78_ok <|
  .cons ty79_ok <|
  .cons ty81_ok <|
  .cons ty83_ok <|
  .cons ty85_ok <|
  .cons ty87_ok <|
  .cons ty89_ok <|
  .cons ty91_ok <|
  .cons ty92_ok <|
  .cons ty96_ok <|
  .cons ty98_ok <|
  .cons ty102_ok <|
  .cons ty103_ok <|
  .cons ty105_ok <|
  .cons ty106_ok <|
  .cons ty108_ok <|
  .cons ty109_ok <|
  .cons ty111_ok <|
  .cons ty116_ok <|
  .cons ty117_ok <|
  .cons ty118_ok <|
  .cons ty120_ok <|
  .cons ty124_ok <|
  .cons ty125_ok <|
  .cons ty127_ok <|
  .cons ty129_ok <|
  .cons ty130_ok <|
  .cons ty133_ok <|
  .cons ty135_ok <|
  .cons ty139_ok <|
  .cons ty142_ok <|
  .cons ty143_ok <|
  .cons ty145_ok <|
  .cons ty146_ok <|
  .cons ty157_ok <|
  .cons ty162_ok <|
  .cons ty175_ok <|
  .cons ty182_ok <|
  .cons ty185_ok <|
  .cons ty186_ok <|
  .cons ty187_ok <|
  .cons ty191_ok <|
  .cons ty193_ok <|
  .cons ty196_ok <|
  .cons ty202_ok <|
  .cons ty206_ok <|
  .cons ty208_ok <|
  .cons ty210_ok <|
  .cons ty213_ok <|
  .cons ty217_ok <|
  .cons ty245_ok <|
  .cons ty252_ok <|
  .cons ty259_ok <|
  .cons ty263_ok <|
  .cons ty283_ok <|
  .cons ty285_ok <|
  .cons ty287_ok <|
  .cons ty298_ok <|
  .cons ty299_ok <|
  .cons ty312_ok <|
  .cons ty350_ok <|
  .cons ty352_ok <|
  .cons ty357_ok <|
  .cons ty370_ok <|
  .cons ty372_ok <|
  .cons ty375_ok <|
  .cons ty379_ok <|
  .cons ty383_ok <|
  .cons ty388_ok <|
  .cons ty389_ok <|
  .cons ty394_ok <|
  .cons ty398_ok <|
  .cons ty400_ok <|
  .cons ty403_ok <|
  .cons ty404_ok <|
  .cons ty420_ok <|
  .cons ty422_ok <|
  .cons ty424_ok <|
  .cons ty436_ok <|
  .cons ty438_ok <|
  .cons ty441_ok <|
  .cons ty442_ok <|
  .cons ty444_ok <|
  .cons ty446_ok <|
  .cons ty448_ok <|
  .cons ty455_ok <|
  .cons ty459_ok <|
  .cons ty460_ok <|
  .cons ty462_ok <|
  .cons ty498_ok <|
  .cons ty516_ok <|
  .cons ty519_ok <|
  .cons ty528_ok <|
  .cons ty537_ok <|
  .cons ty539_ok <|
  .cons ty541_ok <|
  .cons ty542_ok <|
  .cons ty561_ok <|
  .cons ty566_ok <|
  .cons ty569_ok <|
  .cons ty576_ok <|
  .cons ty578_ok <|
  .cons ty579_ok <|
  .cons ty583_ok <|
  .cons ty612_ok <|
  .cons ty629_ok <|
  .cons ty640_ok <|
  .cons ty646_ok <|
  .cons ty648_ok <|
  .cons ty650_ok <|
  .cons ty652_ok <|
  .cons ty655_ok <|
  .cons ty658_ok <|
  .cons ty664_ok <|
  .cons ty668_ok <|
  .cons ty671_ok <|
  .cons ty673_ok <|
  .cons ty675_ok <|
  .cons ty678_ok <|
  .cons ty680_ok <|
  .cons ty683_ok <|
  .cons ty686_ok <|
  .cons ty705_ok <|
  .cons ty726_ok <|
  .cons ty738_ok <|
  .nil
end Go.Proofs.YtdifpleoipjjfaaGreatDoor
