/- All kept answers are right; the example of layer 49 holds; what a nil memo and zero screenings answer. -/
import Derived.Test.YtdifpleoipjjfaaGreatDoorHeadR0
import Derived.Test.YtdifpleoipjjfaaGreatDoorHeadR1
import Derived.Test.YtdifpleoipjjfaaGreatDoorHeadR2
import Derived.Test.YtdifpleoipjjfaaGreatDoorHeadR3
import Derived.Test.YtdifpleoipjjfaaGreatDoorHeadR4
import Derived.Test.YtdifpleoipjjfaaGreatDoorHeadR5
import Derived.Test.YtdifpleoipjjfaaGreatDoorHeadR6
import Derived.Test.YtdifpleoipjjfaaGreatDoorHeadR7
import Derived.Test.YtdifpleoipjjfaaGreatDoorHeadG
import Derived.Lib.Walk
import Derived.WalkKit
import Derived.Handy
namespace Go.Proofs.YtdifpleoipjjfaaGreatDoor
open Go Go.Refl
theorem tab0_ok (pf : Nat × Nat) : TabOk pf tab0 := tabOk_lf pf
theorem tab1_ok (pf : Nat × Nat) : TabOk pf tab1 := tabOk_step (tab0_ok pf) (run0 pf)
theorem tab2_ok (pf : Nat × Nat) : TabOk pf tab2 := tabOk_step (tab1_ok pf) (run1 pf)
theorem tab3_ok (pf : Nat × Nat) : TabOk pf tab3 := tabOk_step (tab2_ok pf) (run2 pf)
theorem tab4_ok (pf : Nat × Nat) : TabOk pf tab4 := tabOk_step (tab3_ok pf) (run3 pf)
theorem tab5_ok (pf : Nat × Nat) : TabOk pf tab5 := tabOk_step (tab4_ok pf) (run4 pf)
theorem tab6_ok (pf : Nat × Nat) : TabOk pf tab6 := tabOk_step (tab5_ok pf) (run5 pf)
theorem tab7_ok (pf : Nat × Nat) : TabOk pf tab7 := tabOk_step (tab6_ok pf) (run6 pf)
theorem tab8_ok (pf : Nat × Nat) : TabOk pf tab8 := tabOk_step (tab7_ok pf) (run7 pf)
theorem tab9_ok (pf : Nat × Nat) : TabOk pf tab9 := tabOk_step (tab8_ok pf) (run8 pf)
theorem tab10_ok (pf : Nat × Nat) : TabOk pf tab10 := tabOk_step (tab9_ok pf) (run9 pf)
theorem tab11_ok (pf : Nat × Nat) : TabOk pf tab11 := tabOk_step (tab10_ok pf) (run10 pf)
theorem tab12_ok (pf : Nat × Nat) : TabOk pf tab12 := tabOk_step (tab11_ok pf) (run11 pf)
theorem tab13_ok (pf : Nat × Nat) : TabOk pf tab13 := tabOk_step (tab12_ok pf) (run12 pf)
theorem tab14_ok (pf : Nat × Nat) : TabOk pf tab14 := tabOk_step (tab13_ok pf) (run13 pf)
theorem tab15_ok (pf : Nat × Nat) : TabOk pf tab15 := tabOk_step (tab14_ok pf) (run14 pf)
theorem tab16_ok (pf : Nat × Nat) : TabOk pf tab16 := tabOk_step (tab15_ok pf) (run15 pf)
theorem tab17_ok (pf : Nat × Nat) : TabOk pf tab17 := tabOk_step (tab16_ok pf) (run16 pf)
theorem tab18_ok (pf : Nat × Nat) : TabOk pf tab18 := tabOk_step (tab17_ok pf) (run17 pf)
theorem tab19_ok (pf : Nat × Nat) : TabOk pf tab19 := tabOk_step (tab18_ok pf) (run18 pf)
theorem tab20_ok (pf : Nat × Nat) : TabOk pf tab20 := tabOk_step (tab19_ok pf) (run19 pf)
theorem tab21_ok (pf : Nat × Nat) : TabOk pf tab21 := tabOk_step (tab20_ok pf) (run20 pf)
theorem tab22_ok (pf : Nat × Nat) : TabOk pf tab22 := tabOk_step (tab21_ok pf) (run21 pf)
theorem tab23_ok (pf : Nat × Nat) : TabOk pf tab23 := tabOk_step (tab22_ok pf) (run22 pf)
theorem tab24_ok (pf : Nat × Nat) : TabOk pf tab24 := tabOk_step (tab23_ok pf) (run23 pf)
theorem tab25_ok (pf : Nat × Nat) : TabOk pf tab25 := tabOk_step (tab24_ok pf) (run24 pf)
theorem tab26_ok (pf : Nat × Nat) : TabOk pf tab26 := tabOk_step (tab25_ok pf) (run25 pf)
theorem tab27_ok (pf : Nat × Nat) : TabOk pf tab27 := tabOk_step (tab26_ok pf) (run26 pf)
theorem tab28_ok (pf : Nat × Nat) : TabOk pf tab28 := tabOk_step (tab27_ok pf) (run27 pf)
theorem tab29_ok (pf : Nat × Nat) : TabOk pf tab29 := tabOk_step (tab28_ok pf) (run28 pf)
theorem tab30_ok (pf : Nat × Nat) : TabOk pf tab30 := tabOk_step (tab29_ok pf) (run29 pf)
theorem tab31_ok (pf : Nat × Nat) : TabOk pf tab31 := tabOk_step (tab30_ok pf) (run30 pf)
theorem tab32_ok (pf : Nat × Nat) : TabOk pf tab32 := tabOk_step (tab31_ok pf) (run31 pf)
theorem tab33_ok (pf : Nat × Nat) : TabOk pf tab33 := tabOk_step (tab32_ok pf) (run32 pf)
theorem tab34_ok (pf : Nat × Nat) : TabOk pf tab34 := tabOk_step (tab33_ok pf) (run33 pf)
theorem tab35_ok (pf : Nat × Nat) : TabOk pf tab35 := tabOk_step (tab34_ok pf) (run34 pf)
theorem tab36_ok (pf : Nat × Nat) : TabOk pf tab36 := tabOk_step (tab35_ok pf) (run35 pf)
theorem tab37_ok (pf : Nat × Nat) : TabOk pf tab37 := tabOk_step (tab36_ok pf) (run36 pf)
theorem tab38_ok (pf : Nat × Nat) : TabOk pf tab38 := tabOk_step (tab37_ok pf) (run37 pf)
theorem tab39_ok (pf : Nat × Nat) : TabOk pf tab39 := tabOk_step (tab38_ok pf) (run38 pf)
theorem tab40_ok (pf : Nat × Nat) : TabOk pf tab40 := tabOk_step (tab39_ok pf) (run39 pf)
theorem tab41_ok (pf : Nat × Nat) : TabOk pf tab41 := tabOk_step (tab40_ok pf) (run40 pf)
theorem tab42_ok (pf : Nat × Nat) : TabOk pf tab42 := tabOk_step (tab41_ok pf) (run41 pf)
theorem tab43_ok (pf : Nat × Nat) : TabOk pf tab43 := tabOk_step (tab42_ok pf) (run42 pf)
theorem tab44_ok (pf : Nat × Nat) : TabOk pf tab44 := tabOk_step (tab43_ok pf) (run43 pf)
theorem tab45_ok (pf : Nat × Nat) : TabOk pf tab45 := tabOk_step (tab44_ok pf) (run44 pf)
theorem tab46_ok (pf : Nat × Nat) : TabOk pf tab46 := tabOk_step (tab45_ok pf) (run45 pf)
theorem tab47_ok (pf : Nat × Nat) : TabOk pf tab47 := tabOk_step (tab46_ok pf) (run46 pf)
theorem tab48_ok (pf : Nat × Nat) : TabOk pf tab48 := tabOk_step (tab47_ok pf) (run47 pf)
theorem tab49_ok (pf : Nat × Nat) : TabOk pf tab49 := tabOk_step (tab48_ok pf) (run48 pf)
theorem tab50_ok (pf : Nat × Nat) : TabOk pf tab50 := tabOk_step (tab49_ok pf) (run49 pf)
theorem tab51_ok (pf : Nat × Nat) : TabOk pf tab51 := tabOk_step (tab50_ok pf) (run50 pf)
theorem tab52_ok (pf : Nat × Nat) : TabOk pf tab52 := tabOk_step (tab51_ok pf) (run51 pf)
theorem tab53_ok (pf : Nat × Nat) : TabOk pf tab53 := tabOk_step (tab52_ok pf) (run52 pf)
theorem tab54_ok (pf : Nat × Nat) : TabOk pf tab54 := tabOk_step (tab53_ok pf) (run53 pf)
theorem tab55_ok (pf : Nat × Nat) : TabOk pf tab55 := tabOk_step (tab54_ok pf) (run54 pf)
theorem tab56_ok (pf : Nat × Nat) : TabOk pf tab56 := tabOk_step (tab55_ok pf) (run55 pf)
theorem tab57_ok (pf : Nat × Nat) : TabOk pf tab57 := tabOk_step (tab56_ok pf) (run56 pf)
theorem tab58_ok (pf : Nat × Nat) : TabOk pf tab58 := tabOk_step (tab57_ok pf) (run57 pf)
theorem tab59_ok (pf : Nat × Nat) : TabOk pf tab59 := tabOk_step (tab58_ok pf) (run58 pf)
theorem tab60_ok (pf : Nat × Nat) : TabOk pf tab60 := tabOk_step (tab59_ok pf) (run59 pf)
theorem tab61_ok (pf : Nat × Nat) : TabOk pf tab61 := tabOk_step (tab60_ok pf) (run60 pf)
theorem tab62_ok (pf : Nat × Nat) : TabOk pf tab62 := tabOk_step (tab61_ok pf) (run61 pf)
theorem tab63_ok (pf : Nat × Nat) : TabOk pf tab63 := tabOk_step (tab62_ok pf) (run62 pf)
theorem tab64_ok (pf : Nat × Nat) : TabOk pf tab64 := tabOk_step (tab63_ok pf) (run63 pf)
theorem tab65_ok (pf : Nat × Nat) : TabOk pf tab65 := tabOk_step (tab64_ok pf) (run64 pf)
theorem tab66_ok (pf : Nat × Nat) : TabOk pf tab66 := tabOk_step (tab65_ok pf) (run65 pf)
theorem tab67_ok (pf : Nat × Nat) : TabOk pf tab67 := tabOk_step (tab66_ok pf) (run66 pf)
theorem tab68_ok (pf : Nat × Nat) : TabOk pf tab68 := tabOk_step (tab67_ok pf) (run67 pf)
theorem tab69_ok (pf : Nat × Nat) : TabOk pf tab69 := tabOk_step (tab68_ok pf) (run68 pf)
theorem tab70_ok (pf : Nat × Nat) : TabOk pf tab70 := tabOk_step (tab69_ok pf) (run69 pf)
theorem tab71_ok (pf : Nat × Nat) : TabOk pf tab71 := tabOk_step (tab70_ok pf) (run70 pf)
theorem tab72_ok (pf : Nat × Nat) : TabOk pf tab72 := tabOk_step (tab71_ok pf) (run71 pf)
theorem tab73_ok (pf : Nat × Nat) : TabOk pf tab73 := tabOk_step (tab72_ok pf) (run72 pf)
theorem tab74_ok (pf : Nat × Nat) : TabOk pf tab74 := tabOk_step (tab73_ok pf) (run73 pf)
theorem tab75_ok (pf : Nat × Nat) : TabOk pf tab75 := tabOk_step (tab74_ok pf) (run74 pf)
theorem tab76_ok (pf : Nat × Nat) : TabOk pf tab76 := tabOk_step (tab75_ok pf) (run75 pf)
theorem tab77_ok (pf : Nat × Nat) : TabOk pf tab77 := tabOk_step (tab76_ok pf) (run76 pf)
theorem tab78_ok (pf : Nat × Nat) : TabOk pf tab78 := tabOk_step (tab77_ok pf) (run77 pf)
theorem tab79_ok (pf : Nat × Nat) : TabOk pf tab79 := tabOk_step (tab78_ok pf) (run78 pf)
theorem tab80_ok (pf : Nat × Nat) : TabOk pf tab80 := tabOk_step (tab79_ok pf) (run79 pf)
theorem tab81_ok (pf : Nat × Nat) : TabOk pf tab81 := tabOk_step (tab80_ok pf) (run80 pf)
theorem tab82_ok (pf : Nat × Nat) : TabOk pf tab82 := tabOk_step (tab81_ok pf) (run81 pf)
theorem tab83_ok (pf : Nat × Nat) : TabOk pf tab83 := tabOk_step (tab82_ok pf) (run82 pf)
theorem tab84_ok (pf : Nat × Nat) : TabOk pf tab84 := tabOk_step (tab83_ok pf) (run83 pf)
theorem tab85_ok (pf : Nat × Nat) : TabOk pf tab85 := tabOk_step (tab84_ok pf) (run84 pf)
theorem tab86_ok (pf : Nat × Nat) : TabOk pf tab86 := tabOk_step (tab85_ok pf) (run85 pf)
theorem tab87_ok (pf : Nat × Nat) : TabOk pf tab87 := tabOk_step (tab86_ok pf) (run86 pf)
theorem tab88_ok (pf : Nat × Nat) : TabOk pf tab88 := tabOk_step (tab87_ok pf) (run87 pf)
theorem tab89_ok (pf : Nat × Nat) : TabOk pf tab89 := tabOk_step (tab88_ok pf) (run88 pf)
theorem tab90_ok (pf : Nat × Nat) : TabOk pf tab90 := tabOk_step (tab89_ok pf) (run89 pf)
theorem tab91_ok (pf : Nat × Nat) : TabOk pf tab91 := tabOk_step (tab90_ok pf) (run90 pf)
theorem tab92_ok (pf : Nat × Nat) : TabOk pf tab92 := tabOk_step (tab91_ok pf) (run91 pf)
theorem tab93_ok (pf : Nat × Nat) : TabOk pf tab93 := tabOk_step (tab92_ok pf) (run92 pf)
theorem tab94_ok (pf : Nat × Nat) : TabOk pf tab94 := tabOk_step (tab93_ok pf) (run93 pf)
theorem tab95_ok (pf : Nat × Nat) : TabOk pf tab95 := tabOk_step (tab94_ok pf) (run94 pf)
theorem tab96_ok (pf : Nat × Nat) : TabOk pf tab96 := tabOk_step (tab95_ok pf) (run95 pf)
theorem tab97_ok (pf : Nat × Nat) : TabOk pf tab97 := tabOk_step (tab96_ok pf) (run96 pf)
theorem tab98_ok (pf : Nat × Nat) : TabOk pf tab98 := tabOk_step (tab97_ok pf) (run97 pf)
theorem tab99_ok (pf : Nat × Nat) : TabOk pf tab99 := tabOk_step (tab98_ok pf) (run98 pf)
theorem tab100_ok (pf : Nat × Nat) : TabOk pf tab100 := tabOk_step (tab99_ok pf) (run99 pf)
theorem tab101_ok (pf : Nat × Nat) : TabOk pf tab101 := tabOk_step (tab100_ok pf) (run100 pf)
theorem tab102_ok (pf : Nat × Nat) : TabOk pf tab102 := tabOk_step (tab101_ok pf) (run101 pf)
theorem tab103_ok (pf : Nat × Nat) : TabOk pf tab103 := tabOk_step (tab102_ok pf) (run102 pf)
theorem tab104_ok (pf : Nat × Nat) : TabOk pf tab104 := tabOk_step (tab103_ok pf) (run103 pf)
theorem tab105_ok (pf : Nat × Nat) : TabOk pf tab105 := tabOk_step (tab104_ok pf) (run104 pf)
theorem tab106_ok (pf : Nat × Nat) : TabOk pf tab106 := tabOk_step (tab105_ok pf) (run105 pf)
theorem tab107_ok (pf : Nat × Nat) : TabOk pf tab107 := tabOk_step (tab106_ok pf) (run106 pf)
theorem tab108_ok (pf : Nat × Nat) : TabOk pf tab108 := tabOk_step (tab107_ok pf) (run107 pf)
theorem tab109_ok (pf : Nat × Nat) : TabOk pf tab109 := tabOk_step (tab108_ok pf) (run108 pf)
theorem tab110_ok (pf : Nat × Nat) : TabOk pf tab110 := tabOk_step (tab109_ok pf) (run109 pf)
theorem tab111_ok (pf : Nat × Nat) : TabOk pf tab111 := tabOk_step (tab110_ok pf) (run110 pf)
theorem tab112_ok (pf : Nat × Nat) : TabOk pf tab112 := tabOk_step (tab111_ok pf) (run111 pf)
theorem tab113_ok (pf : Nat × Nat) : TabOk pf tab113 := tabOk_step (tab112_ok pf) (run112 pf)
theorem tab114_ok (pf : Nat × Nat) : TabOk pf tab114 := tabOk_step (tab113_ok pf) (run113 pf)
theorem tab115_ok (pf : Nat × Nat) : TabOk pf tab115 := tabOk_step (tab114_ok pf) (run114 pf)
theorem tab116_ok (pf : Nat × Nat) : TabOk pf tab116 := tabOk_step (tab115_ok pf) (run115 pf)
theorem tab117_ok (pf : Nat × Nat) : TabOk pf tab117 := tabOk_step (tab116_ok pf) (run116 pf)
theorem tab118_ok (pf : Nat × Nat) : TabOk pf tab118 := tabOk_step (tab117_ok pf) (run117 pf)
theorem tab119_ok (pf : Nat × Nat) : TabOk pf tab119 := tabOk_step (tab118_ok pf) (run118 pf)
theorem tab120_ok (pf : Nat × Nat) : TabOk pf tab120 := tabOk_step (tab119_ok pf) (run119 pf)
theorem tab121_ok (pf : Nat × Nat) : TabOk pf tab121 := tabOk_step (tab120_ok pf) (run120 pf)
theorem tab122_ok (pf : Nat × Nat) : TabOk pf tab122 := tabOk_step (tab121_ok pf) (run121 pf)
theorem tab123_ok (pf : Nat × Nat) : TabOk pf tab123 := tabOk_step (tab122_ok pf) (run122 pf)
theorem tab124_ok (pf : Nat × Nat) : TabOk pf tab124 := tabOk_step (tab123_ok pf) (run123 pf)
theorem tab125_ok (pf : Nat × Nat) : TabOk pf tab125 := tabOk_step (tab124_ok pf) (run124 pf)
theorem tab126_ok (pf : Nat × Nat) : TabOk pf tab126 := tabOk_step (tab125_ok pf) (run125 pf)
theorem tab127_ok (pf : Nat × Nat) : TabOk pf tab127 := tabOk_step (tab126_ok pf) (run126 pf)
theorem tab128_ok (pf : Nat × Nat) : TabOk pf tab128 := tabOk_step (tab127_ok pf) (run127 pf)
theorem tab129_ok (pf : Nat × Nat) : TabOk pf tab129 := tabOk_step (tab128_ok pf) (run128 pf)
theorem tab130_ok (pf : Nat × Nat) : TabOk pf tab130 := tabOk_step (tab129_ok pf) (run129 pf)
theorem tab131_ok (pf : Nat × Nat) : TabOk pf tab131 := tabOk_step (tab130_ok pf) (run130 pf)
theorem tab132_ok (pf : Nat × Nat) : TabOk pf tab132 := tabOk_step (tab131_ok pf) (run131 pf)
theorem tab133_ok (pf : Nat × Nat) : TabOk pf tab133 := tabOk_step (tab132_ok pf) (run132 pf)
theorem tab134_ok (pf : Nat × Nat) : TabOk pf tab134 := tabOk_step (tab133_ok pf) (run133 pf)
theorem tab135_ok (pf : Nat × Nat) : TabOk pf tab135 := tabOk_step (tab134_ok pf) (run134 pf)
theorem tab136_ok (pf : Nat × Nat) : TabOk pf tab136 := tabOk_step (tab135_ok pf) (run135 pf)
theorem tab137_ok (pf : Nat × Nat) : TabOk pf tab137 := tabOk_step (tab136_ok pf) (run136 pf)
theorem tab138_ok (pf : Nat × Nat) : TabOk pf tab138 := tabOk_step (tab137_ok pf) (run137 pf)
theorem tab139_ok (pf : Nat × Nat) : TabOk pf tab139 := tabOk_step (tab138_ok pf) (run138 pf)
theorem tab140_ok (pf : Nat × Nat) : TabOk pf tab140 := tabOk_step (tab139_ok pf) (run139 pf)
theorem tab141_ok (pf : Nat × Nat) : TabOk pf tab141 := tabOk_step (tab140_ok pf) (run140 pf)
theorem tab142_ok (pf : Nat × Nat) : TabOk pf tab142 := tabOk_step (tab141_ok pf) (run141 pf)
theorem tab143_ok (pf : Nat × Nat) : TabOk pf tab143 := tabOk_step (tab142_ok pf) (run142 pf)
theorem tab144_ok (pf : Nat × Nat) : TabOk pf tab144 := tabOk_step (tab143_ok pf) (run143 pf)
theorem tab145_ok (pf : Nat × Nat) : TabOk pf tab145 := tabOk_step (tab144_ok pf) (run144 pf)
theorem tab146_ok (pf : Nat × Nat) : TabOk pf tab146 := tabOk_step (tab145_ok pf) (run145 pf)
theorem tab147_ok (pf : Nat × Nat) : TabOk pf tab147 := tabOk_step (tab146_ok pf) (run146 pf)
theorem tab148_ok (pf : Nat × Nat) : TabOk pf tab148 := tabOk_step (tab147_ok pf) (run147 pf)
end Go.Proofs.YtdifpleoipjjfaaGreatDoor
/- The example of layer 49: head answers true, in every world where the table of the powers of ten stands. -/
namespace Go.Proofs.YtdifpleoipjjfaaGreatDoor
open Go Go.Refl Go.RowKit

theorem head_run (pf : Nat × Nat) : closedRun pf tab148 4 [] (.bool true) = true := by kernel_rfl

theorem head_calls {w : World} (hw : PowIn w) : Calls Tryz.prog 4 #[] w fun e w' => e = .returned (.bool true) ∧ Below w.heap.size w w' := by
  refine (closed_call tab148_ok head_run hw (args' := #[]) (VL.nil _) (Tryz.call4 _ w)).mono ?_
  rintro e w' ⟨⟨ρ', x, rfl, hx⟩, hb⟩
  cases hx
  exact ⟨rfl, hb⟩
end Go.Proofs.YtdifpleoipjjfaaGreatDoor
/- A memo that is nil: what Screen and Work answer, and that two zero screenings are the same. -/
namespace Go.Proofs.YtdifpleoipjjfaaGreatDoor
open Go Go.Refl Go.RowKit

def zeroScreeningA : AV := .agg ty53.zero
theorem same_run (pf : Nat × Nat) : closedRun pf .lf 7 [zeroScreeningA, zeroScreeningA] (.bool true) = true := by kernel_rfl
theorem work_run (pf : Nat × Nat) : closedRun pf .lf 8 [.nilp] (.int .i64 0) = true := by kernel_rfl
def zeroScreening : Value := .agg #[.string ⟨#[]⟩, .int .i64 0, .int .i64 0, .slice none 0 0, .slice none 0 0, .int .i64 0, .slice none 0 0, .slice none 0 0, .slice none 0 0]

theorem work_calls {w : World} (hw : PowIn w) : Calls Tryz.prog 8 #[.pointer none] w fun e w' => e = .returned (.int .i64 0) ∧ Below w.heap.size w w' := by
  refine (closed_call (fun pf => tabOk_lf pf) work_run hw (args' := #[.pointer none]) (VL.cons .nilp (VL.nil _)) (Tryz.call8 _ w)).mono ?_
  rintro e w' ⟨⟨ρ', x, rfl, hx⟩, hb⟩
  cases hx
  exact ⟨rfl, hb⟩

theorem same_calls {w : World} (hw : PowIn w) : Calls Tryz.prog 7 #[zeroScreening, zeroScreening] w fun e w' => e = .returned (.bool true) ∧ Below w.heap.size w w' := by
  have hz : VR rho9 zeroScreeningA zeroScreening := ofValue_sound rho9 (by kernel_rfl)
  refine (closed_call (fun pf => tabOk_lf pf) same_run hw (args' := #[zeroScreening, zeroScreening]) (VL.cons hz (VL.cons hz (VL.nil _))) (Tryz.call7 _ w)).mono ?_
  rintro e w' ⟨⟨ρ', x, rfl, hx⟩, hb⟩
  cases hx
  exact ⟨rfl, hb⟩

set_option maxHeartbeats 1000000 in
set_option maxRecDepth 100000 in
theorem screen_nil (l s a : Value) (ct : Array Value) (w : World) : Calls Tryz.prog 6 #[.pointer none, l, .agg ct, s, a] w fun e w' => e = .returned (.tuple #[zeroScreening, .int .i64 1]) ∧ Below w.heap.size w w' := by
  have mixed := mixedOk
  go_enter Tryz.func6, Tryz.ntmps6
  go_wp2
  all_goals (go_returns; first | exact ⟨rfl, ((Below.refl _ w).alloc (Nat.le_refl _) _).alloc (by show w.heap.size ≤ (w.heap.push _).size; rw [Array.size_push]; omega) _⟩ | trace_state)
end Go.Proofs.YtdifpleoipjjfaaGreatDoor
