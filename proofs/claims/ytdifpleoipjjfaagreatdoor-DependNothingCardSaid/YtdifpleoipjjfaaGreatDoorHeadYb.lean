/- The listed tables as they are laid in a start, one by one. -/
import Derived.Test.YtdifpleoipjjfaaGreatDoorHeadYa
import Derived.Test.YtdifpleoipjjfaaGreatDoorRows
namespace Go.Proofs.YtdifpleoipjjfaaGreatDoor
open Go

theorem pair_eta {α β : Type} {o : Option (α × β)} {p : α × β} (h : o = some p) : o = some (p.1, p.2) := h
theorem some_getD {α : Type} {o : Option α} (d : α) (h : o.isSome = true) : o = some (o.getD d) := by
  cases o with
  | none => cases h
  | some a => rfl
theorem sentinel_lay {P : Program} {t u n : Nat} {name : String} {d : DataW Unit} {x : List Value × List Obj} {v : Value} {ms : Array (String × TypeId)} (hu : P.underlying t = some (.interface ms))
    (hf : ((List.range P.types.size).find? fun u => P.typeName? 3 u == some name) = some u) (hx : d.lay P u n = some x) (hp : Lay.pack P u x.1 = some v) : (DataW.iface name d).lay P t n = some ([.iface u v], x.2) := by
  simp only [DataW.lay, hu, hf, hx, hp]

noncomputable def lay0 : List Value × List Obj := (Rows.laid_unicode_utf8_first.lay Tryz.prog 741 14).getD ([], [])
noncomputable def lay1 : List Value × List Obj := ((Rows.laid_unicode_utf8_acceptRanges : DataW Unit).lay Tryz.prog 744 14).getD ([], [])
noncomputable def lay2 : List Value × List Obj := (Rows.laid_unicode_CaseRanges.lay Tryz.prog 767 14).getD ([], [])
noncomputable def lay5 : List Value × List Obj := ((Rows.laid_internal_strconv_uint64pow10 : DataW Unit).lay Tryz.prog 738 17).getD ([], [])
noncomputable def lay6 : List Value × List Obj := ((Rows.laid_math_bits_deBruijn32tab : DataW Unit).lay Tryz.prog 771 17).getD ([], [])
noncomputable def lay7 : List Value × List Obj := ((Rows.laid_math_bits_deBruijn64tab : DataW Unit).lay Tryz.prog 772 17).getD ([], [])
theorem lay0_eq : Rows.laid_unicode_utf8_first.lay Tryz.prog 741 14 = some lay0 := some_getD _ (by kernel_rfl)
theorem lay1_eq : (Rows.laid_unicode_utf8_acceptRanges : DataW Unit).lay Tryz.prog 744 14 = some lay1 := some_getD _ (by kernel_rfl)
theorem lay2_eq : Rows.laid_unicode_CaseRanges.lay Tryz.prog 767 14 = some lay2 := some_getD _ (by kernel_rfl)
theorem lay5_eq : (Rows.laid_internal_strconv_uint64pow10 : DataW Unit).lay Tryz.prog 738 17 = some lay5 := some_getD _ (by kernel_rfl)
theorem lay6_eq : (Rows.laid_math_bits_deBruijn32tab : DataW Unit).lay Tryz.prog 771 17 = some lay6 := some_getD _ (by kernel_rfl)
theorem lay7_eq : (Rows.laid_math_bits_deBruijn64tab : DataW Unit).lay Tryz.prog 772 17 = some lay7 := some_getD _ (by kernel_rfl)

def synD : DataW Unit := .ptr (.agg [.lit (.string [105, 110, 118, 97, 108, 105, 100, 32, 115, 121, 110, 116, 97, 120])])
def rngD : DataW Unit := .ptr (.agg [.lit (.string [118, 97, 108, 117, 101, 32, 111, 117, 116, 32, 111, 102, 32, 114, 97, 110, 103, 101])])
noncomputable def lay3 : List Value × List Obj := (synD.lay Tryz.prog 751 15).getD ([], [])
noncomputable def lay4 : List Value × List Obj := (rngD.lay Tryz.prog 751 16).getD ([], [])
theorem lay3_in : synD.lay Tryz.prog 751 15 = some lay3 := some_getD _ (by kernel_rfl)
theorem lay4_in : rngD.lay Tryz.prog 751 16 = some lay4 := some_getD _ (by kernel_rfl)
theorem lay3_eq : (Rows.laid_strconv_ErrSyntax : DataW Unit).lay Tryz.prog 375 15 = some ([.iface 751 (.pointer (some ⟨15, 0, none⟩))], lay3.2) :=
  sentinel_lay Tryz.underlying375 findErr lay3_in (by kernel_rfl)
theorem lay4_eq : (Rows.laid_strconv_ErrRange : DataW Unit).lay Tryz.prog 375 16 = some ([.iface 751 (.pointer (some ⟨16, 0, none⟩))], lay4.2) :=
  sentinel_lay Tryz.underlying375 findErr lay4_in (by kernel_rfl)

theorem lens : lay0.2.length = 0 ∧ lay1.2.length = 0 ∧ lay2.2.length = 1 ∧ lay3.2.length = 1 ∧ lay4.2.length = 1 ∧ lay5.2.length = 0 ∧ lay6.2.length = 0 ∧ lay7.2.length = 0 :=
  ⟨by kernel_rfl, by kernel_rfl, by kernel_rfl, by kernel_rfl, by kernel_rfl, by kernel_rfl, by kernel_rfl, by kernel_rfl⟩

noncomputable def laidRows : List (Nat × List Value) := [(4, lay0.1), (5, lay1.1), (6, lay2.1), (1, [.iface 751 (.pointer (some ⟨15, 0, none⟩))]), (2, [.iface 751 (.pointer (some ⟨16, 0, none⟩))]), (3, lay5.1), (7, lay6.1), (8, lay7.1)]
noncomputable def laidObjs : List Obj := lay0.2 ++ (lay1.2 ++ (lay2.2 ++ (lay3.2 ++ (lay4.2 ++ (lay5.2 ++ (lay6.2 ++ (lay7.2 ++ [])))))))

theorem list_step {P : Program} {n g k m : Nat} {gl : Global} {name : String} {d : DataW Unit} {r : List (String × DataW Unit)} {y : List Value} {o : List Obj} {za : List (Nat × List Value)} {zb : List Obj}
    (hg : P.globalNamed name = some g) (hgl : P.globals[g]? = some gl) (hy : d.lay P gl.type n = some (y, o)) (hk : o.length = k) (hm : n + k = m) (hz : Lay.layList P m r = some (za, zb)) :
    Lay.layList P n ((name, d) :: r) = some ((g, y) :: za, o ++ zb) := by
  subst hk; subst hm
  simp only [Lay.layList, hg, hgl, hy, hz]

theorem glob0 : Tryz.prog.globals[4]? = some ⟨ "unicode/utf8.first", 741, none⟩ := by kernel_rfl
theorem glob1 : Tryz.prog.globals[5]? = some ⟨ "unicode/utf8.acceptRanges", 744, none⟩ := by kernel_rfl
theorem glob2 : Tryz.prog.globals[6]? = some ⟨ "unicode.CaseRanges", 767, none⟩ := by kernel_rfl
theorem glob3 : Tryz.prog.globals[1]? = some ⟨ "strconv.ErrSyntax", 375, none⟩ := by kernel_rfl
theorem glob4 : Tryz.prog.globals[2]? = some ⟨ "strconv.ErrRange", 375, none⟩ := by kernel_rfl
theorem glob5 : Tryz.prog.globals[3]? = some ⟨ "internal/strconv.uint64pow10", 738, none⟩ := by kernel_rfl
theorem glob6 : Tryz.prog.globals[7]? = some ⟨ "math/bits.deBruijn32tab", 771, none⟩ := by kernel_rfl
theorem glob7 : Tryz.prog.globals[8]? = some ⟨ "math/bits.deBruijn64tab", 772, none⟩ := by kernel_rfl
theorem name0 : Tryz.prog.globalNamed "unicode/utf8.first" = some 4 := by kernel_rfl
theorem name1 : Tryz.prog.globalNamed "unicode/utf8.acceptRanges" = some 5 := by kernel_rfl
theorem name2 : Tryz.prog.globalNamed "unicode.CaseRanges" = some 6 := by kernel_rfl
theorem name3 : Tryz.prog.globalNamed "strconv.ErrSyntax" = some 1 := by kernel_rfl
theorem name4 : Tryz.prog.globalNamed "strconv.ErrRange" = some 2 := by kernel_rfl
theorem name5 : Tryz.prog.globalNamed "internal/strconv.uint64pow10" = some 3 := by kernel_rfl
theorem name6 : Tryz.prog.globalNamed "math/bits.deBruijn32tab" = some 7 := by kernel_rfl
theorem name7 : Tryz.prog.globalNamed "math/bits.deBruijn64tab" = some 8 := by kernel_rfl

theorem list7 : Lay.layList Tryz.prog 17 [("math/bits.deBruijn64tab", (Rows.laid_math_bits_deBruijn64tab : DataW Unit))] = some ([(8, lay7.1)], lay7.2 ++ []) := list_step name7 glob7 (pair_eta lay7_eq) lens.2.2.2.2.2.2.2 rfl rfl
theorem list6 : Lay.layList Tryz.prog 17 [("math/bits.deBruijn32tab", (Rows.laid_math_bits_deBruijn32tab : DataW Unit)), ("math/bits.deBruijn64tab", Rows.laid_math_bits_deBruijn64tab)] = some ([(7, lay6.1), (8, lay7.1)], lay6.2 ++ (lay7.2 ++ [])) :=
  list_step name6 glob6 (pair_eta lay6_eq) lens.2.2.2.2.2.2.1 rfl list7
theorem list5 : Lay.layList Tryz.prog 17 [("internal/strconv.uint64pow10", (Rows.laid_internal_strconv_uint64pow10 : DataW Unit)), ("math/bits.deBruijn32tab", Rows.laid_math_bits_deBruijn32tab), ("math/bits.deBruijn64tab", Rows.laid_math_bits_deBruijn64tab)] = some ([(3, lay5.1), (7, lay6.1), (8, lay7.1)], lay5.2 ++ (lay6.2 ++ (lay7.2 ++ []))) :=
  list_step name5 glob5 (pair_eta lay5_eq) lens.2.2.2.2.2.1 rfl list6
theorem list4 : Lay.layList Tryz.prog 16 [("strconv.ErrRange", (Rows.laid_strconv_ErrRange : DataW Unit)), ("internal/strconv.uint64pow10", Rows.laid_internal_strconv_uint64pow10), ("math/bits.deBruijn32tab", Rows.laid_math_bits_deBruijn32tab), ("math/bits.deBruijn64tab", Rows.laid_math_bits_deBruijn64tab)] =
    some ([(2, [.iface 751 (.pointer (some ⟨16, 0, none⟩))]), (3, lay5.1), (7, lay6.1), (8, lay7.1)], lay4.2 ++ (lay5.2 ++ (lay6.2 ++ (lay7.2 ++ [])))) :=
  list_step name4 glob4 lay4_eq lens.2.2.2.2.1 rfl list5
theorem list3 : Lay.layList Tryz.prog 15 [("strconv.ErrSyntax", (Rows.laid_strconv_ErrSyntax : DataW Unit)), ("strconv.ErrRange", Rows.laid_strconv_ErrRange), ("internal/strconv.uint64pow10", Rows.laid_internal_strconv_uint64pow10), ("math/bits.deBruijn32tab", Rows.laid_math_bits_deBruijn32tab), ("math/bits.deBruijn64tab", Rows.laid_math_bits_deBruijn64tab)] =
    some ([(1, [.iface 751 (.pointer (some ⟨15, 0, none⟩))]), (2, [.iface 751 (.pointer (some ⟨16, 0, none⟩))]), (3, lay5.1), (7, lay6.1), (8, lay7.1)], lay3.2 ++ (lay4.2 ++ (lay5.2 ++ (lay6.2 ++ (lay7.2 ++ []))))) :=
  list_step name3 glob3 lay3_eq lens.2.2.2.1 rfl list4
theorem list_eq : Lay.layList Tryz.prog 14 Rows.dependNothingRow.laid = some (laidRows, laidObjs) := by
  show Lay.layList Tryz.prog 14 (("unicode/utf8.first", Rows.laid_unicode_utf8_first) :: ("unicode/utf8.acceptRanges", Rows.laid_unicode_utf8_acceptRanges) :: ("unicode.CaseRanges", Rows.laid_unicode_CaseRanges) :: [("strconv.ErrSyntax", (Rows.laid_strconv_ErrSyntax : DataW Unit)), ("strconv.ErrRange", Rows.laid_strconv_ErrRange), ("internal/strconv.uint64pow10", Rows.laid_internal_strconv_uint64pow10), ("math/bits.deBruijn32tab", Rows.laid_math_bits_deBruijn32tab), ("math/bits.deBruijn64tab", Rows.laid_math_bits_deBruijn64tab)]) = _
  unfold laidRows laidObjs
  exact list_step name0 glob0 (pair_eta lay0_eq) lens.1 rfl (list_step name1 glob1 (pair_eta lay1_eq) lens.2.1 rfl (list_step name2 glob2 (pair_eta lay2_eq) lens.2.2.1 rfl list3))
end Go.Proofs.YtdifpleoipjjfaaGreatDoor
