/- The evaluator is sound: quiet operations and allocations. -/
import Derived.Test.YtdifpleoipjjfaaGreatDoorReflTwo
import Derived.Laws.BytesString
import Derived.Laws.BytesArg
namespace Go.Refl
open Go

section
variable {P : Program} {E : Env} {h : Hp} {ρ : Rho} {w : World} {t : Tr AV} {a : Act}

theorem blt_lt {i n : Nat} (h : Nat.blt i n = true) : i < n := by simpa [Nat.blt_eq] using h

theorem qIndexAddr_sound (hE : EnvOk P E) {ty : Nat} {ti : TI} (hty : E.ty ty = some ti) {x r : AV} {i : Nat} {v : Value} {k : IntKind}
    (hx : VR ρ x v) (hq : qIndexAddr E ti x i = some r) : ∃ u, VR ρ r u ∧ (Instr.indexAt ty v (.int k i)).run P w = .ok u w := by
  obtain ⟨d, hu, hd, hrun⟩ := ty_under hE hty w
  unfold qIndexAddr at hq
  split at hq
  · rename_i n e b off hdd
    rw [hdd] at hd; simp only [TDOk] at hd; subst hd
    split at hq
    · cases hq
    · rename_i te hte
      split at hq
      · rename_i hlt
        have hlt := blt_lt hlt
        cases hq
        cases hx with
        | ptr _ _ l hl =>
          refine ⟨_, .ptr _ _ l hl, ?_⟩
          simp only [Instr.indexAt, Sem.run_bind, asIntOf_run, Result.andThen_ok, hrun, Instr.sureAddr, Sem.run_pure]
          rw [if_pos (by omega)]
          simp [ty_size hE hte w, addr_add, Nat.add_assoc]
      · cases hq
  · rename_i e b off len cap hdd
    rw [hdd] at hd; simp only [TDOk] at hd; subst hd
    split at hq
    · cases hq
    · rename_i te hte
      split at hq
      · rename_i hlt
        have hlt := blt_lt hlt
        cases hq
        have key : ∀ (l : Loc) (c : Nat), ρ b = some l → ∃ u, VR ρ (.ptr b (off + i * te.size)) u ∧ (Instr.indexAt ty (.slice (some ⟨l.blk, l.sh + off, none⟩) len c) (.int k i)).run P w = .ok u w := by
          intro l c hl
          refine ⟨_, .ptr _ _ l hl, ?_⟩
          simp only [Instr.indexAt, Sem.run_bind, asIntOf_run, Result.andThen_ok, hrun, Sem.run_pure]
          rw [if_pos (by omega)]
          simp [ty_size hE hte w, addr_add, Nat.add_assoc]
        cases hx with
        | slx _ _ _ _ l hl _ => exact key l _ hl
        | slo _ _ _ _ c l hl _ _ => exact key l _ hl
      · cases hq
  · cases hq

theorem qIndex_sound (hE : EnvOk P E) {ty : Nat} {ti : TI} (hty : E.ty ty = some ti) {x r : AV} {i : Nat} {v : Value} {k : IntKind}
    (hx : VR ρ x v) (hq : qIndex E ti x i = some r) : ∃ u, VR ρ r u ∧ (Instr.index ty v (.int k i)).run P w = .ok u w := by
  obtain ⟨d, hu, hd, hrun⟩ := ty_under hE hty w
  unfold qIndex at hq
  split at hq
  · rename_i s hdd
    rw [hdd] at hd; simp only [TDOk] at hd; subst hd
    split at hq
    · rename_i n hn
      cases hq
      cases hx with
      | str _ b hb =>
        rw [getAt_eq, ← hb, List.getElem?_map] at hn
        cases hc : b.data.toList[i]? with
        | none => rw [hc] at hn; simp at hn
        | some c =>
          rw [hc] at hn; simp at hn; subst hn
          have hi : i < b.size := by
            have := (List.getElem?_eq_some_iff.1 hc).1
            rw [Array.length_toList] at this
            exact this
          have hg : b[i]? = some c := by
            rw [getElem?_pos b i hi]
            have : b.data.toList[i]? = some b[i] := by
              rw [Array.getElem?_toList]
              rw [getElem?_pos b.data i hi]; rfl
            rw [this] at hc; exact hc
          refine ⟨_, .int _ _, ?_⟩
          simp only [Instr.index, Sem.run_bind, asIntOf_run, Result.andThen_ok, hrun]
          rw [if_pos (by omega)]
          simp [hg]
    · cases hq
  · rename_i n e cs hdd
    rw [hdd] at hd; simp only [TDOk] at hd; subst hd
    split at hq
    · cases hq
    · rename_i te hte
      split at hq
      · rename_i hlt
        have hlt := blt_lt hlt
        obtain ⟨vs, rfl, hvs⟩ := VR.agg_iff.1 hx
        obtain ⟨u, h1, h2⟩ := partV_sound hE hte hvs hq w
        refine ⟨u, h1, ?_⟩
        simp only [Instr.index, Sem.run_bind, asIntOf_run, Result.andThen_ok, hrun]
        rw [if_pos (by omega)]
        simp [ty_size hE hte w, h2]
      · cases hq
  · cases hq

theorem strOf_sound : ∀ {cs : List AV} {s : List Nat} {vs : List Value}, strOf cs = some s → VL ρ cs vs → ∃ bs : List UInt8, vs = bs.map (fun b => Value.int .u8 b.toNat) ∧ bs.map UInt8.toNat = s
  | [], s, vs, h, hv => by
    have := VL.nil_iff.1 hv; subst this
    simp [strOf] at h; subst h
    exact ⟨[], rfl, rfl⟩
  | c :: cs, s, vs, h, hv => by
    obtain ⟨y, ys, rfl, h1, h2⟩ := VL.cons_iff.1 hv
    simp only [strOf] at h
    split at h
    · rename_i n
      split at h
      · rename_i hn
        have hn := blt_lt hn
        split at h
        · rename_i l hl
          cases h
          obtain ⟨bs, e1, e2⟩ := strOf_sound hl h2
          cases h1
          refine ⟨UInt8.ofNat n :: bs, ?_, ?_⟩
          · simp [e1, UInt8.toNat_ofNat', Nat.mod_eq_of_lt hn]
          · simp [e2, UInt8.toNat_ofNat', Nat.mod_eq_of_lt hn]
        · cases h
      · cases h
    · cases h

theorem conv_bytes (hE : EnvOk P E) {ts td e : Nat} {si di ei : TI} (hs : E.ty ts = some si) (hd : E.ty td = some di) (he : E.ty e = some ei) (h1 : si.d = .slice e) (h2 : di.d = .string) (h3 : ei.d = .int .u8)
    (ad : Option Addr) (l c : Nat) : (Go.convert ts td (.slice ad l c)).run P w = (Conv.bytesToString (.slice ad l c)).run P w := by
  obtain ⟨d1, u1, k1, _⟩ := ty_under hE hs w
  obtain ⟨d2, u2, k2, _⟩ := ty_under hE hd w
  obtain ⟨d3, u3, k3, _⟩ := ty_under hE he w
  rw [h1] at k1; rw [h2] at k2; rw [h3] at k3
  simp only [TDOk] at k1 k2 k3
  subst k1; subst k2; subst k3
  exact run_convert_bytes_string w ts td e ad l c u1 u3 u2

theorem qConvert_sound (hE : EnvOk P E) (hr : HR E h ρ w) {ts td : Nat} {si di : TI} (hs : E.ty ts = some si) (hd : E.ty td = some di) {x r : AV} {v : Value}
    (hx : VR ρ x v) (hq : qConvert E h si di x = some r) : ∃ u, VR ρ r u ∧ (Go.convert ts td v).run P w = .ok u w := by
  obtain ⟨d1, u1, k1, r1⟩ := ty_under hE hs w
  obtain ⟨d2, u2, k2, r2⟩ := ty_under hE hd w
  unfold qConvert at hq
  split at hq
  · rename_i k k' n hdd
    rw [hdd] at k2; simp only [TDOk] at k2; subst k2
    cases hq
    cases hx
    refine ⟨_, .int _ _, ?_⟩
    simp only [Go.convert, Sem.run_bind, r1, r2, Result.andThen_ok]
    simp [Conv.intToInt, wrapF_eq]
  · rename_i hdd
    rw [hdd] at k2; simp only [TDOk] at k2; subst k2
    split at hq
    · rename_i hss
      rw [hss] at k1; simp only [TDOk] at k1; subst k1
      split at hq
      · cases hq
        cases hx with
        | str _ b hb =>
          refine ⟨_, .str _ _ hb, ?_⟩
          simp only [Go.convert, Sem.run_bind, r1, r2, Result.andThen_ok, Sem.run_pure]
      · cases hq
    · rename_i e hss
      split at hq
      · rename_i ei hei
        split at hq
        · cases hq
          cases hx
          refine ⟨.string .empty, .str _ _ rfl, ?_⟩
          rw [conv_bytes hE hs hd hei hss hdd rfl]
          simp [Conv.bytesToString]
        · rename_i b o len cap
          split at hq
          · rename_i cs hcs
            split at hq
            · rename_i s hstr
              cases hq
              have key : ∀ (l : Loc) (c : Nat), ρ b = some l → ∃ u, VR ρ (.str s) u ∧ (Go.convert ts td (.slice (some ⟨l.blk, l.sh + o, none⟩) len c)).run P w = .ok u w := by
                intro l c hl
                obtain ⟨vs, g1, g2, _⟩ := loadN_sound (P := P) hr hcs hl
                obtain ⟨bs, e1, e2⟩ := strOf_sound hstr g1
                refine ⟨.string ⟨bs.toArray⟩, .str _ _ (by simpa using e2), ?_⟩
                rw [conv_bytes hE hs hd hei hss hdd rfl]
                have hns : vs = (bs.map fun b => (b.toNat : Int)).map (Value.int .u8) := by rw [e1, List.map_map]; rfl
                rw [run_bytesToString w _ len c (bs.map fun b => (b.toNat : Int)) (by rw [← hns]; exact g2), foldl_push_bytes]
                have hid : ∀ b : UInt8, UInt8.ofNat ((b.toNat : Int).toNat) = b := by intro b; simp
                simp [Function.comp_def, ByteArray.empty, ByteArray.emptyWithCapacity]
                rfl
              cases hx with
              | slx _ _ _ _ l hl _ => exact key l _ hl
              | slo _ _ _ _ c l hl _ _ => exact key l _ hl
            · cases hq
          · cases hq
        · cases hq
      · cases hq
    · cases hq
  · cases hq

theorem places_struct (hE : EnvOk P E) : ∀ {fs : List Field}, (∀ f ∈ fs, ∃ i, P.info? f.type = some i) →
    ∃ qs : List (Nat × Nat), (fs.mapM (fun f => do pure (f.offset, ← sizeOf f.type)) : Sem (List (Nat × Nat))).run P w = .ok qs w ∧
      ∀ i p, placeF E (fs.map fun f => (f.offset, f.type)) i = some p → qs[i]? = some p
  | [], _ => ⟨[], by simp, fun i p h => by simp [placeF, getAt] at h⟩
  | f :: fs, h => by
    obtain ⟨i0, hi0⟩ := h f (by simp)
    obtain ⟨qs, h1, h2⟩ := places_struct hE (fs := fs) (fun g hg => h g (by simp [hg]))
    refine ⟨(f.offset, i0.size) :: qs, ?_, fun i p hp => ?_⟩
    · have hs : (sizeOf f.type).run P w = .ok i0.size w := by simp [sizeOf, typeInfo, hi0]
      simp only [List.mapM_cons, Sem.run_bind, hs, Result.andThen_ok, Sem.run_pure]
      rw [h1]
      rfl
    · cases i with
      | zero =>
        simp only [placeF, List.map_cons, getAt] at hp
        split at hp
        · rename_i ti hti
          cases hp
          obtain ⟨i1, z, g1, g2, _⟩ := (hE.ty _ ti hti).info
          rw [hi0] at g1; cases g1
          simp [g2]
        · cases hp
      | succ i =>
        have : placeF E (fs.map fun f => (f.offset, f.type)) i = some p := by
          simpa [placeF, List.map_cons, getAt] using hp
        simpa using h2 i p this

theorem fillL_place {p q : Nat → Option (Nat × Nat)} (h : ∀ i x, p i = some x → q i = some x) : ∀ {vs : List (Nat × AV)} {cells r : List AV}, fillL p cells vs = some r → fillL q cells vs = some r
  | [], cells, r, hh => hh
  | (i, v) :: vs, cells, r, hh => by
    simp only [fillL] at hh ⊢
    split at hh
    · cases hh
    · rename_i off size hp
      simp only [h i _ hp]
      revert hh
      cases Nat.beq (cellsOf v).length size with
      | false => exact fun hh => hh
      | true =>
        cases Nat.ble (off + size) cells.length with
        | false => exact fun hh => hh
        | true => exact fun hh => fillL_place h hh

theorem qBuild_sound (hE : EnvOk P E) (hr : HR E h ρ w) (ht : TR ρ t a.tmps) {ty : Nat} {ti : TI} (hty : E.ty ty = some ti) {ps : Array (Nat × Operand)} {vs : List (Nat × AV)} {r : AV}
    (hps : partsL E t ps.toList = some vs) (hq : qBuild E ti vs = some r) : ∃ u, VR ρ r u ∧ (Instr.build ty (ps.map fun (i, x) => (i, a.eval x))).run P w = .ok u w := by
  obtain ⟨d, hu, hd, hrun⟩ := ty_under hE hty w
  obtain ⟨z, hz, hz'⟩ := ty_zero hE hty w
  obtain ⟨hl, hp⟩ := partsL_sound hr ht hps
  have hus : (ps.map fun (i, x) => (i, a.eval x)).toList.length = vs.length ∧ ∀ (i : Nat) x p, vs[i]? = some x → (ps.map fun (i, x) => (i, a.eval x)).toList[i]? = some p → x.1 = p.1 ∧ VR ρ x.2 p.2 := by
    refine ⟨by simp; simpa using hl.symm, fun i x p hx hpp => ?_⟩
    rw [Array.toList_map, List.getElem?_map] at hpp
    cases hc : ps.toList[i]? with
    | none => rw [hc] at hpp; simp at hpp
    | some q =>
      rw [hc] at hpp; simp at hpp; subst hpp
      exact hp i x q hx hc
  unfold qBuild at hq
  split at hq
  · rename_i fs hdd
    rw [hdd] at hd; simp only [TDOk] at hd
    obtain ⟨f, rfl, rfl⟩ := hd
    split at hq
    · rename_i l hf
      cases hq
      obtain ⟨qs, g1, g2⟩ := places_struct (w := w) hE (fs := f.toList) (fun g hg => (hE.ty ty ti hty).parts f hu g (by simpa using hg))
      have hf' := fillL_place (q := fun i => qs.toArray[i]?) (fun i p hp => by simpa using g2 i p hp) hf
      obtain ⟨cs', k1, k2⟩ := fill_sound (ρ := ρ) hf' (hz' ρ) hus
      refine ⟨.agg cs', VR.agg_iff.2 ⟨_, rfl, k2⟩, ?_⟩
      simp only [Instr.build, Sem.run_bind, hz, hrun, Result.andThen_ok, Array.mapM_eq_mapM_toList, Sem.run_map, g1]
      rw [k1]
      rfl
    · cases hq
  · rename_i n e hdd
    rw [hdd] at hd; simp only [TDOk] at hd; subst hd
    split at hq
    · rename_i te hte
      split at hq
      · rename_i l hf
        cases hq
        obtain ⟨cs', k1, k2⟩ := fill_sound (ρ := ρ) hf (hz' ρ) hus
        refine ⟨.agg cs', VR.agg_iff.2 ⟨_, rfl, k2⟩, ?_⟩
        simp only [Instr.build, Sem.run_bind, hz, hrun, Result.andThen_ok, ty_size hE hte w]
        have : (fun i => some (i * te.size, te.size)) = placeA te.size := rfl
        rw [this, k1]
        rfl
      · cases hq
    · cases hq
  · cases hq

theorem qLen_sound (hE : EnvOk P E) (hr : HR E h ρ w) {ty rt : Nat} {ti : TI} (hty : E.ty ty = some ti) {x r : AV} {v : Value} (hx : VR ρ x v) (hq : qLen h ti.d x = some r) :
    ∃ u, VR ρ r u ∧ (Builtin.len_ #[ty] rt #[v]).run P w = .ok u w := by
  obtain ⟨d, hu, hd, hrun⟩ := ty_under hE hty w
  unfold qLen at hq
  split at hq
  all_goals (try (cases hq; done))
  all_goals (rename_i hdd; rw [hdd] at hd; simp only [TDOk] at hd; subst hd)
  · cases hq
    cases hx with
    | str _ b hb =>
      refine ⟨_, .int _ _, ?_⟩
      have : b.size = (b.data.toList.map UInt8.toNat).length := by rw [List.length_map, Array.length_toList]; rfl
      subst hb
      simp only [Builtin.len_, List.getElem?_toArray, List.getElem?_cons_zero, Sem.run_bind, hrun, Result.andThen_ok, Sem.run_pure, this]
      rfl
  · cases hq
    cases hx with
    | slx _ _ _ _ l hl _ => exact ⟨_, .int _ _, by simp [Builtin.len_, hrun, goInt]⟩
    | slo _ _ _ _ c l hl _ _ => exact ⟨_, .int _ _, by simp [Builtin.len_, hrun, goInt]⟩
  · cases hq; cases hx; exact ⟨_, .int _ _, by simp [Builtin.len_, hrun, goInt]⟩
  · cases hq; cases hx; exact ⟨_, .int _ _, by simp [Builtin.len_, hrun, goInt]⟩
  · cases hq; exact ⟨_, .int _ _, by simp [Builtin.len_, hrun, goInt]⟩
  · cases hq; cases hx; exact ⟨_, .int _ _, by simp [Builtin.len_, hrun, goInt]⟩
  · split at hq
    · rename_i es clock hg
      cases hq
      cases hx with
      | mp _ l hl =>
        obtain ⟨l', es', h1, h2, h3⟩ := map_sound hr hg
        rw [hl] at h1; cases h1
        have hg' := run_getObj (P := P) h2 (by simp)
        refine ⟨_, .int _ _, ?_⟩
        have e := h3.1
        simp only [Array.length_toList] at e
        simp [Builtin.len_, hrun, hg', goInt, e]
    · cases hq

theorem qCap_sound (hE : EnvOk P E) {ty rt : Nat} {ti : TI} (hty : E.ty ty = some ti) {x r : AV} {v : Value} (hx : VR ρ x v) (hq : qCap ti.d x = some r) :
    ∃ u, VR ρ r u ∧ (Builtin.cap_ #[ty] rt #[v]).run P w = .ok u w := by
  obtain ⟨d, hu, hd, hrun⟩ := ty_under hE hty w
  unfold qCap at hq
  split at hq
  all_goals (try (cases hq; done))
  all_goals (rename_i hdd; rw [hdd] at hd; simp only [TDOk] at hd; subst hd)
  · cases hq
    cases hx with
    | slx _ _ _ _ l hl _ => exact ⟨_, .int _ _, by simp [Builtin.cap_, hrun, goInt]⟩
  · cases hq; cases hx; exact ⟨_, .int _ _, by simp [Builtin.cap_, hrun, goInt]⟩

theorem VL.one {x : AV} {vs : List Value} (h : VL ρ [x] vs) : ∃ v, vs = [v] ∧ VR ρ x v := by
  obtain ⟨y, ys, rfl, h1, h2⟩ := VL.cons_iff.1 h
  have := VL.nil_iff.1 h2; subst this
  exact ⟨y, rfl, h1⟩
theorem VL.two {x y : AV} {vs : List Value} (h : VL ρ [x, y] vs) : ∃ u v, vs = [u, v] ∧ VR ρ x u ∧ VR ρ y v := by
  obtain ⟨u, us, rfl, h1, h2⟩ := VL.cons_iff.1 h
  obtain ⟨v, rfl, h3⟩ := VL.one h2
  exact ⟨u, v, rfl, h1, h3⟩

theorem ite_dec {α : Type} (p : Prop) [Decidable p] (x y : α) : (if p then y else x) = (match decide p with | true => y | false => x) := by
  by_cases h : p <;> simp [h]

theorem qBuiltin_sound (hE : EnvOk P E) (hr : HR E h ρ w) {b : Builtin} {ts : Array Nat} {vs : List AV} {us : Array Value} {r : AV} {rt : Nat} {cs : Array Bool} (hv : VL ρ vs us.toList) (hq : qBuiltin E h b ts.toList vs = some r) :
    ∃ u, VR ρ r u ∧ (Go.builtin b ts rt cs us).run P w = .ok (.value u) w := by
  have arr : ∀ {α : Type} (x : Array α) (l : List α), x.toList = l → x = l.toArray := by intro α x l h; subst h; simp
  unfold qBuiltin at hq
  split at hq
  · obtain ⟨v, e, hx⟩ := VL.one hv
    split at hq
    · rename_i t hts
      split at hq
      · rename_i ti hti
        obtain ⟨u, h1, h2⟩ := qLen_sound (rt := rt) hE hr hti hx hq
        rw [arr _ _ hts, arr _ _ e]
        exact ⟨u, h1, by simp [Go.builtin, h2]⟩
      · cases hq
    · cases hq
  · obtain ⟨v, e, hx⟩ := VL.one hv
    split at hq
    · rename_i t hts
      split at hq
      · rename_i ti hti
        obtain ⟨u, h1, h2⟩ := qCap_sound (w := w) (rt := rt) hE hti hx hq
        rw [arr _ _ hts, arr _ _ e]
        exact ⟨u, h1, by simp [Go.builtin, h2]⟩
      · cases hq
    · cases hq
  · obtain ⟨u, v, e, hx, hy⟩ := VL.two hv
    split at hq
    · rename_i hk
      have := kindEq_eq hk; subst this
      cases hq; cases hx; cases hy
      rw [arr _ _ e]
      refine ⟨_, .int _ _, ?_⟩
      simp only [Go.builtin, Builtin.min_, Sem.run_bind, List.foldlM_cons, List.foldlM_nil, Builtin.min2, Sem.run_pure, Result.andThen_ok, intLt_eq]
      congr 3
      exact ite_dec _ _ _
    · cases hq
  · obtain ⟨u, v, e, hx, hy⟩ := VL.two hv
    split at hq
    · rename_i hk
      have := kindEq_eq hk; subst this
      cases hq; cases hx; cases hy
      rw [arr _ _ e]
      refine ⟨_, .int _ _, ?_⟩
      simp only [Go.builtin, Builtin.max_, Sem.run_bind, List.foldlM_cons, List.foldlM_nil, Builtin.max2, Sem.run_pure, Result.andThen_ok, intLt_eq]
      congr 3
      exact ite_dec _ _ _
    · cases hq
  · cases hq

/-! ### Binary operations -/
theorem eqGuard_int (op : BinOp) (t : TypeId) (x y : Operand) (k : IntKind) (n : Int) (v : Value) : (eqGuard op t x y (.int k n) v).run P w = .ok () w := by
  cases op <;> rfl
theorem eqGuard_str (op : BinOp) (t : TypeId) (x y : Operand) (s : ByteArray) (v : Value) : (eqGuard op t x y (.string s) v).run P w = .ok () w := by
  cases op <;> rfl

theorem binStr_sound {op : BinOp} {x y : List Nat} {r : AV} (h : binStr op x y = some r) (t : TypeId) {a b : ByteArray} (ha : a.data.toList.map UInt8.toNat = x) (hb : b.data.toList.map UInt8.toNat = y) :
    ∃ v, VR ρ r v ∧ (Go.binOp op t (.string a) (.string b)).run P w = .ok v w := by
  subst ha; subst hb
  have e1 : listEq (a.data.toList.map UInt8.toNat) (b.data.toList.map UInt8.toNat) = (a.toList == b.toList) := by rw [listEq_str, ByteArray.toList_eq, ByteArray.toList_eq]
  have e2 : bless (a.data.toList.map UInt8.toNat) (b.data.toList.map UInt8.toNat) = Op.bytesLess a.toList b.toList := by rw [bless_eq, ByteArray.toList_eq, ByteArray.toList_eq]
  have hbin : Go.binOp op t (.string a) (.string b) = Op.stringOp op a b := by cases op <;> rfl
  rw [hbin]
  cases op <;> simp only [binStr] at h <;> (try (cases h; done))
  case add =>
    split at h
    · rename_i hle
      have hle := Nat.le_of_ble_eq_true hle
      simp only [List.length_map, Array.length_toList] at hle
      cases h
      refine ⟨.string (a ++ b), .str _ _ (by simp), ?_⟩
      have : ¬ (((a.size + b.size : Nat) : Int) > IntKind.i64.max) := by
        have h1 : a.size = a.data.size := rfl
        have h2 : b.size = b.data.size := rfl
        have h3 : IntKind.i64.max = 9223372036854775807 := by decide
        rw [h3, h1, h2]; omega
      simp only [Op.stringOp, this, if_false, Sem.run_pure]
    · cases h
  all_goals (cases h; exact ⟨_, .bool _, by simp [Op.stringOp, e1, e2]⟩)

theorem binOp_gen {x y : AV} {x' y' : Value} (hx : VR ρ x x') (hy : VR ρ y y') (h1 : ∀ k a j b, x = .int k a → y = .int j b → False) (h2 : ∀ a b, x = .str a → y = .str b → False) (ty : TypeId) :
    Go.binOp .eql ty x' y' = (do pure (.bool (← Op.equal ty x' y'))) ∧ Go.binOp .neq ty x' y' = (do pure (.bool (!(← Op.equal ty x' y')))) := by
  cases hx <;> cases hy <;> first | exact ⟨rfl, rfl⟩ | exact (h1 _ _ _ _ rfl rfl).elim | exact (h2 _ _ rfl rfl).elim

theorem eqT_plain {d ty : Nat} {a b : List AV} {r : Bool} (h : eqT E.ty d ty (.agg a) (.agg b) = some r) : ∃ ti, E.ty ty = some ti ∧ ti.plain = true := by
  cases d with
  | zero => simp [eqT] at h
  | succ d =>
    simp only [eqT] at h
    split at h
    · cases h
    · rename_i ti hti
      refine ⟨ti, hti, ?_⟩
      unfold eqD at h
      cases hd : ti.d <;> rw [hd] at h <;> simp only at h <;> (try (cases h; done))
      · split at h
        · rename_i hp; exact hp
        · cases h
      · split at h
        · rename_i hp; exact hp
        · cases h

theorem eqGuard_gen (hE : EnvOk P E) {x y : AV} {x' y' : Value} {d ty : Nat} {r : Bool} (hx : VR ρ x x') (hy : VR ρ y y') (h1 : x = .nili → y = .nili → False) (h : eqT E.ty d ty x y = some r) (op : BinOp) (xo yo : Operand) :
    (eqGuard op ty xo yo x' y').run P w = .ok () w := by
  unfold eqGuard
  cases hm : (!(op matches .eql | .neq)) with
  | true => simp
  | false =>
    simp only [Bool.false_eq_true, if_false]
    cases hx <;> cases hy <;> first | rfl | exact (h1 rfl rfl).elim | skip
    obtain ⟨ti, hti, hp⟩ := eqT_plain h
    have := ((hE.ty _ _ hti).plain hp).2.1
    simp [this]

theorem qBin_sound (hE : EnvOk P E) {op : BinOp} {ty : Nat} {xo yo : Operand} {x y r : AV} {x' y' : Value} (hx : VR ρ x x') (hy : VR ρ y y')
    (hq : qBin E op ty (isConst xo || isConst yo) x y = some r) :
    ∃ v, VR ρ r v ∧ (do eqGuard op ty xo yo x' y'; Go.binOp op ty x' y' : Sem Value).run P w = .ok v w := by
  unfold qBin at hq
  split at hq
  · -- two nil interfaces
    cases hx; cases hy
    have hg : ∀ op', (isConst xo || isConst yo) = true → (eqGuard op' ty xo yo .nilIface .nilIface).run P w = .ok () w := by
      intro op' hc
      unfold eqGuard
      cases hm : (!(op' matches .eql | .neq)) with
      | true => simp
      | false =>
        simp only [Bool.false_eq_true, if_false]
        simp
        intro h1 h2
        exfalso
        clear hq
        revert h1 h2 hc
        cases xo <;> cases yo <;> simp [isConst]
    split at hq
    · rename_i ti hti
      obtain ⟨d, hu, hd, hrun⟩ := ty_under hE hti w
      split at hq
      · rename_i hdd
        rw [hdd] at hd; simp only [TDOk] at hd
        obtain ⟨m, rfl⟩ := hd
        have he : (Op.equal ty .nilIface .nilIface).run P w = .ok true w := by
          obtain ⟨dd, hdm⟩ : ∃ dd, Op.maxDepth = dd + 1 := ⟨9999, rfl⟩
          unfold Op.equal
          rw [hdm]
          simp only [Op.equalIn, Sem.run_bind, hrun, Result.andThen_ok]
          rfl
        split at hq
        · rename_i hc
          cases hq
          refine ⟨_, .bool true, ?_⟩
          have hb : Go.binOp .eql ty .nilIface .nilIface = (do pure (.bool (← Op.equal ty .nilIface .nilIface))) := rfl
          simp only [Sem.run_bind, hg _ hc, Result.andThen_ok, hb, he, Sem.run_pure]
        · rename_i hc
          cases hq
          refine ⟨_, .bool false, ?_⟩
          have hb : Go.binOp .neq ty .nilIface .nilIface = (do pure (.bool (!(← Op.equal ty .nilIface .nilIface)))) := rfl
          simp only [Sem.run_bind, hg _ hc, Result.andThen_ok, hb, he, Sem.run_pure, Bool.not_true]
        · cases hq
      · cases hq
    · cases hq
  · rename_i k a j b
    cases hx; cases hy
    split at hq
    · obtain ⟨v, h1, h2⟩ := binShift_sound (P := P) (w := w) (ρ := ρ) (j := j) hq ty
      exact ⟨v, h1, by simp only [Sem.run_bind, eqGuard_int, Result.andThen_ok, h2]⟩
    · rename_i hsh
      split at hq
      · rename_i hk
        have := kindEq_eq hk; subst this
        obtain ⟨v, h1, h2⟩ := binInt_sound (P := P) (w := w) (ρ := ρ) hq hsh ty
        exact ⟨v, h1, by simp only [Sem.run_bind, eqGuard_int, Result.andThen_ok, h2]⟩
      · cases hq
  · cases hx with
    | str _ a ha => cases hy with
      | str _ b hb =>
        obtain ⟨v, h1, h2⟩ := binStr_sound (P := P) (w := w) (ρ := ρ) hq ty ha hb
        exact ⟨v, h1, by simp only [Sem.run_bind, eqGuard_str, Result.andThen_ok, h2]⟩
  · rename_i n1 n2 n3
    obtain ⟨b1, b2⟩ := binOp_gen hx hy (fun k a j b e1 e2 => n2 k a j b e1 e2) (fun a b e1 e2 => n3 a b e1 e2) ty
    split at hq
    · split at hq
      · rename_i b hb
        cases hq
        have hg := eqGuard_gen (w := w) hE hx hy (fun e1 e2 => n1 e1 e2) hb .eql xo yo
        have he := eqT_sound hE 20 Op.maxDepth ty x y b x' y' w (by decide) hb hx hy
        refine ⟨_, .bool b, ?_⟩
        simp only [Sem.run_bind, hg, Result.andThen_ok, b1, Op.equal, he, Sem.run_pure]
      · cases hq
    · split at hq
      · rename_i b hb
        cases hq
        have hg := eqGuard_gen (w := w) hE hx hy (fun e1 e2 => n1 e1 e2) hb .neq xo yo
        have he := eqT_sound hE 20 Op.maxDepth ty x y b x' y' w (by decide) hb hx hy
        refine ⟨_, .bool (!b), ?_⟩
        simp only [Sem.run_bind, hg, Result.andThen_ok, b2, Op.equal, he, Sem.run_pure]
      · cases hq
    · cases hq
end
end Go.Refl
/- Every quiet operation; what an allocation lays. -/
namespace Go.Refl
open Go

section
variable {P : Program} {E : Env} {h : Hp} {ρ : Rho} {w : World} {t : Tr AV} {a : Act}

theorem args_sound (hr : HR E h ρ w) (ht : TR ρ t a.tmps) {os : Array Operand} {xs : List AV} (hx : evalL E t os.toList = some xs) : VL ρ xs (os.map a.eval).toList := by
  rw [Array.toList_map]; exact evalL_sound hr ht hx

theorem find_ml {stamp : Nat} : ∀ {es : List (AV × AV × Nat)} {es' : List MapEntry} {e : AV × AV × Nat}, es.find? (fun e => Nat.beq e.2.2 stamp) = some e → ML ρ es es' →
    ∃ e', es'.find? (·.born == stamp) = some e' ∧ VR ρ e.1 e'.key ∧ VR ρ e.2.1 e'.val
  | [], es', e, h, _ => by simp at h
  | x :: es, es', e, h, hm => by
    cases es' with
    | nil => have := hm.1; simp at this
    | cons y es' =>
      obtain ⟨h1, h2, h3⟩ := hm.2 0 x y (by simp) (by simp)
      have hm' : ML ρ es es' := ⟨by have := hm.1; simpa using this, fun j x y hx hy => hm.2 (j + 1) x y (by simpa using hx) (by simpa using hy)⟩
      simp only [List.find?_cons] at h ⊢
      rw [← h3]
      have e0 : (x.2.2 == stamp) = Nat.beq x.2.2 stamp := by rw [Bool.eq_iff_iff]; simp [Nat.beq_eq]
      rw [e0]
      cases hb : Nat.beq x.2.2 stamp with
      | true => rw [hb] at h; cases h; exact ⟨y, rfl, h1, h2⟩
      | false => rw [hb] at h; exact find_ml h hm'

theorem quiet_sound (hE : EnvOk P E) (hr : HR E h ρ w) (ht : TR ρ t a.tmps) {o : Oper} {x : AV} (hq : quietOp E o t h = some x) :
    ∃ v, VR ρ x v ∧ (execOp a.eval o).run P w = .ok (.value v) w := by
  obtain ⟨dst, op, type, pos, after, guard⟩ := o
  cases op <;> simp only [quietOp] at hq
  case move y => exact ⟨_, evalO_sound hr ht hq, rfl⟩
  case assign y => exact ⟨_, evalO_sound hr ht hq, rfl⟩
  case pick c y z =>
    split at hq
    · rename_i hc
      have := evalO_sound hr ht hc
      generalize hv : a.eval c = cv at this
      cases this
      exact ⟨_, evalO_sound hr ht hq, by simp [execOp, hv, asBool]⟩
    · rename_i hc
      have := evalO_sound hr ht hc
      generalize hv : a.eval c = cv at this
      cases this
      exact ⟨_, evalO_sound hr ht hq, by simp [execOp, hv, asBool]⟩
    · cases hq
  case load ty y =>
    split at hq
    · rename_i b off hb
      split at hq
      · rename_i ti hti
        have := evalO_sound hr ht hb
        generalize hv : a.eval y = cv at this
        cases this with
        | ptr _ _ l hl =>
          obtain ⟨v, h1, h2⟩ := loadV_sound hE hr hti hq hl
          exact ⟨v, h1, by simp [execOp, hv, Instr.loadAt, Instr.sureAddr, h2]⟩
      · cases hq
    · cases hq
  case nilCheck y =>
    split at hq
    · rename_i b off hb
      have := evalO_sound hr ht hb
      cases hq
      generalize hv : a.eval y = cv at this
      cases this with
      | ptr _ _ l hl => exact ⟨_, .ptr _ _ l hl, by simp [execOp, hv]⟩
    · cases hq
  case binOp op ty y z zt =>
    split at hq
    · cases hq
    · rename_i u hu
      split at hq
      · cases hq
      · rename_i v hv
        obtain ⟨r, h1, h2⟩ := qBin_sound (P := P) (w := w) hE (evalO_sound hr ht hu) (evalO_sound hr ht hv) hq
        refine ⟨r, h1, ?_⟩
        simp only [execOp]
        rw [Sem.run_bind, h2]
        rfl
  case unOp op ty y =>
    split at hq
    · rename_i b hb
      have := evalO_sound hr ht hb
      split at hq
      · cases hq
        generalize hv : a.eval y = cv at this
        cases this
        exact ⟨_, .bool _, by simp [execOp, hv, Op.unary]⟩
      · cases hq
    · rename_i k n hb
      have := evalO_sound hr ht hb
      split at hq
      · cases hq
        generalize hv : a.eval y = cv at this
        cases this
        exact ⟨_, .int _ _, by simp [execOp, hv, Op.unary, Op.intArith, wrapF_eq]⟩
      · cases hq
    · cases hq
  case convert s d y =>
    split at hq
    · cases hq
    · rename_i ts hts
      split at hq
      · cases hq
      · rename_i td htd
        split at hq
        · cases hq
        · rename_i v hv
          obtain ⟨r, h1, h2⟩ := qConvert_sound hE hr hts htd (evalO_sound hr ht hv) hq
          exact ⟨r, h1, by simp [execOp, h2]⟩
  case makeInterface ty y =>
    split at hq
    · rename_i ti hti
      obtain ⟨d, hu, hd, hrun⟩ := ty_under hE hti w
      split at hq
      · cases hq
      · rename_i hne
        split at hq
        · rename_i v hv
          cases hq
          refine ⟨_, .ifc _ _ _ (evalO_sound hr ht hv), ?_⟩
          have hni : ∀ ms, d ≠ .interface ms := by
            intro ms e
            subst e
            cases hdd : ti.d <;> rw [hdd] at hd <;> simp only [TDOk] at hd
            case interface => exact hne hdd
            case struct => obtain ⟨_, e, _⟩ := hd; cases e
            case func => obtain ⟨_, _, _, e⟩ := hd; cases e
            case other => exact absurd hdd (hE.ty ty ti hti).noOther
            all_goals cases hd
          simp only [execOp, Instr.makeInterface, Sem.run_bind, hrun, Result.andThen_ok]
          cases d <;> first | rfl | exact absurd rfl (hni _)
        · cases hq
    · cases hq
  case makeFunc fn fst cap =>
    split at hq
    · split at hq
      · cases hq
      · rename_i xs hxs
        split at hq
        · cases hq
        · rename_i ys hys
          cases hq
          exact ⟨_, VR.fn_iff.2 ⟨_, _, rfl, args_sound hr ht hxs, args_sound hr ht hys⟩, by simp [execOp, Instr.makeFunc]⟩
    · cases hq
  case build ty ps =>
    split at hq
    · cases hq
    · rename_i ti hti
      split at hq
      · cases hq
      · rename_i vs hvs
        obtain ⟨r, h1, h2⟩ := qBuild_sound hE hr ht hti hvs hq
        exact ⟨r, h1, by simp only [execOp]; rw [Sem.run_bind, h2]; rfl⟩
  case fieldAddr s y i =>
    split at hq
    · rename_i b off hb
      split at hq
      · rename_i ti hti
        obtain ⟨d, hu, hd, hrun⟩ := ty_under hE hti w
        split at hq
        · rename_i fs hdd
          rw [hdd] at hd; simp only [TDOk] at hd
          obtain ⟨f, rfl, rfl⟩ := hd
          split at hq
          · rename_i o ft hf
            split at hq
            · rename_i te hte
              split at hq
              · cases hq
              · rename_i sz hsz
                cases hq
                have := evalO_sound hr ht hb
                generalize hv : a.eval y = cv at this
                cases this with
                | ptr _ _ l hl =>
                  refine ⟨_, .ptr _ _ l hl, ?_⟩
                  rw [getAt_eq, List.getElem?_map] at hf
                  cases hfi : f.toList[i]? with
                  | none => rw [hfi] at hf; simp at hf
                  | some g =>
                    rw [hfi] at hf
                    simp only [Option.map_some, Option.some.injEq, Prod.mk.injEq] at hf
                    obtain ⟨rfl, rfl⟩ := hf
                    have hfi' : f[i]? = some g := by simpa using hfi
                    have hs0 : te.size ≠ 0 := by omega
                    simp [execOp, Instr.fieldAt, hrun, hfi', hv, Instr.sureAddr, fieldPlace, ty_size hE hte w, hs0, addr_add, Nat.add_assoc]
            · cases hq
          · cases hq
        · cases hq
      · cases hq
    · cases hq
  case field s y i =>
    split at hq
    · rename_i cs hb
      split at hq
      · rename_i ti hti
        obtain ⟨d, hu, hd, hrun⟩ := ty_under hE hti w
        split at hq
        · rename_i fs hdd
          rw [hdd] at hd; simp only [TDOk] at hd
          obtain ⟨f, rfl, rfl⟩ := hd
          split at hq
          · rename_i o ft hf
            split at hq
            · rename_i te hte
              have := evalO_sound hr ht hb
              generalize hv : a.eval y = cv at this
              obtain ⟨vs, rfl, hvs⟩ := VR.agg_iff.1 this
              obtain ⟨r, h1, h2⟩ := partV_sound hE hte hvs hq w
              refine ⟨r, h1, ?_⟩
              rw [getAt_eq, List.getElem?_map] at hf
              cases hfi : f.toList[i]? with
              | none => rw [hfi] at hf; simp at hf
              | some g =>
                rw [hfi] at hf
                simp only [Option.map_some, Option.some.injEq, Prod.mk.injEq] at hf
                obtain ⟨rfl, rfl⟩ := hf
                have hfi' : f[i]? = some g := by simpa using hfi
                simp [execOp, Instr.field, hrun, hfi', hv, asAgg, h2]
            · cases hq
          · cases hq
        · cases hq
      · cases hq
    · cases hq
  case indexAddr ty y ix =>
    split at hq
    · cases hq
    · rename_i ti hti
      split at hq
      · cases hq
      · rename_i v hv
        split at hq
        · cases hq
        · rename_i i hi
          obtain ⟨k, hk⟩ := evalN_sound hr ht hi
          obtain ⟨r, h1, h2⟩ := qIndexAddr_sound (w := w) (k := k) hE hti (evalO_sound hr ht hv) hq
          exact ⟨r, h1, by simp [execOp, hk, h2]⟩
  case index ty y ix =>
    split at hq
    · cases hq
    · rename_i ti hti
      split at hq
      · cases hq
      · rename_i v hv
        split at hq
        · cases hq
        · rename_i i hi
          obtain ⟨k, hk⟩ := evalN_sound hr ht hi
          obtain ⟨r, h1, h2⟩ := qIndex_sound (w := w) (k := k) hE hti (evalO_sound hr ht hv) hq
          exact ⟨r, h1, by simp [execOp, hk, h2]⟩
  case slice ty y lo hi mx =>
    split at hq
    · cases hq
    · rename_i hmx
      split at hq
      · cases hq
      · rename_i ti hti
        split at hq
        · cases hq
        · rename_i v hv
          obtain ⟨r, h1, h2⟩ := qSlice_sound hE hr ht hti (evalO_sound hr ht hv) hq
          exact ⟨r, h1, by simp [execOp, h2]⟩
  case lookup ty y k ok =>
    split at hq
    · cases hq
    · rename_i ti hti
      split at hq
      · cases hq
      · rename_i m hm
        split at hq
        · cases hq
        · rename_i k' hk
          obtain ⟨r, h1, h2⟩ := qLookup_sound hE hr hti (evalO_sound hr ht hm) (evalO_sound hr ht hk) hq
          exact ⟨r, h1, by simp [execOp, h2]⟩
  case extract y i =>
    split at hq
    · rename_i vs hvs
      have := evalO_sound hr ht hvs
      generalize hv : a.eval y = cv at this
      obtain ⟨us, rfl, hus⟩ := VR.tup_iff.1 this
      rw [getAt_eq] at hq
      obtain ⟨r, h1, h2⟩ := hus.get hq
      have h1' : us[i]? = some r := by simpa using h1
      exact ⟨r, h2, by simp [execOp, Instr.extract, hv, h1']⟩
    · cases hq
  case call c =>
    obtain ⟨callee, args, argTypes⟩ := c
    simp only at hq
    split at hq
    · rename_i b
      split at hq
      · cases hq
      · rename_i vs hvs
        obtain ⟨r, h1, h2⟩ := qBuiltin_sound (w := w) (rt := type) (cs := args.map fun | .const _ => true | _ => false) hE hr (args_sound hr ht hvs) hq
        refine ⟨r, h1, ?_⟩
        simp only [execOp, resolve, invoke, Sem.run_bind, Sem.run_pure, Result.andThen_ok]
        exact h2
    · cases hq
  case entry y =>
    split at hq
    · rename_i r hr0
      have hv := evalO_sound hr ht hr0
      split at hq
      · rename_i m since seen stepped hg
        obtain ⟨l, ob, h1, h2, m', h3, hsh, x, hx, h4⟩ := hr.obj r _ hg
        subst h3
        subst h4
        split at hq
        · rename_i es clock hgm
          obtain ⟨lm, es', k1, k2, k3⟩ := map_sound hr hgm
          rw [hx] at k1; cases k1
          split at hq
          · rename_i stamp hst
            split at hq
            · rename_i hck
              have hck := Nat.eq_of_beq_eq_true hck
              split at hq
              · rename_i e he
                cases hq
                generalize hv' : a.eval y = cv at hv
                cases hv with
                | ptr _ _ l' hl' =>
                  rw [h1] at hl'; cases hl'
                  have g1 := run_getObj (P := P) h2 (by simp)
                  have g2 := run_getObj (P := P) k2 (by simp)
                  have hback : seen.toArray.back? = some stamp := by rw [List.back?_toArray]; exact hst
                  have hfind : ∃ e', es'.find? (·.born == stamp) = some e' ∧ VR ρ e.1 e'.key ∧ VR ρ e.2.1 e'.val := by
                    obtain ⟨e', f1, f2⟩ := find_ml he k3
                    exact ⟨e', by rw [← Array.find?_toList]; exact f1, f2⟩
                  obtain ⟨e', f1, f2, f3⟩ := hfind
                  refine ⟨_, VR.tup_iff.2 ⟨_, rfl, .cons f2 (.cons f3 (.nil ρ))⟩, ?_⟩
                  subst hck
                  simp [execOp, hv', Instr.entry, hsh, g1, g2, hback, f1]
              · cases hq
            · cases hq
          · cases hq
        · cases hq
      · cases hq
    · cases hq
  all_goals cases hq
end
end Go.Refl
/- Allocations. -/
namespace Go.Refl
open Go

section
variable {P : Program} {E : Env} {h : Hp} {ρ : Rho} {w : World} {t : Tr AV} {a : Act}

theorem repl_get (z : List AV) : ∀ (n i : Nat), (repl z n)[i]? = if i < n * z.length then z[i % z.length]? else none
  | 0, i => by simp [repl]
  | n + 1, i => by
    simp only [repl]
    by_cases hi : i < z.length
    · rw [List.getElem?_append_left hi, if_pos (by rw [Nat.add_mul]; omega), Nat.mod_eq_of_lt hi]
    · rw [List.getElem?_append_right (by omega), repl_get z n]
      have e : (n + 1) * z.length = n * z.length + z.length := by rw [Nat.add_mul, Nat.one_mul]
      by_cases h2 : i < (n + 1) * z.length
      · rw [if_pos (by omega), if_pos h2]
        congr 1
        rw [Nat.mod_eq_sub_mod (by omega : i ≥ z.length)]
      · rw [if_neg (by omega), if_neg h2]
theorem repl_len (z : List AV) : ∀ n, (repl z n).length = n * z.length
  | 0 => by simp [repl]
  | n + 1 => by simp [repl, repl_len z n, Nat.add_mul]; omega

theorem zeros_sound {z : List AV} {z' : Array Value} (hz : VL ρ z z'.toList) (n : Nat) : VL ρ (repl z n) ((Array.range (n * z.length)).map (z'[· % z'.size]!)).toList := by
  have hs : z.length = z'.size := by simpa using hz.1
  refine ⟨by simp [repl_len], fun i x y hx hy => ?_⟩
  rw [repl_get] at hx
  split at hx
  · rename_i hi
    have hy' : z'[i % z'.size]! = y := by
      have hi' : i < n * z.length := hi
      simp [hi'] at hy
      exact hy
    have hlt : i % z'.size < z'.size := Nat.mod_lt _ (by rcases Nat.eq_zero_or_pos z'.size with h0 | h0; · rw [hs, h0] at hi; omega
                                                         · exact h0)
    rw [getElem!_pos z' _ hlt] at hy'
    refine hz.2 (i % z.length) x y hx ?_
    rw [hs, Array.getElem?_toList, getElem?_pos z' _ hlt, hy']
  · cases hx

/-- A row that is laid new. -/
theorem row_new {E : Env} {l : Loc} {cells : List AV} {cs : Array Value} {e : Nat} (h0 : l.sh = 0) (hv : VL ρ cells cs.toList) : OR E ρ l (.row cells e false 0) (.cells cs e) := by
  refine ⟨cs, 0, 0, rfl, fun i x hx => ?_, fun i _ _ => by omega, ⟨fun h => (by cases h), fun _ => ⟨h0, (by have := hv.1; simpa using this.symm), fun h => absurd h (Nat.not_lt_zero _)⟩⟩⟩
  obtain ⟨v, h1, h2⟩ := hv.get hx
  exact ⟨v, by rw [h0, Nat.zero_add]; simpa using h1, h2⟩

theorem wrap_small {n : Nat} (h : n ≤ 1000000) : IntKind.i64.wrap (n : Int) = n := by
  rw [← wrapF_eq]
  have e1 : modF .i64 (n : Int) = n := by
    show n % 18446744073709551616 = n
    omega
  unfold wrapF
  rw [e1]
  have e2 : Nat.blt n (half .i64) = true := by
    rw [Nat.blt_eq]
    show n < 9223372036854775808
    omega
  simp only [signF, IntKind.signed, e2]
  rfl

def Lays (P : Program) (E : Env) (h : Hp) (ρ : Rho) (w : World) (s : Sem Next) (ob : AObj) (x : AV) : Prop :=
  ∃ (sh kap : Nat) (v : Value) (w' : World), s.run P w = .ok (.value v) w' ∧ Up E h ρ w (alloc h ob) (ρ.add h.next ⟨w.heap.size, sh, kap⟩) w' ∧ VR (ρ.add h.next ⟨w.heap.size, sh, kap⟩) x v

/-- An allocation at a number that is free. -/
def Lays0 (P : Program) (E : Env) (ρ : Rho) (w : World) (r : Nat) (s : Sem Next) (ob : AObj) (x : AV) : Prop :=
  ∃ (sh kap : Nat) (v : Value) (w' : World), s.run P w = .ok (.value v) w' ∧ (∃ ob' : Obj, w'.heap = w.heap.push ob' ∧ w'.os = w.os ∧ w'.tape = w.tape ∧ w'.output = w.output ∧
    OR E (ρ.add r ⟨w.heap.size, sh, kap⟩) ⟨w.heap.size, sh, kap⟩ ob ob') ∧ VR (ρ.add r ⟨w.heap.size, sh, kap⟩) x v

theorem alloc_sound0 (hE : EnvOk P E) (hr : HR E h ρ w) (ht : TR ρ t a.tmps) {r : Nat} (hnone : ρ r = none) {o : Oper} {ob : AObj} {x : AV} (hq : allocOp E o t r = some (ob, x)) :
    Lays0 P E ρ w r (execOp a.eval o) ob x := by
  obtain ⟨dst, op, type, pos, after, guard⟩ := o
  cases op <;> simp only [allocOp] at hq
  case alloc e =>
    split at hq
    · rename_i ti hti
      cases hq
      obtain ⟨z, hz, hz'⟩ := ty_zero hE hti w
      refine ⟨0, 0, _, { w with heap := w.heap.push (.cells z.cells e) }, ?_, ⟨_, rfl, rfl, rfl, rfl, (row_new rfl (hz' _))⟩, .ptr _ _ _ (Rho.add_same _ _ _)⟩
      simp [execOp, Instr.alloc, hz, newVar, newRow]
    · cases hq
  case box e y =>
    split at hq
    · rename_i v hv
      cases hq
      have hvr := evalO_sound hr ht hv
      refine ⟨0, 0, _, { w with heap := w.heap.push (.cells (a.eval y).cells e) }, ?_, ⟨_, rfl, rfl, rfl, rfl, (row_new rfl ((hvr.ext (Rho.add_ext hnone)).cells))⟩, .ptr _ _ _ (Rho.add_same _ _ _)⟩
      simp [execOp, Instr.box, newVar, newRow]
    · cases hq
  case buildSlice ty len ps =>
    split at hq
    · cases hq
    · rename_i ti hti
      obtain ⟨d, hu, hd, hrun⟩ := ty_under hE hti w
      split at hq
      · rename_i e hdd
        rw [hdd] at hd; simp only [TDOk] at hd; subst hd
        split at hq
        · cases hq
        · rename_i te hte
          split at hq
          · cases hq
          · rename_i vs hvs
            split at hq
            · cases hq
            · rename_i hle
              have hle := Nat.le_of_ble_eq_true hle
              split at hq
              · rename_i cells hf
                cases hq
                obtain ⟨z, hz, hz'⟩ := ty_zero hE hte w
                have hzl := (hE.ty _ _ hte).zlen
                obtain ⟨hl, hp⟩ := partsL_sound hr ht hvs
                have hus : (ps.map fun (i, x) => (i, a.eval x)).toList.length = vs.length ∧ ∀ (i : Nat) x p, vs[i]? = some x → (ps.map fun (i, x) => (i, a.eval x)).toList[i]? = some p → x.1 = p.1 ∧ VR ρ x.2 p.2 := by
                  refine ⟨by simp; simpa using hl.symm, fun i x p hx hpp => ?_⟩
                  rw [Array.toList_map, List.getElem?_map] at hpp
                  cases hc : ps.toList[i]? with
                  | none => rw [hc] at hpp; simp at hpp
                  | some q =>
                    rw [hc] at hpp; simp at hpp; subst hpp
                    exact hp i x q hx hc
                have hcells : ∀ z' : Array Value, (len * te.size = 0 ∨ z' = z.cells) → ∃ cs', Instr.fill (fun i => some (i * te.size, te.size)) ((Array.range (len * te.size)).map (z'[· % z'.size]!)) (ps.map fun (i, x) => (i, a.eval x)).toList = some cs' ∧ VL ρ cells cs'.toList := by
                  intro z' hz0
                  refine fill_sound (ρ := ρ) (place := placeA te.size) hf ?_ hus
                  rcases hz0 with h0 | rfl
                  · rw [h0]
                    have : repl te.zero len = [] := by
                      apply List.length_eq_zero_iff.1
                      rw [repl_len, hzl, h0]
                    rw [this]
                    exact ⟨by simp, by simp⟩
                  · have := zeros_sound (hz' ρ) len
                    rw [hzl] at this
                    exact this
                by_cases h0 : len * te.size = 0
                · obtain ⟨cs', f1, f2⟩ := hcells #[] (.inl h0)
                  refine ⟨0, 0, _, { w with heap := w.heap.push (.cells cs' e) }, ?_, ⟨_, rfl, rfl, rfl, rfl, (row_new rfl (f2.ext (Rho.add_ext hnone)))⟩, .slx _ _ _ _ _ (Rho.add_same _ _ _) (by omega)⟩
                  simp only [execOp, Instr.buildSlice, Sem.run_bind, hrun, ty_size hE hte w, Result.andThen_ok]
                  rw [if_neg (by omega)]
                  simp only [h0, if_true, Sem.run_bind, Sem.run_pure, Result.andThen_ok]
                  rw [h0] at f1
                  rw [f1]
                  simp [newRow]
                · obtain ⟨cs', f1, f2⟩ := hcells z.cells (.inr rfl)
                  refine ⟨0, 0, _, { w with heap := w.heap.push (.cells cs' e) }, ?_, ⟨_, rfl, rfl, rfl, rfl, (row_new rfl (f2.ext (Rho.add_ext hnone)))⟩, .slx _ _ _ _ _ (Rho.add_same _ _ _) (by omega)⟩
                  simp only [execOp, Instr.buildSlice, Sem.run_bind, hrun, ty_size hE hte w, Result.andThen_ok]
                  rw [if_neg (by omega)]
                  simp only [h0, if_false, Sem.run_bind, hz, Sem.run_pure, Result.andThen_ok]
                  rw [f1]
                  simp [newRow]
              · cases hq
      · cases hq
  case makeMap ty r' =>
    split at hq
    · cases hq
      refine ⟨0, 0, _, { w with heap := w.heap.push (.map #[] 0) }, ?_, ⟨_, rfl, rfl, rfl, rfl, ⟨#[], rfl, rfl, by simp⟩⟩, .mp _ _ (Rho.add_same _ _ _)⟩
      simp [execOp, Instr.makeMap]
    · cases hq
  case makeSlice ty l c =>
    split at hq
    · cases hq
    · rename_i ti hti
      obtain ⟨d, hu, hd, hrun⟩ := ty_under hE hti w
      split at hq
      · rename_i e hdd
        rw [hdd] at hd; simp only [TDOk] at hd; subst hd
        split at hq
        · cases hq
        · rename_i te hte
          split at hq
          · cases hq
          · rename_i l' hl
            split at hq
            · cases hq
            · rename_i c' hc
              split at hq
              · cases hq
              · rename_i h1
                split at hq
                · cases hq
                · rename_i h2
                  split at hq
                  · cases hq
                  · rename_i h3
                    have h1 := Nat.le_of_ble_eq_true h1
                    have h2 := Nat.le_of_ble_eq_true h2
                    have h3 := Nat.le_of_ble_eq_true h3
                    cases hq
                    obtain ⟨kl, hkl⟩ := evalN_sound hr ht hl
                    obtain ⟨kc, hkc⟩ := evalN_sound hr ht hc
                    obtain ⟨i, hi, hsz, hby, z, hz0, hz'⟩ := ty_info hE hte w
                    have hz : (zeroValue e).run P w = .ok z w := by simp [zeroValue, hi, hz0]
                    have hzl := (hE.ty _ _ hte).zlen
                    have hwl : IntKind.i64.wrap (l' : Int) = l' := wrap_small (by omega)
                    have hwc : IntKind.i64.wrap (c' : Int) = c' := wrap_small (by omega)
                    have hcs : ∃ cs : Array Value, VL ρ (repl te.zero c') cs.toList ∧
                        cs = (Array.range (c' * te.size)).map ((if c' * te.size = 0 then #[] else z.cells)[· % (if c' * te.size = 0 then #[] else z.cells).size]!) := by
                      refine ⟨_, ?_, rfl⟩
                      by_cases h0 : c' * te.size = 0
                      · have : repl te.zero c' = [] := by
                          apply List.length_eq_zero_iff.1
                          rw [repl_len, hzl, h0]
                        rw [this, h0]
                        exact ⟨by simp, by simp⟩
                      · rw [if_neg h0]
                        have := zeros_sound (hz' ρ) c'
                        rw [hzl] at this
                        exact this
                    obtain ⟨cs, hv, hcs⟩ := hcs
                    refine ⟨0, 0, _, { w with heap := w.heap.push (.cells cs e) }, ?_, ⟨_, rfl, rfl, rfl, rfl, (row_new rfl (hv.ext (Rho.add_ext hnone)))⟩, .slx _ _ _ _ _ (Rho.add_same _ _ _) (by omega)⟩
                    have hbc : (te.bytes : Int) * (c' : Int) ≤ 10000000000 := by
                      have := Nat.mul_le_mul h3 h2
                      have h4 : te.bytes * c' ≤ 10000000000 := by omega
                      have h5 : ((te.bytes * c' : Nat) : Int) ≤ ((10000000000 : Nat) : Int) := Int.ofNat_le.2 h4
                      rw [Int.natCast_mul] at h5
                      exact h5
                    have hbl : ¬ ((c' : Int) < 0) := by omega
                    have e1 : ∀ k (n : Int), (asInt (.int k n)).run P w = .ok n w := fun k n => rfl
                    simp only [execOp, Instr.makeSlice, Sem.run_bind, hrun, Result.andThen_ok, hkl, hkc, e1]
                    rw [hi]
                    simp only [Result.andThen_ok]
                    rw [hby, hwl, hwc]
                    have hA : (decide ((c' : Int) < 0) || decide ((te.bytes : Int) * (c' : Int) > 2 ^ 48) || decide ((l' : Int) < 0) || decide ((l' : Int) > (c' : Int))) = false := by
                      have p1 : decide ((c' : Int) < 0) = false := decide_eq_false (by omega)
                      have p2 : decide ((te.bytes : Int) * (c' : Int) > 2 ^ 48) = false := decide_eq_false (by
                        have : (2 : Int) ^ 48 = 281474976710656 := by decide
                        rw [this]; omega)
                      have p3 : decide ((l' : Int) < 0) = false := decide_eq_false (by omega)
                      have p4 : decide ((l' : Int) > (c' : Int)) = false := decide_eq_false (by omega)
                      rw [p1, p2, p3, p4]; rfl
                    rw [hA]
                    simp only [Bool.false_eq_true, if_false, Sem.run_bind, run_askRoom, Result.andThen_ok, ty_size hE hte w, Int.toNat_natCast]
                    subst hcs
                    by_cases h0 : c' * te.size = 0
                    · simp only [h0, if_true, Sem.run_bind, Sem.run_pure, Result.andThen_ok, newRow, run_newObj]
                    · simp only [h0, if_false, Sem.run_bind, hz, Sem.run_pure, Result.andThen_ok, newRow, run_newObj]
      · cases hq
  case convert s d y =>
    split at hq
    · cases hq
    · rename_i ts hts
      obtain ⟨ds, hus, hds, hruns⟩ := ty_under hE hts w
      split at hq
      · cases hq
      · rename_i td htd
        obtain ⟨dd, hu, hd, hrun⟩ := ty_under hE htd w
        split at hq
        · rename_i e hdd
          rw [hdd] at hd; simp only [TDOk] at hd; subst hd
          split at hq
          · rename_i te hte
            obtain ⟨de, hue, hde, hrune⟩ := ty_under hE hte w
            split at hq
            · rename_i hed hsz
              rw [hed] at hde; simp only [TDOk] at hde; subst hde
              split at hq
              · rename_i st hst
                cases hq
                have hv := evalO_sound hr ht hst
                generalize hev : a.eval y = cv at hv
                cases hv with
                | str _ b hb =>
                let cap := (Question.appendCap b.size 0 e).cut (w.tape w.drawn (.appendCap b.size 0 e))
                have hcap : b.size ≤ cap := by show b.size ≤ b.size + _; omega
                let cs : Array Value := (b.data.map fun c => Value.int .u8 c.toNat) ++ Array.replicate (cap - b.size) (.int .u8 0)
                have hcs : cs.size = cap := by
                  have : b.data.size = b.size := rfl
                  simp [cs, this]; omega
                have hvl : ∀ (i : Nat) x, (st.map fun n => AV.int .u8 (.ofNat n))[i]? = some x → ∃ v, cs[i]? = some v ∧ VR (ρ.add r ⟨w.heap.size, 0, cap⟩) x v := by
                  intro i x hx
                  rw [← hb, List.map_map, List.getElem?_map] at hx
                  cases hc : b.data.toList[i]? with
                  | none => rw [hc] at hx; simp at hx
                  | some c =>
                    rw [hc] at hx
                    simp at hx
                    subst hx
                    have hi : i < b.data.size := by
                      have := (List.getElem?_eq_some_iff.1 hc).1
                      rw [Array.length_toList] at this
                      exact this
                    refine ⟨.int .u8 c.toNat, ?_, .int _ _⟩
                    have hc' : b.data[i]? = some c := by rw [Array.getElem?_toList] at hc; exact hc
                    simp only [cs]
                    rw [Array.getElem?_append_left (by simpa using hi)]
                    simp [hc']
                have hmod : (w.heap.push (.cells cs e)).modify w.heap.size (fun
                      | .cells c elem (lo, hi) => .cells c elem (if lo == hi then (cs.size, cs.size + 1) else (min lo cs.size, max hi (cs.size + 1)))
                      | o => o) = w.heap.push (.cells cs e (cs.size, cs.size + 1)) := by
                  apply Array.ext_getElem?
                  intro i
                  rw [Array.getElem?_modify, Array.getElem?_push, Array.getElem?_push]
                  by_cases hi : i = w.heap.size
                  · simp [hi]
                  · rw [if_neg hi, if_neg hi, if_neg (Ne.symm hi)]
                refine ⟨0, cap, _, { w with heap := w.heap.push (.cells cs e (cs.size, cs.size + 1)), drawn := w.drawn + 1 }, ?_, ⟨_, rfl, rfl, rfl, rfl, ?_⟩, .slo _ _ _ _ cap _ (Rho.add_same _ _ _) rfl ?_⟩
                · have hforced : (Question.appendCap b.size 0 e).forced = false := rfl
                  have hsh : ∀ W : World, W.heap = w.heap.push (.cells cs e) → W.shape? w.heap.size = some (e, cs.size) := by
                    intro W hW
                    simp [World.shape?, hW]
                  simp only [execOp, hev, Go.convert, Sem.run_bind, hruns, hrun, Result.andThen_ok, hrune, Conv.stringToBytes, run_choose, hforced, Bool.false_eq_true, if_false, newRow, run_newObj, Sem.run_pure, markStringish, run_shape]
                  have hst : st.length = b.size := by rw [← hb, List.length_map, Array.length_toList]; rfl
                  rw [hst]
                  rw [hsh _ rfl]
                  simp only [run_freeze, Result.andThen_ok]
                  have hfz : World.freeze { w with heap := w.heap.push (.cells cs e), drawn := w.drawn + 1 } { block := w.heap.size, off := cs.size } 1 = { w with heap := w.heap.push (.cells cs e (cs.size, cs.size + 1)), drawn := w.drawn + 1 } := by
                    unfold World.freeze
                    rw [if_neg (by decide)]
                    simp only
                    rw [← hmod]
                    rfl
                  rw [← hfz]
                · exact ⟨cs, cs.size, cs.size + 1, rfl, fun i x hx => by simpa using hvl i x hx, fun i _ hi => by simp at hi ⊢; omega, ⟨fun _ => ⟨te, hte, by rw [hsz, hcs]; simp⟩, fun h => (by cases h)⟩⟩
                · have : st.length = b.size := by rw [← hb, List.length_map, Array.length_toList]; rfl
                  omega
              · cases hq
            · cases hq
          · cases hq
        · cases hq
  all_goals cases hq

theorem alloc_sound (hE : EnvOk P E) (hr : HR E h ρ w) (ht : TR ρ t a.tmps) {o : Oper} {ob : AObj} {x : AV} (hq : allocOp E o t h.next = some (ob, x)) :
    Lays P E h ρ w (execOp a.eval o) ob x := by
  obtain ⟨sh, kap, v, w', h1, ⟨ob', h2, h3, h4, h5, h6⟩, h7⟩ := alloc_sound0 hE hr ht hr.next_none hq
  exact ⟨sh, kap, v, w', h1, Up.new_block hr sh kap h2 h3 h4 h5 h6, h7⟩
end
end Go.Refl
