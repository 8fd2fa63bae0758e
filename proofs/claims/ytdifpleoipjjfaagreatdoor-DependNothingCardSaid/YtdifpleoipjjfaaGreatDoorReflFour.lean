/- The evaluator is sound: writes, append, range. -/
import Derived.Test.YtdifpleoipjjfaaGreatDoorReflThree
namespace Go.Refl
open Go

section
variable {P : Program} {E : Env} {h : Hp} {ρ : Rho} {w : World} {t : Tr AV} {a : Act}

/-- What a primitive operation that writes comes to: one of the ways of the list. -/
def Goes (P : Program) (E : Env) (h : Hp) (ρ : Rho) (w : World) (s : Sem Next) (rs : List (AV × Hp)) : Prop :=
  ∃ x h' ρ' v w' nx, (x, h') ∈ rs ∧ s.run P w = .ok nx w' ∧ (nx = .value v ∨ (nx = .skip ∧ v = undef)) ∧ Up E h ρ w h' ρ' w' ∧ VR ρ' x v

theorem setCells_row {b : Nat} {e : Nat} {fz : Nat × Nat} : ∀ (vs : List Value) (o : Nat) (w : World) (cs : Array Value), w.heap[b]? = some (.cells cs e fz) → o + vs.length ≤ cs.size →
    ∃ cs' : Array Value, (w.setCells b o vs).heap[b]? = some (.cells cs' e fz) ∧ cs'.size = cs.size ∧ (∀ i, cs'[i]? = if o ≤ i ∧ i < o + vs.length then vs[i - o]? else cs[i]?) ∧
      (∀ c, c ≠ b → (w.setCells b o vs).heap[c]? = w.heap[c]?) ∧ (w.setCells b o vs).heap.size = w.heap.size ∧ (w.setCells b o vs).os = w.os ∧ (w.setCells b o vs).tape = w.tape ∧ (w.setCells b o vs).output = w.output
  | [], o, w, cs, h, _ => ⟨cs, h, rfl, fun i => by rw [if_neg (by simp)], fun _ _ => rfl, rfl, rfl, rfl, rfl⟩
  | v :: vs, o, w, cs, h, hl => by
    simp only [List.length_cons] at hl
    have h1 : (w.setCell ⟨b, o, none⟩ v).heap[b]? = some (.cells (cs.setIfInBounds o v) e fz) := by
      simp only [World.setCell, Array.getElem?_modify, h]
      simp
    obtain ⟨cs', g1, g2, g3, g4, g5, g6, g7, g8⟩ := setCells_row vs (o + 1) (w.setCell ⟨b, o, none⟩ v) _ h1 (by simp; omega)
    refine ⟨cs', g1, by rw [g2]; simp, fun i => ?_, fun c hc => ?_, by rw [World.setCells, g5]; simp, by rw [World.setCells, g6]; rfl, by rw [World.setCells, g7]; rfl, by rw [World.setCells, g8]; rfl⟩
    · rw [g3]
      by_cases e1 : i = o
      · subst e1
        rw [if_neg (by omega), if_pos (by simp only [List.length_cons]; omega)]
        have : i < cs.size := by omega
        simp [this]
      · rw [Array.getElem?_setIfInBounds_ne (Ne.symm e1)]
        by_cases hc : o + 1 ≤ i ∧ i < o + 1 + vs.length
        · rw [if_pos hc, if_pos (by simp only [List.length_cons]; omega), show i - o = (i - (o + 1)) + 1 by omega]
          simp
        · rw [if_neg hc, if_neg (by simp only [List.length_cons]; omega)]
    · rw [World.setCells, g4 c hc]
      simp only [World.setCell, Array.getElem?_modify]
      rw [if_neg (Ne.symm hc)]

theorem storeN_sound (hr : HR E h ρ w) {b o : Nat} {vs : List AV} {us : List Value} {h' : Hp} (hs : storeN h b o vs = some h') {l : Loc} (hl : ρ b = some l) (hv : VL ρ vs us) :
    ∃ w', (storeCells ⟨l.blk, l.sh + o, none⟩ us).run P w = .ok () w' ∧ Up E h ρ w h' ρ w' := by
  unfold storeN at hs
  split at hs
  · rename_i c e opn f hb
    split at hs
    · rename_i h1
      split at hs
      · rename_i h2
        split at hs
        · rename_i h3
          cases hs
          have h1 := Nat.le_of_ble_eq_true h1
          have h2 := Nat.le_of_ble_eq_true h2
          obtain ⟨l', cs, lo, hi, g1, g2, g3, g4, g5, g6⟩ := row_sound hr hb
          rw [hl] at g1; cases g1
          have hlen : vs.length = us.length := hv.1
          have hin : ∀ i, i < c.length → l.sh + i < cs.size := by
            intro i hi'
            obtain ⟨v, hv', _⟩ := g4 i _ (List.getElem?_eq_getElem hi')
            exact (Array.getElem?_eq_some_iff.1 hv').1
          rcases Nat.eq_zero_or_pos us.length with h0 | h0
          · have hus : us = [] := List.length_eq_zero_iff.1 h0
            have hvs : vs = [] := List.length_eq_zero_iff.1 (by omega)
            subst hus; subst hvs
            have hsp : splice c o [] = c := by simp [splice]
            rw [hsp]
            exact ⟨w, rfl, Up.put_block hr g3 hl (fun _ _ => rfl) g2 rfl rfl rfl rfl ⟨cs, lo, hi, rfl, g4, g5, g6⟩⟩
          have hfit : l.sh + o + us.length ≤ cs.size := by
            have := hin (o + us.length - 1) (by omega)
            omega
          have hrun := run_storeCells_cells (P := P) l.blk (l.sh + o) us 0 w
            (fun j hj => by
              have hc : l.sh + o + j < cs.size := by omega
              rw [Nat.add_zero]
              simp [World.cell?, g2, hc])
            (fun j hj => by
              rw [Nat.add_zero]
              have := g5 (o + j) (by omega) (by omega)
              simp only [World.frozen?, g2]
              rw [Bool.eq_false_iff]
              intro hh
              simp at hh
              omega)
            (flats_sound h3 hv)
          rw [Nat.add_zero] at hrun
          obtain ⟨cs', k1, k2, k3, k4, k5, k6, k7, k8⟩ := setCells_row us (l.sh + o) w cs g2 hfit
          refine ⟨_, hrun, Up.put_block hr g3 hl k4 k1 k5 k6 k7 k8 ⟨cs', lo, hi, rfl, fun i x hx => ?_, fun i h1 h2 => ?_, ⟨fun ho => ?_, fun ho => ?_⟩⟩⟩
          · rw [splice_get _ _ _ (by omega)] at hx
            rw [k3]
            split at hx
            · rename_i hc
              obtain ⟨v, hv1, hv2⟩ := hv.get hx
              refine ⟨v, ?_, hv2⟩
              rw [if_pos (by omega), show l.sh + i - (l.sh + o) = i - o by omega]
              exact hv1
            · rename_i hc
              obtain ⟨v, hv1, hv2⟩ := g4 i x hx
              exact ⟨v, by rw [if_neg (by omega)]; exact hv1, hv2⟩
          · rw [k2] at h2; exact g5 i h1 h2
          · obtain ⟨te, q1, q2⟩ := g6.1 ho
            exact ⟨te, q1, by rw [k2]; exact q2⟩
          · obtain ⟨q1, q2, _⟩ := g6.2 ho
            have hsl : (splice c o vs).length = c.length := by
              unfold splice
              simp only [List.length_append, List.length_take, List.length_drop]
              omega
            exact ⟨q1, by rw [k2, q2, hsl], fun h => by rw [hsl] at h; omega⟩
        · cases hs
      · cases hs
    · cases hs
  · cases hs

theorem run_setObj {r : Nat} {o o' : Obj} (h : w.heap[r]? = some o) (hc : ∀ c t f, o ≠ .cells c t f) : (setObj r o').run P w = .ok () { w with heap := w.heap.setIfInBounds r o' } := by
  cases o <;> simp [setObj, Sem.run, h]
  · exact absurd rfl (hc _ _ _)

/-- A block that is no row is laid anew in its place. -/
theorem Up.set_obj (hr : HR E h ρ w) {b : Nat} {l : Loc} {o o' : AObj} {ob0 ob : Obj} (hb : h.h.get b = some o) (hl : ρ b = some l) (h0 : w.heap[l.blk]? = some ob0) (ho : OR E ρ l o' ob) :
    Up E h ρ w (setO h b o') ρ { w with heap := w.heap.setIfInBounds l.blk ob } := by
  have hlt : l.blk < w.heap.size := (Array.getElem?_eq_some_iff.1 h0).1
  refine Up.put_block hr hb hl (fun c hc => ?_) ?_ (by simp) rfl rfl rfl ho
  · simp only; rw [Array.getElem?_setIfInBounds_ne (Ne.symm hc)]
  · simp [hlt]

theorem keySame1_sound {x y : AV} {x' y' : Value} (h : keySame1 x y = true) (hx : VR ρ x x') (hy : VR ρ y y') (n : Nat) : Instr.sameBits n x' y' = true := by
  unfold keySame1 at h
  split at h
  · split at h
    · rename_i hk
      have := kindEq_eq hk; subst this
      cases hx; cases hy
      rw [intEq_eq] at h
      cases n <;> simp [Instr.sameBits] <;> simpa using h
    · cases h
  · cases hx; cases hy
    cases n <;> simp [Instr.sameBits] <;> simpa using h
  · cases hx with
    | str _ a ha => cases hy with
      | str _ b hb =>
        rw [listEq_iff] at h
        have : a = b := by
          have h1 : a.data.toList = b.data.toList := toNat_inj (by rw [ha, hb, h])
          have h2 : a.data = b.data := Array.toList_inj.1 h1
          cases a; cases b; simp at h2; rw [h2]
        subst this
        have hbb : (a == a) = true := by rw [beq_toListBytes]; simp
        cases n <;> simp only [Instr.sameBits, hbb]
  · cases h

theorem all2_sound {f : AV → AV → Bool} {g : Value → Value → Bool} (hf : ∀ x y x' y', f x y = true → VR ρ x x' → VR ρ y y' → g x' y' = true) :
    ∀ {a b : List AV} {a' b' : List Value}, all2 f a b = true → VL ρ a a' → VL ρ b b' → a'.length = b'.length ∧ ((a'.zip b').all fun (x, y) => g x y) = true
  | [], [], a', b', _, ha, hb => by
    have := VL.nil_iff.1 ha; subst this
    have := VL.nil_iff.1 hb; subst this
    simp
  | [], _ :: _, _, _, h, _, _ => by simp [all2] at h
  | _ :: _, [], _, _, h, _, _ => by simp [all2] at h
  | x :: a, y :: b, a', b', h, ha, hb => by
    simp only [all2] at h
    split at h
    · rename_i hxy
      obtain ⟨x', a'', rfl, h1, h2⟩ := VL.cons_iff.1 ha
      obtain ⟨y', b'', rfl, h3, h4⟩ := VL.cons_iff.1 hb
      obtain ⟨e1, e2⟩ := all2_sound hf h h2 h4
      refine ⟨by simp [e1], ?_⟩
      simp only [List.zip_cons_cons, List.all_cons, hf x y x' y' hxy h1 h3, Bool.true_and]
      exact e2
    · cases h

theorem keySame_sound {x y : AV} {x' y' : Value} (h : keySame x y = true) (hx : VR ρ x x') (hy : VR ρ y y') (n : Nat) : Instr.sameBits (n + 1) x' y' = true := by
  unfold keySame at h
  split at h
  · obtain ⟨a', rfl, ha⟩ := VR.agg_iff.1 hx
    obtain ⟨b', rfl, hb⟩ := VR.agg_iff.1 hy
    obtain ⟨e1, e2⟩ := all2_sound (g := Instr.sameBits n) (fun x y x' y' h hx hy => keySame1_sound h hx hy n) h ha hb
    simp only [Array.length_toList] at e1
    simp [Instr.sameBits, e1]
    simpa using e2
  · exact keySame1_sound h hx hy (n + 1)

theorem ML.set {es : List (AV × AV × Nat)} {es' : Array MapEntry} (hm : ML ρ es es'.toList) {i : Nat} {k v : AV} {k' v' : Value} {b : Nat} (hk : VR ρ k k') (hv : VR ρ v v')
    (hb : ∀ x, es[i]? = some x → x.2.2 = b) : ML ρ (setAt es i (k, v, b)) (es'.modify i fun e => { e with key := k', val := v' }).toList := by
  rw [setAt_eq]
  have hl : es.length = es'.size := by simpa using hm.1
  refine ⟨by simp [hl], fun j x y hx hy => ?_⟩
  rw [Array.getElem?_toList, Array.getElem?_modify] at hy
  rw [List.getElem?_set] at hx
  by_cases e : i = j
  · subst e
    rw [if_pos rfl] at hy hx
    split at hx
    · rename_i hi
      cases hx
      cases hc : es'[i]? with
      | none => rw [hc] at hy; simp at hy
      | some e0 =>
        rw [hc] at hy
        simp at hy
        subst hy
        have hx0 : es[i]? = some es[i] := List.getElem?_eq_getElem hi
        have := (hm.2 i _ e0 hx0 (by simpa using hc)).2.2
        exact ⟨hk, hv, by rw [← hb _ hx0]; exact this⟩
    · cases hx
  · rw [if_neg e] at hy hx
    exact hm.2 j x y hx (by simpa using hy)

theorem ML.push {es : List (AV × AV × Nat)} {es' : Array MapEntry} (hm : ML ρ es es'.toList) {k v : AV} {k' v' : Value} (b : Nat) (hk : VR ρ k k') (hv : VR ρ v v') :
    ML ρ (es ++ [(k, v, b)]) (es'.push { key := k', val := v', born := b }).toList := by
  have hl : es.length = es'.size := by simpa using hm.1
  refine ⟨by simp [hl], fun j x y hx hy => ?_⟩
  rw [Array.toList_push] at hy
  by_cases hj : j < es.length
  · rw [List.getElem?_append_left hj] at hx
    rw [List.getElem?_append_left (by simpa [hl] using hj)] at hy
    exact hm.2 j x y hx hy
  · rw [List.getElem?_append_right (by omega)] at hx
    rw [List.getElem?_append_right (by simp; omega)] at hy
    simp only [Array.length_toList, ← hl] at hy
    have : j - es.length = 0 := by
      rcases Nat.eq_zero_or_pos (j - es.length) with h0 | h0
      · exact h0
      · rw [List.getElem?_eq_none (by simp; omega)] at hx; cases hx
    rw [this] at hx hy
    simp at hx hy
    subst hx; subst hy
    exact ⟨hk, hv, rfl⟩

theorem updMap_sound (hE : EnvOk P E) (hr : HR E h ρ w) {ty kt e : Nat} {ti : TI} (hty : E.ty ty = some ti) (hd : ti.d = .map kt e) {m k v : AV} {m' k' v' : Value} {h' : Hp}
    (hm : VR ρ m m') (hk : VR ρ k k') (hv : VR ρ v v') (hu : updMap E h kt m k v = some h') :
    ∃ w', (Instr.mapUpdate ty m' k' v').run P w = .ok () w' ∧ Up E h ρ w h' ρ w' := by
  obtain ⟨d, _, hd', hrun⟩ := ty_under hE hty w
  rw [hd] at hd'; simp only [TDOk] at hd'; subst hd'
  unfold updMap at hu
  split at hu
  · rename_i r
    cases hm with
    | mp _ l hl =>
    split at hu
    · rename_i es clock hg
      obtain ⟨l', es', g1, g2, g3⟩ := map_sound hr hg
      rw [hl] at g1; cases g1
      have hgo := run_getObj (P := P) g2 (by simp)
      split at hu
      · cases hu
      · rename_i hchk
        have hkt : ∃ tk, E.ty kt = some tk := by
          unfold chkT at hchk
          split at hchk
          · cases hchk
          · rename_i tk htk; exact ⟨tk, htk⟩
        obtain ⟨tk, hkt⟩ := hkt
        have key : (Instr.checkKey false 10000 kt k').run P w = .ok () w := chkT_sound hE false 20 10000 kt k k' w (by omega) hchk hk
        split at hu
        · rename_i i u b hf
          obtain ⟨r', f1, f2⟩ := findKey_sound (w := w) hE (by decide) hk hkt hf g3
          cases r' with
          | none => exact f2.elim
          | some p =>
          obtain ⟨j, u'⟩ := p
          obtain ⟨rfl, _, _, k00, f3⟩ := f2
          split at hu
          · rename_i k0 x0 hk0
            split at hu
            · rename_i hks
              cases hu
              rw [getAt_eq] at hk0
              rw [Nat.sub_zero] at f3
              rw [hk0] at f3
              cases f3
              have hk0' := hk0
              obtain ⟨y0, hy0⟩ : ∃ y0, es'.toList[i]? = some y0 := by
                have : i < es'.toList.length := by have := (List.getElem?_eq_some_iff.1 hk0).1; have := g3.1; omega
                exact ⟨_, List.getElem?_eq_getElem this⟩
              have hrel := g3.2 i _ y0 hk0 hy0
              have hy0' : es'[i]? = some y0 := by simpa using hy0
              have hsame : Instr.sameBits 10000 y0.key k' = true := keySame_sound hks hrel.1 hk 9999
              refine ⟨_, ?_, Up.set_obj hr hg hl g2 ⟨_, rfl, ML.set g3 hk hv (fun x hx => by rw [hk0] at hx; cases hx; rfl)⟩⟩
              simp only [Instr.mapUpdate, Sem.run_bind, hrun, Result.andThen_ok, hgo, key, f1, hy0', Option.map_some, Option.getD_some, Instr.keyThatStays, hsame, if_true, Sem.run_pure]
              exact run_setObj g2 (by simp)
            · cases hu
          · cases hu
        · rename_i hf
          cases hu
          obtain ⟨r', f1, f2⟩ := findKey_sound (w := w) hE (by decide) hk hkt hf g3
          cases r' with
          | some p => exact f2.elim
          | none =>
          refine ⟨_, ?_, Up.set_obj hr hg hl g2 ⟨_, rfl, ML.push g3 clock hk hv⟩⟩
          simp only [Instr.mapUpdate, Sem.run_bind, hrun, Result.andThen_ok, hgo, key, f1]
          exact run_setObj g2 (by simp)
        · cases hu
    · cases hu
  · cases hu
end
end Go.Refl
/- Append, copy, ranges over maps. -/
namespace Go.Refl
open Go

section
variable {P : Program} {E : Env} {h : Hp} {ρ : Rho} {w : World} {t : Tr AV} {a : Act}

theorem growBy_le (newLen : Nat) : ∀ (r c : Nat), Builtin.growBy newLen r c ≤ max c (newLen + (newLen + 768) / 4)
  | 0, c => by simp only [Builtin.growBy]; omega
  | r + 1, c => by
    simp only [Builtin.growBy]
    split
    · omega
    · have := growBy_le newLen r (c + (c + 768) / 4)
      omega
theorem nextslicecap_le (need c : Nat) (h : c < need) : Builtin.nextslicecap need c ≤ 2 * need + 400 := by
  unfold Builtin.nextslicecap
  split
  · omega
  · split
    · omega
    · have := growBy_le need 4 c
      omega

/-- What is taken of the appended (or copied) operand. -/
def Taken (P : Program) (ρ : Rho) (w : World) (size : Nat) (x' : Value) (n : Nat) (new : List AV) : Prop :=
  ∃ us : List Value, VL ρ new us ∧ us.length = n * size ∧ (∀ w2 : World, w2.heap = w.heap → (Builtin.lenOf x').run P w2 = .ok n w2) ∧
    ∀ w2 : World, w2.heap = w.heap → (Builtin.firstCells size n x').run P w2 = .ok us.toArray w2

theorem loads_heap (hr : HR E h ρ w) {b o n : Nat} {xs : List AV} (hx : loadN h b o n = some xs) {l : Loc} (hl : ρ b = some l) :
    ∃ vs : List Value, VL ρ xs vs ∧ vs.length = n ∧ ∀ w2 : World, w2.heap = w.heap → (loadCells ⟨l.blk, l.sh + o, none⟩ n).run P w2 = .ok vs.toArray w2 := by
  obtain ⟨vs, h1, h2, h3⟩ := loadN_sound (P := P) hr hx hl
  have hlen : xs.length = n := by
    unfold loadN at hx
    split at hx
    · exact (takeN_eq hx).2
    · cases hx
  refine ⟨vs, h1, by rw [← hlen]; exact h1.1.symm, fun w2 e => ?_⟩
  have hn : vs.length = n := by rw [← hlen]; exact h1.1.symm
  have := run_loadCells_list (P := P) w2 ⟨l.blk, l.sh + o, none⟩ vs (fun j v hv => by
    rw [addr_add]
    have := h3 j v hv
    simp only [World.cell?, e] at this ⊢
    exact this)
  rw [hn] at this
  exact this

theorem takenCells_sound (hr : HR E h ρ w) {size : Nat} {x : AV} {x' : Value} {n : Nat} {new : List AV} (hx : VR ρ x x') (hq : takenCells size h x = some (n, new)) : Taken P ρ w size x' n new := by
  unfold takenCells at hq
  split at hq
  · cases hq; cases hx
    exact ⟨[], .nil ρ, by simp, fun _ _ => rfl, fun _ _ => rfl⟩
  · rename_i b o len cap
    split at hq
    · rename_i c hc
      cases hq
      have key : ∀ (l : Loc) (cp : Nat), ρ b = some l → Taken P ρ w size (.slice (some ⟨l.blk, l.sh + o, none⟩) n cp) n new := by
        intro l cp hl
        obtain ⟨vs, h1, h2, h3⟩ := loads_heap (P := P) hr hc hl
        exact ⟨vs, h1, h2, fun _ _ => rfl, fun w2 e => h3 w2 e⟩
      cases hx with
      | slx _ _ _ _ l hl _ => exact key l _ hl
      | slo _ _ _ _ c l hl _ _ => exact key l _ hl
    · cases hq
  · split at hq
    · rename_i hsz
      have hsz := Nat.eq_of_beq_eq_true hsz
      cases hq
      cases hx with
      | str _ b hb =>
        have hn : (b.data.toList.map UInt8.toNat).length = b.size := by rw [List.length_map, Array.length_toList]; rfl
        rw [hb] at hn
        refine ⟨(b.data.map fun c => Value.int .u8 c.toNat).toList, ?_, ?_, fun w2 _ => ?_, fun w2 _ => ?_⟩
        · rw [← hb, List.map_map, Array.toList_map]
          refine ⟨by simp, fun i x y hx hy => ?_⟩
          rw [List.getElem?_map] at hx hy
          cases hc : b.data.toList[i]? with
          | none => rw [hc] at hx; simp at hx
          | some c =>
            rw [hc] at hx hy
            simp at hx hy
            subst hx; subst hy
            exact .int _ _
        · rw [Array.length_toList, Array.size_map, hn, hsz]; show b.data.size = b.size * 1; rw [Nat.mul_one]; rfl
        · simp only [Builtin.lenOf, Sem.run_pure, hn]
        · simp only [Builtin.firstCells, Sem.run_pure, hn]
          congr 1
          rw [ByteArray.extract_zero_size]
    · cases hq
  · cases hq

theorem zeroCells_eq (z : Array Value) (n : Nat) : Builtin.zeroCells z n = (Array.range (n * z.size)).map (z[· % z.size]!) := rfl

theorem run_appendCap (w : World) (need old e : Nat) : ∃ (cap : Nat), need ≤ cap ∧ (choose (.appendCap need old e)).run P w = .ok cap { w with drawn := w.drawn + 1 } := by
  have hf : (Question.appendCap need old e).forced = false := rfl
  refine ⟨(Question.appendCap need old e).cut (w.tape w.drawn (.appendCap need old e)), ?_, by rw [run_choose, hf]; rfl⟩
  show need ≤ need + _
  omega

/-- What the model's append asks of its second operand. -/
def SndOk (P : Program) (w : World) (e xt : Nat) (te : TI) (x' : Value) (n : Nat) (us : List Value) : Prop :=
  us.length = n * te.size ∧
  ((∃ k, P.underlying xt = some (.int k) ∧ (∃ j, x' = .int j n) ∧ n ≤ 100000 ∧ te.bytes ≤ 100000 ∧ ∃ z, (zeroValue e).run P w = .ok z w ∧ (n * te.size = 0 ∨ us = (Builtin.zeroCells z.cells n).toList)) ∨
   (∃ d, P.underlying xt = some d ∧ (∀ k, d ≠ .int k) ∧ (∀ w2 : World, w2.heap = w.heap → (Builtin.lenOf x').run P w2 = .ok n w2) ∧ ∀ w2 : World, w2.heap = w.heap → (Builtin.firstCells te.size n x').run P w2 = .ok us.toArray w2))

theorem zeroValue_any {e : Nat} {z : Value} (h : (zeroValue e).run P w = .ok z w) (w2 : World) : (zeroValue e).run P w2 = .ok z w2 := by
  simp only [zeroValue, typeInfo, Sem.run_bind, run_program, Result.andThen_ok] at h ⊢
  cases hi : P.info? e with
  | none => rw [hi] at h; simp at h
  | some i =>
    rw [hi] at h
    simp only [Sem.run_pure, Result.andThen_ok] at h ⊢
    cases hz : i.zero with
    | none => rw [hz] at h; simp at h
    | some z0 => rw [hz] at h; simp only [Sem.run_pure] at h ⊢; injection h with h _; rw [h]

theorem append_fits (hE : EnvOk P E) {st e rt n sLen sCap : Nat} {ts te : TI} (hst : E.ty st = some ts) (hd : ts.d = .slice e) (hte : E.ty e = some te) {xt : Nat}
    {base : Option Addr} {x' : Value} {us : List Value} (hle : sLen + n ≤ sCap) (hn : SndOk P w e xt te x' n us)
    {w' : World} (hs : (match base with | some a => (storeCells (a.add (sLen * te.size)) us).run P w | none => .ok () w) = .ok () w') :
    (Builtin.append_ #[st, xt] rt #[.slice base sLen sCap, x']).run P w = .ok (.slice base (sLen + n) sCap) w' := by
  obtain ⟨d, hu, hdd, hrun⟩ := ty_under hE hst w
  rw [hd] at hdd; simp only [TDOk] at hdd; subst hdd
  obtain ⟨hlen, ⟨k, hx, ⟨j, rfl⟩, h1, h2, z, hz, hzz⟩ | ⟨d, hx, hnd, h1, h2⟩⟩ := hn
  · obtain ⟨i, hi, hsz, hby, _⟩ := ty_info hE hte w
    have hw := wrap_small (n := n) (by omega)
    have e1 : ∀ k (m : Int), (asInt (.int k m)).run P w = .ok m w := fun k m => rfl
    have p1 : ¬ ((n : Int) < 0) := by omega
    have p2 : ¬ ((n : Int) * (te.bytes : Int) > 2 ^ 48) := by
      have h3 := Nat.mul_le_mul h1 h2
      have h4 : n * te.bytes ≤ 10000000000 := by omega
      have h5 : ((n * te.bytes : Nat) : Int) ≤ ((10000000000 : Nat) : Int) := Int.ofNat_le.2 h4
      rw [Int.natCast_mul] at h5
      have : (2 : Int) ^ 48 = 281474976710656 := by decide
      rw [this]; omega
    simp only [Builtin.append_, List.getElem?_toArray, List.getElem?_cons_zero, List.getElem?_cons_succ, Sem.run_bind, hrun, Result.andThen_ok, ty_size hE hte w, run_underlying hx, Sem.run_pure, if_true,
      e1, hw, p1, if_false, hi, hby, p2, Int.toNat_natCast, hle, Bool.not_true, Bool.false_eq_true]
    have hap : (if n * te.size = 0 then pure #[] else do let z ← zeroValue e; pure (Builtin.zeroCells z.cells n) : Sem (Array Value)).run P w = .ok us.toArray w := by
      by_cases h0 : n * te.size = 0
      · have : us = [] := List.length_eq_zero_iff.1 (by omega)
        subst this
        simp [h0]
      · rcases hzz with hz0 | rfl
        · exact absurd hz0 h0
        · simp [h0, hz]
    rw [hap]
    simp only [Result.andThen_ok]
    cases base with
    | none => simp only at hs ⊢; injection hs with _ hs; subst hs; simp
    | some ad => simp only at hs ⊢; simp [hs]
  · simp only [Builtin.append_, List.getElem?_toArray, List.getElem?_cons_zero, List.getElem?_cons_succ, Sem.run_bind, hrun, Result.andThen_ok, ty_size hE hte w, run_underlying hx,
      Sem.run_pure, Bool.false_eq_true, if_false, h1 w rfl, hle, if_true, Bool.not_false, h2 w rfl]
    cases base with
    | none => simp only at hs ⊢; injection hs with _ hs; subst hs; simp
    | some ad => simp only at hs ⊢; simp [hs]

theorem append_grows (hE : EnvOk P E) {st e rt n sLen sCap : Nat} {ts te : TI} (hst : E.ty st = some ts) (hd : ts.d = .slice e) (hte : E.ty e = some te) {xt : Nat}
    {base : Option Addr} {x' : Value} {us olds : List Value} (hgt : ¬ sLen + n ≤ sCap) (hn : SndOk P w e xt te x' n us) (hsm : sLen + n ≤ 200000) (hby : te.bytes ≤ 100000)
    (hold : ∀ w2 : World, w2.heap = w.heap → (Builtin.firstCells te.size sLen (.slice base sLen sCap)).run P w2 = .ok olds.toArray w2) :
    ∃ (cap : Nat) (rest : List Value), sLen + n ≤ cap ∧ rest.length = (cap - (sLen + n)) * te.size ∧
    (Builtin.append_ #[st, xt] rt #[.slice base sLen sCap, x']).run P w =
      .ok (.slice (some ⟨w.heap.size, 0, none⟩) (sLen + n) cap) { w with heap := w.heap.push (.cells (olds ++ us ++ rest).toArray e), drawn := w.drawn + 1 } := by
  obtain ⟨d, hu, hdd, hrun⟩ := ty_under hE hst w
  rw [hd] at hdd; simp only [TDOk] at hdd; subst hdd
  obtain ⟨cap, hcap, hch⟩ := run_appendCap (P := P) w (sLen + n) sCap e
  obtain ⟨i, hi, hsz, hbyt, z, hz0, hz1⟩ := ty_info hE hte w
  have hi2 : ∀ w2 : World, (typeInfo e).run P w2 = .ok i w2 := by
    intro w2
    obtain ⟨i2, z2, g1, _⟩ := (hE.ty _ _ hte).info
    have : i2 = i := by simp [typeInfo, g1] at hi; exact hi
    subst this
    simp [typeInfo, g1]
  have hz : (zeroValue e).run P w = .ok z w := by simp [zeroValue, hi, hz0]
  have hzs : z.cells.size = te.size := by
    have := (hz1 (fun _ => none)).1
    rw [(hE.ty _ _ hte).zlen] at this
    simpa using this.symm
  have p3 : ¬ ((((sLen + n : Nat) : Int)) > IntKind.i64.max) := by
    have : IntKind.i64.max = 9223372036854775807 := by decide
    rw [this]; omega
  have p4 : ¬ (Builtin.nextslicecap (sLen + n) sCap * te.bytes > 2 ^ 48) := by
    have h1 := nextslicecap_le (sLen + n) sCap (by omega)
    have h2 : Builtin.nextslicecap (sLen + n) sCap ≤ 400400 := by omega
    have h3 := Nat.mul_le_mul h2 hby
    have : (2 : Nat) ^ 48 = 281474976710656 := by decide
    rw [this]; omega
  refine ⟨cap, (Builtin.zeroCells z.cells (cap - (sLen + n))).toList, hcap, by simp [Builtin.zeroCells, hzs], ?_⟩
  have hw2 : ({ w with drawn := w.drawn + 1 } : World).heap = w.heap := rfl
  have tailrun : ∀ (ap : Sem (Array Value)) (zr : Bool), (∀ w2 : World, w2.heap = w.heap → ap.run P w2 = .ok us.toArray w2) →
      ((do
        let newCap ← choose (.appendCap (sLen + n) sCap e)
        let i ← typeInfo e
        askRoom (newCap * i.bytes)
        let old ← Builtin.firstCells te.size sLen (.slice base sLen sCap)
        let new ← ap
        let z ← zeroValue e
        let r ← newRow e (old ++ new ++ Builtin.zeroCells z.cells (newCap - (sLen + n)))
        pure (Value.slice (some r) (sLen + n) newCap)) : Sem Value).run P w =
      .ok (.slice (some ⟨w.heap.size, 0, none⟩) (sLen + n) cap) { w with heap := w.heap.push (.cells (olds ++ us ++ (Builtin.zeroCells z.cells (cap - (sLen + n))).toList).toArray e), drawn := w.drawn + 1 } := by
    intro ap zr hap
    simp only [Sem.run_bind, hch, Result.andThen_ok, hi2, run_askRoom, hold _ hw2, hap _ hw2, zeroValue_any hz, newRow, run_newObj, Sem.run_pure]
    have happ : (olds.toArray ++ us.toArray ++ Builtin.zeroCells z.cells (cap - (sLen + n)) : Array Value) = (olds ++ us ++ (Builtin.zeroCells z.cells (cap - (sLen + n))).toList).toArray := by
      apply Array.toList_inj.1; simp
    rw [happ]
  obtain ⟨hlen, ⟨k, hx, ⟨j, rfl⟩, h1, h2, z', hz', hzz⟩ | ⟨d, hx, hnd, h1, h2⟩⟩ := hn
  · have hw := wrap_small (n := n) (by omega)
    have e1 : ∀ k (m : Int), (asInt (.int k m)).run P w = .ok m w := fun k m => rfl
    have p1 : ¬ ((n : Int) < 0) := by omega
    have p2 : ¬ ((n : Int) * (te.bytes : Int) > 2 ^ 48) := by
      have h3 := Nat.mul_le_mul h1 h2
      have h4 : n * te.bytes ≤ 10000000000 := by omega
      have h5 : ((n * te.bytes : Nat) : Int) ≤ ((10000000000 : Nat) : Int) := Int.ofNat_le.2 h4
      rw [Int.natCast_mul] at h5
      have : (2 : Int) ^ 48 = 281474976710656 := by decide
      rw [this]; omega
    have hap : ∀ w2 : World, w2.heap = w.heap → (if n * te.size = 0 then pure #[] else do let z ← zeroValue e; pure (Builtin.zeroCells z.cells n) : Sem (Array Value)).run P w2 = .ok us.toArray w2 := by
      intro w2 _
      by_cases h0 : n * te.size = 0
      · have : us = [] := List.length_eq_zero_iff.1 (by omega)
        subst this
        simp [h0]
      · rcases hzz with hz0 | rfl
        · exact absurd hz0 h0
        · simp [h0, zeroValue_any hz' w2]
    rw [← tailrun _ true hap]
    simp only [Builtin.append_, List.getElem?_toArray, List.getElem?_cons_zero, List.getElem?_cons_succ, Sem.run_bind, hrun, Result.andThen_ok, ty_size hE hte w, run_underlying hx, Sem.run_pure, if_true,
      e1, hw, p1, if_false, hi2, hbyt, p2, p3, p4, false_and, Int.toNat_natCast, hgt, Bool.not_true, Bool.false_eq_true]
  · rw [← tailrun _ false h2]
    simp only [Builtin.append_, List.getElem?_toArray, List.getElem?_cons_zero, List.getElem?_cons_succ, Sem.run_bind, hrun, Result.andThen_ok, ty_size hE hte w, run_underlying hx,
      Sem.run_pure, Bool.false_eq_true, if_false, h1 w rfl, hgt, if_true, Bool.not_false, hi2, hbyt, p3, p4, false_and]

/-- A block goes over to a new number. -/
theorem Up.take_over (hr : HR E h ρ w) {b : Nat} {l : Loc} {o o' : AObj} {ob : Obj} {w' : World} (hb : h.h.get b = some o) (hl : ρ b = some l) (sh kap : Nat)
    (hw : ∀ c, c ≠ l.blk → w'.heap[c]? = w.heap[c]?) (hwb : w'.heap[l.blk]? = some ob) (hs : w'.heap.size = w.heap.size)
    (hos : w'.os = w.os) (ht : w'.tape = w.tape) (hout : w'.output = w.output) (ho : OR E (ρ.add h.next ⟨l.blk, sh, kap⟩) ⟨l.blk, sh, kap⟩ o' ob) :
    Up E h ρ w (alloc (delO h b) o') (ρ.add h.next ⟨l.blk, sh, kap⟩) w' := by
  have hnone := hr.next_none
  have hext : Ext ρ (ρ.add h.next ⟨l.blk, sh, kap⟩) := Rho.add_ext hnone
  have hget : ∀ c, (alloc (delO h b) o').h.get c = if c = h.next then some o' else if c = b then none else h.h.get c := by
    intro c; simp only [alloc, delO]; rw [Tr.get_set, Tr.get_del]
  have lv : ∀ x l1, live (alloc (delO h b) o') x → (ρ.add h.next ⟨l.blk, sh, kap⟩) x = some l1 → (x = h.next ∧ l1.blk = l.blk) ∨ (x ≠ h.next ∧ x ≠ b ∧ live h x ∧ ρ x = some l1) := by
    rintro x l1 ⟨u, hu⟩ h1
    rw [hget] at hu
    by_cases e : x = h.next
    · subst e; rw [Rho.add_same] at h1; cases h1; exact .inl ⟨rfl, rfl⟩
    · rw [if_neg e] at hu
      by_cases e2 : x = b
      · rw [if_pos e2] at hu; cases hu
      · rw [if_neg e2] at hu
        have h1' : ρ x = some l1 := by unfold Rho.add at h1; rwa [if_neg e] at h1
        exact .inr ⟨e, e2, ⟨u, hu⟩, h1'⟩
  refine ⟨hext, ?_, by simp [alloc, delO], ⟨?_, ?_, ?_, ?_⟩, by omega, ?_, ?_, hos, ht, hout⟩
  · intro c l1 hc
    unfold Rho.add at hc
    split at hc
    · rename_i e; exact .inr (by simp [alloc, delO, e])
    · exact .inl hc
  · intro c l1 hc
    unfold Rho.add at hc
    split at hc
    · rename_i e; simp [alloc, delO, e]
    · have := hr.dom _ _ hc; simp only [alloc, delO]; omega
  · intro c u hu
    rw [hget] at hu
    split at hu
    · rename_i e; cases hu; subst e
      exact ⟨_, ob, Rho.add_same _ _ _, hwb, ho⟩
    · split at hu
      · cases hu
      · rename_i e1 e2
        obtain ⟨l', ob', h1, h2, h3⟩ := hr.obj c u hu
        refine ⟨l', ob', hext _ _ h1, ?_, h3.ext hext⟩
        rw [hw]; exact h2
        intro e
        exact e2 (hr.sep c b l' l ⟨u, hu⟩ ⟨o, hb⟩ h1 hl e)
  · intro x y lx ly hx hy h1 h2 e
    rcases lv x lx hx h1 with ⟨a1, a2⟩ | ⟨a1, a2, a3, a4⟩ <;> rcases lv y ly hy h2 with ⟨b1, b2⟩ | ⟨b1, b2, b3, b4⟩
    · rw [a1, b1]
    · exact absurd (hr.sep y b ly l b3 ⟨o, hb⟩ b4 hl (by omega)) b2
    · exact absurd (hr.sep x b lx l a3 ⟨o, hb⟩ a4 hl (by omega)) a2
    · exact hr.sep x y lx ly a3 b3 a4 b4 e
  · intro g hg
    obtain ⟨k, hk⟩ := hr.glob g hg
    exact ⟨k, hext _ _ hk⟩
  · intro c hc hn
    exact hw c (fun e => hn b l ⟨o, hb⟩ hl e.symm)
  · intro x lx hx h1
    rcases lv x lx hx h1 with ⟨a1, a2⟩ | ⟨a1, a2, a3, a4⟩
    · exact .inr ⟨b, l, ⟨o, hb⟩, hl, a2.symm⟩
    · exact .inr ⟨x, lx, a3, a4, rfl⟩

/-- A row that has grown: the old cells, the new ones, and what stands behind. -/
theorem grown_row {te : TI} {e frz : Nat} (hte : E.ty e = some te) {ρ' : Rho} {blk cap need : Nat} {old new : List AV} {olds us rest : List Value} (h1 : VL ρ' old olds) (h2 : VL ρ' new us)
    (h3 : olds.length + us.length = need * te.size) (h4 : rest.length = (cap - need) * te.size) (h5 : need ≤ cap) :
    OR E ρ' ⟨blk, 0, cap⟩ (.row (old ++ new) e true frz) (.cells (olds ++ us ++ rest).toArray e) := by
  refine ⟨_, 0, 0, rfl, fun i x hx => ?_, fun i _ _ => by omega, ⟨fun _ => ⟨te, hte, ?_⟩, fun h => by cases h⟩⟩
  · obtain ⟨v, hv, hR⟩ := (h1.append h2).get hx
    refine ⟨v, ?_, hR⟩
    rw [Nat.zero_add, List.getElem?_toArray, List.getElem?_append_left (List.getElem?_eq_some_iff.1 hv).1]
    exact hv
  · simp only [List.size_toArray, List.length_append, Nat.zero_add]
    rw [h4, Nat.sub_mul]
    have := Nat.mul_le_mul_right te.size h5
    omega

theorem appendTo_sound (hE : EnvOk P E) (hr : HR E h ρ w) {st e rt n xt : Nat} {ts te : TI} (hst : E.ty st = some ts) (hd : ts.d = .slice e) (hte : E.ty e = some te) {s r : AV} {s' x' : Value}
    {new : List AV} {us : List Value} {h' : Hp} (hs : VR ρ s s') (hnew : VL ρ new us) (hn : SndOk P w e xt te x' n us) (hq : appendTo te e h s n new = some (r, h')) :
    ∃ v ρ' w', (Builtin.append_ #[st, xt] rt #[s', x']).run P w = .ok v w' ∧ Up E h ρ w h' ρ' w' ∧ VR ρ' r v := by
  have hnone := hr.next_none
  unfold appendTo at hq
  split at hq
  · cases hq
  · rename_i hn1
    have hn1 := Nat.le_of_ble_eq_true hn1
    split at hq
    · cases hq
    · rename_i hby
      have hby := Nat.le_of_ble_eq_true hby
      have hul : us.length = n * te.size := hn.1
      split at hq
      · -- nil
        cases hs
        cases n with
        | zero =>
          cases hq
          have hus : us = [] := List.length_eq_zero_iff.1 (by omega)
          subst hus
          exact ⟨_, ρ, w, append_fits (w' := w) hE hst hd hte (Nat.le_refl 0) hn rfl, Up.refl hr, .nils⟩
        | succ m =>
          cases hq
          obtain ⟨cap, rest, g1, g2, g3⟩ := append_grows (rt := rt) (sLen := 0) (sCap := 0) (base := none) (olds := []) hE hst hd hte (by omega) hn (by omega) hby (fun w2 _ => by simp [Builtin.firstCells])
          refine ⟨_, _, _, g3, Up.new_block hr 0 cap rfl rfl rfl rfl ?_, ?_⟩
          · have := grown_row (E := E) (frz := 0) (blk := w.heap.size) (cap := cap) (need := 0 + (m + 1)) (old := []) (olds := []) (rest := rest) hte (VL.nil _) (hnew.ext (Rho.add_ext hnone (l := ⟨w.heap.size, 0, cap⟩))) (by simp [hul]) g2 g1
            simpa using this
          · have := VR.slo (ρ := ρ.add h.next ⟨w.heap.size, 0, cap⟩) h.next 0 (0 + (m + 1)) 0 cap ⟨w.heap.size, 0, cap⟩ (Rho.add_same _ _ _) rfl g1
            simpa using this
      · rename_i b o len cp
        cases n with
        | zero =>
          cases hq
          have hus : us = [] := List.length_eq_zero_iff.1 (by omega)
          subst hus
          cases hs with
          | slx _ _ _ _ l hl hlen => exact ⟨_, ρ, w, append_fits (w' := w) hE hst hd hte hlen hn (by simp [storeCells]), Up.refl hr, .slx _ _ _ _ l hl hlen⟩
          | slo _ _ _ _ c l hl hc hlen => exact ⟨_, ρ, w, append_fits (w' := w) hE hst hd hte hlen hn (by simp [storeCells]), Up.refl hr, .slo _ _ _ _ c l hl hc hlen⟩
        | succ m =>
          simp only at hq
          split at hq
          · cases hq
          · rename_i c e0 opn f hrow
            split at hq
            · cases hq
            · rename_i hln
              have hln := Nat.le_of_ble_eq_true hln
              split at hq
              · -- a known capacity
                rename_i k
                cases hs with
                | slx _ _ _ _ l hl hlen =>
                split at hq
                · rename_i hfit
                  have hfit := Nat.le_of_ble_eq_true hfit
                  split at hq
                  · rename_i h1 hst1
                    cases hq
                    obtain ⟨w', k1, k2⟩ := storeN_sound (P := P) hr hst1 hl hnew
                    refine ⟨_, ρ, w', append_fits (w' := w') hE hst hd hte hfit hn ?_, k2, .slx _ _ _ _ l hl hfit⟩
                    simp only [addr_add, Nat.add_assoc] at k1 ⊢
                    exact k1
                  · cases hq
                · rename_i hfit
                  have hfit : ¬ len + (m + 1) ≤ k := by
                    intro hh; rw [Nat.ble_eq_true_of_le hh] at hfit; cases hfit
                  split at hq
                  · rename_i old hold
                    cases hq
                    have hload : loadN h b o (len * te.size) = some old := by unfold loadN; rw [hrow]; exact hold
                    obtain ⟨olds, q1, q2, q3⟩ := loads_heap (P := P) hr hload hl
                    obtain ⟨cap, rest, g1, g2, g3⟩ := append_grows (rt := rt) (olds := olds) (base := some ⟨l.blk, l.sh + o, none⟩) hE hst hd hte hfit hn (by omega) hby (fun w2 e => q3 w2 e)
                    refine ⟨_, _, _, g3, Up.new_block hr 0 cap rfl rfl rfl rfl ?_, .slo _ _ _ _ cap _ (Rho.add_same _ _ _) rfl g1⟩
                    exact grown_row hte (q1.ext (Rho.add_ext hnone)) (hnew.ext (Rho.add_ext hnone)) (by rw [q2, hul, ← Nat.add_mul]) g2 g1
                  · cases hq
              · -- an open one
                rename_i sb
                cases hs with
                | slo _ _ _ _ c' l hl hc hlen =>
                split at hq
                · cases hq
                · rename_i hok
                  unfold appendOk at hok
                  split at hok
                  · cases hok
                  · split at hok
                    · cases hok
                    · rename_i sz hsz
                      split at hok
                      · rename_i he0
                        have he0 := Nat.eq_of_beq_eq_true he0
                        have ho := Nat.eq_of_beq_eq_true hok
                        subst he0
                        obtain ⟨l', cs, lo, hi, r1, r2, r3, r4, r5, r6⟩ := row_sound hr hrow
                        rw [hl] at r1; cases r1
                        obtain ⟨te', t1, t2⟩ := r6.1 rfl
                        rw [hte] at t1; cases t1
                        have hkap : c' * te.size + o = l.kap * te.size := by rw [← hc, Nat.add_mul, ho]
                        split at hq
                        · -- it fits for sure
                          rename_i hfit
                          have hfit := Nat.le_of_ble_eq_true hfit
                          have hcl : l.sh + c.length ≤ cs.size := by
                            rcases Nat.eq_zero_or_pos c.length with h0 | h0
                            · omega
                            · obtain ⟨v, hv, _⟩ := r4 (c.length - 1) _ (List.getElem?_eq_getElem (by omega))
                              have := (Array.getElem?_eq_some_iff.1 hv).1
                              omega
                          have hneed : len + (m + 1) ≤ c' := by
                            have : (len + (m + 1)) * te.size ≤ c' * te.size := by omega
                            exact Nat.le_of_mul_le_mul_right this (by omega)
                          split at hq
                          · rename_i h1 hst1
                            cases hq
                            obtain ⟨w', k1, k2⟩ := storeN_sound (P := P) hr hst1 hl hnew
                            refine ⟨_, ρ, w', append_fits (w' := w') hE hst hd hte hneed hn ?_, k2, .slo _ _ _ _ c' l hl hc hneed⟩
                            simp only [addr_add, Nat.add_assoc] at k1 ⊢
                            exact k1
                          · cases hq
                        · split at hq
                          · cases hq
                          · rename_i hat
                            have hat := Nat.eq_of_beq_eq_true hat
                            split at hq
                            · cases hq
                            · rename_i hf
                              have hf := Nat.le_of_ble_eq_true hf
                              split at hq
                              · rename_i old hold
                                split at hq
                                · rename_i hfl
                                  cases hq
                                  have hload : loadN h b o (len * te.size) = some old := by unfold loadN; rw [hrow]; exact hold
                                  obtain ⟨olds, q1, q2, q3⟩ := loads_heap (P := P) hr hload hl
                                  by_cases hneed : len + (m + 1) ≤ c'
                                  · -- in its place
                                    have hmul : (len + (m + 1)) * te.size ≤ c' * te.size := Nat.mul_le_mul_right _ hneed
                                    have hsplit : (len + (m + 1)) * te.size = len * te.size + us.length := by rw [hul, ← Nat.add_mul]
                                    have hfit : l.sh + (o + len * te.size) + us.length ≤ cs.size := by omega
                                    have hrun := run_storeCells_cells (P := P) l.blk (l.sh + (o + len * te.size)) us 0 w
                                      (fun j hj => by
                                        have hc2 : l.sh + (o + len * te.size) + j < cs.size := by omega
                                        rw [Nat.add_zero]
                                        simp [World.cell?, r2, hc2])
                                      (fun j hj => by
                                        rw [Nat.add_zero]
                                        have := r5 (o + len * te.size + j) (by omega) (by omega)
                                        simp only [World.frozen?, r2]
                                        rw [Bool.eq_false_iff]
                                        intro hh
                                        simp at hh
                                        omega)
                                      (flats_sound hfl hnew)
                                    rw [Nat.add_zero] at hrun
                                    obtain ⟨cs', k1, k2, k3, k4, k5, k6, k7, k8⟩ := setCells_row us (l.sh + (o + len * te.size)) w cs r2 hfit
                                    refine ⟨_, _, _, append_fits hE hst hd hte hneed hn ?_, Up.take_over hr r3 hl (l.sh + o) c' k4 k1 k5 k6 k7 k8 ⟨cs', lo, hi, rfl, ?_, ?_, ?_, fun h => (by cases h)⟩, ?_⟩
                                    · simp only [addr_add, Nat.add_assoc] at hrun ⊢
                                      exact hrun
                                    · intro i x hx
                                      rw [k3]
                                      have hol : old.length = len * te.size := (takeN_eq hold).2
                                      by_cases hi' : i < old.length
                                      · rw [List.getElem?_append_left hi'] at hx
                                        rw [(takeN_eq hold).1, List.getElem?_take, if_pos (by omega), List.getElem?_drop] at hx
                                        obtain ⟨v, hv, hR⟩ := r4 _ x hx
                                        refine ⟨v, ?_, hR.ext (Rho.add_ext hnone)⟩
                                        simp only
                                        rw [if_neg (by omega), Nat.add_assoc]
                                        exact hv
                                      · rw [List.getElem?_append_right (by omega)] at hx
                                        obtain ⟨v, hv, hR⟩ := hnew.get hx
                                        have hlt := (List.getElem?_eq_some_iff.1 hv).1
                                        refine ⟨v, ?_, hR.ext (Rho.add_ext hnone)⟩
                                        simp only
                                        rw [if_pos (by omega), show l.sh + o + i - (l.sh + (o + len * te.size)) = i - old.length by omega]
                                        exact hv
                                    · intro i h1 h2
                                      simp only at h2 ⊢
                                      rw [k2] at h2
                                      have := r5 (o + i) (by omega) (by omega)
                                      rw [Nat.add_assoc]; exact this
                                    · intro _
                                      refine ⟨te, hte, ?_⟩
                                      simp only
                                      rw [k2]; omega
                                    · exact VR.slo (ρ := ρ.add h.next ⟨l.blk, l.sh + o, c'⟩) h.next 0 (len + (m + 1)) 0 c' ⟨l.blk, l.sh + o, c'⟩ (Rho.add_same _ _ _) rfl hneed
                                  · obtain ⟨cap, rest, g1, g2, g3⟩ := append_grows (rt := rt) (olds := olds) (base := some ⟨l.blk, l.sh + o, none⟩) hE hst hd hte hneed hn (by omega) hby (fun w2 e => q3 w2 e)
                                    refine ⟨_, _, _, g3, (Up.del hr b).trans (Up.new_block (hr.del b) 0 cap rfl rfl rfl rfl ?_), .slo _ _ _ _ cap _ (Rho.add_same _ _ _) rfl g1⟩
                                    exact grown_row hte (q1.ext (Rho.add_ext hnone)) (hnew.ext (Rho.add_ext hnone)) (by rw [q2, hul, ← Nat.add_mul]) g2 g1
                                · cases hq
                              · cases hq
                      · cases hok
      · cases hq
end
end Go.Refl
/- Every operation that writes, but for calls of functions. -/
namespace Go.Refl
open Go

section
variable {P : Program} {E : Env} {h : Hp} {ρ : Rho} {w : World} {t : Tr AV} {a : Act}

theorem run_mapNext (w : World) {n : Nat} (hn : 0 < n) : ∃ (i : Nat) (w' : World), i < n ∧ (choose (.mapNext n)).run P w = .ok i w' ∧ w'.heap = w.heap ∧ w'.os = w.os ∧ w'.tape = w.tape ∧ w'.output = w.output := by
  by_cases hf : n ≤ 1
  · exact ⟨0, w, hn, by rw [run_choose]; simp [Question.forced, hf], rfl, rfl, rfl, rfl⟩
  · refine ⟨(Question.mapNext n).cut (w.tape w.drawn (.mapNext n)), { w with drawn := w.drawn + 1 }, Nat.mod_lt _ hn, ?_, rfl, rfl, rfl, rfl⟩
    rw [run_choose]
    have : (Question.mapNext n).forced = false := by simp [Question.forced]; omega
    rw [this]; rfl

theorem any_contains (x : Nat) : ∀ seen : List Nat, seen.any (Nat.beq x) = seen.contains x
  | [] => rfl
  | z :: zs => by
    rw [List.any_cons, any_contains x zs, List.contains_cons]
    congr 1
    rw [Bool.eq_iff_iff]; simp [Nat.beq_eq]
theorem left_ml {seen : List Nat} : ∀ {es : List (AV × AV × Nat)} {es' : List MapEntry}, ML ρ es es' → ML ρ (leftOf seen es) (es'.filter fun e => !seen.toArray.contains e.born)
  | [], es', hm => by
    have : es' = [] := by have := hm.1; exact List.length_eq_zero_iff.1 this.symm
    subst this
    exact ⟨rfl, by simp [leftOf]⟩
  | x :: es, es', hm => by
    cases es' with
    | nil => have := hm.1; simp at this
    | cons y es' =>
      obtain ⟨h1, h2, h3⟩ := hm.2 0 x y (by simp) (by simp)
      have hm' : ML ρ es es' := ⟨by have := hm.1; simpa using this, fun j x y hx hy => hm.2 (j + 1) x y (by simpa using hx) (by simpa using hy)⟩
      have ih := left_ml (seen := seen) hm'
      have e0 : seen.any (Nat.beq x.2.2) = seen.toArray.contains y.born := by
        rw [← h3, List.contains_toArray]
        exact any_contains _ seen
      simp only [leftOf, List.filter_cons]
      cases hc : seen.any (Nat.beq x.2.2) with
      | true => rw [← e0, hc]; simpa using ih
      | false =>
        rw [← e0, hc]
        refine ⟨by simp [ih.1], fun j u v hu hv => ?_⟩
        cases j with
        | zero => simp at hu hv; subst hu; subst hv; exact ⟨h1, h2, h3⟩
        | succ j => exact ih.2 j u v (by simpa using hu) (by simpa using hv)

theorem filter_all {α : Type} {p : α → Bool} {l : List α} (h : ∀ x ∈ l, p x = true) : l.filter p = l := List.filter_eq_self.2 h
theorem filter_none {α : Type} {p : α → Bool} {l : List α} (h : ∀ x ∈ l, p x = false) : l.filter p = [] := List.filter_eq_nil_iff.2 (fun x hx => by simp [h x hx])

theorem next_sound (hr : HR E h ρ w) {r ty : Nat} {l : Loc} (hl : ρ r = some l) {rs : List (AV × Hp)} (hq : nextOp h r = some rs) :
    ∃ x h' v w', (x, h') ∈ rs ∧ (Instr.next (.pointer (some ⟨l.blk, l.sh + 0, none⟩)) false ty).run P w = .ok v w' ∧ Up E h ρ w h' ρ w' ∧ VR ρ x v := by
  unfold nextOp at hq
  have hover : VR ρ (.tup [.bool false]) (.tuple #[.bool false]) := VR.tup_iff.2 ⟨_, rfl, .cons (.bool _) (.nil ρ)⟩
  split at hq
  · rename_i x1 x2 x3 hg
    cases hq
    obtain ⟨l', ob, h1, h2, m', h3, hsh, h4⟩ := hr.obj r _ hg
    rw [hl] at h1; cases h1
    subst h3; subst h4
    have g1 := run_getObj (P := P) h2 (by simp)
    exact ⟨_, h, _, w, List.mem_singleton.2 rfl, by simp [Instr.next, hsh, g1], Up.refl hr, hover⟩
  · rename_i m since seen last hg
    obtain ⟨l', ob, h1, h2, m', h3, hsh, xl, hx, h4⟩ := hr.obj r _ hg
    rw [hl] at h1; cases h1
    subst h3; subst h4
    have g1 := run_getObj (P := P) h2 (by simp)
    split at hq
    · rename_i es clock hgm
      obtain ⟨lm, es', k1, k2, k3⟩ := map_sound hr hgm
      rw [hx] at k1; cases k1
      have g2 := run_getObj (P := P) k2 (by simp)
      split at hq
      · cases hq
      · rename_i hck
        simp only [Bool.and_eq_true] at hck
        have hc1 : clock = since := Nat.eq_of_beq_eq_true hck.1
        have hc2 : last = clock := (Nat.eq_of_beq_eq_true hck.2).trans hc1.symm
        subst hc1; subst hc2
        split at hq
        · cases hq
        · rename_i hall
          have hb : ∀ e ∈ es'.toList, e.born < last := by
            intro e he
            obtain ⟨i, hi, rfl⟩ := List.mem_iff_getElem.1 he
            have hi' : i < es.length := by rw [k3.1]; exact hi
            obtain ⟨_, _, e3⟩ := k3.2 i es[i] es'.toList[i] (List.getElem?_eq_getElem hi') (List.getElem?_eq_getElem hi)
            rw [← e3]
            have := List.all_eq_true.1 hall es[i] (List.getElem_mem hi')
            rwa [Nat.blt_eq] at this
          have hno : (!seen.toArray.isEmpty && !es'.isEmpty && es'.all (·.born ≥ last)) = false := by
            cases hem : es'.isEmpty with
            | true => simp
            | false =>
              have hne : es'.toList ≠ [] := by intro e; simp [Array.isEmpty] at hem; exact hem (by simpa using e)
              obtain ⟨e0, he0⟩ := List.exists_mem_of_ne_nil _ hne
              have : es'.all (·.born ≥ last) = false := by
                rw [Bool.eq_false_iff]
                intro hh
                rw [← Array.all_toList] at hh
                have := List.all_eq_true.1 hh e0 he0
                have h5 := hb e0 he0
                simp at this
                omega
              simp [this]
          have hml := left_ml (seen := seen) k3
          have hlm : ∀ e ∈ es'.toList.filter (fun e => !seen.toArray.contains e.born), e.born < last := fun e he => hb e (List.mem_filter.1 he).1
          have ho : ((es'.filter fun e => !seen.toArray.contains e.born).filter (·.born < last)).toList = es'.toList.filter (fun e => !seen.toArray.contains e.born) := by
            rw [Array.toList_filter, Array.toList_filter]
            exact filter_all (fun e he => by simpa using hlm e he)
          have hn : ((es'.filter fun e => !seen.toArray.contains e.born).filter (·.born ≥ last)).toList = [] := by
            rw [Array.toList_filter, Array.toList_filter]
            exact filter_none (fun e he => by have := hlm e he; simp; omega)
          generalize hL : es'.toList.filter (fun e => !seen.toArray.contains e.born) = L at *
          have ho' := congrArg List.toArray ho
          have hn' := congrArg List.toArray hn
          simp only [Array.toArray_toList] at ho' hn'
          split at hq
          · rename_i hle
            cases hq
            have hL0 : L = [] := by have := hml.1; rw [hle] at this; exact List.length_eq_zero_iff.1 this.symm
            subst hL0
            obtain ⟨i, w', hi, hrun, e1, e2, e3, e4⟩ := run_mapNext (P := P) w (n := 1) (by omega)
            obtain rfl : i = 0 := by omega
            refine ⟨_, h, _, w', List.mem_singleton.2 rfl, ?_, Up.same hr e1 e2 e3 e4, hover⟩
            have e0 : l.sh + 0 = 0 := by omega
            rw [e0]
            simp only [Instr.next, Sem.run_bind, g1, g2, Result.andThen_ok, hno, Bool.false_eq_true, if_false, ho', hn']
            simp [hrun]
          · rename_i hne
            cases hq
            have hLl : (leftOf seen es).length = L.length := hml.1
            have hLne : L ≠ [] := by intro e; rw [e] at hLl; exact hne (List.length_eq_zero_iff.1 hLl)
            have hpos : 0 < L.length := List.length_pos_iff.2 hLne
            obtain ⟨i, w', hi, hrun, e1, e2, e3, e4⟩ := run_mapNext (P := P) w (n := L.length) hpos
            have hi' : i < (leftOf seen es).length := by omega
            obtain ⟨r1, r2, r3⟩ := hml.2 i _ _ (List.getElem?_eq_getElem hi') (List.getElem?_eq_getElem hi)
            have hr' := HR.of_heap hr e1
            have h2' : w'.heap[l.blk]? = some (.mapIter (some xl.blk) last seen.toArray last) := by rw [e1]; exact h2
            have hset := run_setObj (P := P) (o' := .mapIter (some xl.blk) last (seen.toArray.push L[i].born) last) h2' (by simp)
            refine ⟨_, _, .tuple #[.bool true, L[i].key, L[i].val], { w' with heap := w'.heap.setIfInBounds l.blk (.mapIter (some xl.blk) last (seen.toArray.push L[i].born) last) }, List.mem_map.2 ⟨(leftOf seen es)[i], List.getElem_mem hi', rfl⟩, ?_,
              (Up.same hr e1 e2 e3 e4).trans (Up.set_obj hr' (ob := .mapIter (some xl.blk) last (seen.toArray.push L[i].born) last) hg hl h2' ⟨some xl.blk, by rw [r3]; simp, hsh, xl, hx, rfl⟩), ?_⟩
            · have hLe : L.toArray.isEmpty = false := by simpa [List.isEmpty_iff] using hLne
              have e0 : l.sh + 0 = 0 := by omega
              rw [e0]
              simp only [Instr.next, Sem.run_bind, g1, g2, Result.andThen_ok, hno, Bool.false_eq_true, if_false, ho', hn']
              simp [hLe, hrun, hi]
              rw [← List.push_toArray, hset]
              rfl
            · exact VR.tup_iff.2 ⟨_, rfl, .cons (.bool _) (.cons r1 (.cons r2 (.nil ρ)))⟩
    · cases hq
  · cases hq

theorem goes_of_unit {s : Sem Unit} {h' : Hp} {w' : World} (hs : s.run P w = .ok () w') (hu : Up E h ρ w h' ρ w') : Goes P E h ρ w (do s; pure .skip) [(undefA, h')] :=
  ⟨_, _, ρ, undef, w', .skip, List.mem_singleton.2 rfl, by simp [hs], .inr ⟨rfl, rfl⟩, hu, VR.tup_iff.2 ⟨#[], rfl, .nil ρ⟩⟩
theorem goes_of_value {s : Sem Value} {x : AV} {v : Value} {h' : Hp} {ρ' : Rho} {w' : World} {rs : List (AV × Hp)} (hm : (x, h') ∈ rs) (hs : s.run P w = .ok v w') (hu : Up E h ρ w h' ρ' w') (hv : VR ρ' x v) :
    Goes P E h ρ w (do pure (.value (← s))) rs :=
  ⟨x, h', ρ', v, w', .value v, hm, by simp [hs], .inl rfl, hu, hv⟩

/-- The first cells of what was taken. -/
theorem firstN_sound (hr : HR E h ρ w) {size : Nat} {x : AV} {x' : Value} {n : Nat} {new : List AV} (hx : VR ρ x x') (hq : takenCells size h x = some (n, new)) (m : Nat) (hm : m ≤ n) :
    ∃ us : List Value, VL ρ (new.take (m * size)) us ∧ us.length = m * size ∧ (Builtin.firstCells size m x').run P w = .ok us.toArray w := by
  have hmn : m * size ≤ n * size := Nat.mul_le_mul_right _ hm
  unfold takenCells at hq
  split at hq
  · cases hq; cases hx
    obtain rfl : m = 0 := by omega
    exact ⟨[], by simpa using VL.nil ρ, by simp, rfl⟩
  · rename_i b o len cap
    split at hq
    · rename_i c hc
      cases hq
      have hlen : new.length = n * size := by
        unfold loadN at hc
        split at hc
        · exact (takeN_eq hc).2
        · cases hc
      have key : ∀ (l : Loc) (cp : Nat), ρ b = some l → ∃ us : List Value, VL ρ (new.take (m * size)) us ∧ us.length = m * size ∧ (Builtin.firstCells size m (.slice (some ⟨l.blk, l.sh + o, none⟩) n cp)).run P w = .ok us.toArray w := by
        intro l cp hl
        obtain ⟨vs, h1, h2, h3⟩ := loadN_sound (P := P) hr hc hl
        have hvl : vs.length = n * size := by rw [← hlen]; exact h1.1.symm
        refine ⟨vs.take (m * size), h1.take _, by simp; omega, ?_⟩
        have := run_loadCells_list (P := P) w ⟨l.blk, l.sh + o, none⟩ (vs.take (m * size)) (fun j v hv => by
          rw [addr_add]
          rw [List.getElem?_take] at hv
          split at hv
          · exact h3 j v hv
          · cases hv)
        have e : (vs.take (m * size)).length = m * size := by simp; omega
        rw [e] at this
        exact this
      cases hx with
      | slx _ _ _ _ l hl _ => exact key l _ hl
      | slo _ _ _ _ c l hl _ _ => exact key l _ hl
    · cases hq
  · split at hq
    · rename_i hsz
      have hsz := Nat.eq_of_beq_eq_true hsz
      cases hq
      cases hx with
      | str _ b hb =>
        subst hsz
        refine ⟨((b.data.map fun c => Value.int .u8 c.toNat).toList).take m, ?_, ?_, ?_⟩
        · rw [← hb, List.map_map, Array.toList_map, Nat.mul_one]
          refine ⟨by simp, fun i x y hx hy => ?_⟩
          rw [List.getElem?_take] at hx hy
          split at hx
          · rename_i hi
            rw [if_pos hi] at hy
            rw [List.getElem?_map] at hx hy
            cases hc : b.data.toList[i]? with
            | none => rw [hc] at hx; simp at hx
            | some c =>
              rw [hc] at hx hy
              simp at hx hy
              subst hx; subst hy
              exact .int _ _
          · cases hx
        · have hn : (b.data.toList.map UInt8.toNat).length = b.size := by rw [List.length_map, Array.length_toList]; rfl
          rw [hb] at hn
          have : b.data.size = b.size := rfl
          simp; omega
        · simp only [Builtin.firstCells, Sem.run_pure]
          congr 1
          apply Array.ext'
          simp [ByteArray.data_extract]
    · cases hq
  · cases hq

theorem copy_sound (hE : EnvOk P E) (hr : HR E h ρ w) {st e rt n : Nat} {ts te : TI} {tys : Array TypeId} (hty : tys[0]? = some st) (hst : E.ty st = some ts) (hd : ts.d = .slice e) (hte : E.ty e = some te) {s x : AV} {s' x' : Value}
    {cs : List AV} {rs : List (AV × Hp)} (hx : VR ρ x x') (hq : takenCells te.size h x = some (n, cs))
    (hrs : (match s with
      | .nils => some [(AV.int .i64 (.ofNat 0), h)]
      | .slc b o len _ => match min n len with
        | 0 => some [(AV.int .i64 (.ofNat 0), h)]
        | k + 1 => match storeN h b o (cs.take ((k + 1) * te.size)) with
          | some h => some [(AV.int .i64 (.ofNat (k + 1)), h)]
          | none => none
      | _ => none) = some rs) (hs : VR ρ s s') : ∃ x h' v w', (x, h') ∈ rs ∧ (Builtin.copy_ tys rt #[s', x']).run P w = .ok v w' ∧ Up E h ρ w h' ρ w' ∧ VR ρ x v := by
  obtain ⟨d, _, hdd, hrun⟩ := ty_under hE hst w
  rw [hd] at hdd; simp only [TDOk] at hdd; subst hdd
  have hsz := ty_size (P := P) hE hte w
  obtain ⟨us, hv, hlen, hlo, _⟩ := takenCells_sound (P := P) hr hx hq
  have hz : VR ρ (.int .i64 (.ofNat 0)) (goInt ((0 : Nat) : Int)) := .int _ _
  have hfc := firstN_sound (P := P) hr hx hq
  revert hs
  split at hrs
  · cases hrs
    intro hs
    cases hs
    obtain ⟨u0, _, _, f3⟩ := hfc 0 (Nat.zero_le n)
    exact ⟨_, h, _, w, List.mem_singleton.2 rfl, by simp [Builtin.copy_, hty, hrun, hlo w rfl, hsz, f3], Up.refl hr, hz⟩
  · rename_i b o len cap
    intro hs
    have key : ∀ (l : Loc) (cp : Nat), ρ b = some l → ∃ x h' v w', (x, h') ∈ rs ∧ (Builtin.copy_ tys rt #[.slice (some ⟨l.blk, l.sh + o, none⟩) len cp, x']).run P w = .ok v w' ∧ Up E h ρ w h' ρ w' ∧ VR ρ x v := by
      intro l cp hl
      obtain ⟨u0, f1, f2, f3⟩ := hfc (min n len) (Nat.min_le_left n len)
      split at hrs
      · rename_i hm
        cases hrs
        rw [hm] at f2
        have : u0 = [] := List.length_eq_zero_iff.1 (by omega)
        subst this
        have f3 := f3
        have hm' : Nat.min n len = 0 := hm
        rw [hm] at f3
        exact ⟨_, h, _, w, List.mem_singleton.2 rfl, by simp [Builtin.copy_, hty, hrun, hlo w rfl, hsz, hm', f3, storeCells], Up.refl hr, hz⟩
      · rename_i k hm
        split at hrs
        · rename_i h' hst'
          cases hrs
          rw [hm] at f1 f3
          obtain ⟨w', g1, g2⟩ := storeN_sound (P := P) hr hst' hl f1
          have hm' : Nat.min n len = k + 1 := hm
          exact ⟨_, h', _, w', List.mem_singleton.2 rfl, by simp [Builtin.copy_, hty, hrun, hlo w rfl, hsz, hm', f3, g1, goInt], g2, .int _ _⟩
        · cases hrs
    cases hs with
    | slx _ _ _ _ l hl _ => exact key l _ hl
    | slo _ _ _ _ c l hl _ _ => exact key l _ hl
  · cases hrs

theorem range_sound (hE : EnvOk P E) (hr : HR E h ρ w) {ty kt e : Nat} {ti : TI} (hty : E.ty ty = some ti) (hd : ti.d = .map kt e) {x : AV} {x' : Value} (hx : VR ρ x x') {rs : List (AV × Hp)}
    (hq : (match some x with
        | some .nilm => some [(AV.ptr h.next 0, alloc h (.miter none 0 [] 0))]
        | some (.mp m) => match h.h.get m with
          | some (.map _ clock) => some [(AV.ptr h.next 0, alloc h (.miter (some m) clock [] clock))]
          | _ => none
        | _ => none) = some rs) : ∃ x h' ρ' v w', (x, h') ∈ rs ∧ (Instr.range ty x').run P w = .ok v w' ∧ Up E h ρ w h' ρ' w' ∧ VR ρ' x v := by
  obtain ⟨d, _, hdd, hrun⟩ := ty_under hE hty w
  rw [hd] at hdd; simp only [TDOk] at hdd; subst hdd
  have hnone := hr.next_none
  revert hx
  split at hq
  · rename_i e0
    cases e0
    cases hq
    intro hx
    cases hx
    refine ⟨_, _, _, .pointer (some ⟨w.heap.size, 0, none⟩), { w with heap := w.heap.push (.mapIter none 0 #[] 0) }, List.mem_singleton.2 rfl, ?_, Up.new_block hr (ob := .mapIter none 0 #[] 0) 0 0 rfl rfl rfl rfl ⟨none, rfl, rfl, rfl⟩, ?_⟩
    · simp [Instr.range, hrun, run_newObj]
    · exact .ptr _ _ ⟨w.heap.size, 0, 0⟩ (Rho.add_same _ _ _)
  · rename_i m e0
    cases e0
    split at hq
    · rename_i es clock hg
      cases hq
      intro hx
      obtain ⟨l, es', k1, k2, k3⟩ := map_sound hr hg
      have g2 := run_getObj (P := P) k2 (by simp)
      cases hx with
      | mp _ l' hl' =>
        rw [k1] at hl'; cases hl'
        refine ⟨_, _, _, .pointer (some ⟨w.heap.size, 0, none⟩), { w with heap := w.heap.push (.mapIter (some l.blk) clock #[] clock) }, List.mem_singleton.2 rfl, ?_, Up.new_block hr (ob := .mapIter (some l.blk) clock #[] clock) 0 0 rfl rfl rfl rfl ⟨some l.blk, rfl, rfl, l, Rho.add_ext hnone _ _ k1, rfl⟩, ?_⟩
        · simp [Instr.range, hrun, g2, run_newObj]
        · exact .ptr _ _ ⟨w.heap.size, 0, 0⟩ (Rho.add_same _ _ _)
    · cases hq
  · cases hq

theorem loudPrim_sound (hE : EnvOk P E) (hr : HR E h ρ w) (ht : TR ρ t a.tmps) {ex : Exec} {o : Oper} {rs : List (AV × Hp)} (hq : loudOp E ex o t h = some rs)
    (hnc : ∀ c f, o.op = .call c → c.callee ≠ .value f) : Goes P E h ρ w (execOp a.eval o) rs := by
  obtain ⟨dst, op, type, pos, after, guard⟩ := o
  cases op <;> simp only [loudOp] at hq
  case store ty y x =>
    split at hq
    · rename_i b off hb
      have hv := evalO_sound hr ht hb
      split at hq
      · rename_i v hx
        have hxv := evalO_sound hr ht hx
        split at hq
        · rename_i ti hti
          split at hq
          · rename_i hlen
            have hlen := Nat.eq_of_beq_eq_true hlen
            split at hq
            · rename_i h' hst
              cases hq
              generalize hv' : a.eval y = cv at hv
              cases hv with
              | ptr _ _ l hl =>
                have hcs := hxv.cells
                obtain ⟨w', g1, g2⟩ := storeN_sound (P := P) hr hst hl hcs
                have hsz : (a.eval x).cells.size = ti.size := by rw [← hlen, hcs.1]; simp
                refine goes_of_unit (w' := w') ?_ g2
                rw [hv']
                simp [Instr.storeAt, Instr.sureAddr, storeVar, ty_size hE hti w, hsz, g1]
            · cases hq
          · cases hq
        · cases hq
      · cases hq
    · cases hq
  case mapUpdate ty m k x =>
    split at hq
    · rename_i ti hti
      split at hq
      · rename_i kt e hd
        split at hq
        · cases hq
        · rename_i m0 hm
          split at hq
          · cases hq
          · rename_i k0 hk
            split at hq
            · cases hq
            · rename_i v0 hv
              split at hq
              · rename_i h' hu
                cases hq
                obtain ⟨w', g1, g2⟩ := updMap_sound hE hr hti hd (evalO_sound hr ht hm) (evalO_sound hr ht hk) (evalO_sound hr ht hv) hu
                exact goes_of_unit g1 g2
              · cases hq
      · cases hq
    · cases hq
  case insert ty m k x =>
    split at hq
    · rename_i ti hti
      split at hq
      · rename_i kt e hd
        split at hq
        · cases hq
        · rename_i m0 hm
          split at hq
          · cases hq
          · rename_i k0 hk
            split at hq
            · cases hq
            · rename_i v0 hv
              split at hq
              · rename_i h' hu
                cases hq
                obtain ⟨w', g1, g2⟩ := updMap_sound hE hr hti hd (evalO_sound hr ht hm) (evalO_sound hr ht hk) (evalO_sound hr ht hv) hu
                exact goes_of_unit g1 g2
              · cases hq
      · cases hq
    · cases hq
  case range ty x =>
    split at hq
    · rename_i ti hti
      split at hq
      · rename_i kt e hd
        cases hx : evalO E t x with
        | none => rw [hx] at hq; cases hq
        | some x0 =>
          rw [hx] at hq
          obtain ⟨x1, h', ρ', v, w', g0, g1, g2, g3⟩ := range_sound hE hr hti hd (evalO_sound hr ht hx) hq
          exact goes_of_value g0 g1 g2 g3
      · cases hq
    · cases hq
  case next it isString =>
    split at hq
    · cases hq
    · split at hq
      · rename_i r hr0
        have hv := evalO_sound hr ht hr0
        generalize hv' : a.eval it = cv at hv
        cases hv with
        | ptr _ _ l hl =>
          obtain ⟨x1, h', v, w', g0, g1, g2, g3⟩ := next_sound (P := P) (ty := type) hr hl hq
          rw [← hv'] at g1
          exact goes_of_value g0 g1 g2 g3
      · cases hq
  case call c =>
    split at hq
    · rename_i b hb
      split at hq
      · rename_i st rest hty
        split at hq
        · cases hq
        · rename_i ts hst
          split at hq
          · rename_i e hd
            split at hq
            · cases hq
            · rename_i te hte
              split at hq
              · rename_i s x hargs
                have hvs := args_sound hr ht hargs
                obtain ⟨s', ys, hs1, hs2, hs3⟩ := VL.cons_iff.1 hvs
                obtain ⟨x', zs, hx1, hx2, hx3⟩ := VL.cons_iff.1 hs3
                have hz := VL.nil_iff.1 hx3
                subst hz; subst hx1
                have hA : c.args.map a.eval = #[s', x'] := by apply Array.ext'; rw [hs1]
                split at hq
                · split at hq
                  · rename_i xt
                    have hT : c.argTypes = #[st, xt] := by apply Array.ext'; rw [hty]
                    split at hq
                    · cases hq
                    · rename_i tx htx
                      have fin : ∀ {n : Nat} {new : List AV} {us : List Value} {r : AV × Hp}, VL ρ new us → SndOk P w e xt te x' n us → appendTo te e h s n new = some r → some [r] = some rs → Goes P E h ρ w (execOp a.eval ⟨dst, .call c, type, pos, after, guard⟩) rs := by
                        intro n new us r hnew hok hap hrs
                        cases hrs
                        obtain ⟨v, ρ', w', g1, g2, g3⟩ := appendTo_sound (rt := type) hE hr hst hd hte hs2 hnew hok hap
                        refine ⟨r.1, r.2, ρ', v, w', _, List.mem_singleton.2 rfl, ?_, .inl rfl, g2, g3⟩
                        simp [execOp, resolve, hb, invoke, builtin, hA, hT, g1]
                      obtain ⟨dx, hxu, hxd, _⟩ := ty_under hE htx w
                      split at hq
                      · rename_i k hk
                        split at hq
                        · cases hq
                        · rename_i n hn
                          split at hq
                          · cases hq
                          · rename_i hle
                            have hle := Nat.le_of_ble_eq_true hle
                            split at hq
                            · rename_i r hap
                              rw [hk] at hxd; simp only [TDOk] at hxd; subst hxd
                              obtain ⟨i, z, z1, z2, z3, z4, z5, _⟩ := (hE.ty e te hte).info
                              have hz : (zeroValue e).run P w = .ok z w := by simp [zeroValue, typeInfo, z1, z4]
                              have hzl := zeros_sound (z5 ρ) n
                              have hby : te.bytes ≤ 100000 := by
                                unfold appendTo at hap
                                split at hap
                                · cases hap
                                · split at hap
                                  · cases hap
                                  · rename_i hb2; exact Nat.le_of_ble_eq_true hb2
                              have hzs : te.zero.length = z.cells.size := by have := (z5 ρ).1; simpa using this
                              have hint : ∃ j, x' = .int j n := by
                                unfold natOf at hn
                                split at hn
                                · cases hn
                                  cases hx2 with
                                  | int => exact ⟨_, rfl⟩
                                · cases hn
                              refine fin hzl ⟨?_, .inl ⟨k, hxu, hint, hle, hby, z, hz, .inr ?_⟩⟩ hap hq
                              · simp [(hE.ty e te hte).zlen]
                              · rw [zeroCells_eq, hzs]
                            · cases hq
                      · rename_i hnint
                        split at hq
                        · cases hq
                        · rename_i n new htk
                          split at hq
                          · rename_i r hap
                            obtain ⟨us, hv, hlen, hlo, hfc⟩ := takenCells_sound (P := P) hr hx2 htk
                            refine fin hv ⟨hlen, .inr ⟨dx, hxu, fun k hk => ?_, hlo, hfc⟩⟩ hap hq
                            subst hk
                            cases htd : tx.d with
                            | int j => exact hnint _ htd
                            | other => exact absurd htd (hE.ty _ _ htx).noOther
                            | _ => rw [htd] at hxd; simp [TDOk] at hxd
                          · cases hq
                  · cases hq
                · split at hq
                  · cases hq
                  · rename_i n cs htk
                    obtain ⟨x1, h', v, w', g0, g1, g2, g3⟩ := copy_sound (rt := type) (tys := c.argTypes) hE hr (by rw [← Array.getElem?_toList, hty]; rfl) hst hd hte hx2 htk hq hs2
                    refine ⟨x1, h', ρ, v, w', _, g0, ?_, .inl rfl, g2, g3⟩
                    simp [execOp, resolve, hb, invoke, builtin, hA, g1]
                · cases hq
              · cases hq
          · cases hq
      · cases hq
    · cases hq
    · rename_i f hf
      exact absurd hf (hnc c f rfl)
  all_goals cases hq
end
end Go.Refl
