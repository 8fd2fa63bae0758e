/- That evaluator is sound: each operation, and calls. -/
import Derived.Test.YtdifpleoipjjfaaGreatDoorSxOne
namespace Go.Sx
open Go Go.Refl Go.RowKit

/-- Each cell of a struct lies in one of its fields. -/
def Cov (ty : Nat → Option TI) : Prop := ∀ t ti fs, ty t = some ti → ti.d = .struct fs → ∀ i, i < ti.size → ∃ o u te, (o, u) ∈ fs ∧ ty u = some te ∧ o ≤ i ∧ i < o + te.size

theorem RdN.flat {ty : Nat → Option TI} {w : World} (hcov : Cov ty) : ∀ {n t : Nat} {cs : List Value}, RdN ty w n t cs → ∀ v ∈ cs, v.oneCell' = true
  | 0, _, _, h => h.elim
  | n + 1, t, cs, h => by
    intro v hv
    obtain ⟨ti, h1, h2, h3⟩ := h
    split at h3
    · obtain ⟨i, rfl⟩ := h3; simp at hv; subst hv; rfl
    · obtain ⟨i, rfl⟩ := h3; simp at hv; subst hv; rfl
    · obtain ⟨i, rfl⟩ := h3; simp at hv; subst hv; rfl
    · obtain ⟨x, y, z, rfl, _⟩ := h3; simp at hv; subst hv; rfl
    · rename_i fs hd
      obtain ⟨i, hi, rfl⟩ := List.getElem_of_mem hv
      obtain ⟨o, u, te, m, htu, k1, k2⟩ := hcov t ti fs h1 hd i (by omega)
      obtain ⟨te', q1, q2⟩ := h3 o u m
      rw [htu] at q1; cases q1
      refine q2.flat hcov _ ?_
      have : ((cs.drop o).take te.size)[i - o]? = some cs[i] := by
        rw [List.getElem?_take_of_lt (by omega), List.getElem?_drop, show o + (i - o) = i by omega]
        exact List.getElem?_eq_getElem hi
      exact List.mem_of_getElem? this
    · exact h3.elim

section
variable {P : Program} {E : Env} {w0 w : World} {A : Given} {iv bl : List Nat} {s s' : SS} {a : Act} {ct : Nat → Option Ct}

theorem VC.cells {n t : Nat} {cs : List Value} {v : Value} (hr : RdN E.ty w n t cs) (h : VC E.ty t cs v) : v.cells = cs.toArray := by
  obtain ⟨ti, h1, h2⟩ := h
  cases hi : Go.Refl.isAgg ti.d with
  | true => rw [hi] at h2; subst h2; rfl
  | false =>
    rw [hi] at h2
    subst h2
    cases n with
    | zero => exact hr.elim
    | succ n =>
      obtain ⟨ti', k1, k2, k3⟩ := hr
      rw [h1] at k1; cases k1
      split at k3
      · obtain ⟨i, e⟩ := k3; cases e; rfl
      · obtain ⟨i, e⟩ := k3; cases e; rfl
      · obtain ⟨i, e⟩ := k3; cases e; rfl
      · obtain ⟨x, y, z, e, _⟩ := k3; cases e; rfl
      · rename_i hd; rw [hd] at hi; cases hi
      · exact k3.elim

theorem getOwn_get {l : List Own} {b : Nat} {o : Own} (h : getOwn l b = some o) : l[b]? = some o := by
  unfold getOwn at h; rw [getAt_eq] at h; exact h

/-- What an own block holds can be read there. -/
theorem SR.block (h : SR E.ty w0 A iv bl s a w) {b u : Nat} {p : Pt} (hb : getOwn s.own b = some ⟨u, some p⟩) :
    ∃ k n cs, bl[b]? = some k ∧ D E.ty w0 A iv p u n cs ∧ ∀ (j : Nat) c, cs[j]? = some c → w.cell? ⟨k, j, none⟩ = some c := by
  obtain ⟨k, h1, _, cs, ti, h3, h4, h5, h6⟩ := h.own b _ (getOwn_get hb)
  obtain ⟨n, hd⟩ := h6 p rfl
  refine ⟨k, n, cs.toList, h1, hd, fun j c hj => ?_⟩
  have : cs[j]? = some c := by simpa using hj
  simp [World.cell?, h5, this]

theorem follow_size {u : Nat} {p : Pt} {ch : List (Nat × Nat)} {m : Nat} {cs : List Value} (h : D E.ty w0 A iv (follow p ch) (lastTy u ch) m cs) {ti : TI} (ht : E.ty (lastTy u ch) = some ti) : cs.length = ti.size := (h.rd.one ht).1

/-- An operation that goes by itself. -/
def Goes (P : Program) (E : Env) (w0 : World) (A : Given) (iv bl : List Nat) (a : Act) (w : World) (o : Oper) (v : SV) (s' : SS) : Prop :=
  ∃ u w' nx, (execOp a.eval o).run P w = .ok nx w' ∧ (nx = .value u ∨ (nx = .skip ∧ u = undef)) ∧ Stp E w0 A iv bl a v s' u w'

theorem goes_load (hE : EnvOk P E) (hr : SR E.ty w0 A iv bl s a w) {o : Oper} {t : Nat} {x : Operand} (ho : o.op = .load t x) {v : SV} (h : sxOp E.ty ct o.op s = some (v, s')) : Goes P E w0 A iv bl a w o v s' := by
  rw [ho] at h
  simp only [sxOp] at h
  split at h
  · rename_i p u hx
    split at h
    · rename_i htu
      have htu := Nat.eq_of_beq_eq_true htu
      subst htu
      cases h
      obtain ⟨n, cs, ad, h1, h2, h3⟩ := hr.get hx
      cases n with
      | zero => exact h1.rd.elim
      | succ n =>
        obtain ⟨ti, q1, q2, _⟩ := id h1.rd
        obtain ⟨v, g1, g2⟩ := vc_load (P := P) hE q1 q2 (cellw hr h3) (h1.rd.one q1).2
        refine ⟨v, w, .value v, ?_, .inl rfl, Stp.same hr ⟨_, cs, h1, g1⟩⟩
        simp [execOp, ho, Instr.loadAt, h2, Instr.sureAddr, g2]
    · cases h
  · rename_i b off ch hx
    split at h
    · rename_i u p hb
      split at h
      · rename_i hc
        rw [Bool.and_eq_true] at hc
        have htu := Nat.eq_of_beq_eq_true hc.1
        cases h
        obtain ⟨k0, e1, e2, e3⟩ := hr.get hx
        obtain ⟨k, n, cs, h1, h2, h3⟩ := hr.block hb
        rw [h1] at e1; cases e1
        obtain ⟨m, cs', g1, g2⟩ := follow_D ch h2 hc.2
        rw [htu] at g1
        cases m with
        | zero => exact g1.rd.elim
        | succ m =>
          obtain ⟨ti, q1, q2, _⟩ := id g1.rd
          obtain ⟨v, r1, r2⟩ := vc_load (P := P) (w := w) (ad := ⟨k0, off, none⟩) hE q1 q2 (fun j c hj => by
            have := h3 _ _ (g2 j c hj)
            rw [e2]
            have hadd : (⟨k0, chOff ch, none⟩ : Addr).add j = ⟨k0, chOff ch + j, none⟩ := by unfold Addr.add; split <;> simp_all
            rw [hadd]; exact this) (g1.rd.one q1).2
          refine ⟨v, w, .value v, ?_, .inl rfl, Stp.same hr ⟨_, cs', g1, r1⟩⟩
          simp [execOp, ho, Instr.loadAt, e3, Instr.sureAddr, r2]
      · cases h
    · cases h
  · cases h

theorem chOff_append : ∀ (x : List (Nat × Nat)) (o u : Nat), chOff (x ++ [(o, u)]) = chOff x + o
  | [], o, u => by simp [chOff]
  | (a, b) :: r, o, u => by simp only [List.cons_append, chOff, chOff_append r]; omega

theorem goes_field (hE : EnvOk P E) (hr : SR E.ty w0 A iv bl s a w) {o : Oper} {st : Nat} {x : Operand} {i : Nat} (ho : o.op = .fieldAddr st x i) {v : SV} (h : sxOp E.ty ct o.op s = some (v, s')) : Goes P E w0 A iv bl a w o v s' := by
  rw [ho] at h
  simp only [sxOp] at h
  split at h
  · rename_i p u hx
    split at h
    · rename_i off f hf
      split at h
      · rename_i hp
        have hfu := pairEq_eq hp
        split at h
        · rename_i tf htf
          split at h
          · cases h
          · rename_i sz hsz
            cases h
            obtain ⟨n, cs, ad, h1, h2, h3⟩ := hr.get hx
            obtain ⟨ti, fs, q1, q2, q3⟩ := fieldOf_mem hfu
            obtain ⟨m, te, r1, r2, r3⟩ := sub_D h1 q1 q2 q3
            rw [htf] at r1; cases r1
            have hrun := field_run (P := P) (w := w) hE hf htf (by omega) ad
            refine ⟨_, w, .value _, ?_, .inl rfl, Stp.same hr ⟨m, _, ad.add off, r3, rfl, fun j c hj => ?_⟩⟩
            · simp [execOp, ho, h2, hrun]
            · rw [List.getElem?_take] at hj
              split at hj
              · rw [List.getElem?_drop] at hj
                rw [add_add]
                exact h3 _ _ hj
              · cases hj
        · cases h
      · cases h
    · cases h
  · rename_i b off0 ch hx
    split at h
    · rename_i u p hb
      split at h
      · rename_i off f hf
        split at h
        · rename_i hp
          have hfu := pairEq_eq hp
          split at h
          · rename_i tf htf
            split at h
            · cases h
            · rename_i sz hsz
              cases h
              obtain ⟨k0, e1, e2, e3⟩ := hr.get hx
              have hrun := field_run (P := P) (w := w) hE hf htf (by omega) ⟨k0, off0, none⟩
              refine ⟨_, w, .value _, ?_, .inl rfl, Stp.same hr ⟨k0, e1, by rw [chOff_append, e2], rfl⟩⟩
              have hadd : (⟨k0, off0, none⟩ : Addr).add off = ⟨k0, off0 + off, none⟩ := by unfold Addr.add; split <;> simp_all
              rw [← hadd]
              simp [execOp, ho, e3, hrun]
          · cases h
        · cases h
      · cases h
    · cases h
  · cases h

theorem goes_index (hE : EnvOk P E) (hr : SR E.ty w0 A iv bl s a w) {o : Oper} {t : Nat} {x ix : Operand} (ho : o.op = .indexAddr t x ix) {v : SV} (h : sxOp E.ty ct o.op s = some (v, s')) : Goes P E w0 A iv bl a w o v s' := by
  rw [ho] at h
  simp only [sxOp] at h
  split at h
  · rename_i p u k hx hix
    split at h
    · cases h
    · rename_i htu
      have htu := Nat.eq_of_beq_eq_true htu
      subst htu
      split at h
      · cases h
      · rename_i hk
        split at h
        · rename_i ti hti
          split at h
          · rename_i e hd
            split at h
            · rename_i te hte
              split at h
              · cases h
              · rename_i sz hsz
                cases h
                obtain ⟨n, cs, h1, h2⟩ := hr.get hx
                obtain ⟨i, g1, g2⟩ := hr.get hix
                have hcs := h2.slice hti hd
                subst hcs
                obtain ⟨i', t', n', ad', l, c, f1, f2, f3, f4⟩ := hr.facts _ (knows_mem hk)
                rw [show (k, p).1 = k from rfl, g1] at f1; cases f1
                obtain ⟨rfl, rfl, e1⟩ := f2.det h1
                cases n' with
                | zero => exact h1.rd.elim
                | succ n' =>
                  obtain ⟨ti', b1, b2, b3⟩ := id h1.rd
                  rw [hti] at b1; cases b1
                  rw [hd] at b3
                  obtain ⟨a3, l3, c3, d1, d2, d3⟩ := b3
                  rw [d1] at e1; cases e1
                  obtain ⟨ad, vs, te', j1, j2, j3, j4, j5⟩ := d3 i f4
                  rw [hte] at j2; cases j2
                  subst j1
                  rw [d1] at h1
                  have hae : a.eval x = .slice (some ad) l c := by simpa using d1
                  refine ⟨_, w, .value _, ?_, .inl rfl, Stp.same hr ⟨n', vs, ad.add (i * te.size), .elt p _ n' ad l c ti e te k i vs h1 hti hd hte g1 f4 j3 j4 j5, rfl, j5⟩⟩
                  have hrun := index_run (P := P) (w := w) hE hti hd hte (ad := ad) (cap := c) f4
                  simp [execOp, ho, hae, g2, hrun]
            · cases h
          · cases h
        · cases h
  · cases h

end
end Go.Sx
/- Each operation but the calls, the second half. -/
namespace Go.Sx
open Go Go.Refl Go.RowKit

section
variable {P : Program} {E : Env} {w0 w : World} {A : Given} {iv bl : List Nat} {s s' : SS} {a : Act} {ct : Nat → Option Ct}

theorem goes_move (hr : SR E.ty w0 A iv bl s a w) {o : Oper} {x : Operand} (ho : o.op = .move x ∨ o.op = .assign x) {v : SV} (h : sxOp E.ty ct o.op s = some (v, s')) : Goes P E w0 A iv bl a w o v s' := by
  rcases ho with ho | ho <;>
  · rw [ho] at h
    simp only [sxOp] at h
    split at h
    · rename_i u hx
      cases h
      exact ⟨a.eval x, w, .value (a.eval x), by simp [execOp, ho], .inl rfl, Stp.same hr (hr.get hx)⟩
    · cases h

theorem goes_pick (hr : SR E.ty w0 A iv bl s a w) {o : Oper} {c x y : Operand} (ho : o.op = .pick c x y) {v : SV} (h : sxOp E.ty ct o.op s = some (v, s')) : Goes P E w0 A iv bl a w o v s' := by
  rw [ho] at h
  simp only [sxOp] at h
  split at h
  · rename_i hc
    have hcv : a.eval c = .bool true := hr.get hc
    split at h
    · rename_i u hx
      cases h
      exact ⟨a.eval x, w, .value (a.eval x), by simp [execOp, ho, hcv, asBool], .inl rfl, Stp.same hr (hr.get hx)⟩
    · cases h
  · rename_i hc
    have hcv : a.eval c = .bool false := hr.get hc
    split at h
    · rename_i u hx
      cases h
      exact ⟨a.eval y, w, .value (a.eval y), by simp [execOp, ho, hcv, asBool], .inl rfl, Stp.same hr (hr.get hx)⟩
    · cases h
  · cases h

theorem goes_un (hr : SR E.ty w0 A iv bl s a w) {o : Oper} {op : UnOp} {t : Nat} {x : Operand} (ho : o.op = .unOp op t x) {v : SV} (h : sxOp E.ty ct o.op s = some (v, s')) : Goes P E w0 A iv bl a w o v s' := by
  rw [ho] at h
  simp only [sxOp] at h
  split at h
  · have key : ∀ (b : Bool), a.eval x = .bool b → (execOp a.eval o).run P w = .ok (.value (.bool (!b))) w := by
      intro b hb
      simp [execOp, ho, hb, Op.unary]
    split at h
    · rename_i b hx
      cases h
      exact ⟨_, w, _, key b (hr.get hx), .inl rfl, Stp.same hr rfl⟩
    · rename_i u hx hne
      split at h
      · rename_i hbl
        cases h
        obtain ⟨b, hb⟩ := (hr.get hne).truth hbl
        exact ⟨_, w, _, key b hb, .inl rfl, Stp.same hr ⟨_, rfl⟩⟩
      · cases h
    · cases h
  · cases h

theorem VR.boolv {b : Bool} {v : Value} (h : VR (fun _ => none) (.bool b) v) : v = .bool b := by cases h; rfl
theorem VR.intv {k : IntKind} {n : Int} {v : Value} (h : VR (fun _ => none) (.int k n) v) : v = .int k n := by cases h; rfl

theorem goes_bin (hE : EnvOk P E) (hr : SR E.ty w0 A iv bl s a w) {o : Oper} {op : BinOp} {t zt : Nat} {x y : Operand} (ho : o.op = .binOp op t x y zt) {v : SV} (h : sxOp E.ty ct o.op s = some (v, s')) : Goes P E w0 A iv bl a w o v s' := by
  obtain ⟨dst, op', type, pos, after, guard⟩ := o
  simp only at ho
  subst ho
  simp only [sxOp] at h
  split at h
  · rename_i p q hx hy
    split at h
    · rename_i r hb
      cases h
      unfold sxBin at hb
      split at hb
      · cases hb
      · rename_i hi
        rw [Bool.and_eq_true] at hi
        have hvx := hr.get hx
        have hvy := hr.get hy
        obtain ⟨m, hm⟩ := hvx.int hi.1
        obtain ⟨n, hn⟩ := hvy.int hi.2
        have cmp : ∀ (b : Bool), binInt op .i64 m n = some (.bool b) → isShift op = false → ∀ v, V E.ty w0 A iv bl v (.bool b) → Goes P E w0 A iv bl a w ⟨dst, .binOp op t x y zt, type, pos, after, guard⟩ v s := by
          intro b hq hs v hv
          obtain ⟨u, g1, g2⟩ := bin_run (P := P) (w := w) (a := a) hE op t x y zt hm hn hq hs dst type pos after guard
          have := VR.boolv g1; subst this
          exact ⟨_, w, _, g2, .inl rfl, Stp.same hr hv⟩
        have num : ∀ (k : Int), binInt op .i64 m n = some (.int .i64 k) → isShift op = false → ∀ v, V E.ty w0 A iv bl v (.int .i64 k) → Goes P E w0 A iv bl a w ⟨dst, .binOp op t x y zt, type, pos, after, guard⟩ v s := by
          intro k hq hs v hv
          obtain ⟨u, g1, g2⟩ := bin_run (P := P) (w := w) (a := a) hE op t x y zt hm hn hq hs dst type pos after guard
          have := VR.intv g1; subst this
          exact ⟨_, w, _, g2, .inl rfl, Stp.same hr hv⟩
        cases op <;> simp only at hb
        case lss =>
          split at hb
          · rename_i k pl
            cases hb
            obtain ⟨i, e1, e2⟩ := hvx
            obtain ⟨t', n', a', l, c, d1, d2, d3⟩ := hvy
            rw [hm] at e2; rw [hn] at d3
            cases e2; cases d3
            refine cmp _ rfl rfl _ ⟨i, t', n', a', l, c, e1, d1, d2, ?_⟩
            rw [intLt_eq]
            congr 1
            simp
          · cases hb
            exact cmp _ rfl rfl _ ⟨_, rfl⟩
        case add =>
          split at hb
          · rename_i k
            cases hb
            obtain ⟨i, e1, e2⟩ := hvx
            have e3 : a.eval y = .int .i64 ((1 : Nat) : Int) := hvy
            rw [hm] at e2; rw [hn] at e3
            cases e2; cases e3
            exact num _ rfl rfl _ ⟨i, e1, by rw [wrapF_eq]; rfl⟩
          · cases hb
            exact num _ rfl rfl _ ⟨_, rfl⟩
        case sub => cases hb; exact num _ rfl rfl _ ⟨_, rfl⟩
        case eql => cases hb; exact cmp _ rfl rfl _ ⟨_, rfl⟩
        case neq => cases hb; exact cmp _ rfl rfl _ ⟨_, rfl⟩
        case leq => cases hb; exact cmp _ rfl rfl _ ⟨_, rfl⟩
        case gtr => cases hb; exact cmp _ rfl rfl _ ⟨_, rfl⟩
        case geq => cases hb; exact cmp _ rfl rfl _ ⟨_, rfl⟩
        all_goals cases hb
    · cases h
  · cases h

theorem goes_box (hr : SR E.ty w0 A iv bl s a w) {o : Oper} {t : Nat} {x : Operand} (ho : o.op = .box t x) {v : SV} (h : sxOp E.ty ct o.op s = some (v, s')) : Goes P E w0 A iv bl a w o v s' := by
  rw [ho] at h
  simp only [sxOp] at h
  split at h
  · rename_i p u hx
    split at h
    · rename_i htu
      have htu := Nat.eq_of_beq_eq_true htu
      subst htu
      cases h
      obtain ⟨n, cs, h1, h2⟩ := hr.get hx
      have hc := h2.cells h1.rd
      obtain ⟨ti, q1, _⟩ := id h2
      obtain ⟨g1, g2, g3⟩ := hr.push (o := ⟨t, some p⟩) (cs := (a.eval x).cells) q1 (by rw [hc]; simpa using (h1.rd.one q1).1) (fun p' hp => by cases hp; exact ⟨n, by rw [hc]; exact h1⟩)
      refine ⟨.pointer (some ⟨w.heap.size, 0, none⟩), _, _, ?_, .inl rfl, ⟨_, g1, ⟨w.heap.size, g2, rfl, rfl⟩, g3⟩⟩
      simp [execOp, ho, Instr.box, newVar, newRow]
    · cases h
  · cases h

theorem goes_alloc (hE : EnvOk P E) (hr : SR E.ty w0 A iv bl s a w) {o : Oper} {t : Nat} (ho : o.op = .alloc t) {v : SV} (h : sxOp E.ty ct o.op s = some (v, s')) : Goes P E w0 A iv bl a w o v s' := by
  rw [ho] at h
  simp only [sxOp] at h
  split at h
  · rename_i ti hti
    cases h
    obtain ⟨z, hz, hz'⟩ := ty_zero hE hti w
    have hl : z.cells.size = ti.size := by
      have := (hz' (fun _ => none)).1
      have h2 := (hE.ty _ _ hti).zlen
      simp at this; omega
    obtain ⟨g1, g2, g3⟩ := hr.push (o := ⟨t, none⟩) (cs := z.cells) hti hl (fun p' hp => by cases hp)
    refine ⟨.pointer (some ⟨w.heap.size, 0, none⟩), _, _, ?_, .inl rfl, ⟨_, g1, ⟨w.heap.size, g2, rfl, rfl⟩, g3⟩⟩
    simp [execOp, ho, Instr.alloc, hz, newVar, newRow]
  · cases h

theorem goes_one (hE : EnvOk P E) (hr : SR E.ty w0 A iv bl s a w) {o : Oper} {t n : Nat} {ps : Array (Nat × Operand)} (ho : o.op = .buildSlice t n ps) (hsm : ∀ e te, E.ty e = some te → te.size ≤ 1000) {v : SV} (h : sxOp E.ty ct o.op s = some (v, s')) : Goes P E w0 A iv bl a w o v s' := by
  rw [ho] at h
  simp only [sxOp] at h
  split at h
  · rename_i x hps
    split at h
    · rename_i p u hx
      split at h
      · rename_i ti hti
        split at h
        · rename_i e hd
          split at h
          · rename_i hte
            have hte := Nat.eq_of_beq_eq_true hte
            subst hte
            cases h
            obtain ⟨m, cs, h1, h2⟩ := hr.get hx
            have hc := h2.cells h1.rd
            obtain ⟨te, q1, _⟩ := id h2
            have hl := (h1.rd.one q1).1
            obtain ⟨d, hu, hdd, hrun⟩ := ty_under hE hti w
            rw [hd] at hdd; simp only [TDOk] at hdd; subst hdd
            obtain ⟨z, hz, hz'⟩ := ty_zero hE q1 w
            have hps' : (ps.map fun (i, x) => (i, a.eval x)).toList = [(0, a.eval x)] := by
              rw [Array.toList_map, hps]; rfl
            have hcs : (a.eval x).cells.size = te.size := by rw [hc]; simpa using hl
            have hfill : ∀ (z0 : Array Value), z0.size = te.size → ((a.eval x).cells.zipIdx.foldl (fun cs (c, j) => cs.setIfInBounds (0 + j) c) z0) = (a.eval x).cells := by
              intro z0 h0
              rw [hc, ← Array.foldl_toList, Array.toList_zipIdx]
              have key : ∀ (l pre : List Value) (z : Array Value), z.size = pre.length + l.length → (∀ (i : Nat) v, pre[i]? = some v → z[i]? = some v) →
                  ((l.zipIdx pre.length).foldl (fun cs (x : Value × Nat) => cs.setIfInBounds (0 + x.2) x.1) z) = (pre ++ l).toArray := by
                intro l
                induction l with
                | nil =>
                  intro pre z hz hp
                  simp only [List.zipIdx_nil, List.foldl_nil, List.append_nil]
                  apply Array.ext
                  · simpa using hz
                  · intro i i1 i2
                    have i2 : i < pre.length := by simpa using i2
                    have := hp i _ (List.getElem?_eq_getElem i2)
                    rw [Array.getElem?_eq_getElem i1] at this
                    simpa using Option.some.inj this
                | cons v l ih =>
                  intro pre z hz hp
                  simp only [List.zipIdx_cons, List.foldl_cons]
                  have := ih (pre ++ [v]) (z.setIfInBounds (0 + pre.length) v) (by simp at hz ⊢; omega) (by
                    intro i y hi
                    by_cases e : i < pre.length
                    · rw [List.getElem?_append_left e] at hi
                      rw [Array.getElem?_setIfInBounds_ne (by omega)]
                      exact hp i y hi
                    · have := (List.getElem?_eq_some_iff.1 hi).1
                      have hie : i = pre.length := by simp at this; omega
                      subst hie
                      simp at hi
                      subst hi
                      simp at hz
                      have : pre.length < z.size := by omega
                      simp [this])
                  simpa using this
              have := key cs [] z0 (by simpa using h0.trans hl.symm) (fun i v hi => by simp at hi)
              simpa using this
            obtain ⟨g1, g2, g3⟩ := hr.push (o := ⟨_, some p⟩) (cs := (a.eval x).cells) q1 hcs (fun p' hp => by cases hp; exact ⟨m, by rw [hc]; exact h1⟩)
            refine ⟨.slice (some ⟨w.heap.size, 0, none⟩) 1 1, _, _, ?_, .inl rfl, ⟨_, g1, ⟨w.heap.size, g2, rfl⟩, g3⟩⟩
            have hs1000 := hsm _ _ q1
            have hfil : ∀ z0 : Array Value, Instr.fill (fun i => some (i * te.size, te.size)) ((Array.range (1 * te.size)).map (z0[· % z0.size]!)) [(0, a.eval x)] = some (a.eval x).cells := by
              intro z0
              simp only [Instr.fill, Nat.zero_mul]
              rw [if_neg (by simp [hcs])]
              rw [hfill _ (by simp)]
            simp only [execOp, ho, Instr.buildSlice, Sem.run_bind, hrun, ty_size hE q1 w, Result.andThen_ok]
            rw [if_neg (by omega), hps']
            by_cases h0 : 1 * te.size = 0
            · simp only [h0, if_true, Sem.run_bind, Sem.run_pure, Result.andThen_ok]
              have hf := hfil #[]
              rw [h0] at hf
              rw [hf]
              simp [newRow]
            · simp only [h0, if_false, Sem.run_bind, hz, Sem.run_pure, Result.andThen_ok]
              rw [hfil]
              simp [newRow]
          · cases h
        · cases h
      · cases h
    · cases h
  · cases h
end
end Go.Sx
/- A store into an own block; a length. -/
namespace Go.Sx
open Go Go.Refl Go.RowKit

section
variable {P : Program} {E : Env} {w0 w : World} {A : Given} {iv bl : List Nat} {s s' : SS} {a : Act} {ct : Nat → Option Ct}

theorem getOwn_set {l : List Own} {b : Nat} {o : Own} (c : Nat) (hb : b < l.length) : (setOwn l b o)[c]? = if c = b then some o else l[c]? := by
  unfold setOwn
  rw [setAt_eq]
  by_cases h : c = b
  · subst h; simp [hb]
  · rw [if_neg h, List.getElem?_set_ne (Ne.symm h)]

theorem goes_store (hE : EnvOk P E) (hcov : Cov E.ty) (hr : SR E.ty w0 A iv bl s a w) {o : Oper} {t : Nat} {x y : Operand} (ho : o.op = .store t x y) {v : SV} (h : sxOp E.ty ct o.op s = some (v, s')) : Goes P E w0 A iv bl a w o v s' := by
  rw [ho] at h
  simp only [sxOp] at h
  split at h
  · rename_i b p u hx hy
    split at h
    · rename_i t' hb
      split at h
      · rename_i hc
        rw [Bool.and_eq_true] at hc
        have e1 := Nat.eq_of_beq_eq_true hc.1
        have e2 := Nat.eq_of_beq_eq_true hc.2
        subst e1
        subst e2
        cases h
        obtain ⟨k, f1, f2, f3⟩ := hr.get hx
        obtain ⟨n, cs, h1, h2⟩ := hr.get hy
        have hcs := h2.cells h1.rd
        obtain ⟨ti, q1, _⟩ := id h2
        have hl := (h1.rd.one q1).1
        have hbo := getOwn_get hb
        obtain ⟨k', g1, g2, cur, ti', g3, g4, g5, g6⟩ := hr.own b _ hbo
        rw [f1] at g1; cases g1
        simp only at g3 g5
        rw [q1] at g3; cases g3
        have hrun := run_storeCells_cells (P := P) k 0 cs 0 w (fun j hj => by
            have hj' : j < cur.size := by omega
            simp [World.cell?, g5, hj']) (fun j hj => by simp [World.frozen?, g5]) (h1.rd.flat hcov)
        obtain ⟨cs', r1, r2, r3, r4, r5, r6, r7, r8⟩ := setCells_row cs 0 w cur g5 (by omega)
        have hcs' : cs'.toList = cs := by
          apply List.ext_getElem?
          intro i
          have := r3 i
          rw [Array.getElem?_toList, this]
          by_cases hi : i < cs.length
          · rw [if_pos ⟨Nat.zero_le _, by omega⟩]; simp
          · rw [if_neg (by omega), List.getElem?_eq_none (by omega), Array.getElem?_eq_none (by omega)]
        have hb' : b < s.own.length := (List.getElem?_eq_some_iff.1 hbo).1
        refine ⟨undef, w.setCells k 0 cs, .skip, ?_, .inr ⟨rfl, rfl⟩, ⟨bl, fun _ _ h => h, rfl, ⟨hr.tmps, hr.size, ?_, ?_, hr.inj, ?_, hr.facts, hr.nx, hr.defers⟩⟩⟩
        · simp only [execOp, ho, Instr.storeAt, f3, Instr.sureAddr, storeVar, Sem.run_bind, Sem.run_pure, Result.andThen_ok, ty_size hE q1 w]
          rw [if_neg (by simp [hcs, hl])]
          simp only [hcs]
          simp at hrun
          simp [hrun]
        · have : (setOwn s.own b ⟨t, some p⟩).length = s.own.length := by unfold setOwn; rw [setAt_eq]; simp
          rw [this]; exact hr.len
        · intro c oc hoc
          rw [getOwn_set c hb'] at hoc
          by_cases hcb : c = b
          · rw [if_pos hcb] at hoc
            cases hoc
            subst hcb
            exact ⟨k, f1, g2, cs', ti, q1, by omega, r1, fun p' hp => by cases hp; exact ⟨n, by rw [hcs']; exact h1⟩⟩
          · rw [if_neg hcb] at hoc
            obtain ⟨k2, m1, m2, cs2, ti2, m3, m4, m5, m6⟩ := hr.own c oc hoc
            refine ⟨k2, m1, m2, cs2, ti2, m3, m4, ?_, m6⟩
            rw [r4 k2 (fun e => by subst e; exact hcb (hr.inj _ _ _ m1 f1))]
            exact m5
        · exact hr.below.trans ⟨r6, r7, r8, by omega, fun k2 hk => r4 k2 (by omega)⟩
      · cases h
    · cases h
  · cases h

theorem goes_len (hE : EnvOk P E) (hr : SR E.ty w0 A iv bl s a w) {o : Oper} {c : Call} (ho : o.op = .call c) (hb : c.callee = .builtin .len) {v : SV} (h : sxOp E.ty ct o.op s = some (v, s')) : Goes P E w0 A iv bl a w o v s' := by
  rw [ho] at h
  simp only [sxOp, hb] at h
  split at h
  · rename_i x t hargs hts
    split at h
    · rename_i p u hx
      split at h
      · rename_i htu
        have htu := Nat.eq_of_beq_eq_true htu
        subst htu
        split at h
        · rename_i ti hti
          have ha : c.args = #[x] := by rw [← Array.toArray_toList (xs := c.args), hargs]
          have ht : c.argTypes = #[t] := by rw [← Array.toArray_toList (xs := c.argTypes), hts]
          obtain ⟨n, cs, h1, h2⟩ := hr.get hx
          cases n with
          | zero => exact h1.rd.elim
          | succ n =>
            obtain ⟨ti', b1, b2, b3⟩ := id h1.rd
            rw [hti] at b1; cases b1
            split at h
            · rename_i e hd
              cases h
              rw [hd] at b3
              obtain ⟨ad, l, cp, e1, e2, _⟩ := b3
              have hcs := h2.slice hti hd
              rw [e1] at hcs
              have hae : a.eval x = .slice ad l cp := by simpa using hcs.symm
              have hrun := len_run (P := P) (w := w) (rt := o.type) hE hti hd ad l cp
              rw [e1] at h1
              refine ⟨_, w, .value (.int .i64 (l : Int)), ?_, .inl rfl, Stp.same hr ⟨t, _, ad, l, cp, h1, e2, rfl⟩⟩
              simp [execOp, ho, resolve, hb, ha, ht, invoke, builtin, hae, hrun]
            · rename_i hd
              cases h
              rw [hd] at b3
              obtain ⟨st, e1⟩ := b3
              obtain ⟨ti2, k1, k2⟩ := h2
              rw [hti] at k1; cases k1
              rw [hd] at k2
              simp only [Go.Refl.isAgg] at k2
              rw [e1] at k2
              have hae : a.eval x = .string st := by simpa using k2.symm
              obtain ⟨m, hrun⟩ := lenS_run (P := P) (w := w) (rt := o.type) hE hti hd st
              refine ⟨_, w, .value (.int .i64 m), ?_, .inl rfl, Stp.same hr ⟨m, rfl⟩⟩
              simp [execOp, ho, resolve, hb, ha, ht, invoke, builtin, hae, hrun]
            · cases h
        · cases h
      · cases h
    · cases h
  · cases h
end
end Go.Sx
/- Calls, and regions. -/
namespace Go.Sx
open Go Go.Refl Go.RowKit

/-- An argument that can be read, with less than so much fuel. -/
def ArgR (ty : Nat → Option TI) (w : World) (N t : Nat) (v : Value) : Prop :=
  ∃ ti, ty t = some ti ∧ match ti.d with
    | .int .i64 => ∃ n, v = .int .i64 n
    | _ => ∃ n cs, n < N ∧ RdN ty w n t cs ∧ VC ty t cs v
def ArgsR (ty : Nat → Option TI) (w : World) (N : Nat) : List Nat → List Value → Prop
  | [], [] => True
  | t :: ts, v :: vs => ArgR ty w N t v ∧ ArgsR ty w N ts vs
  | _, _ => False
def ResR (isBool : Bool) (v : Value) : Prop :=
  match isBool with
  | true => ∃ b, v = .bool b
  | false => ∃ n, v = .int .i64 n
/-- A function that answers, and leaves what was there. -/
def GuardN (P : Program) (ty : Nat → Option TI) (N f : Nat) (params : List Nat) (isBool : Bool) : Prop :=
  ∀ (w : World) (args : List Value), ArgsR ty w N params args →
    (callFunc f args.toArray).run P w = .ok (.enter f args.toArray) w ∧ Calls P f args.toArray w fun e w' => (∃ v, e = .returned v ∧ ResR isBool v) ∧ Below w.heap.size w w'
/-- What is known of the functions that are called. -/
def Known (P : Program) (ty : Nat → Option TI) (ct : Nat → Option Ct) (N0 : Nat) : Prop :=
  ∀ f k, ct f = some k → match k.self with
    | true => GuardN P ty N0 f k.params k.isBool
    | false => ∀ N, GuardN P ty N f k.params k.isBool

theorem ArgR.mono {ty : Nat → Option TI} {w : World} {N M t : Nat} {v : Value} (hN : N ≤ M) (h : ArgR ty w N t v) : ArgR ty w M t v := by
  obtain ⟨ti, h1, h2⟩ := h
  refine ⟨ti, h1, ?_⟩
  split at h2
  · exact h2
  · obtain ⟨n, cs, k1, k2⟩ := h2
    exact ⟨n, cs, by omega, k2⟩
theorem ArgsR.mono {ty : Nat → Option TI} {w : World} {N M : Nat} (hN : N ≤ M) : ∀ {ts : List Nat} {vs : List Value}, ArgsR ty w N ts vs → ArgsR ty w M ts vs
  | [], [], _ => trivial
  | _ :: _, _ :: _, h => ⟨h.1.mono hN, h.2.mono hN⟩
  | [], _ :: _, h => h.elim
  | _ :: _, [], h => h.elim

section
variable {P : Program} {E : Env} {w0 w : World} {A : Given} {iv bl : List Nat} {s s' : SS} {a : Act} {ct : Nat → Option Ct} {N0 k : Nat}

def Bound (A : Given) (N0 : Nat) : Prop := ∀ (j : Nat) (x : Nat × Nat × List Value), A[j]? = some x → x.2.1 ≤ N0

theorem D.fuel (hA : Bound A N0) {p : Pt} {t n : Nat} {cs : List Value} (h : D E.ty w0 A iv p t n cs) : n ≤ N0 := by
  induction h with
  | arg j t n cs h hr => exact hA j _ h
  | sub p t n cs ti fs o u te _ ht hd ho hu hr ih => omega
  | elt p t n ad len cap ti e te x i vs _ ht hd he hx hlt hr hl hc ih => omega
theorem D.fuel_lt (hA : Bound A N0) {p : Pt} {t n : Nat} {cs : List Value} (hp : ∀ j, p ≠ .arg j) (h : D E.ty w0 A iv p t n cs) : n < N0 := by
  cases h with
  | arg j => exact absurd rfl (hp j)
  | sub p t n cs ti fs o u te h ht hd ho hu hr => have := h.fuel hA; omega
  | elt p t n ad len cap ti e te x i vs h ht hd he hx hlt hr hl hc => have := h.fuel hA; omega

theorem argR_of (hr : SR E.ty w0 A iv bl s a w) {p : Pt} {t n : Nat} {cs : List Value} {v : Value} {N : Nat} (h : D E.ty w0 A iv p t n cs) (hv : VC E.ty t cs v) (hn : n < N) : ArgR E.ty w N t v := by
  have hrd := h.rd.below hr.below
  cases n with
  | zero => exact h.rd.elim
  | succ n =>
    obtain ⟨ti, h1, h2, h3⟩ := id hrd
    refine ⟨ti, h1, ?_⟩
    split
    · rename_i hd
      rw [hd] at h3
      obtain ⟨i, rfl⟩ := h3
      obtain ⟨ti', k1, k2⟩ := hv
      rw [h1] at k1; cases k1
      rw [hd] at k2
      simp only [Go.Refl.isAgg] at k2
      exact ⟨i, by simpa using k2.symm⟩
    · exact ⟨n + 1, cs, hn, hrd, hv⟩

/-- What the checks of a table say. -/
structure Good (E : Env) : Prop where
  cov : Cov E.ty
  slice1 : ∀ t ti e, E.ty t = some ti → ti.d = .slice e → ti.size = 1
  small : ∀ e te, E.ty e = some te → te.size ≤ 1000

theorem arg_sound (hgd : Good E) (hA : Bound A N0) (hr : SR E.ty w0 A iv bl s a w) {self : Bool} {t : Nat} {v : SV} {u : Value} (h : argOk E.ty s.own self t v = true) (hv : V E.ty w0 A iv bl v u) :
    ∃ N, ArgR E.ty w N t u ∧ (self = true → N = N0) := by
  have num : ∀ {v : SV}, intLike v = true → (match E.ty t with
      | some ti => match ti.d with
        | .int .i64 => true
        | _ => false
      | none => false) = true → V E.ty w0 A iv bl v u → ∃ N, ArgR E.ty w N t u ∧ (self = true → N = N0) := by
    intro v hi h hv
    split at h
    · rename_i ti hti
      split at h
      · rename_i hd
        exact ⟨N0, ⟨ti, hti, by rw [hd]; exact hv.int hi⟩, fun _ => rfl⟩
      · cases h
    · cases h
  cases v with
  | int n => exact num rfl h hv
  | anyI => exact num rfl h hv
  | iv x => exact num rfl h hv
  | ivS x => exact num rfl h hv
  | len p => exact num rfl h hv
  | pth p u' =>
    simp only [argOk] at h
    split at h
    · rename_i htu
      have htu := Nat.eq_of_beq_eq_true htu
      subst htu
      obtain ⟨n, cs, h1, h2⟩ := hv
      cases self with
      | false => exact ⟨n + 1, argR_of hr h1 h2 (by omega), fun e => by cases e⟩
      | true =>
        refine ⟨N0, argR_of hr h1 h2 (h1.fuel_lt hA fun j e => ?_), fun _ => rfl⟩
        subst e
        cases h
    · cases h
  | one b =>
    simp only [argOk] at h
    split at h
    · cases h
    · split at h
      · rename_i u' p ti hb hti
        split at h
        · rename_i e hd
          have he := Nat.eq_of_beq_eq_true h
          subst he
          obtain ⟨kb, h1, h2⟩ := hv
          obtain ⟨kb', n, cs, g1, g2, g3⟩ := hr.block hb
          rw [h1] at g1; cases g1
          have hrd := g2.rd.below hr.below
          cases n with
          | zero => exact g2.rd.elim
          | succ n =>
            obtain ⟨te, q1, q2, _⟩ := id hrd
            refine ⟨n + 3, ⟨ti, hti, ?_⟩, fun e => by cases e⟩
            rw [hd]
            refine ⟨n + 2, [.slice (some ⟨kb, 0, none⟩) 1 1], by omega, ⟨ti, hti, ?_, ?_⟩, ⟨ti, hti, by rw [hd]; exact congrArg (fun x => [x]) h2.symm⟩⟩
            · rw [hgd.slice1 _ _ _ hti hd]; rfl
            · rw [hd]
              refine ⟨_, 1, 1, rfl, by decide, fun i hi => ⟨⟨kb, 0, none⟩, cs, te, rfl, q1, hrd, q2, fun j v hj => ?_⟩⟩
              have : i = 0 := by omega
              subst this
              have hadd : (((⟨kb, 0, none⟩ : Addr).add (0 * te.size)).add j) = ⟨kb, j, none⟩ := by unfold Addr.add; simp; intro e; exact e.symm
              rw [hadd]
              exact g3 j v hj
        · cases h
      · cases h
  | anyB => cases h
  | bool b => cases h
  | adr p t => cases h
  | ltb x p => cases h
  | blk b o c => cases h
  | undef => cases h

theorem args_sound (hgd : Good E) (hA : Bound A N0) (hr : SR E.ty w0 A iv bl s a w) {self : Bool} : ∀ {ts : List Nat} {os : List Operand} {vs : List SV}, evL s.tmps os = some vs → argsOk E.ty s.own self ts vs = true →
    ∃ N, ArgsR E.ty w N ts (os.map a.eval) ∧ (self = true → N = N0)
  | ts, [], vs, h1, h2 => by
    simp only [evL] at h1; cases h1
    cases ts with
    | nil => exact ⟨N0, trivial, fun _ => rfl⟩
    | cons => cases h2
  | ts, o :: os, vs, h1, h2 => by
    simp only [evL] at h1
    split at h1
    · cases h1
    · rename_i v hv
      split at h1
      · cases h1
      · rename_i vs' hvs
        cases h1
        cases ts with
        | nil => cases h2
        | cons t ts =>
          simp only [argsOk] at h2
          split at h2
          · rename_i h3
            obtain ⟨N1, g1, g2⟩ := arg_sound hgd hA hr h3 (hr.get hv)
            obtain ⟨N2, g3, g4⟩ := args_sound hgd hA hr hvs h2
            exact ⟨max N1 N2, ⟨g1.mono (Nat.le_max_left _ _), g3.mono (Nat.le_max_right _ _)⟩, fun e => by rw [g2 e, g4 e]; simp⟩
          · cases h2

theorem SR.after {w' : World} (hr : SR E.ty w0 A iv bl s a w) (hb : Below w.heap.size w w') : SR E.ty w0 A iv bl s a w' := by
  refine ⟨hr.tmps, hr.size, hr.len, fun b o ho => ?_, hr.inj, hr.below.trans (hb.mono hr.below.size), hr.facts, hr.nx, hr.defers⟩
  obtain ⟨k, h1, h2, cs, ti, h3, h4, h5, h6⟩ := hr.own b o ho
  exact ⟨k, h1, h2, cs, ti, h3, h4, by rw [hb.block k (Array.getElem?_eq_some_iff.1 h5).1]; exact h5, h6⟩

theorem op_wp (hE : EnvOk P E) (hgd : Good E) (hK : Known P E.ty ct N0) (hA : Bound A N0) (hr : SR E.ty w0 A iv bl s a w) {o : Oper} {v : SV} (h : sxOp E.ty ct o.op s = some (v, s')) {K : Act → World → Prop} {Q : Exit → Act → World → Prop}
    (hK' : ∀ u w' bl', (∀ (x i : Nat), bl[x]? = some i → bl'[x]? = some i) → V E.ty w0 A iv bl' v u → SR E.ty w0 A iv bl' s' a w' → K (a.put o.dst u) w') : o.wpIn Fence.wide k P a w K Q := by
  refine ⟨fun f _ => trivial, ?_⟩
  show o.uponIn Fence.wide k P a K Q ((execOp a.eval o).run P w)
  have prim : Goes P E w0 A iv bl a w o v s' → o.uponIn Fence.wide k P a K Q ((execOp a.eval o).run P w) := by
    rintro ⟨u, w', nx, hrun, hnx, bl', h1, h2, h3⟩
    rw [hrun]
    rcases hnx with rfl | ⟨rfl, rfl⟩
    · exact hK' u w' bl' h1 h2 h3
    · exact hK' _ w' bl' h1 h2 h3
  cases ho : o.op with
  | move x => exact prim (goes_move hr (.inl ho) h)
  | assign x => exact prim (goes_move hr (.inr ho) h)
  | load t x => exact prim (goes_load hE hr ho h)
  | fieldAddr st x i => exact prim (goes_field hE hr ho h)
  | indexAddr t x ix => exact prim (goes_index hE hr ho h)
  | binOp op t x y zt => exact prim (goes_bin hE hr ho h)
  | unOp op t x => exact prim (goes_un hr ho h)
  | pick c x y => exact prim (goes_pick hr ho h)
  | box t x => exact prim (goes_box hr ho h)
  | alloc t => exact prim (goes_alloc hE hr ho h)
  | store t x y => exact prim (goes_store hE hgd.cov hr ho h)
  | buildSlice t n ps => exact prim (goes_one hE hr ho hgd.small h)
  | call c =>
    cases hc : c.callee with
    | builtin b =>
      by_cases hbl : b = .len
      · subst hbl; exact prim (goes_len hE hr ho hc h)
      · rw [ho] at h
        simp only [sxOp, hc] at h
        cases h
    | value f =>
      rw [ho] at h
      simp only [sxOp, hc] at h
      split at h
      · rename_i f'
        split at h
        · rename_i kk hkk
          split at h
          · rename_i vs hvs
            split at h
            · rename_i hargs
              cases h
              obtain ⟨N, g1, g2⟩ := args_sound hgd hA hr hvs hargs
              have hG := hK f' kk hkk
              have hG' : GuardN P E.ty N f' kk.params kk.isBool := by
                cases hs : kk.self with
                | true => rw [hs] at hG; rw [g2 hs]; exact hG
                | false => rw [hs] at hG; exact hG N
              obtain ⟨r1, r2⟩ := hG' w _ g1
              have hrun : (execOp a.eval o).run P w = (callFunc f' (c.args.toList.map a.eval).toArray).run P w := by
                have : (c.args.toList.map a.eval).toArray = c.args.map a.eval := by rw [← Array.toList_map, Array.toArray_toList]
                rw [this]
                simp [execOp, ho, resolve, hc, Act.eval, Deferred.ofValue, invoke]
              rw [hrun, r1]
              refine ⟨fun hd => (by cases hd), CallsIn.mono (callsIn_wide.2 r2) fun e w' hA' => ?_⟩
              obtain ⟨⟨u, rfl, hu⟩, hb⟩ := hA'
              refine hK' u w' bl (fun _ _ h => h) ?_ (hr.after hb)
              cases hib : kk.isBool with
              | true => rw [hib] at hu; exact hu
              | false => rw [hib] at hu; exact hu
            · cases h
          · cases h
        · cases h
      · cases h
    | invoke r n => rw [ho] at h; simp only [sxOp, hc] at h; cases h
  | _ => rw [ho] at h; simp only [sxOp] at h; cases h
end
end Go.Sx
