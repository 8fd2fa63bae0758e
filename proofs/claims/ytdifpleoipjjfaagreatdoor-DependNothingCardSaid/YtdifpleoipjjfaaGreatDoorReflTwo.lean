/- The evaluator is sound: loads, numbers, equality, slices, maps that are read. -/
import Derived.Test.YtdifpleoipjjfaaGreatDoorReflOne
import Derived.Laws.Cells
import Derived.Laws.IdiomCopy
import Derived.Laws.Entries
import Derived.Laws.Strings
import Derived.Laws.StructEq
import Derived.ChangeKeysEq
namespace Go.Refl
open Go

/-! ### Types -/
def TDOk : TD → TypeDesc → Prop
  | .int k, d => d = .int k
  | .bool, d => d = .bool
  | .string, d => d = .string
  | .slice e, d => d = .slice e
  | .array n e, d => d = .array n e
  | .struct fs, d => ∃ f : Array Field, d = .struct f ∧ f.toList.map (fun x => (x.offset, x.type)) = fs
  | .map k e, d => d = .map k e
  | .pointer e, d => d = .pointer e
  | .func, d => ∃ a b c, d = .func a b c
  | .interface, d => ∃ m, d = .interface m
  | .uptr, d => d = .unsafePointer
  | .other, _ => True

structure TyOk (P : Program) (t : Nat) (ti : TI) : Prop where
  desc : ∃ d, P.underlying t = some d ∧ TDOk ti.d d
  info : ∃ i z, P.info? t = some i ∧ i.size = ti.size ∧ i.bytes = ti.bytes ∧ i.zero = some z ∧ (∀ ρ, VL ρ ti.zero z.cells.toList) ∧ (isAgg ti.d = true → ∃ cs, z = .agg cs) ∧ (isAgg ti.d = false → ti.d ≠ .other → VL (fun _ => none) ti.zero [z])
  plain : ti.plain = true → P.stoodInHeld t = false ∧ P.eqGuardType P.depth t = false ∧ ∀ f, P.underlying t = some (.struct f) → ∀ x ∈ f, x.name ≠ "_"
  noOther : ti.d ≠ .other
  zlen : ti.zero.length = ti.size
  parts : ∀ f, P.underlying t = some (.struct f) → ∀ x ∈ f, ∃ i, P.info? x.type = some i

structure EnvOk (P : Program) (E : Env) : Prop where
  ty : ∀ t ti, E.ty t = some ti → TyOk P t ti
  fns : ∀ f fi, E.fns f = some fi → ∃ fn, P.funcs[f]? = some fn ∧ fn.body = some fi.body ∧ fn.ntmps = fi.ntmps ∧ fn.results.toList = fi.results ∧ fn.name ≠ "runtime.NumGoroutine"
  mixed : P.follows .mixedOrders = true

/-! ### Memory -/
def ML (ρ : Rho) (es : List (AV × AV × Nat)) (es' : List MapEntry) : Prop :=
  es.length = es'.length ∧ ∀ (i : Nat) x y, es[i]? = some x → es'[i]? = some y → VR ρ x.1 y.key ∧ VR ρ x.2.1 y.val ∧ x.2.2 = y.born

/-- How far the row behind a block of cells goes: a closed one is known to its end; one that is not written at all is pinned. -/
def RowEnd (E : Env) (l : Loc) (size n elem : Nat) (opn : Bool) (frz lo hi : Nat) : Prop :=
  (opn = true → ∃ te, E.ty elem = some te ∧ l.sh + l.kap * te.size = size) ∧ (opn = false → l.sh = 0 ∧ size = n ∧ (n < frz → (lo, hi) = E.pf))

/-- A block and what it stands for. -/
def OR (E : Env) (ρ : Rho) (l : Loc) : AObj → Obj → Prop
  | .row cells elem opn frz, ob => ∃ (cs : Array Value) (lo hi : Nat), ob = .cells cs elem (lo, hi) ∧
      (∀ (i : Nat) x, cells[i]? = some x → ∃ v, cs[l.sh + i]? = some v ∧ VR ρ x v) ∧
      (∀ i, frz ≤ i → l.sh + i < cs.size → ¬ (lo ≤ l.sh + i ∧ l.sh + i < hi)) ∧
      RowEnd E l cs.size cells.length elem opn frz lo hi
  | .map es clock, ob => ∃ es' : Array MapEntry, ob = .map es' clock ∧ ML ρ es es'.toList
  | .loop st pend tmps size params assign body _, ob => ∃ lp : Loop, ob = .loop lp ∧ lp.state = st ∧ lp.pending = pend ∧ TR ρ tmps lp.tmps ∧ lp.tmps.size = size ∧
      lp.params.toList = params ∧ lp.assign = assign ∧ lp.body = body
  | .defd, ob => ob = .deferred (some [])
  | .miter m since seen last, ob => ∃ m' : Option Nat, ob = .mapIter m' since seen.toArray last ∧ l.sh = 0 ∧
      match m with
      | none => m' = none
      | some r => ∃ x : Loc, ρ r = some x ∧ m' = some x.blk

theorem ML.ext {ρ ρ' : Rho} (he : Ext ρ ρ') {es : List (AV × AV × Nat)} {es' : List MapEntry} (h : ML ρ es es') : ML ρ' es es' :=
  ⟨h.1, fun i x y hx hy => let ⟨a, b, c⟩ := h.2 i x y hx hy; ⟨a.ext he, b.ext he, c⟩⟩

theorem OR.ext {E : Env} {ρ ρ' : Rho} (he : Ext ρ ρ') {l : Loc} {o : AObj} {ob : Obj} (h : OR E ρ l o ob) : OR E ρ' l o ob := by
  cases o with
  | row cells elem opn frz =>
    obtain ⟨cs, lo, hi, h1, h2, h3, h4⟩ := h
    exact ⟨cs, lo, hi, h1, fun i x hx => let ⟨v, hv, hr⟩ := h2 i x hx; ⟨v, hv, hr.ext he⟩, h3, h4⟩
  | map es clock => obtain ⟨es', h1, h2⟩ := h; exact ⟨es', h1, h2.ext he⟩
  | loop st pend tmps size params assign body d =>
    obtain ⟨lp, h1, h2, h3, h4, h5⟩ := h
    exact ⟨lp, h1, h2, h3, h4.ext he, h5⟩
  | defd => exact h
  | miter m since seen last =>
    obtain ⟨m', h1, hsh, h2⟩ := h
    refine ⟨m', h1, hsh, ?_⟩
    cases m with
    | none => exact h2
    | some r => obtain ⟨x, hx, e⟩ := h2; exact ⟨x, he _ _ hx, e⟩

def live (h : Hp) (b : Nat) : Prop := ∃ o, h.h.get b = some o

structure HR (E : Env) (h : Hp) (ρ : Rho) (w : World) : Prop where
  dom : ∀ b l, ρ b = some l → b < h.next
  obj : ∀ b o, h.h.get b = some o → ∃ l ob, ρ b = some l ∧ w.heap[l.blk]? = some ob ∧ OR E ρ l o ob
  sep : ∀ b b' l l', live h b → live h b' → ρ b = some l → ρ b' = some l' → l.blk = l'.blk → b = b'
  glob : ∀ g, g < E.globs → ∃ k, ρ g = some ⟨g, 0, k⟩

/-- One step: from h, ρ, w to h', ρ', w'. -/
structure Up (E : Env) (h : Hp) (ρ : Rho) (w : World) (h' : Hp) (ρ' : Rho) (w' : World) : Prop where
  ext : Ext ρ ρ'
  new : ∀ b l, ρ' b = some l → ρ b = some l ∨ (h.next ≤ b ∧ b < h'.next)
  mono : h.next ≤ h'.next
  hr : HR E h' ρ' w'
  size : w.heap.size ≤ w'.heap.size
  frame : ∀ c, c < w.heap.size → (∀ b l, live h b → ρ b = some l → l.blk ≠ c) → w'.heap[c]? = w.heap[c]?
  own : ∀ b l, live h' b → ρ' b = some l → w.heap.size ≤ l.blk ∨ ∃ b0 l0, live h b0 ∧ ρ b0 = some l0 ∧ l0.blk = l.blk
  os : w'.os = w.os
  tape : w'.tape = w.tape
  output : w'.output = w.output

theorem HR.blk_lt {E : Env} {h : Hp} {ρ : Rho} {w : World} (hr : HR E h ρ w) {b : Nat} {l : Loc} (hb : live h b) (hl : ρ b = some l) : l.blk < w.heap.size := by
  obtain ⟨o, ho⟩ := hb
  obtain ⟨l', ob, h1, h2, _⟩ := hr.obj b o ho
  rw [hl] at h1; cases h1
  exact (Array.getElem?_eq_some_iff.1 h2).1

theorem Up.refl {E : Env} {h : Hp} {ρ : Rho} {w : World} (hr : HR E h ρ w) : Up E h ρ w h ρ w :=
  ⟨Ext.refl ρ, fun _ _ h => .inl h, Nat.le_refl _, hr, Nat.le_refl _, fun _ _ _ => rfl, fun b l hb hl => .inr ⟨b, l, hb, hl, rfl⟩, rfl, rfl, rfl⟩

theorem Up.trans {E : Env} {h0 h1 h2 : Hp} {ρ0 ρ1 ρ2 : Rho} {w0 w1 w2 : World} (a : Up E h0 ρ0 w0 h1 ρ1 w1) (b : Up E h1 ρ1 w1 h2 ρ2 w2) : Up E h0 ρ0 w0 h2 ρ2 w2 := by
  refine ⟨a.ext.trans b.ext, ?_, Nat.le_trans a.mono b.mono, b.hr, Nat.le_trans a.size b.size, ?_, ?_, b.os.trans a.os, b.tape.trans a.tape, b.output.trans a.output⟩
  · intro x l hx
    rcases b.new x l hx with h | ⟨h, k⟩
    · rcases a.new x l h with h' | ⟨h', k'⟩
      · exact .inl h'
      · exact .inr ⟨h', Nat.lt_of_lt_of_le k' b.mono⟩
    · exact .inr ⟨Nat.le_trans a.mono h, k⟩
  · intro c hc hn
    rw [b.frame c (Nat.lt_of_lt_of_le hc a.size), a.frame c hc hn]
    intro x l hx hl e
    rcases a.own x l hx hl with h | ⟨b0, l0, h1, h2, h3⟩
    · omega
    · exact hn b0 l0 h1 h2 (h3.trans e)
  · intro x l hx hl
    rcases b.own x l hx hl with h | ⟨b1, l1, h1, h2, h3⟩
    · exact .inl (Nat.le_trans a.size h)
    · rcases a.own b1 l1 h1 h2 with h | ⟨b0, l0, k1, k2, k3⟩
      · exact .inl (h3 ▸ h)
      · exact .inr ⟨b0, l0, k1, k2, k3.trans h3⟩

/-- A draw, or whatever else leaves memory and streams alone. -/
theorem HR.of_heap {E : Env} {h : Hp} {ρ : Rho} {w w' : World} (hr : HR E h ρ w) (e : w'.heap = w.heap) : HR E h ρ w' :=
  ⟨hr.dom, fun b o ho => by rw [e]; exact hr.obj b o ho, hr.sep, hr.glob⟩
theorem Up.same {E : Env} {h : Hp} {ρ : Rho} {w w' : World} (hr : HR E h ρ w) (e : w'.heap = w.heap) (h1 : w'.os = w.os) (h2 : w'.tape = w.tape) (h3 : w'.output = w.output) : Up E h ρ w h ρ w' :=
  ⟨Ext.refl ρ, fun _ _ h => .inl h, Nat.le_refl _, hr.of_heap e, by rw [e]; exact Nat.le_refl _, fun c _ _ => by rw [e], fun b l hb hl => .inr ⟨b, l, hb, hl, rfl⟩, h1, h2, h3⟩

/-! ### Forgetting a block -/
theorem live_del {h : Hp} {b c : Nat} : live (delO h b) c → live h c ∧ c ≠ b := by
  rintro ⟨o, ho⟩
  simp only [delO] at ho
  rw [Tr.get_del] at ho
  split at ho
  · cases ho
  · rename_i hne; exact ⟨⟨o, ho⟩, hne⟩
theorem HR.del {E : Env} {h : Hp} {ρ : Rho} {w : World} (hr : HR E h ρ w) (b : Nat) : HR E (delO h b) ρ w := by
  refine ⟨hr.dom, ?_, ?_, hr.glob⟩
  · intro c o ho
    simp only [delO] at ho
    rw [Tr.get_del] at ho
    split at ho
    · cases ho
    · exact hr.obj c o ho
  · intro x y l l' hx hy hl hl' e
    exact hr.sep x y l l' (live_del hx).1 (live_del hy).1 hl hl' e
theorem Up.del {E : Env} {h : Hp} {ρ : Rho} {w : World} (hr : HR E h ρ w) (b : Nat) : Up E h ρ w (delO h b) ρ w :=
  ⟨Ext.refl ρ, fun _ _ h => .inl h, Nat.le_refl _, hr.del b, Nat.le_refl _, fun _ _ _ => rfl, fun c l hb hl => .inr ⟨c, l, (live_del hb).1, hl, rfl⟩, rfl, rfl, rfl⟩

/-! ### A new block -/
def Rho.add (ρ : Rho) (b : Nat) (l : Loc) : Rho := fun c => if c = b then some l else ρ c
theorem Rho.add_ext {ρ : Rho} {b : Nat} {l : Loc} (h : ρ b = none) : Ext ρ (ρ.add b l) := by
  intro c l' hc
  unfold Rho.add
  split
  · rename_i e; subst e; rw [h] at hc; cases hc
  · exact hc
theorem Rho.add_same (ρ : Rho) (b : Nat) (l : Loc) : ρ.add b l b = some l := by simp [Rho.add]

theorem HR.next_none {E : Env} {h : Hp} {ρ : Rho} {w : World} (hr : HR E h ρ w) : ρ h.next = none := by
  cases e : ρ h.next with
  | none => rfl
  | some l => exact absurd (hr.dom _ _ e) (Nat.lt_irrefl _)

theorem Up.new_block {E : Env} {h : Hp} {ρ : Rho} {w w' : World} (hr : HR E h ρ w) {o : AObj} {ob : Obj} (sh kap : Nat)
    (hw : w'.heap = w.heap.push ob) (hos : w'.os = w.os) (ht : w'.tape = w.tape) (hout : w'.output = w.output)
    (ho : OR E (ρ.add h.next ⟨w.heap.size, sh, kap⟩) ⟨w.heap.size, sh, kap⟩ o ob) :
    Up E h ρ w (alloc h o) (ρ.add h.next ⟨w.heap.size, sh, kap⟩) w' := by
  have hnone := hr.next_none
  have hext : Ext ρ (ρ.add h.next ⟨w.heap.size, sh, kap⟩) := Rho.add_ext hnone
  have hold : ∀ c, c < w.heap.size → w'.heap[c]? = w.heap[c]? := by
    intro c hc; rw [hw, Array.getElem?_push, if_neg (by omega)]
  have hget : ∀ c, (alloc h o).h.get c = if c = h.next then some o else h.h.get c := by
    intro c; simp only [alloc]; rw [Tr.get_set]
  refine ⟨hext, ?_, by simp [alloc], ⟨?_, ?_, ?_, ?_⟩, by rw [hw]; simp, fun c hc _ => hold c hc, ?_, hos, ht, hout⟩
  · intro b l hb
    unfold Rho.add at hb
    split at hb
    · rename_i e; exact .inr (by simp [alloc, e])
    · exact .inl hb
  · intro b l hb
    unfold Rho.add at hb
    split at hb
    · rename_i e; simp [alloc, e]
    · have := hr.dom _ _ hb; simp only [alloc]; omega
  · intro b o' hb
    rw [hget] at hb
    split at hb
    · rename_i e; cases hb; subst e
      exact ⟨_, ob, Rho.add_same _ _ _, by rw [hw]; simp, ho⟩
    · obtain ⟨l, ob', h1, h2, h3⟩ := hr.obj b o' hb
      exact ⟨l, ob', hext _ _ h1, by rw [hold _ (Array.getElem?_eq_some_iff.1 h2).1]; exact h2, h3.ext hext⟩
  · have lv : ∀ x l, live (alloc h o) x → (ρ.add h.next ⟨w.heap.size, sh, kap⟩) x = some l → (x = h.next ∧ l.blk = w.heap.size) ∨ (x ≠ h.next ∧ live h x ∧ ρ x = some l ∧ l.blk < w.heap.size) := by
      rintro x l ⟨o', ho'⟩ hl
      rw [hget] at ho'
      by_cases e : x = h.next
      · subst e; rw [Rho.add_same] at hl; cases hl; exact .inl ⟨rfl, rfl⟩
      · rw [if_neg e] at ho'
        have hl' : ρ x = some l := by unfold Rho.add at hl; rwa [if_neg e] at hl
        exact .inr ⟨e, ⟨o', ho'⟩, hl', hr.blk_lt ⟨o', ho'⟩ hl'⟩
    intro x y l l' hx hy hl hl' e
    rcases lv x l hx hl with ⟨a, b⟩ | ⟨a, b, c, d⟩ <;> rcases lv y l' hy hl' with ⟨a', b'⟩ | ⟨a', b', c', d'⟩
    · rw [a, a']
    · omega
    · omega
    · exact hr.sep x y l l' b b' c c' e
  · intro g hg
    obtain ⟨k, hk⟩ := hr.glob g hg
    exact ⟨k, hext _ _ hk⟩
  · intro x l hx hl
    obtain ⟨o', ho'⟩ := hx
    rw [hget] at ho'
    by_cases e : x = h.next
    · subst e; rw [Rho.add_same] at hl; cases hl; exact .inl (Nat.le_refl _)
    · rw [if_neg e] at ho'
      have hl' : ρ x = some l := by unfold Rho.add at hl; rwa [if_neg e] at hl
      exact .inr ⟨x, l, ⟨o', ho'⟩, hl', rfl⟩

/-! ### A block is written -/
theorem Up.put_block {E : Env} {h : Hp} {ρ : Rho} {w w' : World} (hr : HR E h ρ w) {b : Nat} {l : Loc} {o o' : AObj} {ob : Obj} (hb : h.h.get b = some o) (hl : ρ b = some l)
    (hw : ∀ c, c ≠ l.blk → w'.heap[c]? = w.heap[c]?) (hwb : w'.heap[l.blk]? = some ob) (hs : w'.heap.size = w.heap.size)
    (hos : w'.os = w.os) (ht : w'.tape = w.tape) (hout : w'.output = w.output) (ho : OR E ρ l o' ob) :
    Up E h ρ w (setO h b o') ρ w' := by
  have hget : ∀ c, (setO h b o').h.get c = if c = b then some o' else h.h.get c := by intro c; simp only [setO]; rw [Tr.get_set]
  have lv : ∀ x, live (setO h b o') x → live h x := by
    rintro x ⟨u, hu⟩
    rw [hget] at hu
    split at hu
    · rename_i e; subst e; exact ⟨o, hb⟩
    · exact ⟨u, hu⟩
  refine ⟨Ext.refl ρ, fun _ _ h => .inl h, Nat.le_refl _, ⟨hr.dom, ?_, ?_, hr.glob⟩, by omega, ?_, ?_, hos, ht, hout⟩
  · intro c u hu
    rw [hget] at hu
    split at hu
    · rename_i e; cases hu; subst e; exact ⟨l, ob, hl, hwb, ho⟩
    · rename_i hne
      obtain ⟨l', ob', h1, h2, h3⟩ := hr.obj c u hu
      refine ⟨l', ob', h1, ?_, h3⟩
      rw [hw]; exact h2
      intro e
      exact hne (hr.sep c b l' l ⟨u, hu⟩ ⟨o, hb⟩ h1 hl e)
  · intro x y lx ly hx hy h1 h2 e
    exact hr.sep x y lx ly (lv x hx) (lv y hy) h1 h2 e
  · intro c hc hn
    exact hw c (fun e => hn b l ⟨o, hb⟩ hl e.symm)
  · intro x lx hx h1
    exact .inr ⟨x, lx, lv x hx, h1, rfl⟩
end Go.Refl
/- Operands, types, loads, parts, equality. -/
namespace Go.Refl
open Go

theorem flats_sound {ρ : Rho} {cs : List AV} {vs : List Value} (h : flats cs = true) (hv : VL ρ cs vs) : ∀ v ∈ vs, v.oneCell' = true := by
  induction cs generalizing vs with
  | nil => have := VL.nil_iff.1 hv; subst this; simp
  | cons c cs ih =>
    obtain ⟨y, ys, rfl, h1, h2⟩ := VL.cons_iff.1 hv
    simp only [flats] at h
    split at h
    · rename_i hf
      intro v hm
      rcases List.mem_cons.1 hm with rfl | hm
      · cases h1 <;> first | rfl | (simp [flat] at hf)
      · exact ih h h2 v hm
    · cases h

theorem ofCell_sound (ρ : Rho) {v : Value} {x : AV} (h : ofCell v = some x) : VR ρ x v := by
  unfold ofCell at h
  split at h <;> first | (cases h; done) | (injection h with h; subst h; first | exact .int _ _ | exact .bool _ | exact .str _ _ rfl | exact .nilp | exact .nils | exact .nilm | exact .nilf | exact .nili)

theorem ofCells_sound (ρ : Rho) : ∀ {vs : List Value} {xs : List AV}, ofCells vs = some xs → VL ρ xs vs
  | [], xs, h => by simp [ofCells] at h; subst h; exact .nil ρ
  | v :: vs, xs, h => by
    simp only [ofCells] at h
    split at h
    · cases h
    · rename_i a ha
      split at h
      · cases h
      · rename_i as has
        cases h
        exact .cons (ofCell_sound ρ ha) (ofCells_sound ρ has)

theorem ofValue_sound (ρ : Rho) {v : Value} {x : AV} (h : ofValue v = some x) : VR ρ x v := by
  unfold ofValue at h
  split at h
  · split at h
    · rename_i l hl; cases h; exact VR.agg_iff.2 ⟨_, rfl, ofCells_sound ρ hl⟩
    · cases h
  · split at h
    · rename_i cs hc
      cases h
      refine VR.tup_iff.2 ⟨_, rfl, ?_⟩
      rw [hc]; exact .nil ρ
    · cases h
  · exact ofCell_sound ρ h

theorem VR.undef (ρ : Rho) : VR ρ undefA undef := VR.tup_iff.2 ⟨#[], rfl, .nil ρ⟩

section
variable {P : Program} {E : Env} {h : Hp} {ρ : Rho} {w : World} {t : Tr AV} {a : Act}

theorem evalO_sound (hr : HR E h ρ w) (ht : TR ρ t a.tmps) {o : Operand} {x : AV} (hx : evalO E t o = some x) : VR ρ x (a.eval o) := by
  cases o with
  | tmp n =>
    obtain ⟨v, hv, hr⟩ := ht n x hx
    have : a.eval (.tmp n) = v := by simp [Act.eval, Array.getD_eq_getD_getElem?, hv]
    rw [this]; exact hr
  | const v => exact ofValue_sound ρ hx
  | func f => simp [evalO] at hx; subst hx; exact VR.fn_iff.2 ⟨#[], #[], rfl, .nil ρ, .nil ρ⟩
  | global g =>
    simp only [evalO] at hx
    split at hx
    · rename_i hg
      cases hx
      obtain ⟨k, hk⟩ := hr.glob g (by simpa [Nat.blt_eq] using hg)
      exact .ptr g 0 _ hk
    · cases hx

theorem evalL_sound (hr : HR E h ρ w) (ht : TR ρ t a.tmps) : ∀ {os : List Operand} {xs : List AV}, evalL E t os = some xs → VL ρ xs (os.map a.eval)
  | [], xs, hx => by simp [evalL] at hx; subst hx; exact .nil ρ
  | o :: os, xs, hx => by
    simp only [evalL] at hx
    split at hx
    · cases hx
    · rename_i v hv
      split at hx
      · cases hx
      · rename_i vs hvs
        cases hx
        exact .cons (evalO_sound hr ht hv) (evalL_sound hr ht hvs)

theorem natOf_sound {x : AV} {n : Nat} {v : Value} (hx : natOf x = some n) (hv : VR ρ x v) : ∃ k, v = .int k n := by
  unfold natOf at hx
  split at hx
  · cases hx; cases hv; exact ⟨_, rfl⟩
  · cases hx

theorem evalN_sound (hr : HR E h ρ w) (ht : TR ρ t a.tmps) {o : Operand} {n : Nat} (hx : evalN E t o = some n) : ∃ k, a.eval o = .int k n := by
  unfold evalN at hx
  split at hx
  · rename_i v hv; exact natOf_sound hx (evalO_sound hr ht hv)
  · cases hx

/-! types -/
theorem ty_under (hE : EnvOk P E) {ty : Nat} {ti : TI} (h : E.ty ty = some ti) (w : World) : ∃ d, P.underlying ty = some d ∧ TDOk ti.d d ∧ (underlying ty).run P w = .ok d w := by
  obtain ⟨d, h1, h2⟩ := (hE.ty ty ti h).desc
  exact ⟨d, h1, h2, run_underlying h1 w⟩
theorem ty_info (hE : EnvOk P E) {ty : Nat} {ti : TI} (h : E.ty ty = some ti) (w : World) : ∃ i, (typeInfo ty).run P w = .ok i w ∧ i.size = ti.size ∧ i.bytes = ti.bytes ∧ ∃ z, i.zero = some z ∧ (∀ ρ, VL ρ ti.zero z.cells.toList) := by
  obtain ⟨i, z, h1, h2, h3, h4, h5, _⟩ := (hE.ty ty ti h).info
  exact ⟨i, by simp [typeInfo, h1], h2, h3, z, h4, h5⟩
theorem ty_size (hE : EnvOk P E) {ty : Nat} {ti : TI} (h : E.ty ty = some ti) (w : World) : (sizeOf ty).run P w = .ok ti.size w := by
  obtain ⟨i, h1, h2, _⟩ := ty_info hE h w
  simp [sizeOf, h1, h2]
theorem ty_zero (hE : EnvOk P E) {ty : Nat} {ti : TI} (h : E.ty ty = some ti) (w : World) : ∃ z, (zeroValue ty).run P w = .ok z w ∧ ∀ ρ, VL ρ ti.zero z.cells.toList := by
  obtain ⟨i, h1, _, _, z, h4, h5⟩ := ty_info hE h w
  exact ⟨z, by simp [zeroValue, h1, h4], h5⟩
theorem ty_agg (hE : EnvOk P E) {ty : Nat} {ti : TI} (h : E.ty ty = some ti) (w : World) : (Go.isAgg ty).run P w = .ok (isAgg ti.d) w := by
  obtain ⟨d, _, h2, h3⟩ := ty_under hE h w
  have hno := (hE.ty ty ti h).noOther
  cases hd : ti.d <;> rw [hd] at h2 <;> simp only [TDOk] at h2
  case other => exact absurd hd hno
  case struct => obtain ⟨_, rfl, _⟩ := h2; simp [Go.isAgg, h3, isAgg]
  case func => obtain ⟨_, _, _, rfl⟩ := h2; simp [Go.isAgg, h3, isAgg]
  case interface => obtain ⟨_, rfl⟩ := h2; simp [Go.isAgg, h3, isAgg]
  all_goals (subst h2; simp [Go.isAgg, h3, isAgg])

/-! cells -/
theorem addr_add (b o i : Nat) : (⟨b, o, none⟩ : Addr).add i = ⟨b, o + i, none⟩ := by unfold Addr.add; split <;> simp_all

theorem row_sound (hr : HR E h ρ w) {b : Nat} {c : List AV} {e : Nat} {opn : Bool} {f : Nat} (hb : row? h b = some (c, e, opn, f)) :
    ∃ (l : Loc) (cs : Array Value) (lo hi : Nat), ρ b = some l ∧ w.heap[l.blk]? = some (.cells cs e (lo, hi)) ∧ h.h.get b = some (.row c e opn f) ∧
      (∀ (i : Nat) x, c[i]? = some x → ∃ v, cs[l.sh + i]? = some v ∧ VR ρ x v) ∧
      (∀ i, f ≤ i → l.sh + i < cs.size → ¬ (lo ≤ l.sh + i ∧ l.sh + i < hi)) ∧
      RowEnd E l cs.size c.length e opn f lo hi := by
  unfold row? at hb
  split at hb
  · rename_i c' e' o' f' hg
    cases hb
    obtain ⟨l, ob, h1, h2, cs, lo, hi, h3, h4, h5, h6⟩ := hr.obj b _ hg
    subst h3
    exact ⟨l, cs, lo, hi, h1, h2, hg, h4, h5, h6⟩
  · cases hb

theorem cell_of {cs : Array Value} {e lo hi blk i : Nat} {v : Value} (hb : w.heap[blk]? = some (.cells cs e (lo, hi))) (hv : cs[i]? = some v) : w.cell? ⟨blk, i, none⟩ = some v := by
  simp [World.cell?, hb, hv]

theorem loads (hr : HR E h ρ w) {b o n : Nat} {xs : List AV} {c : List AV} {e : Nat} {opn : Bool} {f : Nat} (hb : row? h b = some (c, e, opn, f)) (hx : takeN c o n = some xs) {l : Loc} (hl : ρ b = some l) :
    ∃ vs : List Value, VL ρ xs vs ∧ (loadCells ⟨l.blk, l.sh + o, none⟩ n).run P w = .ok vs.toArray w ∧ ∀ (j : Nat) v, vs[j]? = some v → w.cell? ⟨l.blk, l.sh + o + j, none⟩ = some v := by
  obtain ⟨rfl, hlen⟩ := takeN_eq hx
  obtain ⟨l', cs, lo, hi, h1, h2, _, h4, _, _⟩ := row_sound hr hb
  rw [hl] at h1; cases h1
  have key : ∀ j, j < n → ∃ x v, ((c.drop o).take n)[j]? = some x ∧ cs[l.sh + o + j]? = some v ∧ VR ρ x v := by
    intro j hj
    have hj' : j < ((c.drop o).take n).length := by omega
    have hx' : ((c.drop o).take n)[j]? = some ((c.drop o).take n)[j] := List.getElem?_eq_getElem hj'
    have hc : c[o + j]? = some ((c.drop o).take n)[j] := by
      rw [List.getElem?_take, if_pos hj, List.getElem?_drop] at hx'
      exact hx'
    obtain ⟨v, hv, hR⟩ := h4 (o + j) _ hc
    exact ⟨_, v, hx', by rw [Nat.add_assoc]; exact hv, hR⟩
  let vs : List Value := (List.range n).map fun j => (cs[l.sh + o + j]?).getD undef
  have hvs : ∀ (j : Nat) v, vs[j]? = some v → j < n ∧ cs[l.sh + o + j]? = some v := by
    intro j v hv
    have hj : j < n := by
      have := (List.getElem?_eq_some_iff.1 hv).1
      simpa [vs] using this
    obtain ⟨x, v', hx', hv', _⟩ := key j hj
    refine ⟨hj, ?_⟩
    simp [vs, hj, hv'] at hv
    rw [← hv]; exact hv'
  have hlen' : vs.length = n := by simp [vs]
  refine ⟨vs, ⟨by omega, ?_⟩, ?_, ?_⟩
  · intro j x v hx' hv
    obtain ⟨hj, hv'⟩ := hvs j v hv
    obtain ⟨x', v'', h1, h2, h3⟩ := key j hj
    rw [hx'] at h1; cases h1
    rw [hv'] at h2; cases h2
    exact h3
  · have := run_loadCells_list (P := P) w ⟨l.blk, l.sh + o, none⟩ vs (fun j v hv => by rw [addr_add]; exact cell_of h2 (hvs j v hv).2)
    rw [hlen'] at this
    exact this
  · intro j v hv; exact cell_of h2 (hvs j v hv).2

theorem loadN_sound (hr : HR E h ρ w) {b o n : Nat} {xs : List AV} (hx : loadN h b o n = some xs) {l : Loc} (hl : ρ b = some l) :
    ∃ vs : List Value, VL ρ xs vs ∧ (loadCells ⟨l.blk, l.sh + o, none⟩ n).run P w = .ok vs.toArray w ∧ ∀ (j : Nat) v, vs[j]? = some v → w.cell? ⟨l.blk, l.sh + o + j, none⟩ = some v := by
  unfold loadN at hx
  split at hx
  · rename_i c r hb
    obtain ⟨e, opn, f⟩ := r
    exact loads hr hb hx hl
  · cases hx

theorem loadV_sound (hE : EnvOk P E) (hr : HR E h ρ w) {ty : Nat} {ti : TI} (hty : E.ty ty = some ti) {b o : Nat} {x : AV} (hx : loadV ti h b o = some x) {l : Loc} (hl : ρ b = some l) :
    ∃ v, VR ρ x v ∧ (loadVar ty ⟨l.blk, l.sh + o, none⟩).run P w = .ok v w := by
  unfold loadV at hx
  split at hx
  · rename_i c r hb
    obtain ⟨e, opn, f⟩ := r
    have hag := ty_agg hE hty w
    split at hx
    · rename_i hi
      split at hx
      · rename_i xs hxs
        cases hx
        obtain ⟨vs, h1, h2, _⟩ := loads (P := P) hr hb hxs hl
        refine ⟨.agg vs.toArray, VR.agg_iff.2 ⟨_, rfl, by simpa using h1⟩, ?_⟩
        simp [loadVar, hag, hi, ty_size hE hty w, h2]
      · cases hx
    · rename_i hi
      obtain ⟨l', cs, lo, hi', h1, h2, _, h4, _, _⟩ := row_sound hr hb
      rw [hl] at h1; cases h1
      rw [getAt_eq] at hx
      obtain ⟨v, hv, hR⟩ := h4 o x hx
      refine ⟨v, hR, ?_⟩
      have := cell_of h2 hv
      simp [loadVar, hag, hi, this]
  · cases hx

theorem partV_sound (hE : EnvOk P E) {ty : Nat} {ti : TI} (hty : E.ty ty = some ti) {c : List AV} {cs : Array Value} (hc : VL ρ c cs.toList) {o : Nat} {x : AV} (hx : partV ti c o = some x) (w : World) :
    ∃ v, VR ρ x v ∧ (part ty cs o).run P w = .ok v w := by
  have hag := ty_agg hE hty w
  unfold partV at hx
  split at hx
  · rename_i hi
    split at hx
    · rename_i xs hxs
      cases hx
      obtain ⟨rfl, hlen⟩ := takeN_eq hxs
      have h1 := (hc.drop o).take ti.size
      refine ⟨.agg (cs.extract o (o + ti.size)), VR.agg_iff.2 ⟨_, rfl, ?_⟩, ?_⟩
      · have e : (cs.extract o (o + ti.size)).toList = (cs.toList.drop o).take ti.size := by
          simp [List.extract_eq_take_drop]
        rw [e]; exact h1
      · simp [part, hag, hi, ty_size hE hty w]
    · cases hx
  · rename_i hi
    rw [getAt_eq] at hx
    obtain ⟨v, hv, hR⟩ := hc.get hx
    refine ⟨v, hR, ?_⟩
    have : cs[o]? = some v := by simpa using hv
    simp [part, hag, hi, this]
end
end Go.Refl
/- Numbers, strings, equality. -/
namespace Go.Refl
open Go

/-! ### Numbers -/
theorem two_eq (k : IntKind) : (two k : Int) = (2 : Int) ^ k.bits := by cases k <;> rfl
theorem two_nat (k : IntKind) : two k = 2 ^ k.bits := by cases k <;> rfl
theorem half_eq (k : IntKind) : (half k : Int) = (2 : Int) ^ (k.bits - 1) := by cases k <;> rfl
theorem modF_eq (k : IntKind) (n : Int) : (modF k n : Int) = n % (2 : Int) ^ k.bits := by
  rw [← two_eq]
  cases n with
  | ofNat a => simp [modF]
  | negSucc a =>
    have e : Int.negSucc a = -(a : Int) - 1 := by omega
    have e2 : modF k (Int.negSucc a) = (two k - 1) - a % two k := rfl
    rw [e2, e]
    cases k <;> simp only [two] <;> omega
theorem wrapF_eq (k : IntKind) (n : Int) : wrapF k n = k.wrap n := by
  have h := modF_eq k n
  unfold wrapF signF IntKind.wrap
  rw [← h, ← half_eq, ← two_eq]
  have hlt : modF k n < two k := by
    have : (modF k n : Int) < (two k : Int) := by
      rw [h, two_eq]; exact Int.emod_lt_of_pos _ (by rw [← two_eq]; cases k <;> decide)
    exact Int.ofNat_lt.1 this
  generalize modF k n = m at *
  cases hs : k.signed with
  | false => simp
  | true =>
    simp only [Bool.true_and]
    cases hb : Nat.blt m (half k) with
    | true =>
      have : m < half k := by simpa [Nat.blt_eq] using hb
      simp only
      rw [if_neg (by simp; omega)]
      rfl
    | false =>
      have : ¬ m < half k := by intro h'; have : Nat.blt m (half k) = true := by simpa [Nat.blt_eq] using h'
                                rw [hb] at this; cases this
      simp only
      rw [if_pos (by simp; omega)]
      omega

theorem intEq_eq (a b : Int) : intEq a b = (a == b) := by
  cases a <;> cases b <;> simp only [intEq]
  · rename_i a b
    rw [Bool.eq_iff_iff]; simp [Nat.beq_eq]; omega
  · rfl
  · rfl
  · rename_i a b
    rw [Bool.eq_iff_iff]; simp [Nat.beq_eq]
theorem intLt_eq (a b : Int) : intLt a b = decide (a < b) := by
  rw [Bool.eq_iff_iff]
  cases a <;> cases b <;> simp only [intLt, Nat.blt_eq, decide_eq_true_eq, Int.ofNat_eq_natCast, true_iff, false_iff, Bool.false_eq_true] <;> omega
theorem kindEq_eq {j k : IntKind} (h : kindEq j k = true) : j = k := by cases j <;> cases k <;> first | rfl | (simp [kindEq] at h)

theorem bits_lit (k : IntKind) (x : Int) : (BitVec.ofInt k.bits x).toNat = modF k x := by
  have h := modF_eq k x
  rw [BitVec.toNat_ofInt]
  have e : ((2 ^ k.bits : Nat) : Int) = (2 : Int) ^ k.bits := by norm_cast
  rw [e, ← h]
  simp

section
variable {P : Program} {w : World} {ρ : Rho}

theorem binInt_sound {op : BinOp} {k : IntKind} {x y : Int} {r : AV} (h : binInt op k x y = some r) (hs : isShift op = false) (t : TypeId) :
    ∃ v, VR ρ r v ∧ (Go.binOp op t (.int k x) (.int k y)).run P w = .ok v w := by
  cases op <;> simp only [binInt] at h <;> (try (simp [isShift] at hs; done))
  case add => cases h; exact ⟨_, .int _ _, by simp [Go.binOp, Op.intArith, wrapF_eq]⟩
  case sub => cases h; exact ⟨_, .int _ _, by simp [Go.binOp, Op.intArith, wrapF_eq]⟩
  case mul => cases h; exact ⟨_, .int _ _, by simp [Go.binOp, Op.intArith, wrapF_eq]⟩
  case quo =>
    split at h
    · rename_i a b
      cases h
      refine ⟨_, .int _ _, ?_⟩
      have h0 : ¬ ((Int.ofNat (b + 1)) = 0) := by simp only [Int.ofNat_eq_natCast]; omega
      have e : (Int.ofNat a).tdiv (Int.ofNat (b + 1)) = Int.ofNat (a / (b + 1)) := rfl
      simp only [Go.binOp, Op.intDiv, ne_eq, not_true_eq_false, if_false, h0, wrapF_eq, e]
      rfl
    · cases h
  case rem =>
    split at h
    · rename_i a b
      cases h
      refine ⟨_, .int _ _, ?_⟩
      have h0 : ¬ ((Int.ofNat (b + 1)) = 0) := by simp only [Int.ofNat_eq_natCast]; omega
      have e : (Int.ofNat a).tmod (Int.ofNat (b + 1)) = Int.ofNat (a % (b + 1)) := rfl
      simp only [Go.binOp, Op.intDiv, ne_eq, not_true_eq_false, if_false, h0, e]
      rfl
    · cases h
  case eql => cases h; exact ⟨_, .bool _, by simp [Go.binOp, Op.intCmp, intEq_eq]⟩
  case neq => cases h; exact ⟨_, .bool _, by simp [Go.binOp, Op.intCmp, intEq_eq, bne]⟩
  case lss => cases h; exact ⟨_, .bool _, by simp [Go.binOp, Op.intCmp, intLt_eq]⟩
  case leq => cases h; exact ⟨_, .bool _, by simp only [Go.binOp, Op.intCmp, intLt_eq, ne_eq, not_true_eq_false, if_false, Sem.run_pure]; congr 2; rw [Bool.eq_iff_iff]; simp⟩
  case gtr => cases h; exact ⟨_, .bool _, by simp [Go.binOp, Op.intCmp, intLt_eq]⟩
  case geq => cases h; exact ⟨_, .bool _, by simp only [Go.binOp, Op.intCmp, intLt_eq, ne_eq, not_true_eq_false, if_false, Sem.run_pure]; congr 2; rw [Bool.eq_iff_iff]; simp⟩
  case and =>
    cases h
    refine ⟨_, .int _ _, ?_⟩
    simp only [Go.binOp, Op.intBits, ne_eq, not_true_eq_false, if_false, Sem.run_pure, BitVec.toNat_and, bits_lit, wrapF_eq]
    rfl
  case or =>
    cases h
    refine ⟨_, .int _ _, ?_⟩
    simp only [Go.binOp, Op.intBits, ne_eq, not_true_eq_false, if_false, Sem.run_pure, BitVec.toNat_or, bits_lit, wrapF_eq]
    rfl
  case xor =>
    cases h
    refine ⟨_, .int _ _, ?_⟩
    simp only [Go.binOp, Op.intBits, ne_eq, not_true_eq_false, if_false, Sem.run_pure, BitVec.toNat_xor, bits_lit, wrapF_eq]
    rfl
  all_goals cases h

theorem binShift_sound {op : BinOp} {k j : IntKind} {x y : Int} {r : AV} (h : binShift op k x y = some r) (t : TypeId) :
    ∃ v, VR ρ r v ∧ (Go.binOp op t (.int k x) (.int j y)).run P w = .ok v w := by
  unfold binShift at h
  split at h
  · rename_i a b
    have h0 : ¬ (Int.ofNat b < 0) := by simp only [Int.ofNat_eq_natCast]; omega
    split at h
    · cases h
      refine ⟨_, .int _ _, ?_⟩
      simp only [Go.binOp, Op.shift, h0, if_false, Sem.run_pure, wrapF_eq]
      congr 3
    · cases h
      refine ⟨_, .int _ _, ?_⟩
      simp only [Go.binOp, Op.shift, h0, if_false, Sem.run_pure]
      congr 2
      have e : (Int.ofNat a).fdiv (2 ^ min (Int.ofNat b).toNat k.bits) = Int.ofNat (a / 2 ^ min b k.bits) := by
        have : (2 : Int) ^ min (Int.ofNat b).toNat k.bits = ((2 ^ min b k.bits : Nat) : Int) := by simp
        rw [this]
        rw [Int.fdiv_eq_ediv_of_nonneg _ (Int.natCast_nonneg _)]
        simp
      rw [e]
    · cases h
  · cases h
end

/-! ### Strings -/
theorem listEq_iff : ∀ {a b : List Nat}, listEq a b = true ↔ a = b
  | [], [] => by simp [listEq]
  | [], b :: bs => by simp [listEq]
  | a :: as, [] => by simp [listEq]
  | a :: as, b :: bs => by
    simp only [listEq]
    cases h : Nat.beq a b with
    | true => have := Nat.eq_of_beq_eq_true h; subst this; simp [listEq_iff]
    | false => have := Nat.ne_of_beq_eq_false h; simp [this]
theorem toNat_inj {a b : List UInt8} (h : a.map UInt8.toNat = b.map UInt8.toNat) : a = b := by
  induction a generalizing b with
  | nil => cases b with
    | nil => rfl
    | cons => simp at h
  | cons x xs ih => cases b with
    | nil => simp at h
    | cons y ys =>
      simp only [List.map_cons, List.cons.injEq] at h
      rw [ih h.2, UInt8.toNat_inj.1 h.1]
theorem listEq_str (a b : ByteArray) : listEq (a.data.toList.map UInt8.toNat) (b.data.toList.map UInt8.toNat) = (a.data.toList == b.data.toList) := by
  rw [Bool.eq_iff_iff, listEq_iff, beq_iff_eq]
  exact ⟨toNat_inj, fun h => by rw [h]⟩
theorem bless_eq : ∀ (a b : List UInt8), bless (a.map UInt8.toNat) (b.map UInt8.toNat) = Op.bytesLess a b
  | a, [] => by cases a <;> simp [bless, Op.bytesLess]
  | [], b :: bs => by simp [bless, Op.bytesLess]
  | a :: as, b :: bs => by
    simp only [List.map_cons, bless, Op.bytesLess]
    cases h : Nat.blt a.toNat b.toNat with
    | true =>
      have : a < b := by rw [UInt8.lt_iff_toNat_lt]; simpa [Nat.blt_eq] using h
      simp [this]
    | false =>
      have h1 : ¬ a < b := by
        rw [UInt8.lt_iff_toNat_lt]; intro h'
        have : Nat.blt a.toNat b.toNat = true := by simpa [Nat.blt_eq] using h'
        rw [h] at this; cases this
      simp only
      cases h2 : Nat.beq a.toNat b.toNat with
      | true =>
        have := UInt8.toNat_inj.1 (Nat.eq_of_beq_eq_true h2)
        subst this
        simp [bless_eq as bs]
      | false =>
        have h3 : a ≠ b := by intro e; subst e; exact Nat.ne_of_beq_eq_false h2 rfl
        simp [h1, h3]
end Go.Refl
/- Equality at a type; keys. -/
namespace Go.Refl
open Go

section
variable {P : Program} {E : Env} {ρ : Rho}

theorem eqF_sound (hE : EnvOk P E) {eq : Nat → AV → AV → Option Bool} {d : Nat}
    (heq : ∀ t x y b x' y' (w : World), eq t x y = some b → VR ρ x x' → VR ρ y y' → (Op.equalIn d t x' y').run P w = .ok b w) (w : World) :
    ∀ {fs : List Field} {a b : List AV} {xs ys : Array Value} {r : Bool}, (∀ f ∈ fs, f.name ≠ "_") → eqF E.ty eq (fs.map fun f => (f.offset, f.type)) a b = some r → VL ρ a xs.toList → VL ρ b ys.toList →
    (Op.eqFields d xs ys fs).run P w = .ok r w
  | [], a, b, xs, ys, r, _, h, _, _ => by simp [eqF] at h; subst h; simp [Op.eqFields]
  | f :: fs, a, b, xs, ys, r, hn, h, ha, hb => by
    simp only [List.map_cons, eqF] at h
    have hf := hn f (by simp)
    split at h
    · cases h
    · rename_i ti hti
      split at h
      · rename_i x y hx hy
        obtain ⟨v, hv, rv⟩ := partV_sound hE hti ha hx w
        obtain ⟨u, hu, ru⟩ := partV_sound hE hti hb hy w
        simp only [Op.eqFields, ne_eq, hf, not_false_eq_true, if_true, Sem.run_bind, rv, ru, Result.andThen_ok]
        split at h
        · rename_i he
          simp only [heq _ _ _ _ _ _ w he hv hu, Result.andThen_ok]
          simpa using eqF_sound hE heq w (fun g hg => hn g (by simp [hg])) h ha hb
        · rename_i r' hr'
          rw [heq _ _ _ _ _ _ w h hv hu]
          have : r = false := by
            cases r with
            | false => rfl
            | true => exact absurd h hr'
          subst this
          simp
      · cases h

theorem eqA_sound (hE : EnvOk P E) {e : Nat} {te : TI} (hte : E.ty e = some te) {eq : AV → AV → Option Bool} {d : Nat}
    (heq : ∀ x y b x' y' (w : World), eq x y = some b → VR ρ x x' → VR ρ y y' → (Op.equalIn d e x' y').run P w = .ok b w) (w : World) {sz : Nat} (hsz : sz = te.size) :
    ∀ {n i : Nat} {a b : List AV} {xs ys : Array Value} {r : Bool}, eqA eq te n (i * te.size) a b = some r → VL ρ a xs.toList → VL ρ b ys.toList →
    (Op.eqItems d e sz xs ys (List.range' i n)).run P w = .ok r w
  | 0, i, a, b, xs, ys, r, h, _, _ => by simp [eqA] at h; subst h; simp [Op.eqItems]
  | n + 1, i, a, b, xs, ys, r, h, ha, hb => by
    simp only [eqA] at h
    split at h
    · rename_i x y hx hy
      obtain ⟨v, hv, rv⟩ := partV_sound hE hte ha hx w
      obtain ⟨u, hu, ru⟩ := partV_sound hE hte hb hy w
      subst hsz
      simp only [List.range'_succ, Op.eqItems, Sem.run_bind, rv, ru, Result.andThen_ok]
      split at h
      · rename_i he
        simp only [heq _ _ _ _ _ w he hv hu, Result.andThen_ok]
        have h' : eqA eq te n ((i + 1) * te.size) a b = some r := by rw [Nat.add_mul, Nat.one_mul]; exact h
        simpa using eqA_sound hE hte heq w rfl h' ha hb
      · rename_i r' hr'
        rw [heq _ _ _ _ _ w h hv hu]
        have : r = false := by
          cases r with
          | false => rfl
          | true => exact absurd h hr'
        subst this
        simp
    · cases h

set_option maxHeartbeats 2000000 in
theorem eqT_sound (hE : EnvOk P E) : ∀ (d D : Nat) (t : Nat) (x y : AV) (b : Bool) (x' y' : Value) (w : World), d ≤ D → eqT E.ty d t x y = some b → VR ρ x x' → VR ρ y y' →
    (Op.equalIn D t x' y').run P w = .ok b w := by
  intro d
  induction d with
  | zero => intro D t x y b x' y' w _ h; simp [eqT] at h
  | succ d ih =>
    intro D t x y b x' y' w hD h hx hy
    obtain ⟨D, rfl⟩ : ∃ m, D = m + 1 := ⟨D - 1, by omega⟩
    simp only [eqT] at h
    split at h
    · cases h
    · rename_i ti hti
      obtain ⟨ds, hu, hds, hrun⟩ := ty_under hE hti w
      unfold eqD at h
      split at h
      all_goals (try (cases h; done))
      all_goals (rename_i hd; rw [hd] at hds; simp only [TDOk] at hds)
      · -- int
        split at h
        · rename_i hk
          have := kindEq_eq hk; subst this
          cases h; cases hx; cases hy; subst hds
          simp [Op.equalIn, hrun, intEq_eq]
        · cases h
      · cases h; cases hx; cases hy; subst hds; simp [Op.equalIn, hrun]
      · cases h; cases hx; cases hy; subst hds
        rename_i a ha c hc
        simp only [Op.equalIn, Sem.run_bind, hrun, Result.andThen_ok, Sem.run_pure]
        rw [← ha, ← hc, listEq_str, beq_toListBytes, ByteArray.toList_eq, ByteArray.toList_eq]
      all_goals try (cases h; cases hx <;> cases hy <;> (first | subst hds | (obtain ⟨_, rfl⟩ := hds) | (obtain ⟨_, _, _, rfl⟩ := hds)) <;> simp [Op.equalIn, hrun]; done)
      · split at h
        · rename_i hp
          obtain ⟨hp1, hp2, hp3⟩ := (hE.ty t ti hti).plain hp
          obtain ⟨f, rfl, rfl⟩ := hds
          obtain ⟨xs, rfl, hxs⟩ := VR.agg_iff.1 hx
          obtain ⟨ys, rfl, hys⟩ := VR.agg_iff.1 hy
          have hfo : P.fieldsOf t = f := by simp [Program.fieldsOf, hu]
          rw [run_equalIn_struct w D t xs ys (by rw [hfo]; exact hu) hp1, hfo]
          exact eqF_sound hE (fun t x y b x' y' w h hx hy => ih D t x y b x' y' w (by omega) h hx hy) w (fun g hg => hp3 f hu g (by simpa using hg)) h hxs hys
        · cases h
      · split at h
        · split at h
          · rename_i te hte
            subst hds
            obtain ⟨xs, rfl, hxs⟩ := VR.agg_iff.1 hx
            obtain ⟨ys, rfl, hys⟩ := VR.agg_iff.1 hy
            obtain ⟨i, z, hi, hsz, _⟩ := (hE.ty _ te hte).info
            rw [run_equalIn_array w D xs ys hu hi, List.range_eq_range']
            refine eqA_sound hE hte (fun x y b x' y' w h hx hy => ih D _ x y b x' y' w (by omega) h hx hy) w (by simp [Program.cellsOf, hi, hsz]) (i := 0) (by simpa using h) hxs hys
          · cases h
        · cases h

/-! keys -/
theorem chkF_sound (hE : EnvOk P E) {chk : Nat → AV → Bool} {em : Bool} {d : Nat}
    (hchk : ∀ t x x' (w : World), chk t x = true → VR ρ x x' → (Instr.checkKey em d t x').run P w = .ok () w) (w : World) :
    ∀ {fs : List Field} {a : List AV} {xs : Array Value}, (∀ f ∈ fs, f.name ≠ "_") → chkF E.ty chk (fs.map fun f => (f.offset, f.type)) a = true → VL ρ a xs.toList →
    (forIn fs PUnit.unit (fun f _ => do if f.name ≠ "_" then do { let v ← part f.type xs f.offset; Instr.checkKey em d f.type v; pure (ForInStep.yield PUnit.unit) } else pure (ForInStep.yield PUnit.unit)) : Sem PUnit).run P w = .ok PUnit.unit w
  | [], a, xs, _, _, _ => by simp
  | f :: fs, a, xs, hn, h, ha => by
    simp only [List.map_cons, chkF] at h
    have hf := hn f (by simp)
    split at h
    · cases h
    · rename_i ti hti
      split at h
      · rename_i x hx
        obtain ⟨v, hv, rv⟩ := partV_sound hE hti ha hx w
        split at h
        · rename_i hc
          have ih := chkF_sound hE hchk w (fun g hg => hn g (by simp [hg])) h ha
          simp only [List.forIn_cons, ne_eq, hf, not_false_eq_true, if_true, Sem.run_bind, rv, Result.andThen_ok, hchk _ _ _ w hc hv, Sem.run_pure]
          exact ih
        · cases h
      · cases h

theorem chkA_sound (hE : EnvOk P E) {e : Nat} {te : TI} (hte : E.ty e = some te) {chk : AV → Bool} {em : Bool} {d : Nat}
    (hchk : ∀ x x' (w : World), chk x = true → VR ρ x x' → (Instr.checkKey em d e x').run P w = .ok () w) (w : World) :
    ∀ {n i : Nat} {a : List AV} {xs : Array Value}, chkA chk te n (i * te.size) a = true → VL ρ a xs.toList →
    (forIn (List.range' i n) PUnit.unit (fun i _ => do { let s ← sizeOf e; let v ← part e xs (i * s); Instr.checkKey em d e v; pure (ForInStep.yield PUnit.unit) }) : Sem PUnit).run P w = .ok PUnit.unit w
  | 0, i, a, xs, _, _ => by simp
  | n + 1, i, a, xs, h, ha => by
    simp only [chkA] at h
    split at h
    · rename_i x hx
      obtain ⟨v, hv, rv⟩ := partV_sound hE hte ha hx w
      split at h
      · rename_i hc
        have h' : chkA chk te n ((i + 1) * te.size) a = true := by rw [Nat.add_mul, Nat.one_mul]; exact h
        have ih := chkA_sound hE hte hchk w h' ha
        simp only [List.range'_succ, List.forIn_cons, Sem.run_bind, ty_size hE hte w, rv, Result.andThen_ok, hchk _ _ w hc hv, Sem.run_pure]
        exact ih
      · cases h
    · cases h

set_option maxHeartbeats 2000000 in
theorem chkT_sound (hE : EnvOk P E) (em : Bool) : ∀ (d D : Nat) (t : Nat) (x : AV) (x' : Value) (w : World), d ≤ D → chkT E.ty d t x = true → VR ρ x x' →
    (Instr.checkKey em D t x').run P w = .ok () w := by
  intro d
  induction d with
  | zero => intro D t x x' w _ h; simp [chkT] at h
  | succ d ih =>
    intro D t x x' w hD h hx
    obtain ⟨D, rfl⟩ : ∃ m, D = m + 1 := ⟨D - 1, by omega⟩
    simp only [chkT] at h
    split at h
    · cases h
    · rename_i ti hti
      obtain ⟨ds, hu, hds, hrun⟩ := ty_under hE hti w
      unfold chkD at h
      split at h
      all_goals (try (cases h; done))
      all_goals (rename_i hd; rw [hd] at hds; simp only [TDOk] at hds)
      · subst hds; simp [Instr.checkKey, hrun]
      · subst hds; simp [Instr.checkKey, hrun]
      · subst hds; simp [Instr.checkKey, hrun]
      · split at h
        · rename_i hp
          obtain ⟨hp1, hp2, hp3⟩ := (hE.ty t ti hti).plain hp
          obtain ⟨f, rfl, rfl⟩ := hds
          obtain ⟨xs, rfl, hxs⟩ := VR.agg_iff.1 hx
          have := chkF_sound hE (em := em) (fun t x x' w h hx => ih D t x x' w (by omega) h hx) w (fun g hg => hp3 f hu g (by simpa using hg)) h hxs
          simp only [Instr.checkKey, Sem.run_bind, hrun, Result.andThen_ok]
          rw [← Array.forIn_toList, this]
          rfl
        · cases h
      · split at h
        · rename_i te hte
          subst hds
          obtain ⟨xs, rfl, hxs⟩ := VR.agg_iff.1 hx
          have := chkA_sound hE hte (em := em) (fun x x' w h hx => ih D _ x x' w (by omega) h hx) w (i := 0) (by simpa using h) hxs
          simp only [Instr.checkKey, Sem.run_bind, hrun, Result.andThen_ok]
          simp only [Std.Legacy.Range.forIn_eq_forIn_range', Std.Legacy.Range.size, Nat.sub_zero, Nat.add_one_sub_one, Nat.div_one]
          rw [this]
          rfl
        · cases h
end
end Go.Refl
/- Quiet operations. -/
namespace Go.Refl
open Go

section
variable {P : Program} {E : Env} {h : Hp} {ρ : Rho} {w : World} {t : Tr AV} {a : Act}

theorem partsL_sound (hr : HR E h ρ w) (ht : TR ρ t a.tmps) : ∀ {ps : List (Nat × Operand)} {vs : List (Nat × AV)}, partsL E t ps = some vs →
    vs.length = ps.length ∧ ∀ (i : Nat) (x : Nat × AV) p, vs[i]? = some x → ps[i]? = some p → x.1 = p.1 ∧ VR ρ x.2 (a.eval p.2)
  | [], vs, h => by simp [partsL] at h; subst h; simp
  | (j, o) :: ps, vs, h => by
    simp only [partsL] at h
    split at h
    · cases h
    · rename_i v hv
      split at h
      · cases h
      · rename_i us hus
        cases h
        obtain ⟨h1, h2⟩ := partsL_sound hr ht hus
        refine ⟨by simp [h1], fun i x p hx hp => ?_⟩
        cases i with
        | zero => simp at hx hp; subst hx; subst hp; exact ⟨rfl, evalO_sound hr ht hv⟩
        | succ i => simp at hx hp; exact h2 i x p hx hp

theorem splice_get (c : List AV) (o : Nat) (vs : List AV) (h : o + vs.length ≤ c.length) (i : Nat) :
    (splice c o vs)[i]? = if o ≤ i ∧ i < o + vs.length then vs[i - o]? else c[i]? := by
  unfold splice
  by_cases h1 : i < o
  · rw [if_neg (by omega), List.append_assoc, List.getElem?_append_left (by simp; omega), List.getElem?_take, if_pos h1]
  · by_cases h2 : i < o + vs.length
    · rw [if_pos ⟨by omega, h2⟩, List.append_assoc, List.getElem?_append_right (by simp; omega)]
      have : (c.take o).length = o := by simp; omega
      rw [this, List.getElem?_append_left (by omega)]
    · rw [if_neg (by omega), List.getElem?_append_right (by simp; omega)]
      have : (c.take o ++ vs).length = o + vs.length := by simp; omega
      rw [this, List.getElem?_drop]
      congr 1; omega
theorem splice_len (c : List AV) (o : Nat) (vs : List AV) (h : o + vs.length ≤ c.length) : (splice c o vs).length = c.length := by
  unfold splice; simp; omega

/-- The model's own way to lay a part. -/
theorem fold_get (vs : List Value) (off : Nat) : ∀ (k : Nat) (cs : Array Value) (i : Nat), off + k + vs.length ≤ cs.size →
    ((vs.zipIdx k).foldl (fun cs (c, j) => cs.setIfInBounds (off + j) c) cs).size = cs.size ∧
    ((vs.zipIdx k).foldl (fun cs (c, j) => cs.setIfInBounds (off + j) c) cs)[i]? = if off + k ≤ i ∧ i < off + k + vs.length then vs[i - (off + k)]? else cs[i]? := by
  induction vs with
  | nil => intro k cs i h; simp; omega
  | cons v vs ih =>
    intro k cs i h
    simp only [List.length_cons] at h
    simp only [List.zipIdx_cons, List.foldl_cons]
    obtain ⟨h1, h2⟩ := ih (k + 1) (cs.setIfInBounds (off + k) v) i (by simp; omega)
    refine ⟨by rw [h1]; simp, ?_⟩
    rw [h2]
    by_cases e : i = off + k
    · subst e
      have hs : off + k < cs.size := by omega
      rw [if_neg (by omega), if_pos (by simp only [List.length_cons]; omega)]
      simp [hs]
    · rw [Array.getElem?_setIfInBounds_ne (Ne.symm e)]
      by_cases hc : off + (k + 1) ≤ i ∧ i < off + (k + 1) + vs.length
      · rw [if_pos hc, if_pos (by simp; omega)]
        rw [show i - (off + k) = (i - (off + (k + 1))) + 1 by omega]
        simp
      · rw [if_neg hc, if_neg (by simp; omega)]

theorem zipIdx_toList (a : Array Value) : a.zipIdx.toList = a.toList.zipIdx := by simp

/-- Laying parts: the abstract list and the model's array. -/
theorem fill_sound {place : Nat → Option (Nat × Nat)} : ∀ {vs : List (Nat × AV)} {us : List (Nat × Value)} {cells : List AV} {cs : Array Value} {r : List AV},
    fillL place cells vs = some r → VL ρ cells cs.toList → (us.length = vs.length ∧ ∀ (i : Nat) x p, vs[i]? = some x → us[i]? = some p → x.1 = p.1 ∧ VR ρ x.2 p.2) →
    ∃ cs', Instr.fill place cs us = some cs' ∧ VL ρ r cs'.toList
  | [], us, cells, cs, r, h, hc, hu => by
    have : us = [] := List.length_eq_zero_iff.1 (by simpa using hu.1)
    subst this
    simp [fillL] at h; subst h
    exact ⟨cs, rfl, hc⟩
  | (i, v) :: vs, us, cells, cs, r, h, hc, hu => by
    cases us with
    | nil => have := hu.1; simp at this
    | cons p us =>
      obtain ⟨j, v'⟩ := p
      obtain ⟨hij, hv⟩ := hu.2 0 (i, v) (j, v') (by simp) (by simp)
      simp only at hij hv
      subst hij
      simp only [fillL] at h
      split at h
      · cases h
      · rename_i off size hp
        split at h
        · cases h
        · rename_i hsz
          have hsz := Nat.eq_of_beq_eq_true hsz
          split at h
          · cases h
          · rename_i hle
            have hle := Nat.le_of_ble_eq_true hle
            have hvc := hv.cells
            have hvs : v'.cells.size = size := by have := hvc.1; simp at this; omega
            have hcs : cells.length = cs.size := by simpa using hc.1
            obtain ⟨hz1, hz2⟩ : _ ∧ _ := ⟨fun i => (fold_get v'.cells.toList off 0 cs i (by simp; omega)).1, fun i => (fold_get v'.cells.toList off 0 cs i (by simp; omega)).2⟩
            have hfold : v'.cells.zipIdx.foldl (fun cs (c, j) => cs.setIfInBounds (off + j) c) cs = (v'.cells.toList.zipIdx 0).foldl (fun cs (c, j) => cs.setIfInBounds (off + j) c) cs := by
              rw [← Array.foldl_toList]; simp
            have hnew : VL ρ (splice cells off (cellsOf v)) (v'.cells.zipIdx.foldl (fun cs (c, j) => cs.setIfInBounds (off + j) c) cs).toList := by
              rw [hfold]
              refine ⟨by rw [splice_len _ _ _ (by omega)]; simpa [hz1 0] using hcs, fun k x y hx hy => ?_⟩
              rw [splice_get _ _ _ (by omega)] at hx
              have hy' : ((v'.cells.toList.zipIdx 0).foldl (fun cs (c, j) => cs.setIfInBounds (off + j) c) cs)[k]? = some y := by simpa using hy
              rw [hz2] at hy'
              simp only [Nat.add_zero, Array.length_toList] at hy'
              split at hx
              · rename_i hk
                rw [if_pos (by omega)] at hy'
                exact hvc.2 _ x y hx hy'
              · rename_i hk
                rw [if_neg (by omega)] at hy'
                exact hc.2 _ x y hx (by simpa using hy')
            obtain ⟨cs', h1, h2⟩ := fill_sound (us := us) h hnew ⟨by have := hu.1; simpa using this, fun k x p hx hp => hu.2 (k + 1) x p (by simpa using hx) (by simpa using hp)⟩
            refine ⟨cs', ?_, h2⟩
            have hnot : ¬ (v'.cells.size ≠ size ∨ off + v'.cells.size > cs.size) := by omega
            have hb : (decide (v'.cells.size ≠ size) || decide (off + v'.cells.size > cs.size)) = false := by
              simp; omega
            simp only [Instr.fill, hp]
            rw [if_neg (by simpa using hnot)]
            exact h1
end
end Go.Refl
/- Quiet operations, one by one. -/
namespace Go.Refl
open Go

section
variable {P : Program} {E : Env} {h : Hp} {ρ : Rho} {w : World} {t : Tr AV} {a : Act}

/-- What a quiet operation comes to. -/
def Gives (P : Program) (ρ : Rho) (w : World) (s : Sem Next) (x : AV) : Prop := ∃ v, VR ρ x v ∧ s.run P w = .ok (.value v) w

theorem asIntOf_run {P : Program} {w : World} (k : IntKind) (n : Int) : (asIntOf (.int k n)).run P w = .ok (k, n) w := rfl

theorem bound_sound (hr : HR E h ρ w) (ht : TR ρ t a.tmps) {d n y : Nat} {o : Option Operand} {code : BoundsCode} (hb : bnd E t d o = some n) (hn : n ≤ y) :
    (match o.map a.eval with
      | some v => Instr.sliceBound v y code
      | none => pure d : Sem Nat).run P w = .ok n w := by
  cases o with
  | none => simp [bnd] at hb; subst hb; rfl
  | some o =>
    obtain ⟨k, hk⟩ := evalN_sound hr ht hb
    simp only [Option.map_some, hk, Instr.sliceBound, Sem.run_bind, asIntOf_run, Result.andThen_ok]
    rw [if_pos ⟨by omega, by omega⟩]
    simp

theorem bounds_sound (hr : HR E h ρ w) (ht : TR ρ t a.tmps) {isSlice : Bool} {len cap l hh : Nat} {lo hi : Option Operand} (h1 : bnd E t len hi = some hh) (h2 : bnd E t 0 lo = some l) (hl : l ≤ hh) (hc : hh ≤ cap) :
    (Instr.sliceBounds isSlice len cap (lo.map a.eval) (hi.map a.eval) none).run P w = .ok (l, hh, cap) w := by
  have e1 := bound_sound (P := P) (code := if isSlice then BoundsCode.sliceAcap else BoundsCode.sliceAlen) hr ht h1 hc
  have e2 := bound_sound (P := P) (code := BoundsCode.sliceB) hr ht h2 hl
  unfold Instr.sliceBounds
  cases hi with
  | none =>
    simp only [Option.map_none] at e1
    cases lo with
    | none => simp only [Option.map_none] at e2 ⊢; simp at e1 e2 ⊢; omega
    | some o =>
      simp only [Option.map_some] at e2
      simp at e1
      subst e1
      simp [e2]
  | some oh =>
    simp only [Option.map_some] at e1
    cases lo with
    | none => simp only [Option.map_none] at e2 ⊢; simp at e2; subst e2; simp [e1]
    | some o =>
      simp only [Option.map_some] at e2
      simp [e1, e2]

theorem bytes_extract (s : ByteArray) (l n : Nat) : ((s.extract l n).data.toList.map UInt8.toNat) = ((s.data.toList.map UInt8.toNat).take n).drop l := by
  rw [← List.map_take, ← List.map_drop]
  congr 1
  rw [ByteArray.data_extract]
  rw [Array.toList_extract, List.extract_eq_take_drop]
  rw [List.drop_take]

theorem qSlice_sound (hE : EnvOk P E) (hr : HR E h ρ w) (ht : TR ρ t a.tmps) {ty : Nat} {ti : TI} (hty : E.ty ty = some ti) {x r : AV} {v : Value} {lo hi : Option Operand}
    (hx : VR ρ x v) (hq : qSlice E t ti x lo hi = some r) : ∃ u, VR ρ r u ∧ (Instr.sliceAt ty v (lo.map a.eval) (hi.map a.eval) none).run P w = .ok u w := by
  obtain ⟨d, hu, hd, hrun⟩ := ty_under hE hty w
  unfold qSlice at hq
  split at hq
  · -- a string
    rename_i s hdd
    rw [hdd] at hd; simp only [TDOk] at hd; subst hd
    split at hq
    · cases hq
    · rename_i hh h1
      split at hq
      · cases hq
      · rename_i l h2
        split at hq
        · cases hq
        · rename_i hle
          split at hq
          · cases hq
          · rename_i hle2
            cases hq
            cases hx with
            | str _ b hb =>
              have hle := Nat.le_of_ble_eq_true hle
              have hle2 := Nat.le_of_ble_eq_true hle2
              have hsz : s.length = b.size := by rw [← hb, List.length_map, Array.length_toList]; rfl
              rw [hsz] at h1 hle2
              refine ⟨.string (b.extract l hh), .str _ _ (by rw [bytes_extract b l hh, hb]), ?_⟩
              have hbd := bounds_sound (P := P) (isSlice := false) hr ht h1 h2 hle hle2
              simp only [Instr.sliceAt, Instr.slice, Sem.run_bind, hrun, Result.andThen_ok, Option.isSome_none, Bool.false_eq_true, if_false, hbd, Sem.run_pure]
  · -- a nil slice
    rename_i e hdd
    rw [hdd] at hd; simp only [TDOk] at hd; subst hd
    split at hq
    · cases hq
    · rename_i te hte
      split at hq
      · rename_i h1
        split at hq
        · rename_i h2
          cases hq
          cases hx
          refine ⟨_, .nils, ?_⟩
          have hbd := bounds_sound (P := P) (isSlice := true) hr ht h1 h2 (Nat.le_refl 0) (Nat.le_refl 0)
          simp only [Instr.sliceAt, Instr.slice, Sem.run_bind, hrun, Result.andThen_ok, hbd, ty_size hE hte w, Sem.run_pure]
          rfl
        · cases hq
      · cases hq
  · -- a slice
    rename_i e b off len cap hdd
    rw [hdd] at hd; simp only [TDOk] at hd; subst hd
    split at hq
    · cases hq
    · rename_i te hte
      split at hq
      · cases hq
      · rename_i hh h1
        split at hq
        · cases hq
        · rename_i l h2
          split at hq
          · cases hq
          · rename_i hle
            have hle := Nat.le_of_ble_eq_true hle
            split at hq
            · -- a known capacity
              rename_i m
              split at hq
              · cases hq
              · rename_i hm
                have hm := Nat.le_of_ble_eq_true hm
                cases hx with
                | slx _ _ _ _ lc hlc hlen =>
                have hbd := bounds_sound (P := P) (isSlice := true) hr ht h1 h2 hle hm
                simp only [Instr.sliceAt, Instr.slice, Sem.run_bind, hrun, Result.andThen_ok, hbd, ty_size hE hte w, Sem.run_pure]
                cases hq
                cases hbe : Nat.beq l m with
                | true =>
                  have := Nat.eq_of_beq_eq_true hbe; subst this
                  exact ⟨_, .slx _ _ _ _ _ hlc (by omega), by simp⟩
                | false =>
                  have hne := Nat.ne_of_beq_eq_false hbe
                  refine ⟨_, .slx _ _ _ _ _ hlc (by omega), ?_⟩
                  rw [if_neg (fun e => hne e.symm)]
                  simp [addr_add, Nat.add_assoc]
            · -- an open one
              rename_i s
              split at hq
              · cases hq
              · rename_i hm
                have hm := Nat.le_of_ble_eq_true hm
                cases hx with
                | slo _ _ _ _ c lc hlc hcap hlen =>
                have hbd := bounds_sound (P := P) (isSlice := true) hr ht h1 h2 hle (Nat.le_trans hm hlen)
                simp only [Instr.sliceAt, Instr.slice, Sem.run_bind, hrun, Result.andThen_ok, hbd, ty_size hE hte w, Sem.run_pure]
                split at hq
                · rename_i hlt
                  have hlt : l < len := by simpa [Nat.blt_eq] using hlt
                  cases hq
                  refine ⟨_, .slo _ _ _ _ (c - l) _ hlc (by omega) (by omega), ?_⟩
                  rw [if_neg (by omega)]
                  simp [addr_add, Nat.add_assoc]
                · rename_i hlt
                  have hlt : ¬ l < len := by
                    intro h'
                    have : Nat.blt l len = true := by simpa [Nat.blt_eq] using h'
                    rw [hlt] at this; cases this
                  cases l with
                  | zero =>
                    cases hq
                    refine ⟨_, .slo _ _ _ _ c _ hlc hcap (by omega), ?_⟩
                    simp [addr_add]
                  | succ m' =>
                    cases hq
                    have h0 : hh - (m' + 1) = 0 := by omega
                    by_cases e : c = m' + 1
                    · rw [if_pos e, h0]; exact ⟨_, .emp _ _, rfl⟩
                    · rw [if_neg e, h0]; exact ⟨_, .emp _ _, rfl⟩
  · -- an array behind a pointer
    rename_i n e b off hdd
    rw [hdd] at hd; simp only [TDOk] at hd; subst hd
    split at hq
    · cases hq
    · rename_i te hte
      split at hq
      · cases hq
      · rename_i hh h1
        split at hq
        · cases hq
        · rename_i l h2
          split at hq
          · cases hq
          · rename_i hle
            have hle := Nat.le_of_ble_eq_true hle
            split at hq
            · cases hq
            · rename_i hm
              have hm := Nat.le_of_ble_eq_true hm
              cases hx with
              | ptr _ _ lc hlc =>
              have hbd := bounds_sound (P := P) (isSlice := false) hr ht h1 h2 hle hm
              simp only [Instr.sliceAt, Instr.sureAddr, Sem.run_bind, hrun, Result.andThen_ok, hbd, ty_size hE hte w, Sem.run_pure]
              cases hq
              cases hbe : Nat.beq l n with
              | true =>
                have := Nat.eq_of_beq_eq_true hbe; subst this
                exact ⟨_, .slx _ _ _ _ _ hlc (by omega), by simp⟩
              | false =>
                have hne := Nat.ne_of_beq_eq_false hbe
                refine ⟨_, .slx _ _ _ _ _ hlc (by omega), ?_⟩
                rw [if_neg (fun e => hne e.symm)]
                simp [addr_add, Nat.add_assoc]
  · cases hq
end
end Go.Refl
/- Quiet operations, the rest. -/
namespace Go.Refl
open Go

section
variable {P : Program} {E : Env} {h : Hp} {ρ : Rho} {w : World} {t : Tr AV} {a : Act}

/-! ### A key is found -/
theorem eqT_now (w : World) (hE : EnvOk P E) {n kt : Nat} {x y : AV} {x' y' : Value} {b b' : Bool} {d : TypeDesc} (hn : n ≤ Op.maxDepth) (h : eqT E.ty n kt x y = some b) (hx : VR ρ x x') (hy : VR ρ y y')
    (hd : P.underlying kt = some d) (hs : Instr.sameNow d x' y' = some b') : b' = b := by
  have hrun := eqT_sound hE n Op.maxDepth kt x y b x' y' w hn h hx hy
  obtain ⟨m, hm⟩ : ∃ m, Op.maxDepth = m + 1 := ⟨9999, rfl⟩
  rw [hm] at hrun
  unfold Instr.sameNow at hs
  split at hs
  · split at hs
    · rename_i hk
      subst hk
      simp only [Op.equalIn, Sem.run_bind, run_underlying hd, Result.andThen_ok, if_true, Sem.run_pure] at hrun
      cases hs; injection hrun
    · cases hs
  · simp only [Op.equalIn, Sem.run_bind, run_underlying hd, Result.andThen_ok, Sem.run_pure] at hrun
    cases hs; injection hrun
  · simp only [Op.equalIn, Sem.run_bind, run_underlying hd, Result.andThen_ok, Sem.run_pure] at hrun
    cases hs; injection hrun
  · cases hs

/-- What is found. -/
def Found (ρ : Rho) (es : List (AV × AV × Nat)) (i : Nat) : Option (Nat × AV × Nat) → Option (Nat × Value) → Prop
  | none, none => True
  | some (j, v, b), some (j', v') => j = j' ∧ VR ρ v v' ∧ i ≤ j ∧ ∃ k, es[j - i]? = some (k, v, b)
  | _, _ => False

theorem find_sound (hE : EnvOk P E) {n kt : Nat} (hn : n ≤ Op.maxDepth) {x : AV} {x' : Value} (hx : VR ρ x x') {d : TypeDesc} (hd : P.underlying kt = some d) :
    ∀ {es : List (AV × AV × Nat)} {es' : List MapEntry} {i : Nat} {r : Option (Nat × AV × Nat)}, findM (eqT E.ty n kt x) es i = some r → ML ρ es es' →
    ∃ r', (Instr.findAsking kt x' es' i).run P w = .ok r' w ∧ (∀ q, Instr.findNow d x' es' i = some q → q = r') ∧ Found ρ es i r r'
  | [], es', i, r, h, hm => by
    have : es' = [] := List.length_eq_zero_iff.1 (by simpa using hm.1.symm)
    subst this
    simp [findM] at h; subst h
    refine ⟨none, by simp [Instr.findAsking], fun q hq => ?_, trivial⟩
    simp [Instr.findNow] at hq; exact hq.symm
  | (k, v, b) :: es, es', i, r, h, hm => by
    cases es' with
    | nil => have := hm.1; simp at this
    | cons e es' =>
      obtain ⟨hk, hv, hb⟩ := hm.2 0 (k, v, b) e (by simp) (by simp)
      have hm' : ML ρ es es' := ⟨by have := hm.1; simpa using this, fun j x y hx hy => hm.2 (j + 1) x y (by simpa using hx) (by simpa using hy)⟩
      simp only [findM] at h
      split at h
      · rename_i he
        cases h
        have hrun : (Op.equal kt x' e.key).run P w = .ok true w := eqT_sound hE n Op.maxDepth kt x k true x' e.key w hn he hx hk
        refine ⟨some (i, e.val), by simp [Instr.findAsking, hrun], fun q hq => ?_, rfl, hv, Nat.le_refl _, k, by simp⟩
        simp only [Instr.findNow] at hq
        split at hq
        · cases hq; rfl
        · rename_i hs; have := eqT_now w hE hn he hx hk hd hs; cases this
        · cases hq
      · rename_i he
        have hrun : (Op.equal kt x' e.key).run P w = .ok false w := eqT_sound hE n Op.maxDepth kt x k false x' e.key w hn he hx hk
        obtain ⟨r', h1, h2, h3⟩ := find_sound hE hn hx hd h hm'
        refine ⟨r', by simp [Instr.findAsking, hrun, h1], fun q hq => ?_, ?_⟩
        · simp only [Instr.findNow] at hq
          split at hq
          · rename_i hs; have := eqT_now w hE hn he hx hk hd hs; cases this
          · exact h2 q hq
          · cases hq
        · cases r with
          | none => cases r' with
            | none => trivial
            | some p => exact h3
          | some p =>
            obtain ⟨j, u, c⟩ := p
            cases r' with
            | none => exact h3
            | some p' =>
              obtain ⟨j', u'⟩ := p'
              obtain ⟨g1, g2, g3, k', g4⟩ := h3
              refine ⟨g1, g2, by omega, k', ?_⟩
              rw [show j - i = (j - (i + 1)) + 1 by omega]
              simpa using g4
      · cases h

theorem findKey_sound (hE : EnvOk P E) {n kt : Nat} (hn : n ≤ Op.maxDepth) {x : AV} {x' : Value} (hx : VR ρ x x') {ti : TI} (hty : E.ty kt = some ti)
    {es : List (AV × AV × Nat)} {es' : List MapEntry} {r : Option (Nat × AV × Nat)} (h : findM (eqT E.ty n kt x) es 0 = some r) (hm : ML ρ es es') :
    ∃ r', (Instr.findKey kt x' es').run P w = .ok r' w ∧ Found ρ es 0 r r' := by
  obtain ⟨d, hu, _, hrun⟩ := ty_under hE hty w
  obtain ⟨r', h1, h2, h3⟩ := find_sound (w := w) hE hn hx hu h hm
  refine ⟨r', ?_, h3⟩
  simp only [Instr.findKey, Sem.run_bind, hrun, Result.andThen_ok]
  split
  · rename_i q hq; rw [h2 q hq]; rfl
  · exact h1

theorem map_sound (hr : HR E h ρ w) {r : Nat} {es : List (AV × AV × Nat)} {clock : Nat} (hg : h.h.get r = some (.map es clock)) :
    ∃ (l : Loc) (es' : Array MapEntry), ρ r = some l ∧ w.heap[l.blk]? = some (.map es' clock) ∧ ML ρ es es'.toList := by
  obtain ⟨l, ob, h1, h2, es', h3, h4⟩ := hr.obj r _ hg
  subst h3
  exact ⟨l, es', h1, h2, h4⟩

theorem run_getObj {r : Nat} {o : Obj} (h : w.heap[r]? = some o) (hc : ∀ c t f, o ≠ .cells c t f) : (getObj r).run P w = .ok o w := by
  cases o <;> simp [getObj, Sem.run, h]
  · exact absurd rfl (hc _ _ _)

theorem mapEs_sound (hr : HR E h ρ w) {m : AV} {m' : Value} (hm : VR ρ m m') {es : List (AV × AV × Nat)} (h : mapEs h m = some es) :
    (m' = .map none ∧ es = []) ∨ ∃ (r : Nat) (l : Loc) (es' : Array MapEntry) (clock : Nat), m = .mp r ∧ m' = .map (some l.blk) ∧ ρ r = some l ∧ w.heap[l.blk]? = some (.map es' clock) ∧ ML ρ es es'.toList := by
  unfold mapEs at h
  split at h
  · cases h; cases hm; exact .inl ⟨rfl, rfl⟩
  · split at h
    · rename_i r _ es0 clock hg
      cases h
      cases hm with
      | mp _ l hl =>
        obtain ⟨l', es', h1, h2, h3⟩ := map_sound hr hg
        rw [hl] at h1; cases h1
        exact .inr ⟨r, l, es', clock, rfl, rfl, hl, h2, h3⟩
    · cases h
  · cases h

theorem zeroOf_sound (hE : EnvOk P E) {ty : Nat} {ti : TI} (hty : E.ty ty = some ti) : ∃ z, (zeroValue ty).run P w = .ok z w ∧ VR ρ (zeroOf ti) z := by
  obtain ⟨i, z, h1, h2, h3, h4, h5, h6, h7⟩ := (hE.ty ty ti hty).info
  refine ⟨z, by simp [zeroValue, typeInfo, h1, h4], ?_⟩
  unfold zeroOf
  cases hi : isAgg ti.d with
  | true =>
    obtain ⟨cs, rfl⟩ := h6 hi
    exact VR.agg_iff.2 ⟨cs, rfl, by simpa [Value.cells] using h5 ρ⟩
  | false =>
    have hv := h7 hi (hE.ty ty ti hty).noOther
    simp only
    split
    · rename_i v vs hz
      rw [hz] at hv
      obtain ⟨y, ys, e, hy, _⟩ := VL.cons_iff.1 hv
      cases e
      exact hy.ext (fun b l hb => by cases hb)
    · rename_i hz
      rw [hz] at hv
      have := hv.1; simp at this

theorem qLookup_sound (hE : EnvOk P E) (hr : HR E h ρ w) {ty : Nat} {ti : TI} (hty : E.ty ty = some ti) {m k r : AV} {m' k' : Value} {ok : Bool} (hm : VR ρ m m') (hk : VR ρ k k')
    (hq : qLookup E h ti m k ok = some r) : ∃ u, VR ρ r u ∧ (Instr.lookup ty m' k' ok).run P w = .ok u w := by
  obtain ⟨d, hu, hd, hrun⟩ := ty_under hE hty w
  unfold qLookup at hq
  split at hq
  · rename_i kt e hdd
    rw [hdd] at hd; simp only [TDOk] at hd; subst hd
    split at hq
    · cases hq
    · rename_i te hte
      split at hq
      · cases hq
      · rename_i es hes
        split at hq
        · cases hq
        · rename_i hchk
          have hkt : ∃ tk, E.ty kt = some tk := by
            unfold chkT at hchk
            split at hchk
            · cases hchk
            · rename_i tk htk; exact ⟨tk, htk⟩
          obtain ⟨tk, hkt⟩ := hkt
          have key : ∀ (em : Bool), (Instr.checkKey em 10000 kt k').run P w = .ok () w := fun em => chkT_sound hE em 20 10000 kt k k' w (by omega) hchk hk
          have fin : ∀ (es' : List MapEntry), ML ρ es es' → ∃ u, VR ρ r u ∧
              ((do match ← Instr.findKey kt k' es' with
                    | some (_, v) => do
                      let x ← pure (v, true)
                      pure (if ok = true then .tuple #[x.1, .bool x.2] else x.1)
                    | none => do
                      let z ← zeroValue e
                      let x ← pure (z, false)
                      pure (if ok = true then .tuple #[x.1, .bool x.2] else x.1) : Sem Value)).run P w = .ok u w := by
            intro es' hml
            split at hq
            · cases hq
            · rename_i hf
              obtain ⟨r', g1, g2⟩ := findKey_sound (w := w) hE (by decide) hk hkt hf hml
              cases r' with
              | some p => exact g2.elim
              | none =>
                obtain ⟨z, hz, hz'⟩ := zeroOf_sound (ρ := ρ) (w := w) hE hte
                simp only [Sem.run_bind, g1, Result.andThen_ok, hz, Sem.run_pure]
                cases hq
                cases ok with
                | true => exact ⟨_, VR.tup_iff.2 ⟨_, rfl, .cons hz' (.cons (.bool _) (.nil ρ))⟩, rfl⟩
                | false => exact ⟨_, hz', rfl⟩
            · rename_i j v b hf
              obtain ⟨r', g1, g2⟩ := findKey_sound (w := w) hE (by decide) hk hkt hf hml
              cases r' with
              | none => exact g2.elim
              | some p =>
                obtain ⟨j', v'⟩ := p
                obtain ⟨_, hv, _⟩ := g2
                simp only [Sem.run_bind, g1, Result.andThen_ok, Sem.run_pure]
                cases hq
                cases ok with
                | true => exact ⟨_, VR.tup_iff.2 ⟨_, rfl, .cons hv (.cons (.bool _) (.nil ρ))⟩, rfl⟩
                | false => exact ⟨_, hv, rfl⟩
          rcases mapEs_sound hr hm hes with ⟨rfl, rfl⟩ | ⟨r0, l, es', clock, rfl, rfl, hl, hb, hml⟩
          · obtain ⟨u, h1, h2⟩ := fin [] ⟨rfl, by simp⟩
            refine ⟨u, h1, ?_⟩
            rw [← h2]
            simp only [Instr.lookup, Sem.run_bind, hrun, Result.andThen_ok, Sem.run_pure, key]
            rfl
          · obtain ⟨u, h1, h2⟩ := fin es'.toList hml
            refine ⟨u, h1, ?_⟩
            rw [← h2]
            have hg := run_getObj (P := P) hb (by simp)
            simp only [Instr.lookup, Sem.run_bind, hrun, Result.andThen_ok, Sem.run_pure, key, hg]
            rfl
  · cases hq
end
end Go.Refl
