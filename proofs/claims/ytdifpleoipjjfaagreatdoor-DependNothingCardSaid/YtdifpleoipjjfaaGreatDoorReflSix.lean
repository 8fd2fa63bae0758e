/- Regions that draw their order: the parts. -/
import Derived.Test.YtdifpleoipjjfaaGreatDoorReflFive
namespace Go.Refl
open Go

section
variable {P : Program} {E : Env} {h : Hp} {ρ : Rho} {w : World} {t : Tr AV} {a : Act} {k : Nat} {F : Fence} {n : Nat} {Q : Exit → Act → World → Prop}

theorem get_hideT {mask : Nat} : ∀ {ws : List (Nat × Nat)} {t : Tr AV} {d : Nat} {x : AV}, (hideT mask ws t).get d = some x → t.get d = some x ∧ ∀ i, (i, d) ∈ ws → Nat.testBit mask i = true
  | [], t, d, x, h => ⟨h, fun _ h => by cases h⟩
  | (i, d') :: r, t, d, x, h => by
    simp only [hideT] at h
    obtain ⟨h1, h2⟩ := get_hideT h
    cases hb : Nat.testBit mask i with
    | true =>
      rw [hb] at h1
      refine ⟨h1, fun j hj => ?_⟩
      rcases List.mem_cons.1 hj with e | hj
      · cases e; exact hb
      · exact h2 j hj
    | false =>
      rw [hb] at h1
      simp only [Tr.get_del] at h1
      split at h1
      · cases h1
      · rename_i hne
        refine ⟨h1, fun j hj => ?_⟩
        rcases List.mem_cons.1 hj with e | hj
        · cases e; exact absurd rfl hne
        · exact h2 j hj

theorem get_hideFor {mask n0 : Nat} : ∀ {bs : List Nat} {h : Hp} {b : Nat} {o : AObj}, (hideFor mask n0 bs h).h.get b = some o → h.h.get b = some o ∧ ∀ i, i ∈ bs → b = n0 + i → Nat.testBit mask i = true
  | [], h, b, o, hg => ⟨hg, fun _ h => by cases h⟩
  | i :: r, h, b, o, hg => by
    simp only [hideFor] at hg
    obtain ⟨h1, h2⟩ := get_hideFor hg
    cases hb : Nat.testBit mask i with
    | true =>
      rw [hb] at h1
      refine ⟨h1, fun j hj => ?_⟩
      rcases List.mem_cons.1 hj with rfl | hj
      · exact fun _ => hb
      · exact h2 j hj
    | false =>
      rw [hb] at h1
      simp only [delO, Tr.get_del] at h1
      split at h1
      · cases h1
      · rename_i hne
        refine ⟨h1, fun j hj e => ?_⟩
        rcases List.mem_cons.1 hj with rfl | hj
        · exact absurd e hne
        · exact h2 j hj e
theorem next_hideFor {mask n0 : Nat} : ∀ (bs : List Nat) (h : Hp), (hideFor mask n0 bs h).next = h.next
  | [], h => rfl
  | i :: r, h => by
    simp only [hideFor]
    rw [next_hideFor r]
    cases Nat.testBit mask i <;> rfl
theorem next_unhide {mask n0 : Nat} {old : Hp} : ∀ (bs : List Nat) (h : Hp), (unhide mask n0 old bs h).next = h.next
  | [], h => rfl
  | i :: r, h => by
    simp only [unhide]
    rw [next_unhide r]
    cases Nat.testBit mask i
    · cases old.h.get (n0 + i) <;> rfl
    · rfl
/-- What comes back: the hidden blocks as they were. -/
theorem get_unhide {mask n0 : Nat} {old : Hp} : ∀ {bs : List Nat} {h : Hp} {b : Nat}, bs.Nodup → (unhide mask n0 old bs h).h.get b = (if ∃ i ∈ bs, b = n0 + i ∧ Nat.testBit mask i = false ∧ (old.h.get b).isSome then old.h.get b else h.h.get b)
  | [], h, b, _ => by simp [unhide]
  | i :: r, h, b, hn => by
    obtain ⟨hn1, hn2⟩ := List.nodup_cons.1 hn
    simp only [unhide]
    rw [get_unhide hn2]
    by_cases hb : b = n0 + i
    · have hno : ¬ ∃ j ∈ r, b = n0 + j ∧ Nat.testBit mask j = false ∧ (old.h.get b).isSome := by
        rintro ⟨j, hj, e, _⟩
        have : j = i := by omega
        subst this; exact hn1 hj
      rw [if_neg hno]
      subst hb
      cases ht : Nat.testBit mask i with
      | true =>
        rw [if_neg]
        rintro ⟨j, hj, e, e2, _⟩
        have : j = i := by omega
        subst this; rw [ht] at e2; cases e2
      | false =>
        cases ho : old.h.get (n0 + i) with
        | none =>
          rw [if_neg]
          rintro ⟨_, _, _, _, e⟩; simp at e
        | some o =>
          rw [if_pos ⟨i, List.mem_cons_self, rfl, ht, by simp⟩]
          simp [setO, Tr.get_set]
    · have e1 : (∃ j ∈ i :: r, b = n0 + j ∧ Nat.testBit mask j = false ∧ (old.h.get b).isSome) ↔ ∃ j ∈ r, b = n0 + j ∧ Nat.testBit mask j = false ∧ (old.h.get b).isSome :=
        ⟨fun ⟨j, hj, e, e2⟩ => by
          rcases List.mem_cons.1 hj with rfl | hj
          · exact absurd e hb
          · exact ⟨j, hj, e, e2⟩, fun ⟨j, hj, e⟩ => ⟨j, List.mem_cons_of_mem _ hj, e⟩⟩
      have e2 : (match Nat.testBit mask i with
          | true => h
          | false => match old.h.get (n0 + i) with
            | some o => setO h (n0 + i) o
            | none => h).h.get b = h.h.get b := by
        cases Nat.testBit mask i
        · cases old.h.get (n0 + i) with
          | none => rfl
          | some o => simp [setO, Tr.get_set, hb]
        · rfl
      simp only [e1]
      split
      · rfl
      · exact e2

/-- A part of memory. -/
theorem HR.sub {h' : Hp} (hr : HR E h ρ w) (hs : ∀ b o, h'.h.get b = some o → h.h.get b = some o) (hn : h.next ≤ h'.next) : HR E h' ρ w :=
  ⟨fun b l hl => Nat.lt_of_lt_of_le (hr.dom b l hl) hn, fun b o ho => hr.obj b o (hs b o ho), fun b b' l l' hb hb' => hr.sep b b' l l' (let ⟨o, h⟩ := hb; ⟨o, hs _ _ h⟩) (let ⟨o, h⟩ := hb'; ⟨o, hs _ _ h⟩), hr.glob⟩

theorem quietOp_next (o : Oper) (t : Tr AV) (h : Hp) (n : Nat) : quietOp E o t { h with next := n } = quietOp E o t h := by
  obtain ⟨dst, op, type, pos, after, guard⟩ := o
  cases op <;> rfl

/-- THE FRAME: what a step was not shown comes through it. -/
theorem Up.past {hx h1 h2 : Hp} {ρ' : Rho} {w' : World} (hr : HR E h ρ w) (hu : Up E hx ρ w h1 ρ' w') (hs : ∀ b o, hx.h.get b = some o → h.h.get b = some o) (hn : hx.next = h.next) (hn2 : h2.next = h1.next)
    (h2s : ∀ b o, h2.h.get b = some o → h1.h.get b = some o ∨ (h.h.get b = some o ∧ hx.h.get b = none)) : Up E h ρ w h2 ρ' w' := by
  -- a block that was hidden
  have hid : ∀ b o, h.h.get b = some o → hx.h.get b = none → ∃ l ob, ρ b = some l ∧ w'.heap[l.blk]? = some ob ∧ OR E ρ' l o ob ∧ l.blk < w.heap.size := by
    intro b o hb hxn
    obtain ⟨l, ob, g1, g2, g3⟩ := hr.obj b o hb
    have hlt := hr.blk_lt ⟨o, hb⟩ g1
    refine ⟨l, ob, g1, ?_, g3.ext hu.ext, hlt⟩
    rw [hu.frame l.blk hlt]
    · exact g2
    · rintro c lc ⟨oc, hc⟩ hlc e
      have := hr.sep c b lc l ⟨oc, hs _ _ hc⟩ ⟨o, hb⟩ hlc g1 e
      subst this
      rw [hxn] at hc; cases hc
  have hidsep : ∀ b l o, h.h.get b = some o → hx.h.get b = none → ρ' b = some l → ∀ c lc, live h1 c → ρ' c = some lc → lc.blk = l.blk → False := by
    intro b l o hb hxn hl c lc hc hlc e
    obtain ⟨l0, ob, g1, _, _, g4⟩ := hid b o hb hxn
    have := hu.ext _ _ g1
    rw [hl] at this; cases this
    rcases hu.own c lc hc hlc with h5 | ⟨b0, l0, ⟨o0, h6⟩, h7, h8⟩
    · omega
    · have := hr.sep b0 b l0 l ⟨o0, hs _ _ h6⟩ ⟨o, hb⟩ h7 g1 (h8.trans e)
      subst this
      rw [hxn] at h6; cases h6
  refine ⟨hu.ext, fun b l hl => by rw [← hn, hn2]; exact hu.new b l hl, by rw [← hn, hn2]; exact hu.mono, ⟨fun b l hl => by rw [hn2]; exact hu.hr.dom b l hl, fun b o hb => ?_, fun b b' l l' hb hb' hl hl' e => ?_, hu.hr.glob⟩, hu.size, fun c hc hno => ?_, fun b l hb hl => ?_, hu.os, hu.tape, hu.output⟩
  · rcases h2s b o hb with h5 | ⟨h5, h6⟩
    · exact hu.hr.obj b o h5
    · obtain ⟨l, ob, g1, g2, g3, _⟩ := hid b o h5 h6
      exact ⟨l, ob, hu.ext _ _ g1, g2, g3⟩
  · obtain ⟨o, hb⟩ := hb
    obtain ⟨o', hb'⟩ := hb'
    rcases h2s b o hb with h5 | ⟨h5, h6⟩ <;> rcases h2s b' o' hb' with h7 | ⟨h7, h8⟩
    · exact hu.hr.sep b b' l l' ⟨o, h5⟩ ⟨o', h7⟩ hl hl' e
    · exact (hidsep b' l' o' h7 h8 hl' b l ⟨o, h5⟩ hl e).elim
    · exact (hidsep b l o h5 h6 hl b' l' ⟨o', h7⟩ hl' e.symm).elim
    · obtain ⟨l0, _, g1, _⟩ := hid b o h5 h6
      obtain ⟨l1, _, g2, _⟩ := hid b' o' h7 h8
      have e1 := hu.ext _ _ g1
      have e2 := hu.ext _ _ g2
      rw [hl] at e1; cases e1
      rw [hl'] at e2; cases e2
      exact hr.sep b b' l l' ⟨o, h5⟩ ⟨o', h7⟩ g1 g2 e
  · exact hu.frame c hc (fun b l ⟨o, hb⟩ hl => hno b l ⟨o, hs _ _ hb⟩ hl)
  · obtain ⟨o, hb⟩ := hb
    rcases h2s b o hb with h5 | ⟨h5, h6⟩
    · rcases hu.own b l ⟨o, h5⟩ hl with h7 | ⟨b0, l0, ⟨o0, h7⟩, h8, h9⟩
      · exact .inl h7
      · exact .inr ⟨b0, l0, ⟨o0, hs _ _ h7⟩, h8, h9⟩
    · obtain ⟨l0, _, g1, _⟩ := hid b o h5 h6
      have e1 := hu.ext _ _ g1
      rw [hl] at e1; cases e1
      exact .inr ⟨b, l, ⟨o, h5⟩, g1, rfl⟩

/-- A block is laid at a number that was laid aside. -/
theorem Up.lay {w' : World} (hr : HR E h ρ w) {r : Nat} (hr0 : r < h.next) (hnone : ρ r = none) {o : AObj} {ob : Obj} (sh kap : Nat) (hw : w'.heap = w.heap.push ob)
    (ho : OR E (ρ.add r ⟨w.heap.size, sh, kap⟩) ⟨w.heap.size, sh, kap⟩ o ob) (hg : ∀ g, g < E.globs → g ≠ r) : HR E (setO h r o) (ρ.add r ⟨w.heap.size, sh, kap⟩) w' := by
  have hext := Rho.add_ext (l := ⟨w.heap.size, sh, kap⟩) hnone
  have hget : ∀ c, (setO h r o).h.get c = if c = r then some o else h.h.get c := fun c => by simp only [setO]; rw [Tr.get_set]
  have old : ∀ c u, h.h.get c = some u → c ≠ r := by
    intro c u hc e
    subst e
    obtain ⟨l, _, h1, _⟩ := hr.obj c u hc
    rw [hnone] at h1; cases h1
  refine ⟨fun b l hl => ?_, fun c u hc => ?_, fun b b' l l' hb hb' hl hl' e => ?_, fun g hgl => ?_⟩
  · unfold Rho.add at hl
    split at hl
    · rename_i e; subst e; exact hr0
    · exact hr.dom b l hl
  · rw [hget] at hc
    split at hc
    · rename_i e; subst e; cases hc
      exact ⟨_, ob, Rho.add_same _ _ _, by rw [hw]; simp, ho⟩
    · obtain ⟨l, ob', h1, h2, h3⟩ := hr.obj c u hc
      have hlt := (Array.getElem?_eq_some_iff.1 h2).1
      exact ⟨l, ob', hext _ _ h1, by rw [hw, Array.getElem?_push, if_neg (by omega)]; exact h2, h3.ext hext⟩
  · have lv : ∀ c lc, live (setO h r o) c → (ρ.add r ⟨w.heap.size, sh, kap⟩) c = some lc → (c = r ∧ lc.blk = w.heap.size) ∨ (c ≠ r ∧ live h c ∧ ρ c = some lc ∧ lc.blk < w.heap.size) := by
      rintro c lc ⟨u, hu⟩ hlc
      by_cases e : c = r
      · subst e
        rw [Rho.add_same] at hlc; cases hlc
        exact .inl ⟨rfl, rfl⟩
      · rw [hget, if_neg e] at hu
        simp only [Rho.add, if_neg e] at hlc
        exact .inr ⟨e, ⟨u, hu⟩, hlc, hr.blk_lt ⟨u, hu⟩ hlc⟩
    rcases lv b l hb hl with ⟨e1, e2⟩ | ⟨e1, e2, e3, e4⟩ <;> rcases lv b' l' hb' hl' with ⟨f1, f2⟩ | ⟨f1, f2, f3, f4⟩
    · rw [e1, f1]
    · omega
    · omega
    · exact hr.sep b b' l l' e2 f2 e3 f3 e
  · obtain ⟨kk, hk⟩ := hr.glob g hgl
    exact ⟨kk, hext _ _ hk⟩

theorem all2_same {f : AV → AV → Bool} (hf : ∀ x y, f x y = true → x = y) : ∀ {xs ys : List AV}, all2 f xs ys = true → xs = ys
  | [], [], _ => rfl
  | x :: xs, y :: ys, h => by
    simp only [all2] at h
    split at h
    · rename_i h1; rw [hf x y h1, all2_same hf h]
    · cases h
  | [], _ :: _, h => by simp [all2] at h
  | _ :: _, [], h => by simp [all2] at h
theorem listEq_same : ∀ {xs ys : List Nat}, listEq xs ys = true → xs = ys
  | [], [], _ => rfl
  | x :: xs, y :: ys, h => by
    simp only [listEq] at h
    split at h
    · rename_i h1; rw [Nat.eq_of_beq_eq_true h1, listEq_same h]
    · cases h
  | [], _ :: _, h => by simp [listEq] at h
  | _ :: _, [], h => by simp [listEq] at h
theorem intEq_same {x y : Int} (h : intEq x y = true) : x = y := by
  cases x <;> cases y <;> simp only [intEq] at h <;> first | (cases h; done) | rw [Nat.eq_of_beq_eq_true h]
theorem capEq_same {x y : Cap} (h : capEq x y = true) : x = y := by
  cases x <;> cases y <;> simp only [capEq] at h <;> first | (cases h; done) | rw [Nat.eq_of_beq_eq_true h]
theorem kindEq_same {x y : IntKind} (h : kindEq x y = true) : x = y := by
  cases x <;> cases y <;> first | rfl | (cases h; done)
theorem sameA_same : ∀ (n : Nat) (x y : AV), sameA n x y = true → x = y
  | 0, _, _, h => by simp [sameA] at h
  | n + 1, x, y, h => by
    have ih := sameA_same n
    cases x <;> cases y <;> simp only [sameA, Bool.and_eq_true] at h <;> first
      | (cases h; done)
      | rfl
      | rw [kindEq_same h.1, intEq_same h.2]
      | (simp at h; rw [h])
      | rw [listEq_same h]
      | rw [Nat.eq_of_beq_eq_true h.1, Nat.eq_of_beq_eq_true h.2]
      | rw [Nat.eq_of_beq_eq_true h.1.1.1, Nat.eq_of_beq_eq_true h.1.1.2, Nat.eq_of_beq_eq_true h.1.2, capEq_same h.2]
      | rw [Nat.eq_of_beq_eq_true h]
      | rw [Nat.eq_of_beq_eq_true h.1.1, all2_same ih h.1.2, all2_same ih h.2]
      | rw [Nat.eq_of_beq_eq_true h.1, ih _ _ h.2]
      | rw [all2_same ih h]
end
end Go.Refl
/- A region that draws its order: what the run in the text's order has shown. -/
namespace Go.Refl
open Go

section
variable {P : Program} {E : Env} {ex : Exec} {ops : Array Oper} {sz n0 : Nat}

/-- What one step of the run in the text's order shows. -/
def StepF (E : Env) (ex : Exec) (ops : Array Oper) (sz n0 : Nat) (o : Oper) (j mask : Nat) (dr : Drawn) (t : Tr AV) (h : Hp) (r : Rec) (dr' : Drawn) (t' : Tr AV) (h' : Hp) : Prop :=
  edgesOk o j = true ∧ dstOk mask j o.dst dr.writes = true ∧ dr'.writes = addW j o.dst dr.writes ∧
  match r with
  | .skip => wanted ops o (hideT mask dr.writes t) = some false ∧ putT sz t o.dst undefA = some t' ∧ h' = h ∧ dr'.blocks = dr.blocks ∧ dr'.quiet = dr.quiet ∧ dr'.louds = dr.louds
  | .q v => wanted ops o (hideT mask dr.writes t) = some true ∧ cls E o.op = .q ∧ quietOp E o (hideT mask dr.writes t) (hideFor mask n0 dr.blocks h) = some v ∧
      (∀ x ∈ dr.louds, Nat.testBit mask x.1 = true ∨ quietOp E o (hideT mask dr.writes t) (hideFor mask n0 dr.blocks x.2) = some v) ∧ putT sz t o.dst v = some t' ∧ h' = h ∧ dr'.blocks = dr.blocks ∧
      dr'.quiet = (j, o, mask, hideT mask dr.writes t, v) :: dr.quiet ∧ dr'.louds = dr.louds
  | .al ob v => wanted ops o (hideT mask dr.writes t) = some true ∧ cls E o.op = .a ∧ h.h.get (n0 + j) = none ∧ (∀ x ∈ dr.louds, x.2.h.get (n0 + j) = none) ∧ allocOp E o (hideT mask dr.writes t) (n0 + j) = some (ob, v) ∧
      putT sz t o.dst v = some t' ∧ h' = setO h (n0 + j) ob ∧ dr'.blocks = j :: dr.blocks ∧ dr'.quiet = dr.quiet ∧ dr'.louds = dr.louds
  | .ld v => wanted ops o (hideT mask dr.writes t) = some true ∧ cls E o.op = .l ∧ (∀ x ∈ dr.louds, Nat.testBit mask x.1 = true) ∧
      (∃ h1, loudOp E ex o (hideT mask dr.writes t) (hideFor mask n0 dr.blocks h) = some [(v, h1)] ∧ h' = unhide mask n0 h dr.blocks h1) ∧
      (∀ x ∈ dr.quiet, Nat.testBit mask x.1 = true ∨ quietOp E x.2.1 x.2.2.2.1 (hideFor x.2.2.1 n0 dr.blocks h') = some x.2.2.2.2) ∧ putT sz t o.dst v = some t' ∧
      dr'.blocks = dr.blocks ∧ dr'.quiet = dr.quiet ∧ dr'.louds = (j, h) :: dr.louds

theorem drawStep_inv {o : Oper} {j mask : Nat} {dr dr' : Drawn} {t t' : Tr AV} {h h' : Hp} {r : Rec} (hq : drawStep E ex ops sz n0 o j mask dr t h = some (r, dr', t', h')) :
    StepF E ex ops sz n0 o j mask dr t h r dr' t' h' := by
  unfold drawStep at hq
  split at hq
  · cases hq
  · rename_i hok
    simp only [Bool.and_eq_true] at hok
    simp only at hq
    split at hq
    · rename_i hw
      split at hq
      · rename_i hc
        split at hq
        · cases hq
        · rename_i v hv
          split at hq
          · cases hq
          · rename_i hall
            split at hq
            · rename_i t1 hput
              cases hq
              refine ⟨hok.1, hok.2, rfl, hw, hc, hv, fun x hx => ?_, hput, rfl, rfl, rfl, rfl⟩
              have := List.all_eq_true.1 hall x hx
              split at this
              · rename_i hb; exact .inl hb
              · split at this
                · rename_i v' hv'
                  right; rw [hv', sameA_same _ _ _ this]
                · cases this
            · cases hq
      · rename_i hc
        split at hq
        · cases hq
        · rename_i hab
          simp only [Bool.and_eq_true] at hab
          have habs : ∀ (hp : Hp) (b : Nat), absent hp b = true → hp.h.get b = none := by
            intro hp b hh
            unfold absent at hh
            split at hh
            · assumption
            · cases hh
          split at hq
          · rename_i ob v hal
            split at hq
            · rename_i t1 hput
              cases hq
              exact ⟨hok.1, hok.2, rfl, hw, hc, habs _ _ hab.1, fun x hx => habs _ _ (List.all_eq_true.1 hab.2 x hx), hal, hput, rfl, rfl, rfl, rfl⟩
            · cases hq
          · cases hq
      · rename_i hc
        split at hq
        · cases hq
        · rename_i hl
          split at hq
          · rename_i v h1 hld
            split at hq
            · cases hq
            · rename_i hall
              split at hq
              · rename_i t1 hput
                cases hq
                refine ⟨hok.1, hok.2, rfl, hw, hc, fun x hx => List.all_eq_true.1 hl x hx, ⟨h1, hld, rfl⟩, fun x hx => ?_, hput, rfl, rfl, rfl⟩
                have := List.all_eq_true.1 hall x hx
                split at this
                · rename_i hb; exact .inl hb
                · split at this
                  · rename_i v' hv'
                    right; rw [hv', ← sameA_same _ _ _ this]
                  · cases this
              · cases hq
          · cases hq
    · rename_i hw
      split at hq
      · rename_i t1 hput
        cases hq
        exact ⟨hok.1, hok.2, rfl, hw, hput, rfl, rfl, rfl, rfl⟩
      · cases hq
    · cases hq

/-- The run in the text's order. -/
structure Trace (E : Env) (ex : Exec) (ops : Array Oper) (sz n0 : Nat) (R : Nat → Rec) (D : Nat → Drawn) (T : Nat → Tr AV) (H : Nat → Hp) (M : Nat → Nat) (j : Nat) (os : List Oper) : Prop where
  step : ∀ i o, os[i]? = some o → StepF E ex ops sz n0 o (j + i) (M (j + i)) (D (j + i)) (T (j + i)) (H (j + i)) (R (j + i)) (D (j + i + 1)) (T (j + i + 1)) (H (j + i + 1))

theorem drawRun_trace : ∀ {os : List Oper} {bf : List Nat} {j : Nat} {dr : Drawn} {t tf : Tr AV} {h hf : Hp}, drawRun E ex ops sz n0 os bf j dr t h = some (tf, hf) →
    ∃ R D T H M, Trace E ex ops sz n0 R D T H M j os ∧ D j = dr ∧ T j = t ∧ H j = h ∧ T (j + os.length) = tf ∧ H (j + os.length) = hf ∧ ∀ i, i < os.length → bf[i]? = some (M (j + i))
  | [], bf, j, dr, t, tf, h, hf, hq => by
    simp only [drawRun] at hq; cases hq
    exact ⟨fun _ => .skip, fun _ => dr, fun _ => t, fun _ => h, fun _ => 0, ⟨fun i o h => by simp at h⟩, rfl, rfl, rfl, rfl, rfl, fun i h => by simp at h⟩
  | o :: os, bf, j, dr, t, tf, h, hf, hq => by
    simp only [drawRun] at hq
    split at hq
    · cases hq
    · rename_i mask ms
      split at hq
      · cases hq
      · rename_i r dr1 t1 h1 hst
        obtain ⟨R, D, T, H, M, g1, g2, g3, g4, g5, g6, g7⟩ := drawRun_trace hq
        have hst := drawStep_inv hst
        refine ⟨fun n => if n = j then r else R n, fun n => if n = j then dr else D n, fun n => if n = j then t else T n, fun n => if n = j then h else H n, fun n => if n = j then mask else M n, ⟨fun i o' ho => ?_⟩, by simp, by simp, by simp, ?_, ?_, fun i hi => ?_⟩
        · cases i with
          | zero =>
            simp at ho; subst ho
            simp only [Nat.add_zero, if_true]
            have e : ¬ (j + 1 = j) := by omega
            simp only [e, if_false, g2, g3, g4]
            exact hst
          | succ i =>
            have e1 : ¬ (j + (i + 1) = j) := by omega
            have e2 : ¬ (j + (i + 1) + 1 = j) := by omega
            simp only [e1, e2, if_false]
            have := g1.step i o' (by simpa using ho)
            rw [show j + 1 + i = j + (i + 1) by omega] at this
            exact this
        · have e : ¬ (j + (os.length + 1) = j) := by omega
          simp only [List.length_cons, e, if_false]
          rw [show j + (os.length + 1) = j + 1 + os.length by omega]; exact g5
        · have e : ¬ (j + (os.length + 1) = j) := by omega
          simp only [List.length_cons, e, if_false]
          rw [show j + (os.length + 1) = j + 1 + os.length by omega]; exact g6
        · cases i with
          | zero => simp
          | succ i =>
            have e1 : ¬ (j + (i + 1) = j) := by omega
            simp only [e1, if_false]
            have := g7 i (by simpa using hi)
            rw [show j + 1 + i = j + (i + 1) by omega] at this
            simpa using this

/-! ### The whole region -/
def isAl (R : Nat → Rec) (i : Nat) : Prop := ∃ ob v, R i = .al ob v
def isLd (R : Nat → Rec) (i : Nat) : Prop := ∃ v, R i = .ld v
def val : Rec → AV
  | .skip => undefA
  | .q v => v
  | .al _ v => v
  | .ld v => v

structure Whole (E : Env) (ex : Exec) (ops : Array Oper) (sz n0 : Nat) (R : Nat → Rec) (D : Nat → Drawn) (T : Nat → Tr AV) (H : Nat → Hp) (M : Nat → Nat) : Prop where
  step : ∀ i o, ops[i]? = some o → StepF E ex ops sz n0 o i (M i) (D i) (T i) (H i) (R i) (D (i + 1)) (T (i + 1)) (H (i + 1))
  start : D 0 = ⟨[], [], [], []⟩

section
variable {R : Nat → Rec} {D : Nat → Drawn} {T : Nat → Tr AV} {H : Nat → Hp} {M : Nat → Nat}

theorem Whole.putTok (hW : Whole E ex ops sz n0 R D T H M) {i : Nat} {o : Oper} (ho : ops[i]? = some o) : putT sz (T i) o.dst (val (R i)) = some (T (i + 1)) := by
  have hs := hW.step i o ho
  unfold StepF at hs
  obtain ⟨_, _, _, hs⟩ := hs
  cases hr : R i <;> rw [hr] at hs <;> simp only at hs
  · exact hs.2.1
  · exact hs.2.2.2.2.1
  · exact hs.2.2.2.2.2.1
  · exact hs.2.2.2.2.2.1

theorem Whole.writes (hW : Whole E ex ops sz n0 R D T H M) : ∀ j, j ≤ ops.size → ∀ i d, (i, d) ∈ (D j).writes ↔ i < j ∧ ∃ o, ops[i]? = some o ∧ o.dst = some d
  | 0, _, i, d => by rw [hW.start]; simp
  | j + 1, hj, i, d => by
    obtain ⟨o, ho⟩ : ∃ o, ops[j]? = some o := ⟨ops[j], Array.getElem?_eq_getElem (by omega)⟩
    obtain ⟨_, _, hw, _⟩ := hW.step j o ho
    have ih := hW.writes j (by omega) i d
    rw [hw]
    unfold addW
    cases hd : o.dst with
    | none =>
      simp only
      rw [ih]
      constructor
      · rintro ⟨h1, h2⟩; exact ⟨by omega, h2⟩
      · rintro ⟨h1, o', h2, h3⟩
        refine ⟨?_, o', h2, h3⟩
        by_cases e : i = j
        · subst e; rw [ho] at h2; cases h2; rw [hd] at h3; cases h3
        · omega
    | some d' =>
      simp only [List.mem_cons, Prod.mk.injEq]
      rw [ih]
      constructor
      · rintro (⟨rfl, rfl⟩ | ⟨h1, h2⟩)
        · exact ⟨by omega, o, ho, hd⟩
        · exact ⟨by omega, h2⟩
      · rintro ⟨h1, o', h2, h3⟩
        by_cases e : i = j
        · subst e; rw [ho] at h2; cases h2; rw [hd] at h3; cases h3
          exact .inl ⟨rfl, rfl⟩
        · exact .inr ⟨by omega, o', h2, h3⟩

theorem Whole.blocks (hW : Whole E ex ops sz n0 R D T H M) : ∀ j, j ≤ ops.size → (D j).blocks.Nodup ∧ ∀ i, i ∈ (D j).blocks ↔ i < j ∧ isAl R i
  | 0, _ => by rw [hW.start]; simp
  | j + 1, hj => by
    obtain ⟨o, ho⟩ : ∃ o, ops[j]? = some o := ⟨ops[j], Array.getElem?_eq_getElem (by omega)⟩
    obtain ⟨ih1, ih2⟩ := hW.blocks j (by omega)
    obtain ⟨_, _, _, hs⟩ := hW.step j o ho
    have same : (D (j + 1)).blocks = (D j).blocks → ¬ isAl R j → (D (j + 1)).blocks.Nodup ∧ ∀ i, i ∈ (D (j + 1)).blocks ↔ i < j + 1 ∧ isAl R i := by
      intro e hn
      rw [e]
      refine ⟨ih1, fun i => ?_⟩
      rw [ih2]
      constructor
      · rintro ⟨h1, h2⟩; exact ⟨by omega, h2⟩
      · rintro ⟨h1, h2⟩
        refine ⟨?_, h2⟩
        by_cases e : i = j
        · subst e; exact absurd h2 hn
        · omega
    cases hr : R j <;> rw [hr] at hs <;> simp only at hs
    · exact same hs.2.2.2.1 (by rintro ⟨ob, v, e⟩; rw [hr] at e; cases e)
    · exact same hs.2.2.2.2.2.2.1 (by rintro ⟨ob, v, e⟩; rw [hr] at e; cases e)
    · rename_i ob v
      rw [hs.2.2.2.2.2.2.2.1]
      refine ⟨List.nodup_cons.2 ⟨fun hm => by have := ((ih2 j).1 hm).1; omega, ih1⟩, fun i => ?_⟩
      rw [List.mem_cons, ih2]
      constructor
      · rintro (rfl | ⟨h1, h2⟩)
        · exact ⟨by omega, ob, v, hr⟩
        · exact ⟨by omega, h2⟩
      · rintro ⟨h1, h2⟩
        by_cases e : i = j
        · exact .inl e
        · exact .inr ⟨by omega, h2⟩
    · exact same hs.2.2.2.2.2.2.1 (by rintro ⟨ob, v, e⟩; rw [hr] at e; cases e)

theorem Whole.louds (hW : Whole E ex ops sz n0 R D T H M) : ∀ j, j ≤ ops.size → ∀ i, i < j → isLd R i → (i, H i) ∈ (D j).louds
  | 0, _, i, h, _ => by omega
  | j + 1, hj, i, hi, hl => by
    obtain ⟨o, ho⟩ : ∃ o, ops[j]? = some o := ⟨ops[j], Array.getElem?_eq_getElem (by omega)⟩
    obtain ⟨_, _, _, hs⟩ := hW.step j o ho
    have same : (D (j + 1)).louds = (D j).louds → ¬ isLd R j → (i, H i) ∈ (D (j + 1)).louds := by
      intro e hn
      rw [e]
      refine hW.louds j (by omega) i ?_ hl
      by_cases e : i = j
      · subst e; exact absurd hl hn
      · omega
    cases hr : R j <;> rw [hr] at hs <;> simp only at hs
    · exact same hs.2.2.2.2.2 (by rintro ⟨v, e⟩; rw [hr] at e; cases e)
    · exact same hs.2.2.2.2.2.2.2.2 (by rintro ⟨v, e⟩; rw [hr] at e; cases e)
    · exact same hs.2.2.2.2.2.2.2.2.2 (by rintro ⟨v, e⟩; rw [hr] at e; cases e)
    · rw [hs.2.2.2.2.2.2.2.2]
      by_cases e : i = j
      · subst e; exact List.mem_cons_self
      · exact List.mem_cons_of_mem _ (hW.louds j (by omega) i (by omega) hl)

theorem Whole.quiets (hW : Whole E ex ops sz n0 R D T H M) : ∀ j, j ≤ ops.size → ∀ i o v, i < j → ops[i]? = some o → R i = .q v → (i, o, M i, hideT (M i) (D i).writes (T i), v) ∈ (D j).quiet
  | 0, _, i, o, v, h, _, _ => by omega
  | j + 1, hj, i, o', v, hi, ho', hq => by
    obtain ⟨o, ho⟩ : ∃ o, ops[j]? = some o := ⟨ops[j], Array.getElem?_eq_getElem (by omega)⟩
    obtain ⟨_, _, _, hs⟩ := hW.step j o ho
    have same : (D (j + 1)).quiet = (D j).quiet → i ≠ j → (i, o', M i, hideT (M i) (D i).writes (T i), v) ∈ (D (j + 1)).quiet := by
      intro e hn
      rw [e]
      exact hW.quiets j (by omega) i o' v (by omega) ho' hq
    cases hr : R j <;> rw [hr] at hs <;> simp only at hs
    · exact same hs.2.2.2.2.1 (by rintro rfl; rw [hr] at hq; cases hq)
    · by_cases e : i = j
      · subst e
        rw [ho] at ho'; cases ho'
        rw [hr] at hq; cases hq
        rw [hs.2.2.2.2.2.2.2.1]
        exact List.mem_cons_self
      · rw [hs.2.2.2.2.2.2.2.1]
        exact List.mem_cons_of_mem _ (hW.quiets j (by omega) i o' v (by omega) ho' hq)
    · exact same hs.2.2.2.2.2.2.2.2.1 (by rintro rfl; rw [hr] at hq; cases hq)
    · exact same hs.2.2.2.2.2.2.2.1 (by rintro rfl; rw [hr] at hq; cases hq)

/-- Between two places with no loud operation: memory is the same but for the blocks that are laid. -/
theorem Whole.calm (hW : Whole E ex ops sz n0 R D T H M) {c : Nat} : ∀ j, c ≤ j → j ≤ ops.size → (∀ k, c ≤ k → k < j → ¬ isLd R k) →
    (H j).next = (H c).next ∧ ∀ b, (∀ i, c ≤ i → i < j → isAl R i → b ≠ n0 + i) → (H j).h.get b = (H c).h.get b
  | 0, h1, _, _ => by have : c = 0 := by omega
                      subst this; exact ⟨rfl, fun _ _ => rfl⟩
  | j + 1, h1, h2, h3 => by
    by_cases e : c = j + 1
    · subst e; exact ⟨rfl, fun _ _ => rfl⟩
    · obtain ⟨o, ho⟩ : ∃ o, ops[j]? = some o := ⟨ops[j], Array.getElem?_eq_getElem (by omega)⟩
      obtain ⟨ih1, ih2⟩ := hW.calm (c := c) j (by omega) (by omega) (fun k hk hk2 => h3 k hk (by omega))
      obtain ⟨_, _, _, hs⟩ := hW.step j o ho
      have same : H (j + 1) = H j → (H (j + 1)).next = (H c).next ∧ ∀ b, (∀ i, c ≤ i → i < j + 1 → isAl R i → b ≠ n0 + i) → (H (j + 1)).h.get b = (H c).h.get b := by
        intro e
        rw [e]
        exact ⟨ih1, fun b hb => ih2 b (fun i h4 h5 h6 => hb i h4 (by omega) h6)⟩
      cases hr : R j <;> rw [hr] at hs <;> simp only at hs
      · exact same hs.2.2.1
      · exact same hs.2.2.2.2.2.1
      · rename_i ob v
        rw [hs.2.2.2.2.2.2.1]
        refine ⟨ih1, fun b hb => ?_⟩
        have : b ≠ n0 + j := hb j (by omega) (by omega) ⟨ob, v, hr⟩
        simp only [setO, Tr.get_set, if_neg this]
        exact ih2 b (fun i h4 h5 h6 => hb i h4 (by omega) h6)
      · rename_i v
        exact absurd ⟨v, hr⟩ (h3 j (by omega) (by omega))

/-- A block is not there before it is laid. -/
theorem Whole.absent (hW : Whole E ex ops sz n0 R D T H M) {i : Nat} (hi : i < ops.size) (hal : isAl R i) {p : Nat} (hp : p ≤ i) : (H p).h.get (n0 + i) = none := by
  obtain ⟨o, ho⟩ : ∃ o, ops[i]? = some o := ⟨ops[i], Array.getElem?_eq_getElem hi⟩
  obtain ⟨_, _, _, hs⟩ := hW.step i o ho
  obtain ⟨ob, v, hr⟩ := hal
  rw [hr] at hs
  simp only at hs
  have key : ∀ d p, p + d = i → (H p).h.get (n0 + i) = none := by
    intro d
    induction d with
    | zero =>
      intro p hp
      have : p = i := by omega
      subst this; exact hs.2.2.1
    | succ d ih =>
      intro p hp
      by_cases hl : isLd R p
      · exact hs.2.2.2.1 _ (hW.louds i (by omega) p (by omega) hl)
      · have hno : ∀ k, p ≤ k → k < p + 1 → ¬ isLd R k := by
          intro k h1 h2
          have : k = p := by omega
          subst this; exact hl
        have := (hW.calm (c := p) (p + 1) (by omega) (by omega) hno).2 (n0 + i) (fun k h1 h2 _ => by omega)
        rw [← this]
        exact ih (p + 1) (by omega)
  exact key (i - p) p (by omega)

/-- As it was laid, as long as nothing loud has come. -/
theorem Whole.laid (hW : Whole E ex ops sz n0 R D T H M) {i : Nat} {ob : AObj} {v : AV} (hi : i < ops.size) (hr : R i = .al ob v) {j : Nat} (h1 : i < j) (h2 : j ≤ ops.size) (h3 : ∀ k, i ≤ k → k < j → ¬ isLd R k) : (H j).h.get (n0 + i) = some ob := by
  obtain ⟨o, ho⟩ : ∃ o, ops[i]? = some o := ⟨ops[i], Array.getElem?_eq_getElem hi⟩
  obtain ⟨_, _, _, hs⟩ := hW.step i o ho
  rw [hr] at hs
  simp only at hs
  rw [(hW.calm (c := i + 1) j (by omega) h2 (fun k h4 h5 => h3 k (by omega) h5)).2 (n0 + i) (fun k h4 _ _ => by omega), hs.2.2.2.2.2.2.1]
  simp [setO, Tr.get_set]
end
end
end Go.Refl
/- A region that draws its order: what comes before what; the registers. -/
namespace Go.Refl
open Go

section
variable {P : Program} {E : Env} {ex : Exec} {ops : Array Oper} {sz n0 : Nat}

theorem fold_mask {acc : List Nat} {i : Nat} : ∀ (es : List Edge) (s : Nat), Nat.testBit (es.foldl (fun s e => match Region.binds .any e with
      | true => Nat.lor s (Nat.lor (2 ^ e.on) ((getAt acc e.on).getD 0))
      | false => s) s) i = true → Nat.testBit s i = true ∨ ∃ e ∈ es, Region.binds .any e = true ∧ (i = e.on ∨ ∃ m, acc[e.on]? = some m ∧ Nat.testBit m i = true)
  | [], s, h => .inl h
  | e :: es, s, h => by
    simp only [List.foldl_cons] at h
    rcases fold_mask es _ h with h1 | ⟨e', h1, h2⟩
    · cases hb : Region.binds .any e with
      | false => rw [hb] at h1; exact .inl h1
      | true =>
        rw [hb] at h1
        have h1 : (s ||| ((2 ^ e.on) ||| ((getAt acc e.on).getD 0))).testBit i = true := h1
        rw [Nat.testBit_or, Nat.testBit_or, Bool.or_eq_true, Bool.or_eq_true] at h1
        rcases h1 with h1 | h1 | h1
        · exact .inl h1
        · rw [Nat.testBit_two_pow] at h1
          exact .inr ⟨e, List.mem_cons_self, hb, .inl (of_decide_eq_true h1).symm⟩
        · refine .inr ⟨e, List.mem_cons_self, hb, .inr ?_⟩
          rw [getAt_eq] at h1
          cases hm : acc[e.on]? with
          | none => rw [hm] at h1; simp at h1
          | some m => rw [hm] at h1; exact ⟨m, rfl, by simpa using h1⟩
    · exact .inr ⟨e', List.mem_cons_of_mem _ h1, h2⟩

theorem beforeL_keep : ∀ (os : List Oper) (acc : List Nat) (i m : Nat), acc[i]? = some m → (beforeL os acc)[i]? = some m
  | [], acc, i, m, h => h
  | o :: os, acc, i, m, h => by
    simp only [beforeL]
    refine beforeL_keep os _ i m ?_
    rw [List.getElem?_append_left (List.getElem?_eq_some_iff.1 h).1]; exact h

theorem beforeL_mask : ∀ (os : List Oper) (acc : List Nat) (k i m : Nat) (o : Oper), os[k]? = some o → (beforeL os acc)[acc.length + k]? = some m → Nat.testBit m i = true →
    ∃ e ∈ o.after.toList, Region.binds .any e = true ∧ (i = e.on ∨ ∃ m', (beforeL os acc)[e.on]? = some m' ∧ Nat.testBit m' i = true)
  | [], acc, k, i, m, o, ho, _, _ => by simp at ho
  | o :: os, acc, 0, i, m, o', ho, hm, hb => by
    simp at ho; subst ho
    simp only [beforeL] at hm ⊢
    have h0 : ∀ mk, (beforeL os (acc ++ [mk]))[acc.length]? = some mk := fun mk => beforeL_keep os _ _ _ (by rw [List.getElem?_append_right (Nat.le_refl _)]; simp)
    rw [Nat.add_zero, h0] at hm
    cases hm
    rcases fold_mask _ _ hb with h1 | ⟨e, h1, h2, h3⟩
    · simp at h1
    · refine ⟨e, h1, h2, ?_⟩
      rcases h3 with h3 | ⟨m', h3, h4⟩
      · exact .inl h3
      · refine .inr ⟨m', beforeL_keep os _ _ _ ?_, h4⟩
        rw [List.getElem?_append_left (List.getElem?_eq_some_iff.1 h3).1]; exact h3
  | o :: os, acc, k + 1, i, m, o', ho, hm, hb => by
    simp only [beforeL] at hm ⊢
    refine beforeL_mask os _ k i m o' (by simpa using ho) ?_ hb
    rw [List.length_append, List.length_singleton, Nat.add_assoc, Nat.add_comm 1 k]; exact hm

section
variable {R : Nat → Rec} {D : Nat → Drawn} {T : Nat → Tr AV} {H : Nat → Hp} {M : Nat → Nat}

theorem mask_before (hbf : ∀ i, i < ops.size → (beforeL ops.toList [])[i]? = some (M i)) {j : Nat} {o : Oper} (ho : ops[j]? = some o) {i : Nat} (hb : Nat.testBit (M j) i = true) (hok : edgesOk o j = true) :
    ∃ e ∈ o.after, Region.binds .any e = true ∧ (i = e.on ∨ Nat.testBit (M e.on) i = true) := by
  have hj := (Array.getElem?_eq_some_iff.1 ho).1
  obtain ⟨e, h1, h2, h3⟩ := beforeL_mask ops.toList [] j i (M j) o (by simpa using ho) (by simpa using hbf j hj) hb
  refine ⟨e, by simpa using h1, h2, ?_⟩
  rcases h3 with h3 | ⟨m', h3, h4⟩
  · exact .inl h3
  · have := List.all_eq_true.1 hok e h1
    rw [h2] at this
    simp only [Nat.blt_eq] at this
    rw [hbf e.on (by omega)] at h3
    cases h3
    exact .inr h4

theorem putT_get {t t' : Tr AV} {d : Option Tmp} {x : AV} (hq : putT sz t d x = some t') (n : Nat) : t'.get n = if d = some n then some x else t.get n := by
  unfold putT at hq
  split at hq
  · rename_i d
    split at hq
    · cases hq
      rw [Tr.get_set]
      by_cases e : n = d
      · subst e; simp
      · rw [if_neg e, if_neg (fun h => e (by injection h with h; exact h.symm))]
    · cases hq
  · cases hq
    simp

theorem Whole.regs (hW : Whole E ex ops sz n0 R D T H M) : ∀ j, j ≤ ops.size → ∀ d x, (T j).get d = some x →
    (∃ i, i < j ∧ (∃ o, ops[i]? = some o ∧ o.dst = some d) ∧ x = val (R i) ∧ ∀ k o', i < k → k < j → ops[k]? = some o' → o'.dst ≠ some d) ∨
    ((∀ k o', k < j → ops[k]? = some o' → o'.dst ≠ some d) ∧ (T 0).get d = some x)
  | 0, _, d, x, h => .inr ⟨fun k o' hk => by omega, h⟩
  | j + 1, hj, d, x, h => by
    obtain ⟨o, ho⟩ : ∃ o, ops[j]? = some o := ⟨ops[j], Array.getElem?_eq_getElem (by omega)⟩
    rw [putT_get (hW.putTok ho)] at h
    split at h
    · rename_i hd
      cases h
      exact .inl ⟨j, by omega, ⟨o, ho, hd⟩, rfl, fun k o' h1 h2 => by omega⟩
    · rename_i hd
      rcases hW.regs j (by omega) d x h with ⟨i, h1, h2, h3, h4⟩ | ⟨h1, h2⟩
      · refine .inl ⟨i, by omega, h2, h3, fun k o' h5 h6 h7 => ?_⟩
        by_cases e : k = j
        · subst e; rw [ho] at h7; cases h7; exact hd
        · exact h4 k o' h5 (by omega) h7
      · refine .inr ⟨fun k o' h5 h6 => ?_, h2⟩
        by_cases e : k = j
        · subst e; rw [ho] at h6; cases h6; exact hd
        · exact h1 k o' (by omega) h6

theorem get_freshT : ∀ {os : List Oper} {bf : List Nat} {j : Nat} {t : Tr AV} {d : Nat} {x : AV}, (freshT os bf j t).get d = some x →
    t.get d = some x ∧ ∀ k o m, os[k]? = some o → bf[k]? = some m → o.dst = some d → fullMask m (j + k) = true
  | [], bf, j, t, d, x, h => ⟨by simpa [freshT] using h, fun k o m h1 => by simp at h1⟩
  | o :: os, [], j, t, d, x, h => ⟨by simpa [freshT] using h, fun k o m _ h1 => by simp at h1⟩
  | o :: os, m :: ms, j, t, d, x, h => by
    simp only [freshT] at h
    obtain ⟨h1, h2⟩ := get_freshT h
    have key : t.get d = some x ∧ (o.dst = some d → fullMask m j = true) := by
      cases hd : o.dst with
      | none => rw [hd] at h1; exact ⟨h1, fun e => by cases e⟩
      | some d' =>
        rw [hd] at h1
        simp only at h1
        split at h1
        · rename_i hf; exact ⟨h1, fun _ => hf⟩
        · rw [Tr.get_del] at h1
          split at h1
          · cases h1
          · rename_i hne
            exact ⟨h1, fun e => absurd (by injection e with e; exact e.symm) hne⟩
    refine ⟨key.1, fun k o' m' h3 h4 h5 => ?_⟩
    cases k with
    | zero => simp at h3 h4; subst h3; subst h4; exact key.2 h5
    | succ k =>
      have := h2 k o' m' (by simpa using h3) (by simpa using h4) h5
      rwa [show j + 1 + k = j + (k + 1) by omega] at this

theorem full_bits {m j i : Nat} (h : fullMask m j = true) (hi : i < j) : Nat.testBit m i = true := by
  have := Nat.eq_of_beq_eq_true h
  subst this
  rw [Nat.testBit_two_pow_sub_one]
  simpa using hi
end
end
end Go.Refl
/- A region that draws its order: what holds at every place of every order. -/
namespace Go.Refl
open Go

section
variable {P : Program} {E : Env} {ex : Exec} {ops : Array Oper} {sz n0 : Nat}
variable {R : Nat → Rec} {D : Nat → Drawn} {T : Nat → Tr AV} {H : Nat → Hp} {M : Nat → Nat}

def Lst (listed : Array Bool) (i : Nat) : Prop := listed.getD i false = true

structure DInv (E : Env) (ops : Array Oper) (sz n0 : Nat) (R : Nat → Rec) (T : Nat → Tr AV) (H : Nat → Hp) (M : Nat → Nat) (h0 : Hp) (ρ0 : Rho) (w0 : World) (ds : List Deferred)
    (listed : Array Bool) (a : Act) (w : World) (c : Nat) (ρ : Rho) (hh : Hp) : Prop where
  lsz : listed.size = ops.size
  clo : ∀ k, Lst listed k → ∀ i, Nat.testBit (M k) i = true → Lst listed i
  cm : c ≤ ops.size
  ld : ∀ k, k < ops.size → isLd R k → (Lst listed k ↔ k < c)
  regs : ∀ d i o, Lst listed i → ops[i]? = some o → o.dst = some d → (∀ k o', Lst listed k → ops[k]? = some o' → o'.dst = some d → k ≤ i) → ∃ v, a.tmps[d]? = some v ∧ VR ρ (val (R i)) v
  regs0 : ∀ d x, (∀ k o', Lst listed k → ops[k]? = some o' → o'.dst ≠ some d) → (T 0).get d = some x → ∃ v, a.tmps[d]? = some v ∧ VR ρ x v
  tsz : a.tmps.size = sz
  dfr : a.defers = ds
  nx : hh.next = (H c).next
  low : n0 + ops.size ≤ hh.next
  al0 : ∀ i, i < ops.size → isAl R i → ¬ Lst listed i → hh.h.get (n0 + i) = none
  al1 : ∀ i, i < ops.size → isAl R i → Lst listed i → i < c → hh.h.get (n0 + i) = (H c).h.get (n0 + i)
  al2 : ∀ i ob v, i < ops.size → R i = .al ob v → Lst listed i → c ≤ i → hh.h.get (n0 + i) = some ob
  oth : ∀ b, (∀ i, i < ops.size → isAl R i → b ≠ n0 + i) → hh.h.get b = (H c).h.get b
  up : Up E h0 ρ0 w0 hh ρ w
  free : ∀ i, i < ops.size → ¬ Lst listed i → ρ (n0 + i) = none
  still : ∀ i ob v, i < c → R i = .al ob v → ¬ Lst listed i → (H c).h.get (n0 + i) = some ob
  lst : c = 0 ∨ isLd R (c - 1)

variable {h0 hh : Hp} {ρ0 ρ : Rho} {w0 w : World} {ds : List Deferred} {listed : Array Bool} {a : Act} {c : Nat}

theorem ready_inv (hW : Whole E ex ops sz n0 R D T H M) (hbf : ∀ i, i < ops.size → (beforeL ops.toList [])[i]? = some (M i)) (hI : DInv E ops sz n0 R T H M h0 ρ0 w0 ds listed a w c ρ hh) {j : Nat} (hj : j ∈ Region.ready .any ops listed) :
    j < ops.size ∧ ¬ Lst listed j ∧ (∃ o, ops[j]? = some o) ∧ ∀ i, Nat.testBit (M j) i = true → Lst listed i := by
  obtain ⟨h1, o, h2, h3⟩ := mem_ready.1 hj
  have hlt := (Array.getElem?_eq_some_iff.1 h2).1
  refine ⟨hlt, ?_, ⟨o, h2⟩, fun i hb => ?_⟩
  · intro hl
    unfold Lst at hl
    rw [Array.getD_eq_getD_getElem?] at h1 hl
    cases hx : listed[j]? with
    | none => rw [hx] at h1; simp at h1
    | some b => rw [hx] at h1 hl; simp at h1 hl; rw [h1] at hl; cases hl
  · obtain ⟨e, e1, e2, e3⟩ := mask_before hbf h2 hb (hW.step j o h2).1
    have hl : Lst listed e.on := h3 e e1 e2
    rcases e3 with rfl | e3
    · exact hl
    · exact hI.clo e.on hl i e3

theorem DInv.tr (hW : Whole E ex ops sz n0 R D T H M) (hbf : ∀ i, i < ops.size → (beforeL ops.toList [])[i]? = some (M i)) {t0 : Tr AV} (hT0 : T 0 = freshT ops.toList (beforeL ops.toList []) 0 t0)
    (hI : DInv E ops sz n0 R T H M h0 ρ0 w0 ds listed a w c ρ hh) {j : Nat} (hj : j < ops.size) (hn : ¬ Lst listed j) (hb : ∀ i, Nat.testBit (M j) i = true → Lst listed i) :
    TR ρ (hideT (M j) (D j).writes (T j)) a.tmps := by
  intro d x hx
  obtain ⟨h1, h2⟩ := get_hideT hx
  rcases hW.regs j (by omega) d x h1 with ⟨i, g1, ⟨o, g2, g3⟩, rfl, g4⟩ | ⟨g1, g2⟩
  · have hL := hb i (h2 i ((hW.writes j (by omega) i d).2 ⟨g1, o, g2, g3⟩))
    refine hI.regs d i o hL g2 g3 fun k o' k1 k2 k3 => ?_
    rcases Nat.lt_or_ge i k with hik | hik
    · exfalso
      rcases Nat.lt_trichotomy k j with hkj | hkj | hkj
      · exact g4 k o' hik hkj k2 k3
      · subst hkj; exact hn k1
      · have hk := (Array.getElem?_eq_some_iff.1 k2).1
        have hd := (hW.step k o' k2).2.1
        unfold dstOk at hd
        rw [k3] at hd
        simp only at hd
        split at hd
        · rename_i hf
          exact hn (hI.clo k k1 j (full_bits hf hkj))
        · have hmem := (hW.writes k (by omega) i d).2 ⟨hik, o, g2, g3⟩
          have : ((D k).writes.any fun x => Nat.beq x.2 d) = true := List.any_eq_true.2 ⟨_, hmem, by simp⟩
          rw [this] at hd; cases hd
    · exact hik
  · refine hI.regs0 d x (fun k o' k1 k2 k3 => ?_) g2
    rcases Nat.lt_trichotomy k j with hkj | hkj | hkj
    · exact g1 k o' hkj k2 k3
    · subst hkj; exact hn k1
    · have hk := (Array.getElem?_eq_some_iff.1 k2).1
      rw [hT0] at g2
      have hf := (get_freshT g2).2 k o' (M k) (by simpa using k2) (hbf k hk) k3
      rw [Nat.zero_add] at hf
      exact hn (hI.clo k k1 j (full_bits hf hkj))

/-- What an operation is shown of memory is there. -/
theorem DInv.shown (hW : Whole E ex ops sz n0 R D T H M) (hI : DInv E ops sz n0 R T H M h0 ρ0 w0 ds listed a w c ρ hh) {j : Nat} (hb : ∀ i, Nat.testBit (M j) i = true → Lst listed i) {p q : Nat} (hcp : c ≤ p) (hp : p ≤ ops.size) (hq : q ≤ ops.size)
    (hno : ∀ k, c ≤ k → k < p → ¬ isLd R k) (hpq : ∀ i, i < p → isAl R i → i < q) {b : Nat} {o : AObj} (hg : (hideFor (M j) n0 (D q).blocks (H p)).h.get b = some o) : hh.h.get b = some o := by
  obtain ⟨h1, h2⟩ := get_hideFor hg
  obtain ⟨c1, c2⟩ := hW.calm p hcp hp hno
  by_cases hal : ∃ i, i < ops.size ∧ isAl R i ∧ b = n0 + i
  · obtain ⟨i, i1, i2, rfl⟩ := hal
    rcases Nat.lt_or_ge i p with hip | hip
    · have hL := hb i (h2 i ((hW.blocks q hq).2 i |>.2 ⟨hpq i hip i2, i2⟩) rfl)
      rcases Nat.lt_or_ge i c with hic | hic
      · rw [hI.al1 i i1 i2 hL hic, ← c2 (n0 + i) (fun k k1 k2 k3 => by omega)]; exact h1
      · obtain ⟨ob, v, hr⟩ := i2
        rw [hI.al2 i ob v i1 hr hL hic]
        rw [hW.laid i1 hr hip hp (fun k k1 k2 => hno k (by omega) k2)] at h1
        exact h1
    · rw [hW.absent i1 i2 hip] at h1; cases h1
  · have hne : ∀ i, i < ops.size → isAl R i → b ≠ n0 + i := fun i i1 i2 e => hal ⟨i, i1, i2, e⟩
    rw [hI.oth b hne, ← c2 b (fun k k1 k2 k3 => hne k (by omega) k3)]
    exact h1
end
end Go.Refl
/- A region that draws its order: every step keeps what holds. -/
namespace Go.Refl
open Go

section
variable {P : Program} {E : Env} {ex : Exec} {ops : Array Oper} {sz n0 : Nat}
variable {R : Nat → Rec} {D : Nat → Drawn} {T : Nat → Tr AV} {H : Nat → Hp} {M : Nat → Nat}
variable {h0 hh : Hp} {ρ0 ρ : Rho} {w0 w : World} {ds : List Deferred} {listed : Array Bool} {a : Act} {c : Nat}

theorem lst_set {j : Nat} (hj : j < listed.size) (i : Nat) : Lst (listed.setIfInBounds j true) i ↔ i = j ∨ Lst listed i := by
  unfold Lst
  rw [Array.getD_eq_getD_getElem?, Array.getD_eq_getD_getElem?, Array.getElem?_setIfInBounds]
  by_cases e : j = i
  · subst e; simp [hj]
  · rw [if_neg e]
    constructor
    · exact .inr
    · rintro (h | h)
      · exact absurd h.symm e
      · exact h

/-- The registers behind one more operation. -/
theorem DInv.put (hW : Whole E ex ops sz n0 R D T H M) (_hbf : ∀ i, i < ops.size → (beforeL ops.toList [])[i]? = some (M i)) (hI : DInv E ops sz n0 R T H M h0 ρ0 w0 ds listed a w c ρ hh) {j : Nat} {o : Oper} (ho : ops[j]? = some o)
    (hn : ¬ Lst listed j) {ρ' : Rho} (he : Ext ρ ρ') {v : Value} (hv : VR ρ' (val (R j)) v) :
    (∀ d i o', Lst (listed.setIfInBounds j true) i → ops[i]? = some o' → o'.dst = some d → (∀ k o', Lst (listed.setIfInBounds j true) k → ops[k]? = some o' → o'.dst = some d → k ≤ i) → ∃ v', (a.put o.dst v).tmps[d]? = some v' ∧ VR ρ' (val (R i)) v') ∧
    (∀ d x, (∀ k o', Lst (listed.setIfInBounds j true) k → ops[k]? = some o' → o'.dst ≠ some d) → (T 0).get d = some x → ∃ v', (a.put o.dst v).tmps[d]? = some v' ∧ VR ρ' x v') ∧
    (a.put o.dst v).tmps.size = sz ∧ (a.put o.dst v).defers = ds := by
  have hj := (Array.getElem?_eq_some_iff.1 ho).1
  have hjl : j < listed.size := by rw [hI.lsz]; exact hj
  have hput := hW.putTok ho
  have hother : ∀ d, o.dst ≠ some d → (a.put o.dst v).tmps[d]? = a.tmps[d]? := by
    intro d hd
    cases hdo : o.dst with
    | none => rfl
    | some d' =>
      rw [hdo] at hd
      simp only [Act.put]
      rw [Array.getElem?_setIfInBounds_ne (fun e => hd (by rw [e]))]
  refine ⟨fun d i o' h1 h2 h3 h4 => ?_, fun d x h1 h2 => ?_, ?_, ?_⟩
  · rcases (lst_set hjl i).1 h1 with rfl | h1
    · rw [ho] at h2; cases h2
      have hlt : d < a.tmps.size := by
        rw [hI.tsz]
        unfold putT at hput
        rw [h3] at hput
        simp only at hput
        split at hput
        · rename_i hb; simpa [Nat.blt_eq] using hb
        · cases hput
      refine ⟨v, ?_, hv⟩
      rw [h3]
      simp [Act.put, hlt]
    · have hne : o.dst ≠ some d := by
        intro e
        have hji := h4 j o ((lst_set hjl j).2 (.inl rfl)) ho e
        have hi := (Array.getElem?_eq_some_iff.1 h2).1
        rcases Nat.lt_or_eq_of_le hji with hlt | rfl
        · have hd := (hW.step i o' h2).2.1
          unfold dstOk at hd
          rw [h3] at hd
          simp only at hd
          split at hd
          · rename_i hf; exact hn (hI.clo i h1 j (full_bits hf hlt))
          · have hmem := (hW.writes i (by omega) j d).2 ⟨hlt, o, ho, e⟩
            have : ((D i).writes.any fun x => Nat.beq x.2 d) = true := List.any_eq_true.2 ⟨_, hmem, by simp⟩
            rw [this] at hd; cases hd
        · exact hn h1
      obtain ⟨v', g1, g2⟩ := hI.regs d i o' h1 h2 h3 (fun k o2 k1 k2 k3 => h4 k o2 ((lst_set hjl k).2 (.inr k1)) k2 k3)
      exact ⟨v', by rw [hother d hne]; exact g1, g2.ext he⟩
  · have hne := h1 j o ((lst_set hjl j).2 (.inl rfl)) ho
    obtain ⟨v', g1, g2⟩ := hI.regs0 d x (fun k o2 k1 k2 => h1 k o2 ((lst_set hjl k).2 (.inr k1)) k2) h2
    exact ⟨v', by rw [hother d hne]; exact g1, g2.ext he⟩
  · rw [← hI.tsz]
    cases o.dst <;> simp [Act.put]
  · rw [← hI.dfr]
    cases o.dst <;> rfl

/-- An operation that leaves memory alone. -/
theorem DInv.calm (hW : Whole E ex ops sz n0 R D T H M) (hbf : ∀ i, i < ops.size → (beforeL ops.toList [])[i]? = some (M i)) (hI : DInv E ops sz n0 R T H M h0 ρ0 w0 ds listed a w c ρ hh) {j : Nat} {o : Oper} (ho : ops[j]? = some o)
    (hn : ¬ Lst listed j) (hb : ∀ i, Nat.testBit (M j) i = true → Lst listed i) (hna : ¬ isAl R j) (hnl : ¬ isLd R j) {v : Value} (hv : VR ρ (val (R j)) v) :
    DInv E ops sz n0 R T H M h0 ρ0 w0 ds (listed.setIfInBounds j true) (a.put o.dst v) w c ρ hh := by
  have hj := (Array.getElem?_eq_some_iff.1 ho).1
  have hjl : j < listed.size := by rw [hI.lsz]; exact hj
  obtain ⟨p1, p2, p3, p4⟩ := hI.put hW hbf ho hn (Ext.refl ρ) hv
  have hL := lst_set hjl
  have keep : ∀ i, i ≠ j → (Lst (listed.setIfInBounds j true) i ↔ Lst listed i) := fun i hi => by rw [hL]; exact ⟨fun h => h.resolve_left hi, .inr⟩
  refine ⟨by simp [hI.lsz], fun k hk i hi => ?_, hI.cm, fun k hk hl => ?_, p1, p2, p3, p4, hI.nx, hI.low, fun i i1 i2 i3 => ?_, fun i i1 i2 i3 i4 => ?_, fun i ob u i1 i2 i3 i4 => ?_, hI.oth, hI.up, fun i i1 i2 => ?_, fun i ob u i1 i2 i3 => ?_, hI.lst⟩
  · rcases (hL k).1 hk with rfl | hk
    · exact (hL i).2 (.inr (hb i hi))
    · exact (hL i).2 (.inr (hI.clo k hk i hi))
  · rw [keep k (fun e => hnl (e ▸ hl))]; exact hI.ld k hk hl
  · exact hI.al0 i i1 i2 (fun h => i3 ((hL i).2 (.inr h)))
  · exact hI.al1 i i1 i2 ((keep i (fun e => hna (e ▸ i2))).1 i3) i4
  · exact hI.al2 i ob u i1 i2 ((keep i (fun e => hna (e ▸ ⟨ob, u, i2⟩))).1 i3) i4
  · exact hI.free i i1 (fun h => i2 ((hL i).2 (.inr h)))
  · exact hI.still i ob u i1 i2 (fun h => i3 ((hL i).2 (.inr h)))
end
end Go.Refl
/- A region that draws its order: an allocation keeps what holds. -/
namespace Go.Refl
open Go

section
variable {P : Program} {E : Env} {ex : Exec} {ops : Array Oper} {sz n0 : Nat}
variable {R : Nat → Rec} {D : Nat → Drawn} {T : Nat → Tr AV} {H : Nat → Hp} {M : Nat → Nat}
variable {h0 hh : Hp} {ρ0 ρ : Rho} {w0 w : World} {ds : List Deferred} {listed : Array Bool} {a : Act} {c : Nat}

theorem Up.laid {w' : World} (hu : Up E h0 ρ0 w0 hh ρ w) {r : Nat} (hr1 : h0.next ≤ r) (hr0 : r < hh.next) (hnone : ρ r = none) {o : AObj} {ob : Obj} (sh kap : Nat) (hw : w'.heap = w.heap.push ob)
    (hos : w'.os = w.os) (ht : w'.tape = w.tape) (hout : w'.output = w.output) (ho : OR E (ρ.add r ⟨w.heap.size, sh, kap⟩) ⟨w.heap.size, sh, kap⟩ o ob) : Up E h0 ρ0 w0 (setO hh r o) (ρ.add r ⟨w.heap.size, sh, kap⟩) w' := by
  have hr := Up.lay hu.hr hr0 hnone sh kap hw ho (fun g hg e => by subst e; obtain ⟨k, hk⟩ := hu.hr.glob g hg; rw [hnone] at hk; cases hk)
  have hsz : w'.heap.size = w.heap.size + 1 := by rw [hw]; simp
  refine ⟨hu.ext.trans (Rho.add_ext hnone), fun b l hl => ?_, hu.mono, hr, by have := hu.size; omega, fun d hd hno => ?_, fun b l hb hl => ?_, hos.trans hu.os, ht.trans hu.tape, hout.trans hu.output⟩
  · unfold Rho.add at hl
    split at hl
    · rename_i e; subst e; exact .inr ⟨hr1, hr0⟩
    · exact hu.new b l hl
  · rw [hw, Array.getElem?_push, if_neg (by have := hu.size; omega)]
    exact hu.frame d hd hno
  · unfold Rho.add at hl
    split at hl
    · cases hl; exact .inl hu.size
    · rename_i hne
      obtain ⟨u, hb⟩ := hb
      simp only [setO, Tr.get_set, if_neg hne] at hb
      exact hu.own b l ⟨u, hb⟩ hl

theorem DInv.alloc (hW : Whole E ex ops sz n0 R D T H M) (hbf : ∀ i, i < ops.size → (beforeL ops.toList [])[i]? = some (M i)) (hI : DInv E ops sz n0 R T H M h0 ρ0 w0 ds listed a w c ρ hh) (hn0 : h0.next ≤ n0) {j : Nat} {o : Oper} (ho : ops[j]? = some o)
    (hn : ¬ Lst listed j) (hb : ∀ i, Nat.testBit (M j) i = true → Lst listed i) {ob : AObj} {x : AV} (hR : R j = .al ob x) {v : Value} {ob' : Obj} {sh kap : Nat} {w' : World} (hw : w'.heap = w.heap.push ob')
    (hos : w'.os = w.os) (ht : w'.tape = w.tape) (hout : w'.output = w.output) (hob : OR E (ρ.add (n0 + j) ⟨w.heap.size, sh, kap⟩) ⟨w.heap.size, sh, kap⟩ ob ob') (hv : VR (ρ.add (n0 + j) ⟨w.heap.size, sh, kap⟩) x v) :
    DInv E ops sz n0 R T H M h0 ρ0 w0 ds (listed.setIfInBounds j true) (a.put o.dst v) w' c (ρ.add (n0 + j) ⟨w.heap.size, sh, kap⟩) (setO hh (n0 + j) ob) := by
  have hj := (Array.getElem?_eq_some_iff.1 ho).1
  have hjl : j < listed.size := by rw [hI.lsz]; exact hj
  have hfree := hI.free j hj hn
  have hext : Ext ρ (ρ.add (n0 + j) ⟨w.heap.size, sh, kap⟩) := Rho.add_ext hfree
  have hval : val (R j) = x := by rw [hR]; rfl
  obtain ⟨p1, p2, p3, p4⟩ := hI.put hW hbf ho hn hext (v := v) (by rw [hval]; exact hv)
  have hL := lst_set hjl
  have keep : ∀ i, i ≠ j → (Lst (listed.setIfInBounds j true) i ↔ Lst listed i) := fun i hi => by rw [hL]; exact ⟨fun h => h.resolve_left hi, .inr⟩
  have hget : ∀ b, b ≠ n0 + j → (setO hh (n0 + j) ob).h.get b = hh.h.get b := fun b hb => by simp only [setO, Tr.get_set, if_neg hb]
  have hgetj : (setO hh (n0 + j) ob).h.get (n0 + j) = some ob := by simp [setO, Tr.get_set]
  have hnl : ¬ isLd R j := by rintro ⟨u, e⟩; rw [hR] at e; cases e
  refine ⟨by simp [hI.lsz], fun k hk i hi => ?_, hI.cm, fun k hk hl => ?_, p1, p2, p3, p4, hI.nx, hI.low, fun i i1 i2 i3 => ?_, fun i i1 i2 i3 i4 => ?_, fun i u z i1 i2 i3 i4 => ?_, fun b hb' => ?_,
    Up.laid hI.up (by omega) (by have := hI.low; omega) hfree sh kap hw hos ht hout hob, fun i i1 i2 => ?_, fun i u z i1 i2 i3 => ?_, hI.lst⟩
  · rcases (hL k).1 hk with rfl | hk
    · exact (hL i).2 (.inr (hb i hi))
    · exact (hL i).2 (.inr (hI.clo k hk i hi))
  · rw [keep k (fun e => hnl (e ▸ hl))]; exact hI.ld k hk hl
  · have hij : i ≠ j := fun e => i3 ((hL i).2 (.inl e))
    rw [hget _ (by omega)]
    exact hI.al0 i i1 i2 (fun h => i3 ((hL i).2 (.inr h)))
  · by_cases e : i = j
    · subst e
      rw [hgetj, hI.still i ob x i4 hR hn]
    · rw [hget _ (by omega)]
      exact hI.al1 i i1 i2 ((keep i e).1 i3) i4
  · by_cases e : i = j
    · subst e
      rw [hR] at i2; cases i2
      exact hgetj
    · rw [hget _ (by omega)]
      exact hI.al2 i u z i1 i2 ((keep i e).1 i3) i4
  · rw [hget b (hb' j hj ⟨ob, x, hR⟩)]
    exact hI.oth b hb'
  · have hij : i ≠ j := fun e => i2 ((hL i).2 (.inl e))
    unfold Rho.add
    rw [if_neg (by omega)]
    exact hI.free i i1 (fun h => i2 ((hL i).2 (.inr h)))
  · exact hI.still i u z i1 i2 (fun h => i3 ((hL i).2 (.inr h)))
end
end Go.Refl
