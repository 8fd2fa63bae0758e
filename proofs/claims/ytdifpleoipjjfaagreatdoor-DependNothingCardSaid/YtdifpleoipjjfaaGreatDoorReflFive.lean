/- The evaluator is sound: calls, rounds, regions in the order of the text, code. -/
import Derived.Test.YtdifpleoipjjfaaGreatDoorReflFour
import Derived.RangeFuncLeaves
import Derived.TacticsIn
import Derived.OrdersIn
namespace Go.Refl
open Go

section
variable {P : Program} {E : Env} {h : Hp} {ρ : Rho} {w : World} {t : Tr AV} {a : Act} {k : Nat}

/-! ### The state of an activation -/
def MarksR (ρ : Rho) : List Nat → List Deferred → Prop
  | [], ds => ds = []
  | m :: ms, ds => ∃ d ds' l, ds = d :: ds' ∧ ρ m = some l ∧ d.target = .collected l.blk ∧ MarksR ρ ms ds'
theorem MarksR.ext {ρ ρ' : Rho} (he : Ext ρ ρ') : ∀ {ms : List Nat} {ds : List Deferred}, MarksR ρ ms ds → MarksR ρ' ms ds
  | [], _, h => h
  | _ :: _, _, ⟨d, ds', l, h1, h2, h3, h4⟩ => ⟨d, ds', l, h1, he _ _ h2, h3, h4.ext he⟩

structure SR (E : Env) (s : St) (ρ : Rho) (a : Act) (w : World) : Prop where
  hr : HR E s.hp ρ w
  tr : TR ρ s.tmps a.tmps
  size : a.tmps.size = s.size
  marks : MarksR ρ s.marks a.defers

def EX : AE → Exit → Prop
  | .normal, .normal => True
  | .exit i, .exit j => i = j
  | .ret, .ret => True
  | _, _ => False

def Post (E : Env) (h0 : Hp) (ρ0 : Rho) (w0 : World) (rs : List (AE × St)) (e : Exit) (a : Act) (w : World) : Prop :=
  ∃ ae s ρ, (ae, s) ∈ rs ∧ EX ae e ∧ Up E h0 ρ0 w0 s.hp ρ w ∧ SR E s ρ a w

def FenceOk (F : Fence) (rnd : Option Nat) (ρ : Rho) : Prop :=
  match rnd with
  | none => F = Fence.wide
  | some l => ∃ x : Loc, ρ l = some x ∧ F = Fence.wide.inRound x.blk
theorem FenceOk.ext {F : Fence} {rnd : Option Nat} {ρ ρ' : Rho} (he : Ext ρ ρ') (h : FenceOk F rnd ρ) : FenceOk F rnd ρ' := by
  cases rnd with
  | none => exact h
  | some l => obtain ⟨x, h1, h2⟩ := h; exact ⟨x, he _ _ h1, h2⟩
theorem FenceOk.fn {F : Fence} {rnd : Option Nat} (h : FenceOk F rnd ρ) (f : FuncId) : F.fn f := by
  cases rnd with
  | none => cases h; trivial
  | some l => obtain ⟨x, h1, rfl⟩ := h; trivial
theorem FenceOk.depth {F : Fence} {rnd : Option Nat} (h : FenceOk F rnd ρ) {n : Nat} (hn : F.depth.isSome = true) : 1 ≤ n := by
  cases rnd with
  | none => cases h; cases hn
  | some l => obtain ⟨x, h1, rfl⟩ := h; cases hn
theorem FenceOk.calls {F : Fence} {rnd : Option Nat} (hF : FenceOk F rnd ρ) {n : Nat} {f : FuncId} {args : Array Value} {R : Ending → World → Prop} (h : CallsIn Fence.wide n P f args w R) : CallsIn F n P f args w R := by
  cases rnd with
  | none => cases hF; exact h
  | some l => obtain ⟨x, h1, rfl⟩ := hF; exact h
theorem FenceOk.rounds {F : Fence} {rnd : Option Nat} (hF : FenceOk F rnd ρ) {n : Nat} {l : Nat} {f : FuncId} {tmps : Array Value} {assign body : Code} {R : Ending → World → Prop} (h : RoundIn Fence.wide n P l f tmps assign body w R) :
    RoundIn F n P l f tmps assign body w R := by
  cases rnd with
  | none => cases hF; exact h
  | some l => obtain ⟨x, h1, rfl⟩ := hF; exact h

def Sound (P : Program) (E : Env) (ex : Exec) : Prop := ∀ (c : Code) (rnd : Option Nat) (s : St) (rs : List (AE × St)) (F : Fence) (ρ : Rho) (a : Act) (w : World) (k : Nat),
  ex c rnd s = some rs → FenceOk F rnd ρ → SR E s ρ a w → c.wpIn F k P (Post E s.hp ρ w rs) a w

/-! ### Calls -/
def Answers (E : Env) (h : Hp) (ρ : Rho) (w : World) (rs : List (AV × Hp)) (e : Ending) (w' : World) : Prop :=
  ∃ x h' ρ' v, (x, h') ∈ rs ∧ e = .returned v ∧ Up E h ρ w h' ρ' w' ∧ VR ρ' x v

def CallOk (P : Program) (E : Env) (h : Hp) (ρ : Rho) (w : World) (f : Nat) (args : Array Value) (rs : List (AV × Hp)) : Prop :=
  ((callFunc f args).run P w = .ok (.enter f args) w ∧ ∀ k, CallsIn Fence.wide k P f args w (Answers E h ρ w rs)) ∨
  ∃ x h' ρ' v w', (x, h') ∈ rs ∧ (callFunc f args).run P w = .ok (.value v) w' ∧ Up E h ρ w h' ρ' w' ∧ VR ρ' x v

def KnownOk (P : Program) (E : Env) : Prop := ∀ f args h r, E.known f args h = some r → ∀ (ρ : Rho) (w : World) (args' : Array Value), HR E h ρ w → VL ρ args args'.toList → CallOk P E h ρ w f args' [r]

theorem initL_sound : ∀ {args : List AV} {vs : List Value} (i : Nat) (t : Tr AV) (a : Array Value), TR ρ t a → VL ρ args vs → (∀ j v, vs[j]? = some v → a[i + j]? = some v) → TR ρ (initL i args t) a
  | [], _, _, _, _, h, _, _ => h
  | x :: xs, vs, i, t, a, h, hv, hi => by
    obtain ⟨y, ys, rfl, h1, h2⟩ := VL.cons_iff.1 hv
    refine initL_sound (i + 1) _ a ?_ h2 (fun j v hj => by rw [Nat.add_right_comm, Nat.add_assoc]; exact hi (j + 1) v (by simpa using hj))
    intro n z hz
    rw [Tr.get_set] at hz
    by_cases e : n = i
    · subst e
      simp at hz
      subst hz
      exact ⟨y, hi 0 y (by simp), h1⟩
    · rw [if_neg e] at hz
      exact h n z hz

def resOne (tmps : Array Value) : ResultVar → Sem Value
  | .tmp t => pure (tmps.getD t undef)
  | .cell a t => do loadVar t (← asAddr (tmps.getD a undef))

theorem TR.getD (ht : TR ρ t a.tmps) {n : Nat} {x : AV} (hx : t.get n = some x) : VR ρ x (a.tmps.getD n undef) := by
  obtain ⟨v, h1, h2⟩ := ht n x hx
  rw [Array.getD_eq_getD_getElem?, h1]; exact h2

theorem resL_sound (hE : EnvOk P E) (hr : HR E h ρ w) (ht : TR ρ t a.tmps) : ∀ {l : List ResultVar} {xs : List AV}, results E t h l = some xs →
    ∃ vs : List Value, VL ρ xs vs ∧ (l.mapM (resOne a.tmps)).run P w = .ok vs w
  | [], xs, hq => by
    simp only [results] at hq; cases hq
    exact ⟨[], .nil ρ, by simp⟩
  | r :: rs, xs, hq => by
    simp only [results] at hq
    split at hq
    · cases hq
    · rename_i x hx
      split at hq
      · cases hq
      · rename_i xs' hxs
        cases hq
        obtain ⟨vs, h1, h2⟩ := resL_sound hE hr ht hxs
        have : ∃ v, VR ρ x v ∧ (resOne a.tmps r).run P w = .ok v w := by
          cases r with
          | tmp n => exact ⟨_, TR.getD ht hx, rfl⟩
          | cell n ty =>
            simp only at hx
            split at hx
            · rename_i b o hb
              split at hx
              · rename_i ti hti
                have hv := TR.getD ht hb
                generalize hv' : a.tmps.getD n undef = cv at hv
                cases hv with
                | ptr _ _ l hl =>
                  obtain ⟨v, g1, g2⟩ := loadV_sound hE hr hti hx hl
                  exact ⟨v, g1, by simp only [resOne, hv', asAddr, pure_bind]; exact g2⟩
              · cases hx
            · cases hx
        obtain ⟨v, g1, g2⟩ := this
        exact ⟨v :: vs, .cons g1 h1, by simp [List.mapM_cons, g2, h2]⟩

theorem results_sound (hE : EnvOk P E) (hr : HR E h ρ w) (ht : TR ρ t a.tmps) {fn : Func} {xs : List AV} (hq : results E t h fn.results.toList = some xs) :
    ∃ v, VR ρ (resultOf xs) v ∧ (Go.results fn a.tmps).run P w = .ok v w := by
  obtain ⟨vs, h1, h2⟩ := resL_sound (P := P) hE hr ht hq
  have e : (Go.results fn a.tmps) = (do let vs ← fn.results.mapM (resOne a.tmps); pure (if h : vs.size = 1 then vs[0] else .tuple vs)) := rfl
  refine ⟨if h : vs.toArray.size = 1 then vs.toArray[0] else .tuple vs.toArray, ?_, ?_⟩
  · match xs, vs, h1 with
    | [], vs, h1 =>
      have := VL.nil_iff.1 h1; subst this
      simpa [resultOf] using VR.tup_iff.2 ⟨#[], rfl, .nil ρ⟩
    | [x], vs, h1 =>
      obtain ⟨y, ys, rfl, g1, g2⟩ := VL.cons_iff.1 h1
      have := VL.nil_iff.1 g2; subst this
      simpa [resultOf] using g1
    | x :: x' :: xs, vs, h1 =>
      obtain ⟨y, ys, rfl, g1, g2⟩ := VL.cons_iff.1 h1
      obtain ⟨y', ys', rfl, g3, g4⟩ := VL.cons_iff.1 g2
      simpa [resultOf] using VR.tup_iff.2 ⟨_, rfl, h1⟩
  · rw [e, Array.mapM_eq_mapM_toList]
    simp [h2]

/-- A block is given up, whatever has become of it. -/
theorem Up.kill {w' : World} (hr : HR E h ρ w) {b : Nat} {l : Loc} (hb : live h b) (hl : ρ b = some l) (hw : ∀ c, c ≠ l.blk → w'.heap[c]? = w.heap[c]?) (hs : w'.heap.size = w.heap.size)
    (hos : w'.os = w.os) (ht : w'.tape = w.tape) (hout : w'.output = w.output) : Up E h ρ w (delO h b) ρ w' := by
  have hd := hr.del b
  refine ⟨Ext.refl ρ, fun _ _ h => .inl h, Nat.le_refl _, ⟨hd.dom, fun c o hc => ?_, hd.sep, hd.glob⟩, Nat.le_of_eq hs.symm, fun c _ hn => hw c (fun e => hn b l hb hl e.symm), fun c l hb hl => .inr ⟨c, l, (live_del hb).1, hl, rfl⟩, hos, ht, hout⟩
  obtain ⟨lc, ob, h1, h2, h3⟩ := hd.obj c o hc
  refine ⟨lc, ob, h1, ?_, h3⟩
  rw [hw lc.blk]
  · exact h2
  · intro e
    have hl' := live_del ⟨o, hc⟩
    exact hl'.2 (hr.sep c b lc l hl'.1 hb h1 hl e)

theorem row_marks : ∀ {ms : List Nat} {h h' : Hp} {b : Nat} {r : List AV × Nat × Bool × Nat}, takeMarks ms h = some h' → row? h b = some r → row? h' b = some r
  | [], h, h', b, r, hq, hb => by simp only [takeMarks] at hq; cases hq; exact hb
  | m :: ms, h, h', b, r, hq, hb => by
    simp only [takeMarks] at hq
    split at hq
    · rename_i hg
      refine row_marks hq ?_
      have hne : b ≠ m := by
        intro e; subst e
        unfold row? at hb
        rw [hg] at hb
        cases hb
      unfold row? delO at *
      simp only [Tr.get_del, if_neg hne]
      exact hb
    · cases hq

def resV (E : Env) (t : Tr AV) (h : Hp) : ResultVar → Option AV
  | .tmp n => t.get n
  | .cell a ty => match t.get a with
    | some (.ptr b o) => match E.ty ty with
      | some ti => loadV ti h b o
      | none => none
    | _ => none
theorem results_cons (r : ResultVar) (rs : List ResultVar) : results E t h (r :: rs) = match resV E t h r with
    | none => none
    | some v => match results E t h rs with
      | none => none
      | some vs => some (v :: vs) := by
  cases r <;> rfl
theorem resV_marks {ms : List Nat} {h' : Hp} (hq : takeMarks ms h = some h') {r : ResultVar} {x : AV} (hx : resV E t h r = some x) : resV E t h' r = some x := by
  cases r with
  | tmp n => exact hx
  | cell n ty =>
    simp only [resV] at hx ⊢
    split at hx
    · rename_i b o hb
      split at hx
      · rename_i ti hti
        unfold loadV at hx ⊢
        split at hx
        · rename_i c rr hrow
          rw [row_marks hq hrow]
          exact hx
        · cases hx
      · cases hx
    · cases hx

theorem results_marks {ms : List Nat} {h' : Hp} (hq : takeMarks ms h = some h') : ∀ {l : List ResultVar} {xs : List AV}, results E t h l = some xs → results E t h' l = some xs
  | [], xs, hx => hx
  | r :: rs, xs, hx => by
    rw [results_cons] at hx ⊢
    split at hx
    · cases hx
    · rename_i x hx1
      split at hx
      · cases hx
      · rename_i xs' hxs
        rw [results_marks hq hxs, resV_marks hq hx1]
        exact hx

theorem marks_sound {fn : Func} {tmps : Array Value} {R : Ending → World → Prop} : ∀ {ms : List Nat} {ds : List Deferred} {h h' : Hp} {w : World}, takeMarks ms h = some h' → MarksR ρ ms ds → HR E h ρ w →
    (∀ w', Up E h ρ w h' ρ w' → LeavesIn Fence.wide k P fn tmps R [] .returning w') → LeavesInM Fence.wide k P fn tmps R ds .returning w
  | [], ds, h, h', w, hq, hm, hr, hR => by
    simp only [takeMarks] at hq; cases hq
    cases hm
    exact hR w (Up.refl hr)
  | m :: ms, ds, h, h', w, hq, hm, hr, hR => by
    simp only [takeMarks] at hq
    obtain ⟨d, ds', l, rfl, hl, ht, hm'⟩ := hm
    split at hq
    · rename_i hg
      obtain ⟨l', ob, h1, h2, h3⟩ := hr.obj m _ hg
      rw [hl] at h1; cases h1
      simp only [OR] at h3; subst h3
      have hrun : (Instr.takeDeferred l.blk).run P w = .ok [] { w with heap := w.heap.setIfInBounds l.blk (.deferred none) } := by
        simp [Instr.takeDeferred, run_getObj h2 (by simp), run_setObj h2 (by simp)]
      have hup : Up E h ρ w (delO h m) ρ { w with heap := w.heap.setIfInBounds l.blk (.deferred none) } := by
        refine Up.kill hr ⟨_, hg⟩ hl (fun c hc => ?_) (by simp) rfl rfl rfl
        rw [Array.getElem?_setIfInBounds_ne (Ne.symm hc)]
      refine ⟨by simp, .inl ⟨l.blk, _, ht, hrun, marks_sound hq hm' hup.hr fun w' hu => hR w' (hup.trans hu)⟩⟩
    · cases hq

theorem callFn_sound (hE : EnvOk P E) (hK : KnownOk P E) {ex : Exec} (hS : Sound P E ex) (hr : HR E h ρ w) {f : Nat} {args : List AV} {args' : Array Value} (hv : VL ρ args args'.toList) {rs : List (AV × Hp)}
    (hq : callFn E ex f args h = some rs) : CallOk P E h ρ w f args' rs := by
  unfold callFn at hq
  split at hq
  · rename_i r hk
    cases hq
    exact hK _ _ _ _ hk _ _ _ hr hv
  · split at hq
    · cases hq
    · rename_i fi hfi
      obtain ⟨fn, f1, f2, f3, f4, f5⟩ := hE.fns f fi hfi
      split at hq
      · cases hq
      · rename_i hle
        have hle := Nat.le_of_ble_eq_true hle
        obtain ⟨l, hl, hall⟩ := bindL_some hq
        left
        constructor
        · simp [callFunc, run_program, f1, f5, f2]
        · intro k
          refine callsIn_of_wp_marks f1 f2 trivial ?_
          have hsz : args'.size = args.length := by have := hv.1; simp at this; omega
          refine wpIn_mono (hS fi.body none _ l Fence.wide ρ _ w k hl rfl ⟨hr, ?_, ?_, rfl⟩) ?_
          · exact initL_sound 0 _ _ (TR.lf _ _) hv (fun j v hj => by
              rw [Nat.zero_add]
              have : args'[j]? = some v := by simpa using hj
              rw [Array.getElem?_append]
              have hlt := (Array.getElem?_eq_some_iff.1 this).1
              rw [if_pos hlt]; exact this)
          · simp; omega
          · intro e a' w' hp
            obtain ⟨ae, s, ρ', hm, hex, hup, hsr⟩ := hp
            obtain ⟨sub, hs, hsub⟩ := hall _ hm
            have key : (match results E s.tmps s.hp fi.results with
                | none => none
                | some vs => match takeMarks s.marks s.hp with
                  | none => none
                  | some h' => some [(resultOf vs, h')]) = some sub → LeavesInM Fence.wide k P fn a'.tmps (Answers E h ρ w rs) a'.defers .returning w' := by
              intro hs
              split at hs
              · cases hs
              · rename_i vs hvs
                split at hs
                · cases hs
                · rename_i h' hmk
                  cases hs
                  refine marks_sound hmk hsr.marks hsr.hr fun w2 hu => ?_
                  obtain ⟨v, g1, g2⟩ := results_sound (fn := fn) hE hu.hr hsr.tr (by rw [f4]; exact results_marks hmk hvs)
                  exact ⟨v, g2, _, h', ρ', v, hsub _ (List.mem_singleton.2 rfl), rfl, hup.trans hu, g1⟩
            cases ae with
            | exit id => cases hs
            | normal => cases e <;> first | exact hex.elim | exact key hs
            | ret => cases e <;> first | exact hex.elim | exact key hs
end
end Go.Refl
/- Rounds of a range over a function; every operation, in the machine's own rules. -/
namespace Go.Refl
open Go

section
variable {P : Program} {E : Env} {h : Hp} {ρ : Rho} {w : World} {t : Tr AV} {a : Act} {k : Nat}

theorem TR.put {tmps : Array Value} (ht : TR ρ t tmps) {n : Nat} {x : AV} {v : Value} (hn : n < tmps.size) (hv : VR ρ x v) : TR ρ (t.set n x) (tmps.setIfInBounds n v) := ht.set hn hv

theorem setTmps_sound {size : Nat} : ∀ {ps : List Tmp} {args : List AV} {vs : List Value} {t t' : Tr AV} {tmps : Array Value}, setTmps size ps args t = some t' → TR ρ t tmps → tmps.size = size → VL ρ args vs →
    ps.length = vs.length ∧ TR ρ t' ((ps.zip vs).foldl (fun tmps x => tmps.setIfInBounds x.1 x.2) tmps) ∧ ((ps.zip vs).foldl (fun tmps x => tmps.setIfInBounds x.1 x.2) tmps).size = size
  | [], [], vs, t, t', tmps, hq, ht, hs, hv => by
    have := VL.nil_iff.1 hv; subst this
    simp only [setTmps] at hq; cases hq
    exact ⟨rfl, ht, hs⟩
  | p :: ps, x :: xs, vs, t, t', tmps, hq, ht, hs, hv => by
    obtain ⟨y, ys, rfl, h1, h2⟩ := VL.cons_iff.1 hv
    simp only [setTmps] at hq
    split at hq
    · rename_i hlt
      have hlt : p < tmps.size := by rw [hs]; simpa [Nat.blt_eq] using hlt
      obtain ⟨g1, g2, g3⟩ := setTmps_sound hq (ht.put hlt h1) (by simpa using hs) h2
      exact ⟨by simp [g1], g2, g3⟩
    · cases hq
  | [], _ :: _, _, _, _, _, hq, _, _, _ => by simp [setTmps] at hq
  | _ :: _, [], _, _, _, _, hq, _, _, _ => by simp [setTmps] at hq

theorem endRound_sound (hr : HR E h ρ w) {l : Nat} {x : Loc} (hl : ρ l = some x) {st : LoopState} {pend : Option Code} {tmps : Tr AV} {size : Nat} {params : List Tmp} {assign body : Code} {d : Nat}
    (hg : h.h.get l = some (.loop st pend tmps size params assign body d)) (jump : Option Code) :
    ∃ w', (Instr.endRound x.blk jump).run P w = .ok (.bool jump.isNone) w' ∧ Up E h ρ w (setO h l (.loop (if jump.isNone then .ready else .done) jump tmps size params assign body d)) ρ w' := by
  obtain ⟨x', ob, h1, h2, lp, h3, h4, h5, h6, h7, h8, h9, h10⟩ := hr.obj l _ hg
  rw [hl] at h1; cases h1
  subst h3
  have g1 := run_getObj (P := P) h2 (by simp)
  have g2 := run_setObj (P := P) (o' := .loop { lp with state := if jump.isNone then .ready else .done, pending := jump }) h2 (by simp)
  refine ⟨_, ?_, Up.set_obj hr hg hl h2 (ob := .loop { lp with state := if jump.isNone then .ready else .done, pending := jump }) ⟨_, rfl, rfl, rfl, h6, h7, h8, h9, h10⟩⟩
  simp only [Instr.endRound, Instr.getLoop, Sem.run_bind, g1, g2, Result.andThen_ok, Sem.run_pure]

theorem beginRound_sound (hr : HR E h ρ w) {l : Nat} {x : Loc} (hl : ρ l = some x) {pend : Option Code} {tmps : Tr AV} {size : Nat} {params : List Tmp} {assign body : Code} {d : Nat}
    (hg : h.h.get l = some (.loop .ready pend tmps size params assign body d)) :
    ∃ w', (Instr.beginRound x.blk).run P w = .ok () w' ∧ Up E h ρ w (setO h l (.loop .busy pend tmps size params assign body d)) ρ w' := by
  obtain ⟨x', ob, h1, h2, lp, h3, h4, h5, h6, h7, h8, h9, h10⟩ := hr.obj l _ hg
  rw [hl] at h1; cases h1
  subst h3
  have g1 := run_getObj (P := P) h2 (by simp)
  have g2 := run_setObj (P := P) (o' := .loop { lp with state := .busy }) h2 (by simp)
  refine ⟨_, ?_, Up.set_obj hr hg hl h2 (ob := .loop { lp with state := .busy }) ⟨_, rfl, rfl, h5, h6, h7, h8, h9, h10⟩⟩
  simp only [Instr.beginRound, Instr.getLoop, Sem.run_bind, g1, g2, Result.andThen_ok, Sem.run_pure, h4]

def RoundOk (P : Program) (E : Env) (h : Hp) (ρ : Rho) (w : World) (blk : Nat) (args : Array Value) (rs : List (AV × Hp)) : Prop :=
  ∃ f tmps assign body, (Instr.yield blk args).run P w = .ok (.round blk f tmps assign body) w ∧ ∀ k, RoundIn Fence.wide k P blk f tmps assign body w (Answers E h ρ w rs)

theorem yieldFn_sound {ex : Exec} (hS : Sound P E ex) (hr : HR E h ρ w) {l : Nat} {x : Loc} (hl : ρ l = some x) {args : List AV} {args' : Array Value} (hv : VL ρ args args'.toList) {rs : List (AV × Hp)}
    (hq : yieldFn ex l args h = some rs) : RoundOk P E h ρ w x.blk args' rs := by
  unfold yieldFn at hq
  split at hq
  · rename_i pend tmps size params assign body d hg
    obtain ⟨x', ob, h1, h2, lp, h3, h4, h5, h6, h7, h8, h9, h10⟩ := hr.obj l _ hg
    rw [hl] at h1; cases h1
    subst h3
    split at hq
    · cases hq
    · rename_i t hset
      obtain ⟨la, hla, halla⟩ := bindL_some hq
      obtain ⟨s1, s2, s3⟩ := setTmps_sound hset h6 h7 hv
      have g1 := run_getObj (P := P) h2 (by simp)
      have hfold : (lp.params.zip args').foldl (fun tmps (x : Tmp × Value) => tmps.setIfInBounds x.1 x.2) lp.tmps = (params.zip args'.toList).foldl (fun tmps x => tmps.setIfInBounds x.1 x.2) lp.tmps := by
        rw [← Array.foldl_toList, Array.toList_zip, h8]
      have hsz : args'.size = lp.params.size := by
        have : lp.params.toList.length = args'.toList.length := by rw [h8]; exact s1
        simpa using this.symm
      refine ⟨lp.fn, (params.zip args'.toList).foldl (fun tmps x => tmps.setIfInBounds x.1 x.2) lp.tmps, lp.assign, lp.body, ?_, fun k => ?_⟩
      · simp only [Instr.yield, Instr.getLoop, Sem.run_bind, g1, Result.andThen_ok, Sem.run_pure]
        simp [hsz, ← hfold]
      · refine roundIn_of_wpIn trivial ?_
        rw [h9, h10]
        refine wpIn_mono (hS assign (some l) _ la (Fence.wide.inRound x.blk) ρ _ w k hla ⟨x, hl, rfl⟩ ⟨hr, s2, s3, rfl⟩) ?_
        intro e a1 w1 hp
        obtain ⟨ae, s, ρ1, hm, hex, hup, hsr⟩ := hp
        obtain ⟨sub, hs, hsub⟩ := halla _ hm
        cases ae with
        | exit id => cases hs
        | ret => cases hs
        | normal =>
          cases e <;> first | exact hex.elim | skip
          simp only at hs
          split at hs
          · rename_i pend1 tmps1 size1 params1 assign1 body1 d1 hg1
            have hl1 := hup.ext _ _ hl
            obtain ⟨w2, b1, b2⟩ := beginRound_sound (P := P) hsr.hr hl1 hg1
            obtain ⟨lb, hlb, hallb⟩ := bindL_some hs
            refine ⟨w2, b1, ?_⟩
            refine wpIn_mono (hS body (some l) { s with hp := setO s.hp l (.loop .busy pend1 tmps1 size1 params1 assign1 body1 d1) } lb (Fence.wide.inRound x.blk) ρ1 _ w2 k hlb ⟨x, hl1, rfl⟩ ⟨b2.hr, hsr.tr, hsr.size, hsr.marks⟩) ?_
            intro e2 a2 w3 hp2
            obtain ⟨ae2, s2', ρ2, hm2, hex2, hup2, hsr2⟩ := hp2
            obtain ⟨sub2, hs2, hsub2⟩ := hallb _ hm2
            have hl2 := hup2.ext _ _ hl1
            simp only at hs2
            split at hs2
            · cases hs2
            · split at hs2
              · rename_i st3 pend3 tmps3 size3 params3 assign3 body3 d3 hg3
                have fin : ∀ (jump : Option Code) (y : AV × Hp), y = (AV.bool jump.isNone, setO s2'.hp l (.loop (if jump.isNone then .ready else .done) jump tmps3 size3 params3 assign3 body3 d3)) → y ∈ sub2 →
                    ∃ v w', (Instr.endRound x.blk jump).run P w3 = .ok v w' ∧ Answers E h ρ w rs (.returned v) w' := by
                  intro jump y hy hmem
                  obtain ⟨w4, e1, e2⟩ := endRound_sound (P := P) hsr2.hr hl2 hg3 jump
                  subst hy
                  exact ⟨_, w4, e1, _, _, ρ2, _, hsub _ (hsub2 _ hmem), rfl, ((hup.trans b2).trans hup2).trans e2, .bool _⟩
                cases ae2 with
                | normal =>
                  cases e2 <;> first | exact hex2.elim | skip
                  cases hs2
                  exact fin none _ rfl (List.mem_singleton.2 rfl)
                | ret =>
                  cases e2 <;> first | exact hex2.elim | skip
                  cases hs2
                  exact fin (some .ret) _ rfl (List.mem_singleton.2 rfl)
                | exit id =>
                  cases e2 <;> first | exact hex2.elim | skip
                  cases hs2
                  have : id = _ := hex2
                  subst this
                  exact fin (some (.exit id)) _ rfl (List.mem_singleton.2 rfl)
              · cases hs2
          · cases hs
  · cases hq
end
end Go.Refl
/- One operation, and a region in the order of its text. -/
namespace Go.Refl
open Go

section
variable {P : Program} {E : Env} {h : Hp} {ρ : Rho} {w : World} {t : Tr AV} {a : Act} {k : Nat}

theorem wanted_sound (ht : TR ρ t a.tmps) {ops : Array Oper} {o : Oper} {b : Bool} (hq : wanted ops o t = some b) : Region.wanted o (yielded ops a.tmps) = b := by
  unfold wanted at hq
  unfold Region.wanted
  split at hq
  · rename_i hg
    cases hq
    rw [hg]
  · rename_i j want hg
    rw [hg]
    simp only
    split at hq
    · rename_i d hd
      have hy : ∀ x, t.get d = some x → ∃ v, a.tmps[d]? = some v ∧ VR ρ x v := fun x hx => ht d x hx
      split at hq
      · rename_i c hc
        obtain ⟨v, h1, h2⟩ := hy _ hc
        cases h2
        cases hq
        simp [yielded, hd, h1]
      · rename_i hc
        obtain ⟨v, h1, h2⟩ := hy _ hc
        obtain ⟨vs, rfl, h3⟩ := VR.tup_iff.1 h2
        cases hq
        simp [yielded, hd, h1]
      · cases hq
    · cases hq

theorem putT_sound (ht : TR ρ t a.tmps) {sz : Nat} (hs : a.tmps.size = sz) {d : Option Tmp} {x : AV} {v : Value} (hv : VR ρ x v) {t' : Tr AV} (hq : putT sz t d x = some t') :
    TR ρ t' (a.put d v).tmps ∧ (a.put d v).tmps.size = sz ∧ (a.put d v).defers = a.defers := by
  unfold putT at hq
  split at hq
  · rename_i d
    split at hq
    · rename_i hlt
      cases hq
      have hlt : d < a.tmps.size := by rw [hs]; simpa [Nat.blt_eq] using hlt
      exact ⟨ht.put hlt hv, by simpa [Act.put] using hs, rfl⟩
    · cases hq
  · cases hq
    exact ⟨ht, hs, rfl⟩

theorem undef_rel (ρ : Rho) : VR ρ undefA undef := VR.tup_iff.2 ⟨#[], rfl, .nil ρ⟩

theorem semAt_run {F : Fence} {rnd : Option Nat} (hF : FenceOk F rnd ρ) {o : Oper} (hnd : ∀ c, o.op ≠ .defer c) : o.semAt F.round a.eval = execOp a.eval o := by
  cases rnd with
  | none => cases hF; rfl
  | some l => obtain ⟨x, _, rfl⟩ := hF; exact Oper.semAt_some _ _ _ hnd

theorem oneOp_wp (hE : EnvOk P E) (hK : KnownOk P E) {ex : Exec} (hS : Sound P E ex) {F : Fence} {rnd : Option Nat} (hF : FenceOk F rnd ρ) (hr : HR E h ρ w) (ht : TR ρ t a.tmps) {o : Oper} {rs : List (AV × Hp)}
    (hq : oneOp E ex o t h = some rs) {K : Act → World → Prop} {Q : Exit → Act → World → Prop}
    (hK' : ∀ x h' ρ' v w', (x, h') ∈ rs → Up E h ρ w h' ρ' w' → VR ρ' x v → K (a.put o.dst v) w') : o.wpIn F k P a w K Q := by
  refine ⟨fun f _ => hF.fn f, ?_⟩
  have hnd : ∀ c, o.op ≠ .defer c := by
    intro c hc
    unfold oneOp at hq
    rw [hc] at hq
    simp only [cls, loudOp, hc] at hq
    cases hq
  rw [semAt_run hF hnd]
  have prim : Goes P E h ρ w (execOp a.eval o) rs → o.uponIn F k P a K Q ((execOp a.eval o).run P w) := by
    rintro ⟨x, h', ρ', v, w', nx, hm, hrun, hnx, hup, hv⟩
    rw [hrun]
    rcases hnx with rfl | ⟨rfl, rfl⟩
    · exact hK' x h' ρ' v w' hm hup hv
    · exact hK' x h' ρ' _ w' hm hup hv
  unfold oneOp at hq
  split at hq
  · split at hq
    · rename_i v hv
      cases hq
      obtain ⟨v', h1, h2⟩ := quiet_sound hE hr ht hv
      rw [h2]
      exact hK' v h ρ v' w (List.mem_singleton.2 rfl) (Up.refl hr) h1
    · cases hq
  · split at hq
    · rename_i ob v hv
      cases hq
      obtain ⟨sh, kap, v', w', h1, h2, h3⟩ := alloc_sound hE hr ht hv
      rw [h1]
      exact hK' v _ _ v' w' (List.mem_singleton.2 rfl) h2 h3
    · cases hq
  · by_cases hc : ∃ c f, o.op = .call c ∧ c.callee = .value f
    · obtain ⟨c, f, ho, hcf⟩ := hc
      unfold loudOp at hq
      rw [ho] at hq
      simp only [hcf] at hq
      split at hq
      · rename_i f' fst cap hf
        split at hq
        · rename_i args hargs
          obtain ⟨fst', cap', hfv, h1, h2⟩ := VR.fn_iff.1 (evalO_sound hr ht hf)
          have hvs := args_sound hr ht hargs
          have hall : VL ρ (fst ++ args ++ cap) (fst' ++ c.args.map a.eval ++ cap').toList := by
            simp only [Array.toList_append]
            exact (h1.append hvs).append h2
          have hrun : (execOp a.eval o).run P w = (callFunc f' (fst' ++ c.args.map a.eval ++ cap')).run P w := by
            simp [execOp, ho, resolve, hcf, hfv, Deferred.ofValue, invoke]
          rw [hrun]
          rcases callFn_sound hE hK hS hr hall hq with ⟨g1, g2⟩ | ⟨x, h', ρ', v, w', g1, g2, g3, g4⟩
          · rw [g1]
            refine ⟨fun hd => hF.depth hd, CallsIn.mono (hF.calls (g2 (k - 1))) fun e w' hA => ?_⟩
            obtain ⟨x, h', ρ', v, m1, rfl, m3, m4⟩ := hA
            exact hK' x h' ρ' v w' m1 m3 m4
          · rw [g2]
            exact hK' x h' ρ' v w' g1 g3 g4
        · cases hq
      · rename_i l hf
        split at hq
        · rename_i args hargs
          have hvs := args_sound hr ht hargs
          have hfv := evalO_sound hr ht hf
          generalize hv' : a.eval f = cv at hfv
          cases hfv with
          | yl _ x hl =>
            obtain ⟨f', tmps, assign, body, g1, g2⟩ := yieldFn_sound (P := P) hS hr hl hvs hq
            have hrun : (execOp a.eval o).run P w = .ok (.round x.blk f' tmps assign body) w := by
              simp [execOp, ho, resolve, hcf, hv', Deferred.ofValue, invoke, g1]
            rw [hrun]
            refine ⟨fun hd => hF.depth hd, RoundIn.mono (hF.rounds (g2 (k - 1))) fun e w' hA => ?_⟩
            obtain ⟨x, h', ρ', v, m1, rfl, m3, m4⟩ := hA
            exact hK' x h' ρ' v w' m1 m3 m4
        · cases hq
      · cases hq
    · exact prim (loudPrim_sound hE hr ht hq (fun c f h1 h2 => hc ⟨c, f, h1, h2⟩))

theorem opsRun_wp (hE : EnvOk P E) (hK : KnownOk P E) {ex : Exec} (hS : Sound P E ex) {F : Fence} {rnd : Option Nat} {ops : Array Oper} {sz : Nat} {Q : Exit → Act → World → Prop} :
    ∀ {os : List Oper} {t : Tr AV} {h : Hp} {rs : List (Tr AV × Hp)} {ρ : Rho} {a : Act} {w : World}, opsRun E ex ops sz os t h = some rs → FenceOk F rnd ρ → HR E h ρ w → TR ρ t a.tmps → a.tmps.size = sz →
      (∀ t' h' ρ' a' w', (t', h') ∈ rs → Up E h ρ w h' ρ' w' → TR ρ' t' a'.tmps → a'.tmps.size = sz → a'.defers = a.defers → Q .normal a' w') → wpListIn F k P ops Q os a w
  | [], t, h, rs, ρ, a, w, hq, hF, hr, ht, hs, hQ => by
    simp only [opsRun] at hq; cases hq
    exact hQ t h ρ a w (List.mem_singleton.2 rfl) (Up.refl hr) ht hs rfl
  | o :: os, t, h, rs, ρ, a, w, hq, hF, hr, ht, hs, hQ => by
    simp only [opsRun] at hq
    simp only [wpListIn]
    split at hq
    · rename_i hw
      rw [wanted_sound ht hw, if_pos rfl]
      obtain ⟨l, hl, hall⟩ := bindL_some hq
      refine oneOp_wp hE hK hS hF hr ht hl fun x h' ρ' v w' hm hup hv => ?_
      obtain ⟨sub, hsub, hmem⟩ := hall _ hm
      simp only at hsub
      split at hsub
      · rename_i t' hput
        obtain ⟨p1, p2, p3⟩ := putT_sound (ht.ext hup.ext) hs hv hput
        refine opsRun_wp hE hK hS hsub (hF.ext hup.ext) hup.hr p1 p2 fun t2 h2 ρ2 a2 w2 m1 m2 m3 m4 m5 => ?_
        exact hQ t2 h2 ρ2 a2 w2 (hmem _ m1) (hup.trans m2) m3 m4 (m5.trans p3)
      · cases hsub
    · rename_i hw
      rw [wanted_sound ht hw, if_neg (by simp)]
      refine ⟨fun f _ => hF.fn f, ?_⟩
      split at hq
      · rename_i t' hput
        obtain ⟨p1, p2, p3⟩ := putT_sound ht hs (undef_rel ρ) hput
        exact opsRun_wp hE hK hS hq hF hr p1 p2 fun t2 h2 ρ2 a2 w2 m1 m2 m3 m4 m5 => hQ t2 h2 ρ2 a2 w2 m1 m2 m3 m4 (m5.trans p3)
      · cases hq
    · cases hq
end
end Go.Refl
/- The code's own forms. -/
namespace Go.Refl
open Go

section
variable {P : Program} {E : Env} {h : Hp} {ρ : Rho} {w : World} {t : Tr AV} {a : Act} {k : Nat} {F : Fence} {n : Nat} {Q : Exit → Act → World → Prop}

theorem exitTo_short {id : Nat} : ∀ {k k' : List Item}, exitTo id k = some k' → k'.length ≤ k.length
  | [], k', h => by simp [exitTo] at h
  | x :: k, k', h => by
    have key : exitTo id k = some k' → k'.length ≤ (x :: k).length := fun h => by
      have := exitTo_short h
      simp; omega
    cases x with
    | inBlock id' =>
      simp only [exitTo] at h
      split at h
      · cases h; simp
      · exact key h
    | _ => exact key (by simpa [exitTo] using h)

theorem todo_ne {b : Frame} {a a' : Act} {k k' : List Item} {cs cs' : List Frame} {w w' : World} (h : k.length ≠ k'.length) : lone (b.atR a k) cs w ≠ lone (b.atR a' k') cs' w' := by
  intro e
  have : (lone (b.atR a k) cs w).gs = (lone (b.atR a' k') cs' w').gs := by rw [e]
  simp [lone, Frame.atR] at this
  exact h (by rw [this.1.2.1])

theorem loop_unroll {c : Code} (hg : ∀ l a w, ¬ Q (.goto l) a w) (hp : ∀ ch a w, ¬ Q (.panic ch) a w) (ho : ∀ a w, ¬ Q .outgrown a w)
    (h : c.wpIn F n P (Exit.then (fun a w => (Code.loop c).wpIn F n P Q a w) Q) a w) : (Code.loop c).wpIn F n P Q a w := by
  intro b k cs hro hb hr
  obtain ⟨e, a₁, w₁, hq, harr⟩ := h b (.inLoop c :: k) cs hro hb hr
  have h0 : (lone (b.atR a (.code (.loop c) :: k)) cs w).fenced P F := fenced_calm hb hr rfl
  cases e with
  | normal =>
    obtain ⟨e₂, a₂, w₂, hq₂, harr₂⟩ := hq b k cs hro hb hr
    refine ⟨e₂, a₂, w₂, hq₂, .of_steps (.head h0 stepR_loop harr) ?_⟩
    have sw : ∀ t, t ≠ lone (b.atR a₁ (.code (.loop c) :: k)) cs w₁ → StepsIn (Machine.fenced P F) P (lone (b.atR a₁ (.code (.loop c) :: k)) cs w₁) t → StepsIn (Machine.fenced P F) P (lone (b.atR a₁ (.inLoop c :: k)) cs w₁) t := by
      intro t hne hs
      cases hs with
      | refl => exact absurd rfl hne
      | head hI hst hrest =>
        rw [stepR_loop] at hst
        cases hst
        exact .head (fenced_calm hb hr rfl) stepR_inLoop hrest
    cases e₂ with
    | normal => exact sw _ (todo_ne (by simp)) harr₂
    | exit id =>
      refine ⟨fun k' hk => sw _ (todo_ne ?_) (harr₂.1 k' hk), fun hr hk => let ⟨k₁, h1, h2⟩ := harr₂.2 hr hk; ⟨k₁, h1, sw _ ?_ h2⟩⟩
      · have := exitTo_short hk
        simp; omega
      · intro e
        have : (lone (b.atR a₂ (.code (.exit id) :: k₁)) cs w₂).gs = (lone (b.atR a₁ (.code (.loop c) :: k)) cs w₁).gs := by rw [e]
        simp [lone, Frame.atR] at this
    | ret =>
      refine ⟨fun hn => let ⟨todo, hs⟩ := harr₂.1 hn; ⟨todo, sw _ ?_ hs⟩, fun hn => let ⟨k₁, hs⟩ := harr₂.2 hn; ⟨k₁, sw _ ?_ hs⟩⟩
      · intro e
        have : (lone { b.atR a₂ todo with mode := .returning } cs w₂).gs = (lone (b.atR a₁ (.code (.loop c) :: k)) cs w₁).gs := by rw [e]
        simp [lone, Frame.atR] at this
      · intro e
        have : (lone (b.atR a₂ (.code .ret :: k₁)) cs w₂).gs = (lone (b.atR a₁ (.code (.loop c) :: k)) cs w₁).gs := by rw [e]
        simp [lone, Frame.atR] at this
    | goto l => exact absurd hq₂ (hg _ _ _)
    | panic ch => exact absurd hq₂ (hp _ _ _)
    | outgrown => exact absurd hq₂ (ho _ _)
  | exit id => exact ⟨_, a₁, w₁, hq, .of_steps (.one h0 stepR_loop) (.pass (x := .inLoop c) rfl (fun _ _ => .inl (by simp)) harr)⟩
  | goto l => exact absurd hq (hg _ _ _)
  | ret => exact ⟨_, a₁, w₁, hq, .of_steps (.one h0 stepR_loop) (.pass (x := .inLoop c) rfl (fun _ _ => .inl (by simp)) harr)⟩
  | panic ch => exact absurd hq (hp _ _ _)
  | outgrown => exact absurd hq (ho _ _)

theorem stepR_scope {b : Frame} {k : List Item} {cs : List Frame} {c : Code} : step P (lone (b.atR a (.code (.scope c) :: k)) cs w) = .next (lone (b.atR a (.code c :: .inScope c :: k)) cs w) :=
  step_lone_go (by simp [stepG, stepG.exec, Frame.atR])
theorem stepR_inScope {b : Frame} {k : List Item} {cs : List Frame} {c : Code} : step P (lone (b.atR a (.inScope c :: k)) cs w) = .next (lone (b.atR a k) cs w) :=
  step_lone_go (by simp [stepG, stepG.exec, Frame.atR])

theorem scope_plain {c : Code} (hg : ∀ l a w, ¬ Q (.goto l) a w) (h : c.wpIn F n P Q a w) : (Code.scope c).wpIn F n P Q a w := by
  intro b k cs hro hb hr
  obtain ⟨e, a₁, w₁, hq, harr⟩ := h b (.inScope c :: k) cs hro hb hr
  have h0 : (lone (b.atR a (.code (.scope c) :: k)) cs w).fenced P F := fenced_calm hb hr rfl
  cases e with
  | normal => exact ⟨.normal, a₁, w₁, hq, .head h0 stepR_scope (StepsIn.trans harr (.one (fenced_calm hb hr rfl) stepR_inScope))⟩
  | exit id => exact ⟨.exit id, a₁, w₁, hq, fun k' hk => .head h0 stepR_scope (harr.1 k' (by simp [exitTo, hk])), fun hr' hk => let ⟨k₁, h1, h2⟩ := harr.2 hr' (by simp [exitTo, hk]); ⟨k₁, h1, .head h0 stepR_scope h2⟩⟩
  | goto l => exact absurd hq (hg _ _ _)
  | ret => exact ⟨_, a₁, w₁, hq, .of_steps (.one h0 stepR_scope) harr⟩
  | panic ch => exact ⟨_, a₁, w₁, hq, .of_steps (.one h0 stepR_scope) harr⟩
  | outgrown => exact ⟨_, a₁, w₁, hq, .of_steps (.one h0 stepR_scope) harr⟩

theorem Post.noGoto {rs : List (AE × St)} (l : Nat) (a' : Act) (w' : World) : ¬ Post E h ρ w rs (.goto l) a' w' := by
  rintro ⟨ae, s, ρ', _, hex, _⟩
  cases ae <;> exact hex.elim
theorem Post.noPanic {rs : List (AE × St)} (c : List PanicEntry) (a' : Act) (w' : World) : ¬ Post E h ρ w rs (.panic c) a' w' := by
  rintro ⟨ae, s, ρ', _, hex, _⟩
  cases ae <;> exact hex.elim
theorem Post.noOut {rs : List (AE × St)} (a' : Act) (w' : World) : ¬ Post E h ρ w rs .outgrown a' w' := by
  rintro ⟨ae, s, ρ', _, hex, _⟩
  cases ae <;> exact hex.elim

theorem Post.then {h' : Hp} {ρ' : Rho} {w' : World} (hu : Up E h ρ w h' ρ' w') {rs rs' : List (AE × St)} (hm : ∀ x ∈ rs', x ∈ rs) {e : Exit} {a2 : Act} {w2 : World} (hp : Post E h' ρ' w' rs' e a2 w2) : Post E h ρ w rs e a2 w2 := by
  obtain ⟨ae, s, ρ2, h1, h2, h3, h4⟩ := hp
  exact ⟨ae, s, ρ2, hm _ h1, h2, hu.trans h3, h4⟩

def DrawSound (P : Program) (E : Env) (ex : Exec) : Prop := ∀ (id : Nat) (ops : Array Oper) (rnd : Option Nat) (s : St) (F : Fence) (ρ : Rho) (a : Act) (w : World) (k : Nat) (t : Tr AV) (h : Hp),
  drawRun E ex ops s.size s.hp.next ops.toList (beforeL ops.toList []) 0 ⟨[], [], [], []⟩ (freshT ops.toList (beforeL ops.toList []) 0 s.tmps) { s.hp with next := s.hp.next + ops.size } = some (t, h) → FenceOk F rnd ρ → SR E s ρ a w →
  (Code.region id ops true).wpIn F k P (Post E s.hp ρ w [(.normal, { s with tmps := t, hp := h })]) a w

theorem codeRun_sound (hE : EnvOk P E) (hK : KnownOk P E) {ex : Exec} (hS : Sound P E ex) (hD : DrawSound P E ex) : Sound P E (codeRun E ex) := by
  intro c rnd s rs F ρ a w k hq hF hs
  unfold codeRun at hq
  split at hq
  · cases hq
    exact wpIn_skip ⟨.normal, s, ρ, List.mem_singleton.2 rfl, trivial, Up.refl hs.hr, hs⟩
  · cases hq
    exact wpIn_label ⟨.normal, s, ρ, List.mem_singleton.2 rfl, trivial, Up.refl hs.hr, hs⟩
  · rename_i id ops draw
    split at hq
    · obtain ⟨l, hl, hall⟩ := bindL_some hq
      refine wpIn_region_list (opsRun_wp hE hK hS hl hF hs.hr hs.tr hs.size fun t' h' ρ' a' w' m1 m2 m3 m4 m5 => ?_)
      obtain ⟨sub, hsub, hmem⟩ := hall _ m1
      cases hsub
      exact ⟨.normal, _, ρ', hmem _ (List.mem_singleton.2 rfl), trivial, m2, ⟨m2.hr, m3, m4, by rw [m5]; exact hs.marks.ext m2.ext⟩⟩
    · split at hq
      · rename_i t' h' hdr
        cases hq
        exact hD id ops rnd s F ρ a w k _ _ hdr hF hs
      · cases hq
  · rename_i x y
    obtain ⟨l, hl, hall⟩ := bindL_some hq
    refine wpIn_seq (wpIn_mono (hS x rnd s l F ρ a w k hl hF hs) fun e a1 w1 hp => ?_)
    obtain ⟨ae, s1, ρ1, m1, m2, m3, m4⟩ := hp
    obtain ⟨sub, hsub, hmem⟩ := hall _ m1
    cases ae with
    | normal =>
      cases e <;> first | exact m2.elim | skip
      exact wpIn_mono (hS y rnd s1 sub F ρ1 a1 w1 k hsub (hF.ext m3.ext) m4) fun e a2 w2 hp => hp.then m3 hmem
    | exit id =>
      cases e <;> first | exact m2.elim | skip
      cases hsub
      exact ⟨_, s1, ρ1, hmem _ (List.mem_singleton.2 rfl), m2, m3, m4⟩
    | ret =>
      cases e <;> first | exact m2.elim | skip
      cases hsub
      exact ⟨_, s1, ρ1, hmem _ (List.mem_singleton.2 rfl), m2, m3, m4⟩
  · rename_i x y z
    split at hq
    · rename_i hc
      have hv := evalO_sound hs.hr hs.tr hc
      generalize hv' : a.eval x = cv at hv
      cases hv
      exact wpIn_cond_true hv' (hS y rnd s rs F ρ a w k hq hF hs)
    · rename_i hc
      have hv := evalO_sound hs.hr hs.tr hc
      generalize hv' : a.eval x = cv at hv
      cases hv
      exact wpIn_cond_false hv' (hS z rnd s rs F ρ a w k hq hF hs)
    · cases hq
  · rename_i id b
    obtain ⟨l, hl, hall⟩ := bindL_some hq
    refine wpIn_block (wpIn_mono (hS b rnd s l F ρ a w k hl hF hs) fun e a1 w1 hp => ?_)
    obtain ⟨ae, s1, ρ1, m1, m2, m3, m4⟩ := hp
    obtain ⟨sub, hsub, hmem⟩ := hall _ m1
    cases ae with
    | normal =>
      cases e <;> first | exact m2.elim | skip
      cases hsub
      exact ⟨_, s1, ρ1, hmem _ (List.mem_singleton.2 rfl), m2, m3, m4⟩
    | exit i =>
      cases e <;> first | exact m2.elim | skip
      rename_i j
      have hij : i = j := m2
      subst hij
      simp only [Exit.inBlock]
      simp only at hsub
      split at hsub
      · rename_i hb
        have := Nat.eq_of_beq_eq_true hb
        subst this
        cases hsub
        rw [if_pos rfl]
        exact ⟨.normal, s1, ρ1, hmem _ (List.mem_singleton.2 rfl), trivial, m3, m4⟩
      · rename_i hb
        cases hsub
        rw [if_neg (fun e => by subst e; simp at hb)]
        exact ⟨.exit i, s1, ρ1, hmem _ (List.mem_singleton.2 rfl), rfl, m3, m4⟩
    | ret =>
      cases e <;> first | exact m2.elim | skip
      cases hsub
      exact ⟨_, s1, ρ1, hmem _ (List.mem_singleton.2 rfl), m2, m3, m4⟩
  · rename_i b
    obtain ⟨l, hl, hall⟩ := bindL_some hq
    refine loop_unroll Post.noGoto Post.noPanic Post.noOut (wpIn_mono (hS b rnd s l F ρ a w k hl hF hs) fun e a1 w1 hp => ?_)
    obtain ⟨ae, s1, ρ1, m1, m2, m3, m4⟩ := hp
    obtain ⟨sub, hsub, hmem⟩ := hall _ m1
    cases ae with
    | normal =>
      cases e <;> first | exact m2.elim | skip
      exact wpIn_mono (hS (.loop b) rnd s1 sub F ρ1 a1 w1 k hsub (hF.ext m3.ext) m4) fun e a2 w2 hp => hp.then m3 hmem
    | exit id =>
      cases e <;> first | exact m2.elim | skip
      cases hsub
      exact ⟨_, s1, ρ1, hmem _ (List.mem_singleton.2 rfl), m2, m3, m4⟩
    | ret =>
      cases e <;> first | exact m2.elim | skip
      cases hsub
      exact ⟨_, s1, ρ1, hmem _ (List.mem_singleton.2 rfl), m2, m3, m4⟩
  · rename_i b
    exact scope_plain Post.noGoto (hS b rnd s rs F ρ a w k hq hF hs)
  · cases hq
    exact wpIn_exit ⟨.exit _, s, ρ, List.mem_singleton.2 rfl, rfl, Up.refl hs.hr, hs⟩
  · cases hq
    exact wpIn_ret ⟨.ret, s, ρ, List.mem_singleton.2 rfl, trivial, Up.refl hs.hr, hs⟩
  · rename_i f params assign body
    split at hq
    · rename_i f0 fst cap hf
      split at hq
      · cases hq
      · rename_i fi hfi
        split at hq
        · cases hq
        · rename_i h0 ms hen
          obtain ⟨l, hl, hall⟩ := bindL_some hq
          obtain ⟨fst', cap', hfv, hv1, hv2⟩ := VR.fn_iff.1 (evalO_sound hs.hr hs.tr hf)
          obtain ⟨fn0, n1, n2, n3, n4, n5⟩ := hE.fns f0 fi hfi
          refine wpIn_rangeFunc fun fn _ => ?_
          have hent : ∃ (w1 : World) (mark : List Deferred) (d : Nat) (ρ1 : Rho), Up E s.hp ρ w h0 ρ1 w1 ∧ MarksR ρ1 ms (mark ++ a.defers) ∧
              (Instr.enterLoop fn a.tmps params assign body F.round).run P w = .ok (w1.heap.size, mark) { w1 with heap := w1.heap.push (.loop { state := .ready, pending := none, fn, tmps := a.tmps, params, assign, body, defers := d }) } := by
            unfold enterR at hen
            cases rnd with
            | none =>
              have hF : F = Fence.wide := hF
              subst hF
              cases hen
              refine ⟨{ w with heap := w.heap.push (.deferred (some [])) }, [{ target := .collected w.heap.size, args := #[] }], w.heap.size, _, Up.new_block hs.hr (o := .defd) (ob := .deferred (some [])) 0 0 rfl rfl rfl rfl rfl, ?_, ?_⟩
              · exact ⟨_, a.defers, _, rfl, Rho.add_same _ _ _, rfl, hs.marks.ext (Rho.add_ext hs.hr.next_none)⟩
              · simp [Instr.enterLoop, run_newObj]
                rfl
            | some l0 =>
              obtain ⟨x, hx, rfl⟩ := hF
              simp only at hen
              split at hen
              · rename_i hg
                cases hen
                obtain ⟨x', ob, h1, h2, lp, h3, _⟩ := hs.hr.obj l0 _ hg
                rw [hx] at h1; cases h1
                subst h3
                have g1 := run_getObj (P := P) h2 (by simp)
                exact ⟨w, [], lp.defers, ρ, Up.refl hs.hr, hs.marks, by simp [Instr.enterLoop, Instr.getLoop, g1, run_newObj]⟩
              · cases hen
          obtain ⟨w1, mark, d, ρ1, hup1, hmk, hrun⟩ := hent
          have hup2 := Up.new_block (w' := { w1 with heap := w1.heap.push (.loop { state := .ready, pending := none, fn, tmps := a.tmps, params, assign, body, defers := d }) }) hup1.hr (o := .loop .ready none s.tmps s.size params.toList assign body s.hp.next)
            (ob := .loop { state := .ready, pending := none, fn, tmps := a.tmps, params, assign, body, defers := d }) 0 0 rfl rfl rfl rfl
            ⟨_, rfl, rfl, rfl, (hs.tr.ext hup1.ext).ext (Rho.add_ext hup1.hr.next_none), hs.size, rfl, rfl, rfl⟩
          have hlx : (ρ1.add h0.next ⟨w1.heap.size, 0, 0⟩) h0.next = some ⟨w1.heap.size, 0, 0⟩ := Rho.add_same _ _ _
          have hex := (hup1.trans hup2).ext
          have hargs : VL (ρ1.add h0.next ⟨w1.heap.size, 0, 0⟩) (fst ++ [.yl h0.next] ++ cap) (fst' ++ #[Value.func (.yield w1.heap.size) #[] #[]] ++ cap').toList := by
            simp only [Array.toList_append]
            exact ((hv1.ext hex).append (.cons (.yl _ _ hlx) (.nil _))).append (hv2.ext hex)
          have hcf := callFn_sound hE hK hS hup2.hr hargs hl
          have henter : ∀ (args : Array Value) (w2 : World), (callFunc f0 args).run P w2 = .ok (.enter f0 args) w2 := fun args w2 => by simp [callFunc, run_program, n1, n5, n2]
          obtain ⟨_, hci⟩ := Or.resolve_right hcf (by rintro ⟨x, h', ρ', v, w', g1, g2, _⟩; rw [henter] at g2; cases g2)
          refine ⟨w1.heap.size, mark, { w1 with heap := w1.heap.push (.loop { state := .ready, pending := none, fn, tmps := a.tmps, params, assign, body, defers := d }) },
            { target := .fn (.func f0) cap', args := fst' ++ #[Value.func (.yield w1.heap.size) #[] #[]] },
            { w1 with heap := w1.heap.push (.loop { state := .ready, pending := none, fn, tmps := a.tmps, params, assign, body, defers := d }) }, f0, fst' ++ #[Value.func (.yield w1.heap.size) #[] #[]] ++ cap',
            { w1 with heap := w1.heap.push (.loop { state := .ready, pending := none, fn, tmps := a.tmps, params, assign, body, defers := d }) }, hrun, ?_, fun f' _ => hF.fn f', ?_, fun hd => hF.depth hd, ?_⟩
          · have hcv : a.eval (.const (.func (.yield w1.heap.size) #[] #[])) = .func (.yield w1.heap.size) #[] #[] := rfl
            simp [resolve, hfv, Deferred.ofValue, hcv]
          · simp only [invoke]; exact henter _ _
          · refine CallsIn.mono (hF.calls (hci (k - 1))) ?_
            intro e w3 hA
            obtain ⟨x, h', ρ', v, m1, rfl, m3, m4⟩ := hA
            obtain ⟨sub, hsub, hmem⟩ := hall _ m1
            simp only at hsub
            split at hsub
            · rename_i st pend t1 sz1 ps1 as1 bd1 d1 hg
              split at hsub
              · cases hsub
              · rename_i hnb
                obtain ⟨x', ob, q1, q2, lp, q3, q4, q5, _⟩ := m3.hr.obj _ _ hg
                have hlx' := m3.ext _ _ hlx
                rw [hlx'] at q1; cases q1
                subst q3
                have g1 := run_getObj (P := P) q2 (by simp)
                have g2 := run_setObj (P := P) (o' := .loop { lp with state := .exhausted }) q2 (by simp)
                have hbusy : (lp.state == LoopState.busy) = false := by
                  rw [q4]
                  cases st <;> first | rfl | exact absurd rfl hnb
                have hend : (Instr.endLoop w1.heap.size).run P w3 = .ok lp.pending { w3 with heap := w3.heap.setIfInBounds w1.heap.size (.loop { lp with state := .exhausted }) } := by
                  simp only [Instr.endLoop, Instr.getLoop, Sem.run_bind, g1, Result.andThen_ok, Sem.run_pure, hbusy, Bool.false_eq_true, if_false, g2]
                have hk : Up E h' ρ' w3 (delO h' h0.next) ρ' { w3 with heap := w3.heap.setIfInBounds w1.heap.size (.loop { lp with state := .exhausted }) } := by
                  refine Up.kill m3.hr ⟨_, hg⟩ hlx' (fun c hc => ?_) (by simp) rfl rfl rfl
                  rw [Array.getElem?_setIfInBounds_ne (Ne.symm hc)]
                have hall' := ((hup1.trans hup2).trans m3).trans hk
                have hex2 : Ext ρ1 ρ' := fun b l h => m3.ext _ _ (hup2.ext _ _ h)
                have hsr : SR E { s with hp := delO h' h0.next, marks := ms } ρ' { a with defers := mark ++ a.defers } { w3 with heap := w3.heap.setIfInBounds w1.heap.size (.loop { lp with state := .exhausted }) } :=
                  ⟨hk.hr, hs.tr.ext hall'.ext, hs.size, hmk.ext hex2⟩
                refine ⟨lp.pending, _, hend, ?_⟩
                rw [q5] at hall' hsr ⊢
                split at hsub
                · cases hsub
                  exact ⟨.normal, _, ρ', hmem _ (List.mem_singleton.2 rfl), trivial, hall', hsr⟩
                · cases hsub
                  exact wpIn_ret ⟨.ret, _, ρ', hmem _ (List.mem_singleton.2 rfl), trivial, hall', hsr⟩
                · cases hsub
                  exact wpIn_exit ⟨.exit _, _, ρ', hmem _ (List.mem_singleton.2 rfl), rfl, hall', hsr⟩
                · cases hsub
            · cases hsub
    · cases hq
  · cases hq
end
end Go.Refl
