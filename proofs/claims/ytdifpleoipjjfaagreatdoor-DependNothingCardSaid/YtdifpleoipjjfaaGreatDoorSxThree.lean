/- That evaluator is sound: regions, loops over lengths, whole functions. -/
import Derived.Test.YtdifpleoipjjfaaGreatDoorSxTwo
namespace Go.Sx
open Go Go.Refl Go.RowKit

section
variable {P : Program} {E : Env} {w0 w : World} {A : Given} {iv bl : List Nat} {s s' : SS} {a : Act} {ct : Nat → Option Ct} {N0 k : Nat}

theorem getT_set (l : List (Nat × SV)) (n : Nat) (v : SV) (m : Nat) : getT (setT l n v) m = if n = m then some v else getT l m := by
  unfold setT
  simp only [getT]
  by_cases h : n = m
  · subst h; simp
  · have : Nat.beq n m = false := by
      cases hb : Nat.beq n m with
      | true => exact absurd (Nat.eq_of_beq_eq_true hb) h
      | false => rfl
    rw [this, if_neg h]

theorem put_sound (hr : SR E.ty w0 A iv bl s a w) {d : Option Tmp} {v : SV} {u : Value} (hv : V E.ty w0 A iv bl v u) (h : putS s d v = some s') : SR E.ty w0 A iv bl s' (a.put d u) w := by
  unfold putS at h
  split at h
  · rename_i d
    split at h
    · rename_i hlt
      cases h
      have hlt : d < a.tmps.size := by rw [hr.size]; simpa [Nat.blt_eq] using hlt
      refine ⟨fun m x hm => ?_, by simpa [Act.put] using hr.size, hr.len, hr.own, hr.inj, hr.below, hr.facts, hr.nx, hr.defers⟩
      simp only at hm
      rw [getT_set] at hm
      simp only [Act.put]
      by_cases e : d = m
      · subst e
        rw [if_pos rfl] at hm
        cases hm
        exact ⟨u, by simp [hlt], hv⟩
      · rw [if_neg e] at hm
        obtain ⟨y, h1, h2⟩ := hr.tmps m x hm
        exact ⟨y, by rw [Array.getElem?_setIfInBounds_ne e]; exact h1, h2⟩
    · cases h
  · cases h
    exact ⟨hr.tmps, hr.size, hr.len, hr.own, hr.inj, hr.below, hr.facts, hr.nx, hr.defers⟩

/-- A truth is looked at. -/
theorem settle_sound (hr : SR E.ty w0 A iv bl s a w) {d : Nat} {v : SV} {f : Option (Nat × Pt)} {b : Bool} (hb : a.tmps[d]? = some (.bool b)) (hv : V E.ty w0 A iv bl v (.bool b)) (hf : ∀ k p, f = some (k, p) → v = .ltb k p) :
    SR E.ty w0 A iv bl (settle s d f b) a w := by
  refine ⟨fun m x hm => ?_, hr.size, hr.len, hr.own, hr.inj, hr.below, fun x hx => ?_, hr.nx, hr.defers⟩
  · simp only [settle] at hm
    rw [getT_set] at hm
    by_cases e : d = m
    · subst e
      rw [if_pos rfl] at hm
      cases hm
      exact ⟨_, hb, rfl⟩
    · rw [if_neg e] at hm
      exact hr.tmps m x hm
  · simp only [settle] at hx
    split at hx
    · rename_i p
      rcases List.mem_cons.1 hx with rfl | hx
      · have := hf x.1 x.2 rfl
        subst this
        obtain ⟨i, t, n, ad, l, c, h1, h2, h3, h4⟩ := hv
        have : i < l := by simpa using h4.symm
        exact ⟨i, t, n, ad, l, c, h1, h2, h3, this⟩
      · exact hr.facts x hx
    · exact hr.facts x hx

def WantR (E : Env) (w0 : World) (A : Given) (iv bl : List Nat) (a : Act) (ops : Array Oper) (o : Oper) : Want → Prop
  | .yes => Region.wanted o (yielded ops a.tmps) = true
  | .no => Region.wanted o (yielded ops a.tmps) = false
  | .both d f => ∃ j want b v, o.guard = some (j, want) ∧ a.tmps[d]? = some (.bool b) ∧ V E.ty w0 A iv bl v (.bool b) ∧ (∀ k p, f = some (k, p) → v = .ltb k p) ∧ Region.wanted o (yielded ops a.tmps) = (b == want)

theorem want_sound (hr : SR E.ty w0 A iv bl s a w) {ops : Array Oper} {o : Oper} {r : Want} (h : wantS ops o s.tmps = some r) : WantR E w0 A iv bl a ops o r := by
  unfold wantS at h
  split at h
  · rename_i hg
    cases h
    simp only [WantR, Region.wanted, hg]
  · rename_i j want hg
    split at h
    · rename_i d hd
      split at h
      · rename_i b hv
        obtain ⟨u, h1, h2⟩ := hr.tmps _ _ hv
        have h2 : u = .bool b := h2
        subst h2
        cases h
        cases hbw : b == want with
        | true => simpa [WantR, Region.wanted, hg, yielded, hd, h1] using hbw
        | false => simpa [WantR, Region.wanted, hg, yielded, hd, h1] using hbw
      · rename_i hv
        obtain ⟨u, h1, h2⟩ := hr.tmps _ _ hv
        have h2 : u = undef := h2
        subst h2
        cases h
        simp [WantR, Region.wanted, hg, yielded, hd, h1, undef]
      · rename_i hv
        obtain ⟨u, h1, h2⟩ := hr.tmps _ _ hv
        obtain ⟨b, rfl⟩ := id h2
        cases h
        exact ⟨j, want, b, _, hg, h1, h2, fun _ _ e => (by cases e), by simp [Region.wanted, hg, yielded, hd, h1]⟩
      · rename_i kk p hv
        obtain ⟨u, h1, h2⟩ := hr.tmps _ _ hv
        obtain ⟨i, t, n, ad, l, c, _, _, _, rfl⟩ := id h2
        cases h
        exact ⟨j, want, _, _, hg, h1, h2, fun _ _ e => (by cases e; rfl), by simp [Region.wanted, hg, yielded, hd, h1]⟩
      · cases h
    · cases h

def Sub (x y : List Nat) : Prop := ∀ (n i : Nat), x[n]? = some i → y[n]? = some i
theorem Sub.refl (x : List Nat) : Sub x x := fun _ _ h => h
theorem Sub.trans {x y z : List Nat} (h : Sub x y) (g : Sub y z) : Sub x z := fun n i k => g n i (h n i k)

theorem step_sound (hE : EnvOk P E) (hgd : Good E) (hK : Known P E.ty ct N0) (hA : Bound A N0) (hr : SR E.ty w0 A iv bl s a w) {ops : Array Oper} {Q : Exit → Act → World → Prop} {o : Oper} {os : List Oper} {want : Bool}
    (hw : Region.wanted o (yielded ops a.tmps) = want) (h : stepS E.ty ct o want s = some s')
    (hQ : ∀ a' w' bl', Sub bl bl' → SR E.ty w0 A iv bl' s' a' w' → wpListIn Fence.wide k P ops Q os a' w') : wpListIn Fence.wide k P ops Q (o :: os) a w := by
  simp only [wpListIn]
  unfold stepS at h
  split at h
  · rw [hw, if_pos rfl]
    split at h
    · rename_i v s1 hs1
      refine op_wp hE hgd hK hA hr hs1 fun u w' bl' h1 h2 h3 => ?_
      exact hQ _ _ bl' h1 (put_sound h3 h2 h)
    · cases h
  · rw [hw, if_neg (by simp)]
    exact ⟨fun _ _ => trivial, hQ _ _ bl (Sub.refl _) (put_sound (v := .undef) hr rfl h)⟩

theorem ops_sound (hE : EnvOk P E) (hgd : Good E) (hK : Known P E.ty ct N0) (hA : Bound A N0) {ops : Array Oper} {Q : Exit → Act → World → Prop} :
    ∀ {os : List Oper} {bl : List Nat} {s : SS} {l : List SS} {a : Act} {w : World}, sxOps E.ty ct ops os s = some l → SR E.ty w0 A iv bl s a w →
      (∀ s' bl' a' w', s' ∈ l → Sub bl bl' → SR E.ty w0 A iv bl' s' a' w' → Q .normal a' w') → wpListIn Fence.wide k P ops Q os a w
  | [], bl, s, l, a, w, h, hr, hQ => by
    simp only [sxOps] at h; cases h
    exact hQ s bl a w (List.mem_singleton.2 rfl) (Sub.refl _) hr
  | o :: os, bl, s, l, a, w, h, hr, hQ => by
    simp only [sxOps] at h
    split at h
    · rename_i hw
      have hw := want_sound hr hw
      split at h
      · rename_i s1 hs1
        exact step_sound hE hgd hK hA hr hw hs1 fun a' w' bl' h1 h2 => ops_sound hE hgd hK hA h h2 fun s' bl2 a2 w2 m1 m2 m3 => hQ s' bl2 a2 w2 m1 (h1.trans m2) m3
      · cases h
    · rename_i hw
      have hw := want_sound hr hw
      split at h
      · rename_i s1 hs1
        exact step_sound hE hgd hK hA hr hw hs1 fun a' w' bl' h1 h2 => ops_sound hE hgd hK hA h h2 fun s' bl2 a2 w2 m1 m2 m3 => hQ s' bl2 a2 w2 m1 (h1.trans m2) m3
      · cases h
    · rename_i d f hw
      obtain ⟨j, want, b, v, g1, g2, g3, g4, g5⟩ := want_sound hr hw
      rw [g1] at h
      simp only at h
      split at h
      · cases h
      · rename_i s1 hs1
        split at h
        · cases h
        · rename_i l1 hl1
          split at h
          · cases h
          · rename_i s2 hs2
            split at h
            · cases h
            · rename_i l2 hl2
              cases h
              have hset := settle_sound hr g2 g3 g4
              by_cases hbw : b = want
              · subst hbw
                refine step_sound hE hgd hK hA hset (want := true) (by simpa using g5) hs1 fun a' w' bl' h1 h2 => ops_sound hE hgd hK hA hl1 h2 fun s' bl2 a2 w2 m1 m2 m3 => hQ s' bl2 a2 w2 (List.mem_append_left _ m1) (h1.trans m2) m3
              · have hb' : b = !want := by cases b <;> cases want <;> simp_all
                subst hb'
                refine step_sound hE hgd hK hA hset (want := false) (by rw [g5]; simp) hs2 fun a' w' bl' h1 h2 => ops_sound hE hgd hK hA hl2 h2 fun s' bl2 a2 w2 m1 m2 m3 => hQ s' bl2 a2 w2 (List.mem_append_right _ m1) (h1.trans m2) m3
    · cases h
end
end Go.Sx
/- The code's own forms; loops over lengths. -/
namespace Go.Sx
open Go Go.Refl Go.RowKit

theorem mapS_mem {α β : Type} {f : α → Option (List β)} : ∀ {l : List α} {r : List β}, mapS f l = some r → ∀ x ∈ l, ∃ y, f x = some y ∧ ∀ z ∈ y, z ∈ r
  | [], _, _, x, hx => by cases hx
  | a :: as, r, h, x, hx => by
    simp only [mapS] at h
    split at h
    · cases h
    · rename_i y hy
      split at h
      · cases h
      · rename_i ys hys
        cases h
        rcases List.mem_cons.1 hx with rfl | hx
        · exact ⟨y, hy, fun z hz => List.mem_append_left _ hz⟩
        · obtain ⟨y', g1, g2⟩ := mapS_mem hys x hx
          exact ⟨y', g1, fun z hz => List.mem_append_right _ (g2 z hz)⟩

theorem memN_false {n : Nat} : ∀ {l : List Nat}, memN n l = false → n ∉ l
  | [], _ => by simp
  | m :: r, h => by
    simp only [memN] at h
    split at h
    · cases h
    · rename_i hb
      intro hm
      rcases List.mem_cons.1 hm with e | hm
      · subst e; simp at hb
      · exact memN_false h hm
theorem memN_true {n : Nat} : ∀ {l : List Nat}, memN n l = true → n ∈ l
  | [], h => by cases h
  | m :: r, h => by
    simp only [memN] at h
    split at h
    · rename_i hb
      rw [Nat.eq_of_beq_eq_true hb]; exact List.mem_cons_self
    · exact List.mem_cons_of_mem _ (memN_true h)

theorem getT_cons (m n : Nat) (v : SV) (r : List (Nat × SV)) : getT ((m, v) :: r) n = if m = n then some v else getT r n := getT_set r m v n

theorem headT_get {mods : List Nat} {c x : Nat} : ∀ {l : List (Nat × SV)} {seen : List Nat} {m : Nat} {v : SV}, getT (headT mods c x l seen) m = some v →
    m ∉ seen ∧ ∃ v0, getT l m = some v0 ∧ ((v = v0 ∧ memN m mods = false) ∨ (m = c ∧ v = .iv x) ∨ (m ≠ c ∧ v = .anyI ∧ intLike v0 = true))
  | [], seen, m, v, h => by simp [headT, getT] at h
  | (m', v') :: r, seen, m, v, h => by
    have skip : ∀ {seen'}, (∀ y, y ∈ seen → y ∈ seen') → m' ∈ seen' → getT (headT mods c x r seen') m = some v →
        m ∉ seen ∧ ∃ v0, getT ((m', v') :: r) m = some v0 ∧ ((v = v0 ∧ memN m mods = false) ∨ (m = c ∧ v = .iv x) ∨ (m ≠ c ∧ v = .anyI ∧ intLike v0 = true)) := by
      intro seen' hs hm' h
      obtain ⟨g1, v0, g2, g3⟩ := headT_get h
      have hne : m' ≠ m := fun e => by subst e; exact g1 hm'
      exact ⟨fun hm => g1 (hs _ hm), v0, by rw [getT_cons, if_neg hne]; exact g2, g3⟩
    have put : ∀ {X : SV}, m' ∉ seen → ((X = v' ∧ memN m' mods = false) ∨ (m' = c ∧ X = .iv x) ∨ (m' ≠ c ∧ X = .anyI ∧ intLike v' = true)) → getT ((m', X) :: headT mods c x r (m' :: seen)) m = some v →
        m ∉ seen ∧ ∃ v0, getT ((m', v') :: r) m = some v0 ∧ ((v = v0 ∧ memN m mods = false) ∨ (m = c ∧ v = .iv x) ∨ (m ≠ c ∧ v = .anyI ∧ intLike v0 = true)) := by
      intro X hns hX h
      rw [getT_cons] at h
      by_cases e : m' = m
      · subst e
        rw [if_pos rfl] at h
        cases h
        exact ⟨hns, v', by rw [getT_cons, if_pos rfl], hX⟩
      · rw [if_neg e] at h
        exact skip (fun y hy => List.mem_cons_of_mem _ hy) List.mem_cons_self h
    simp only [headT] at h
    split at h
    · rename_i hm
      exact skip (fun _ h => h) (memN_true hm) h
    · rename_i hm
      have hns := memN_false hm
      split at h
      · rename_i hmo
        exact put hns (.inl ⟨rfl, hmo⟩) h
      · rename_i hmo
        split at h
        · rename_i hc
          exact put hns (.inr (.inl ⟨Nat.eq_of_beq_eq_true hc, rfl⟩)) h
        · rename_i hc
          split at h
          · rename_i hi
            exact put hns (.inr (.inr ⟨fun e => by subst e; simp at hc, rfl, hi⟩)) h
          · exact skip (fun y hy => List.mem_cons_of_mem _ hy) List.mem_cons_self h

theorem subT_get {t' : List (Nat × SV)} {c x : Nat} : ∀ {l : List (Nat × SV)} {m : Nat} {v : SV}, subT t' c x l = true → getT l m = some v →
    ∃ v', getT t' m = some v' ∧ (m = c → v' = .ivS x) ∧ (m ≠ c → (v = .anyI → intLike v' = true) ∧ (v ≠ .anyI → v' = v))
  | [], _, _, _, h => by simp [getT] at h
  | (m', v0) :: r, m, v, h, hg => by
    simp only [subT] at h
    split at h
    · cases h
    · rename_i v' hv'
      split at h
      · rename_i hc
        rw [getT_cons] at hg
        by_cases e : m' = m
        · subst e
          rw [if_pos rfl] at hg
          cases hg
          refine ⟨v', hv', fun e => ?_, fun e => ?_⟩
          · subst e
            simp only [Nat.beq_refl] at hc
            exact svEq_eq hc
          · have hb : Nat.beq m' c = false := by
              cases hb : Nat.beq m' c with
              | true => exact absurd (Nat.eq_of_beq_eq_true hb) e
              | false => rfl
            rw [hb] at hc
            simp only at hc
            refine ⟨fun e1 => by subst e1; exact hc, fun e1 => ?_⟩
            split at hc
            · exact absurd rfl e1
            · exact (svEq_eq hc).symm
        · rw [if_neg e] at hg
          exact subT_get h hg
      · cases h

theorem counter_ok {mods : List Nat} {t : List (Nat × SV)} {c : Nat} : ∀ {cs : List Nat}, counter cs mods t = some c → memN c mods = true ∧ getT t c = some (.int 0)
  | [], h => by cases h
  | d :: r, h => by
    simp only [counter] at h
    split at h
    · rename_i h1 h2
      cases h
      exact ⟨h1, h2⟩
    · exact counter_ok h

theorem ownEq_eq {a b : Own} (h : ownEq a b = true) : a = b := by
  obtain ⟨t, p⟩ := a
  obtain ⟨u, q⟩ := b
  cases p <;> cases q <;> simp only [ownEq, Bool.and_eq_true] at h
  · rw [Nat.eq_of_beq_eq_true h]
  · cases h
  · cases h
  · rw [Nat.eq_of_beq_eq_true h.1, ptEq_eq h.2]
theorem ownPre_get : ∀ {x y : List Own}, ownPre x y = true → ∀ (b : Nat) o, x[b]? = some o → y[b]? = some o
  | [], _, _, b, o, h => by simp at h
  | a :: as, b :: bs, h, n, o, hn => by
    simp only [ownPre] at h
    split at h
    · rename_i he
      have := ownEq_eq he
      subst this
      cases n with
      | zero => simpa using hn
      | succ n => simp at hn ⊢; exact ownPre_get h n o hn
    · cases h
  | _ :: _, [], h, _, _, _ => by cases h

theorem headOk_mem {h : SS} {c x : Nat} : ∀ {l : List (SE × SS)}, headOk h c x l = true → ∀ s', (SE.normal, s') ∈ l → subT s'.tmps c x h.tmps = true ∧ knowsOf s'.facts x = true ∧ ownPre h.own s'.own = true ∧ s'.size = h.size
  | [], _, s', hm => by cases hm
  | (e, s) :: r, hh, s', hm => by
    simp only [headOk] at hh
    split at hh
    · rename_i h1
      rcases List.mem_cons.1 hm with e1 | hm
      · cases e1
        simp only at h1
        split at h1
        · rename_i h2
          split at h1
          · rename_i h3
            rw [Bool.and_eq_true] at h1
            exact ⟨h2, h3, h1.1, Nat.eq_of_beq_eq_true h1.2⟩
          · cases h1
        · cases h1
      · exact headOk_mem hh s' hm
    · cases hh
theorem outs_mem : ∀ {l : List (SE × SS)} {e : SE} {s : SS}, (e, s) ∈ l → e ≠ .normal → (e, s) ∈ outs l
  | [], _, _, h, _ => by cases h
  | (e', s') :: r, e, s, h, hn => by
    cases e' with
    | normal =>
      rcases List.mem_cons.1 h with e1 | h
      · cases e1; exact absurd rfl hn
      · show (e, s) ∈ outs r
        exact outs_mem h hn
    | exit i =>
      rcases List.mem_cons.1 h with e1 | h
      · cases e1; exact List.mem_cons_self
      · exact List.mem_cons_of_mem _ (outs_mem h hn)
    | ret =>
      rcases List.mem_cons.1 h with e1 | h
      · cases e1; exact List.mem_cons_self
      · exact List.mem_cons_of_mem _ (outs_mem h hn)
theorem knowsOf_mem {x : Nat} : ∀ {l : List (Nat × Pt)}, knowsOf l x = true → ∃ p, (x, p) ∈ l
  | [], h => by cases h
  | (y, q) :: r, h => by
    simp only [knowsOf] at h
    split at h
    · rename_i hb
      rw [← Nat.eq_of_beq_eq_true hb]
      exact ⟨q, List.mem_cons_self⟩
    · obtain ⟨p, hp⟩ := knowsOf_mem h
      exact ⟨p, List.mem_cons_of_mem _ hp⟩

theorem wrap_next {i : Nat} (h : i < maxLen) : IntKind.i64.wrap ((i : Int) + 1) = ((i + 1 : Nat) : Int) := by
  have h : i < 9223372036854775807 := h
  have e0 : ((i : Int) + 1) = ((i + 1 : Nat) : Int) := by omega
  rw [e0, ← wrapF_eq]
  have e1 : modF .i64 ((i + 1 : Nat) : Int) = i + 1 := by
    show (i + 1) % 18446744073709551616 = i + 1
    omega
  unfold wrapF
  rw [e1]
  have e2 : Nat.blt (i + 1) (half .i64) = true := by
    rw [Nat.blt_eq]
    show i + 1 < 9223372036854775808
    omega
  simp only [signF, IntKind.signed, e2]
  rfl

def EXs : SE → Exit → Prop
  | .normal, .normal => True
  | .exit i, .exit j => i = j
  | .ret, .ret => True
  | _, _ => False

section
variable {P : Program} {E : Env} {w0 w : World} {A : Given} {iv bl : List Nat} {s s' : SS} {a : Act} {ct : Nat → Option Ct} {N0 k : Nat}

def PostS (E : Env) (w0 : World) (A : Given) (iv bl : List Nat) (l : List (SE × SS)) (e : Exit) (a : Act) (w : World) : Prop :=
  ∃ se s' iv' bl', (se, s') ∈ l ∧ EXs se e ∧ Sub iv iv' ∧ Sub bl bl' ∧ SR E.ty w0 A iv' bl' s' a w

theorem PostS.noGoto {l : List (SE × SS)} (x : Nat) (a' : Act) (w' : World) : ¬ PostS E w0 A iv bl l (.goto x) a' w' := by
  rintro ⟨se, s, _, _, _, hex, _⟩
  cases se <;> exact hex.elim
theorem PostS.noPanic {l : List (SE × SS)} (c : List PanicEntry) (a' : Act) (w' : World) : ¬ PostS E w0 A iv bl l (.panic c) a' w' := by
  rintro ⟨se, s, _, _, _, hex, _⟩
  cases se <;> exact hex.elim
theorem PostS.noOut {l : List (SE × SS)} (a' : Act) (w' : World) : ¬ PostS E w0 A iv bl l .outgrown a' w' := by
  rintro ⟨se, s, _, _, _, hex, _⟩
  cases se <;> exact hex.elim
theorem PostS.up {iv' bl' : List Nat} (h1 : Sub iv iv') (h2 : Sub bl bl') {l l' : List (SE × SS)} (hm : ∀ x ∈ l', x ∈ l) {e : Exit} (h : PostS E w0 A iv' bl' l' e a w) : PostS E w0 A iv bl l e a w := by
  obtain ⟨se, s, iv2, bl2, g1, g2, g3, g4, g5⟩ := h
  exact ⟨se, s, iv2, bl2, hm _ g1, g2, h1.trans g3, h2.trans g4, g5⟩

theorem sub_push (x : List Nat) (i : Nat) : Sub x (x ++ [i]) := fun n j h => by
  rw [List.getElem?_append_left (List.getElem?_eq_some_iff.1 h).1]; exact h

theorem Fact.more {iv iv' : List Nat} (hi : Sub iv iv') {f : Nat × Pt} (h : Fact E.ty w0 A iv f) : Fact E.ty w0 A iv' f := by
  obtain ⟨i, t, n, ad, l, c, h1, h2, h3, h4⟩ := h
  exact ⟨i, t, n, ad, l, c, hi _ _ h1, h2.more hi, h3, h4⟩

/-- The head of a loop. -/
abbrev headS (s : SS) (mods : List Nat) (c : Nat) : SS := { s with tmps := headT mods c s.nx s.tmps [], nx := s.nx + 1 }

theorem head_first (hr : SR E.ty w0 A iv bl s a w) {mods : List Nat} {c : Nat} (hc : memN c mods = true ∧ getT s.tmps c = some (.int 0)) : SR E.ty w0 A (iv ++ [0]) bl (headS s mods c) a w := by
  refine ⟨fun m v hm => ?_, hr.size, hr.len, fun b o ho => ?_, hr.inj, hr.below, fun f hf => Fact.more (sub_push iv 0) (hr.facts f hf), by simp [hr.nx], hr.defers⟩
  · obtain ⟨_, v0, g1, g2⟩ := headT_get hm
    obtain ⟨u, k1, k2⟩ := hr.tmps m v0 g1
    refine ⟨u, k1, ?_⟩
    rcases g2 with ⟨rfl, _⟩ | ⟨rfl, rfl⟩ | ⟨_, rfl, hi⟩
    · exact k2.more (sub_push iv 0) (Sub.refl bl)
    · rw [hc.2] at g1; cases g1
      exact ⟨0, by rw [← hr.nx]; simp, k2⟩
    · exact k2.int hi
  · obtain ⟨kb, h1, h2, cs, ti, h3, h4, h5, h6⟩ := hr.own b o ho
    exact ⟨kb, h1, h2, cs, ti, h3, h4, h5, fun p hp => let ⟨n, hd⟩ := h6 p hp; ⟨n, hd.more (sub_push iv 0)⟩⟩

theorem head_next {a1 : Act} {w1 : World} (hr : SR E.ty w0 A iv bl s a w) {mods : List Nat} {c i : Nat} (hc : memN c mods = true ∧ getT s.tmps c = some (.int 0)) {iv' bl' : List Nat} (h1 : Sub (iv ++ [i]) iv') (h2 : Sub bl bl')
    (hs : SR E.ty w0 A iv' bl' s' a1 w1) (hk : subT s'.tmps c s.nx (headS s mods c).tmps = true ∧ knowsOf s'.facts s.nx = true ∧ ownPre (headS s mods c).own s'.own = true ∧ s'.size = (headS s mods c).size) :
    i < maxLen ∧ SR E.ty w0 A (iv ++ [i + 1]) bl (headS s mods c) a1 w1 := by
  have hsub : Sub iv iv' := (sub_push iv i).trans h1
  have hx : iv'[s.nx]? = some i := h1 _ _ (by rw [← hr.nx]; simp)
  have hi : i < maxLen := by
    obtain ⟨p, hp⟩ := knowsOf_mem hk.2.1
    obtain ⟨i', t, n, ad, l, cp, f1, f2, f3, f4⟩ := hs.facts _ hp
    rw [show ((s.nx, p) : Nat × Pt).1 = s.nx from rfl, hx] at f1; cases f1
    omega
  refine ⟨hi, fun m v hm => ?_, hs.size.trans hk.2.2.2, hr.len, fun b o ho => ?_, hr.inj, hs.below, fun f hf => Fact.more (sub_push iv (i + 1)) (hr.facts f hf), by simp [hr.nx], hs.defers⟩
  · obtain ⟨v', g1, g2, g3⟩ := subT_get hk.1 hm
    obtain ⟨u, k1, k2⟩ := hs.tmps m v' g1
    refine ⟨u, k1, ?_⟩
    obtain ⟨_, v0, q1, q2⟩ := headT_get hm
    obtain ⟨u0, r1, r2⟩ := hr.tmps m v0 q1
    have old : m ≠ c → v = v0 → V E.ty w0 A (iv ++ [i + 1]) bl v u := by
      intro hne e
      obtain ⟨x1, x2⟩ := g3 hne
      by_cases ha : v = .anyI
      · subst ha
        exact k2.int (x1 rfl)
      · have := x2 ha
        subst this
        subst e
        exact (V.back hsub h2 r2 k2).more (sub_push iv (i + 1)) (Sub.refl bl)
    rcases q2 with ⟨rfl, hmo⟩ | ⟨rfl, rfl⟩ | ⟨hne, rfl, _⟩
    · by_cases e : m = c
      · subst e; rw [hc.1] at hmo; cases hmo
      · exact old e rfl
    · have := g2 rfl
      subst this
      obtain ⟨i', e1, e2⟩ := k2
      rw [hx] at e1; cases e1
      refine ⟨i + 1, by rw [← hr.nx]; simp, ?_⟩
      rw [e2]
      congr 1
      exact wrap_next hi
    · exact k2.int ((g3 hne).1 rfl)
  · obtain ⟨kb, b1, b2, cs0, ti0, b3, b4, b5, b6⟩ := hr.own b o ho
    obtain ⟨kc, c1, c2, cs, ti, c3, c4, c5, c6⟩ := hs.own b o (ownPre_get hk.2.2.1 b o ho)
    rw [h2 _ _ b1] at c1; cases c1
    refine ⟨kb, b1, b2, cs, ti, c3, c4, c5, fun p hp => ?_⟩
    obtain ⟨n, hd⟩ := c6 p hp
    obtain ⟨n0, hd0⟩ := b6 p hp
    obtain ⟨_, _, e⟩ := (hd0.more hsub).det hd
    exact ⟨n0, by rw [← e]; exact hd0.more (sub_push iv (i + 1))⟩

theorem code_sound (hE : EnvOk P E) (hgd : Good E) (hK : Known P E.ty ct N0) (hA : Bound A N0) {cs : List Nat} : ∀ (n : Nat) (c : Code) {iv bl : List Nat} {s : SS} {l : List (SE × SS)} {a : Act} {w : World}, sxC E.ty ct cs n c s = some l → SR E.ty w0 A iv bl s a w →
    c.wpIn Fence.wide k P (PostS E w0 A iv bl l) a w
  | 0, c, iv, bl, s, l, a, w, h, hr => by cases h
  | n + 1, c, iv, bl, s, l, a, w, h, hr => by
    unfold sxC at h
    split at h
    · cases h
      exact wpIn_skip ⟨.normal, s, iv, bl, List.mem_singleton.2 rfl, trivial, Sub.refl _, Sub.refl _, hr⟩
    · cases h
      exact wpIn_label ⟨.normal, s, iv, bl, List.mem_singleton.2 rfl, trivial, Sub.refl _, Sub.refl _, hr⟩
    · rename_i id ops draw
      split at h
      · cases h
      · split at h
        · cases h
        · rename_i l' hl
          cases h
          refine wpIn_region_list (ops_sound hE hgd hK hA hl hr fun s' bl' a' w' m1 m2 m3 => ?_)
          exact ⟨.normal, s', iv, bl', List.mem_map.2 ⟨s', m1, rfl⟩, trivial, Sub.refl _, m2, m3⟩
    · rename_i x y
      split at h
      · cases h
      · rename_i l1 hl1
        refine wpIn_seq (wpIn_mono (code_sound hE hgd hK hA n x hl1 hr) fun e a1 w1 hp => ?_)
        obtain ⟨se, s1, iv1, bl1, m1, m2, m3, m4, m5⟩ := hp
        obtain ⟨sub, hsub, hmem⟩ := mapS_mem h _ m1
        cases se with
        | normal =>
          cases e <;> first | exact m2.elim | skip
          exact wpIn_mono (code_sound hE hgd hK hA n y hsub m5) fun e a2 w2 hp => hp.up m3 m4 hmem
        | exit id =>
          cases e <;> first | exact m2.elim | skip
          cases hsub
          exact ⟨_, s1, iv1, bl1, hmem _ (List.mem_singleton.2 rfl), m2, m3, m4, m5⟩
        | ret =>
          cases e <;> first | exact m2.elim | skip
          cases hsub
          exact ⟨_, s1, iv1, bl1, hmem _ (List.mem_singleton.2 rfl), m2, m3, m4, m5⟩
    · rename_i x y z
      split at h
      · rename_i d
        split at h
        · rename_i hd
          have hv : a.eval (.tmp d) = .bool true := hr.get (o := .tmp d) hd
          exact wpIn_cond_true hv (code_sound hE hgd hK hA n y h hr)
        · rename_i hd
          have hv : a.eval (.tmp d) = .bool false := hr.get (o := .tmp d) hd
          exact wpIn_cond_false hv (code_sound hE hgd hK hA n z h hr)
        · rename_i kk p hd
          have hv := hr.get (o := .tmp d) hd
          split at h
          · cases h
          · rename_i l1 hl1
            split at h
            · cases h
            · rename_i l2 hl2
              cases h
              obtain ⟨i, t, m, ad, len, cp, v1, v2, v3, v4⟩ := hv
              by_cases hlt : i < len
              · refine wpIn_cond_true (by rw [v4]; simp [hlt]) (wpIn_mono (code_sound hE hgd hK hA n y hl1 ?_) fun e a2 w2 hp => hp.up (Sub.refl _) (Sub.refl _) (fun x hx => List.mem_append_left _ hx))
                refine ⟨hr.tmps, hr.size, hr.len, hr.own, hr.inj, hr.below, fun f hf => ?_, hr.nx, hr.defers⟩
                rcases List.mem_cons.1 hf with rfl | hf
                · exact ⟨i, t, m, ad, len, cp, v1, v2, v3, hlt⟩
                · exact hr.facts f hf
              · exact wpIn_cond_false (by rw [v4]; simp [hlt]) (wpIn_mono (code_sound hE hgd hK hA n z hl2 hr) fun e a2 w2 hp => hp.up (Sub.refl _) (Sub.refl _) (fun x hx => List.mem_append_right _ hx))
        · rename_i hd
          obtain ⟨b, hb⟩ := hr.get (o := .tmp d) hd
          split at h
          · cases h
          · rename_i l1 hl1
            split at h
            · cases h
            · rename_i l2 hl2
              cases h
              cases b with
              | true => exact wpIn_cond_true hb (wpIn_mono (code_sound hE hgd hK hA n y hl1 hr) fun e a2 w2 hp => hp.up (Sub.refl _) (Sub.refl _) (fun x hx => List.mem_append_left _ hx))
              | false => exact wpIn_cond_false hb (wpIn_mono (code_sound hE hgd hK hA n z hl2 hr) fun e a2 w2 hp => hp.up (Sub.refl _) (Sub.refl _) (fun x hx => List.mem_append_right _ hx))
        · cases h
      · cases h
    · rename_i id b
      split at h
      · cases h
      · rename_i l1 hl1
        cases h
        refine wpIn_block (wpIn_mono (code_sound hE hgd hK hA n b hl1 hr) fun e a1 w1 hp => ?_)
        obtain ⟨se, s1, iv1, bl1, m1, m2, m3, m4, m5⟩ := hp
        have hmm : unblock id (se, s1) ∈ l1.map (unblock id) := List.mem_map.2 ⟨(se, s1), m1, rfl⟩
        cases se with
        | normal =>
          cases e <;> first | exact m2.elim | skip
          exact ⟨_, s1, iv1, bl1, hmm, trivial, m3, m4, m5⟩
        | exit i =>
          cases e <;> first | exact m2.elim | skip
          rename_i j
          have hij : i = j := m2
          subst hij
          simp only [Exit.inBlock]
          simp only [unblock] at hmm
          split at hmm
          · rename_i hb
            have := Nat.eq_of_beq_eq_true hb
            subst this
            rw [if_pos rfl]
            exact ⟨_, s1, iv1, bl1, hmm, trivial, m3, m4, m5⟩
          · rename_i hb
            rw [if_neg (fun e => by subst e; simp at hb)]
            exact ⟨_, s1, iv1, bl1, hmm, rfl, m3, m4, m5⟩
        | ret =>
          cases e <;> first | exact m2.elim | skip
          exact ⟨_, s1, iv1, bl1, hmm, trivial, m3, m4, m5⟩
    · rename_i b
      exact scope_plain PostS.noGoto (code_sound hE hgd hK hA n b h hr)
    · cases h
      exact wpIn_exit ⟨.exit _, s, iv, bl, List.mem_singleton.2 rfl, rfl, Sub.refl _, Sub.refl _, hr⟩
    · cases h
      exact wpIn_ret ⟨.ret, s, iv, bl, List.mem_singleton.2 rfl, trivial, Sub.refl _, Sub.refl _, hr⟩
    · rename_i b
      simp only at h
      split at h
      · cases h
      · rename_i c hc
        have hc := counter_ok hc
        split at h
        · cases h
        · rename_i l1 hl1
          split at h
          · rename_i hok
            cases h
            have hok := headOk_mem hok
            have key : ∀ (m i : Nat), maxLen ≤ i + m → ∀ (a1 : Act) (w1 : World), SR E.ty w0 A (iv ++ [i]) bl (headS s (dstsC 1000 b) c) a1 w1 → (Code.loop b).wpIn Fence.wide k P (PostS E w0 A iv bl (outs l1)) a1 w1 := by
              intro m
              induction m with
              | zero =>
                intro i hi a1 w1 hr1
                refine loop_unroll PostS.noGoto PostS.noPanic PostS.noOut (wpIn_mono (code_sound hE hgd hK hA n b hl1 hr1) fun e a2 w2 hp => ?_)
                obtain ⟨se, s2, iv2, bl2, m1, m2, m3, m4, m5⟩ := hp
                cases se with
                | normal =>
                  cases e <;> first | exact m2.elim | skip
                  have := (head_next hr hc m3 m4 m5 (hok s2 m1)).1
                  omega
                | exit id =>
                  cases e <;> first | exact m2.elim | skip
                  exact ⟨_, s2, iv2, bl2, outs_mem m1 (by simp), m2, (sub_push iv i).trans m3, m4, m5⟩
                | ret =>
                  cases e <;> first | exact m2.elim | skip
                  exact ⟨_, s2, iv2, bl2, outs_mem m1 (by simp), m2, (sub_push iv i).trans m3, m4, m5⟩
              | succ m ih =>
                intro i hi a1 w1 hr1
                refine loop_unroll PostS.noGoto PostS.noPanic PostS.noOut (wpIn_mono (code_sound hE hgd hK hA n b hl1 hr1) fun e a2 w2 hp => ?_)
                obtain ⟨se, s2, iv2, bl2, m1, m2, m3, m4, m5⟩ := hp
                cases se with
                | normal =>
                  cases e <;> first | exact m2.elim | skip
                  exact ih (i + 1) (by omega) a2 w2 (head_next hr hc m3 m4 m5 (hok s2 m1)).2
                | exit id =>
                  cases e <;> first | exact m2.elim | skip
                  exact ⟨_, s2, iv2, bl2, outs_mem m1 (by simp), m2, (sub_push iv i).trans m3, m4, m5⟩
                | ret =>
                  cases e <;> first | exact m2.elim | skip
                  exact ⟨_, s2, iv2, bl2, outs_mem m1 (by simp), m2, (sub_push iv i).trans m3, m4, m5⟩
            exact key maxLen 0 (by omega) a w (head_first hr hc)
          · cases h
    · cases h
end
end Go.Sx
/- A function that passes is a guard. -/
namespace Go.Sx
open Go Go.Refl Go.RowKit

section
variable {P : Program} {E : Env} {ct : Nat → Option Ct} {N0 : Nat}

/-- One argument, and what is kept of it. -/
def Kept (ty : Nat → Option TI) (w : World) (A : Given) (j t : Nat) (v : Value) : Prop :=
  ∃ ti, ty t = some ti ∧ ((ti.d = .int .i64 ∧ ∃ n, v = .int .i64 n) ∨ (ti.d ≠ .int .i64 ∧ ∃ n cs, A[j]? = some (t, n, cs) ∧ RdN ty w n t cs ∧ VC ty t cs v))

theorem given_of {ty : Nat → Option TI} {w : World} : ∀ {ts : List Nat} {vs : List Value}, ArgsR ty w (N0 + 1) ts vs → ts.length = vs.length ∧ ∃ A : Given, Bound A N0 ∧ ∀ (j t : Nat), ts[j]? = some t → ∃ v, vs[j]? = some v ∧ Kept ty w A j t v
  | [], [], _ => ⟨rfl, [], fun j x h => by simp at h, fun j t h => by simp at h⟩
  | t :: ts, v :: vs, h => by
    obtain ⟨hl, A, h1, h2⟩ := given_of h.2
    refine ⟨by simp [hl], ?_⟩
    obtain ⟨ti, k1, k2⟩ := h.1
    have push : ∀ (x : Nat × Nat × List Value), x.2.1 ≤ N0 → Kept ty w (x :: A) 0 t v → ∃ A : Given, Bound A N0 ∧ ∀ (j u : Nat), (t :: ts)[j]? = some u → ∃ v', (v :: vs)[j]? = some v' ∧ Kept ty w A j u v' := by
      intro x hx hk
      refine ⟨x :: A, fun j y hj => ?_, fun j u hj => ?_⟩
      · cases j with
        | zero => simp at hj; subst hj; exact hx
        | succ j => exact h1 j y (by simpa using hj)
      · cases j with
        | zero => simp at hj; subst hj; exact ⟨v, rfl, hk⟩
        | succ j =>
          obtain ⟨v', g1, tj, g2, g3⟩ := h2 j u (by simpa using hj)
          exact ⟨v', by simpa using g1, tj, g2, by simpa using g3⟩
    split at k2
    · rename_i hd
      exact push (t, 0, []) (Nat.zero_le _) ⟨ti, k1, .inl ⟨hd, k2⟩⟩
    · rename_i hd
      obtain ⟨n, cs, q1, q2, q3⟩ := k2
      exact push (t, n, cs) (by simp only; omega) ⟨ti, k1, .inr ⟨fun e => hd e, n, cs, rfl, q2, q3⟩⟩
  | [], _ :: _, h => h.elim
  | _ :: _, [], h => h.elim

theorem startT_get {ty : Nat → Option TI} : ∀ {ts : List Nat} {i m : Nat} {v : SV}, getT (startT ty i ts) m = some v → ∃ j t, m = i + j ∧ ts[j]? = some t ∧ v = (match ty t with
    | some ti => match ti.d with
      | .int .i64 => .anyI
      | _ => .pth (.arg m) t
    | none => .undef)
  | [], _, _, _, h => by simp [startT, getT] at h
  | t :: ts, i, m, v, h => by
    simp only [startT] at h
    rw [getT_cons] at h
    by_cases e : i = m
    · subst e
      rw [if_pos rfl] at h
      cases h
      exact ⟨0, t, rfl, rfl, rfl⟩
    · rw [if_neg e] at h
      obtain ⟨j, u, rfl, g2, g3⟩ := startT_get h
      exact ⟨j + 1, u, by omega, by simpa using g2, g3⟩

theorem resOk_mem {isBool : Bool} {r : Nat} : ∀ {l : List (SE × SS)}, resOk isBool r l = true → ∀ e s, (e, s) ∈ l → (∀ i, e ≠ .exit i) ∧ ∃ v, getT s.tmps r = some v ∧ (match isBool with | true => boolLike v | false => intLike v) = true
  | [], _, _, _, hm => by cases hm
  | (e', s') :: l, h, e, s, hm => by
    simp only [resOk] at h
    split at h
    · rename_i h1
      rcases List.mem_cons.1 hm with e1 | hm
      · cases e1
        cases e' with
        | exit i => cases h1
        | normal =>
          refine ⟨fun i e => (by cases e), ?_⟩
          simp only at h1
          split at h1
          · rename_i v hv
            exact ⟨v, hv, h1⟩
          · cases h1
        | ret =>
          refine ⟨fun i e => (by cases e), ?_⟩
          simp only at h1
          split at h1
          · rename_i v hv
            exact ⟨v, hv, h1⟩
          · cases h1
      · exact resOk_mem h e s hm
    · cases h

theorem fn_sound (hE : EnvOk P E) (hgd : Good E) {f : Nat} {fi : FI} {k : Ct} {cs : List Nat} (hf : E.fns f = some fi) (hfn : sxFn E.ty ct cs fi k = true) (hK : Known P E.ty ct N0) : GuardN P E.ty (N0 + 1) f k.params k.isBool := by
  intro w args hargs
  obtain ⟨fn, f1, f2, f3, f4, f5⟩ := hE.fns f fi hf
  refine ⟨by simp [callFunc, run_program, f1, f5, f2], ?_⟩
  obtain ⟨hlen, A, hA, hkept⟩ := given_of hargs
  unfold sxFn at hfn
  split at hfn
  · rename_i r hres
    split at hfn
    · cases hfn
    · rename_i hle
      have hle := Nat.le_of_ble_eq_true hle
      split at hfn
      · cases hfn
      · rename_i l hl
        refine callsIn_wide.1 (callsIn_of_wp_marks (F := Fence.wide) (n := 0) f1 f2 trivial ?_)
        refine wpIn_mono (code_sound (w0 := w) (A := A) (iv := []) (bl := []) hE hgd hK hA 1000 fi.body hl ⟨fun m v hm => ?_, ?_, rfl, fun b o ho => by simp at ho, fun b c k hb => by simp at hb, Below.refl _ _, fun f hf => (by cases hf), rfl, rfl⟩) ?_
        · obtain ⟨j, t, hm, ht, hv⟩ := startT_get hm
          simp only [Nat.zero_add] at hm
          subst hm
          obtain ⟨u, hu, ti, q1, q2⟩ := hkept m t ht
          refine ⟨u, ?_, ?_⟩
          · have hlt := (List.getElem?_eq_some_iff.1 hu).1
            rw [Array.getElem?_append]
            rw [if_pos (by simpa using hlt)]
            simpa using hu
          · rw [q1] at hv
            simp only at hv
            rcases q2 with ⟨hd, hn⟩ | ⟨hd, n, cs, g1, g2, g3⟩
            · rw [hd] at hv; subst hv; exact hn
            · split at hv
              · rename_i hd'; exact absurd hd' hd
              · subst hv; exact ⟨n, cs, .arg m t n cs g1 g2, g3⟩
        · simp; omega
        · intro e a' w' hp
          obtain ⟨se, s, iv', bl', m1, m2, m3, m4, m5⟩ := hp
          obtain ⟨r1, v, r2, r3⟩ := resOk_mem hfn se s m1
          obtain ⟨u, g1, g2⟩ := m5.tmps r v r2
          have hrr : fn.results = #[.tmp r] := by
            rw [← Array.toArray_toList (xs := fn.results), f4, hres]
          have hrun : (Go.results fn a'.tmps).run P w' = .ok u w' := by
            have e : (Go.results fn a'.tmps) = (do let vs ← fn.results.mapM (resOne a'.tmps); pure (if h : vs.size = 1 then vs[0] else .tuple vs)) := rfl
            rw [e, Array.mapM_eq_mapM_toList, hrr]
            simp [resOne, Array.getD_eq_getD_getElem?, g1]
          have hR : ResR k.isBool u := by
            cases hb : k.isBool with
            | true => rw [hb] at r3; exact g2.truth r3
            | false => rw [hb] at r3; exact g2.int r3
          have fin : LeavesInM Fence.wide 0 P fn a'.tmps (fun e w' => (∃ v, e = .returned v ∧ ResR k.isBool v) ∧ Below w.heap.size w w') a'.defers .returning w' := by
            rw [m5.defers]
            exact ⟨u, hrun, ⟨u, rfl, hR⟩, m5.below⟩
          cases se with
          | exit i => exact absurd rfl (r1 i)
          | normal => cases e <;> first | exact m2.elim | exact fin
          | ret => cases e <;> first | exact m2.elim | exact fin
  · cases hfn

theorem GuardN.less {ty : Nat → Option TI} {N M f : Nat} {ps : List Nat} {b : Bool} (h : GuardN P ty M f ps b) (hN : N ≤ M) : GuardN P ty N f ps b := fun w args ha => h w args (ha.mono hN)

/-- A function that calls guards alone. -/
theorem guard_of (hE : EnvOk P E) (hgd : Good E) {f : Nat} {fi : FI} {k : Ct} {cs : List Nat} (hf : E.fns f = some fi) (hfn : sxFn E.ty ct cs fi k = true) (hK : ∀ N, Known P E.ty ct N) : ∀ N, GuardN P E.ty N f k.params k.isBool :=
  fun N => (fn_sound hE hgd hf hfn (hK N)).less (Nat.le_succ _)

/-- A function that calls itself as well, with parts of what it was given. -/
theorem guard_self (hE : EnvOk P E) (hgd : Good E) {f : Nat} {fi : FI} {k : Ct} {cs : List Nat} (hf : E.fns f = some fi) (hfn : sxFn E.ty ct cs fi k = true) {t : Nat} {ts : List Nat} {ti : TI} (hp : k.params = t :: ts) (ht : E.ty t = some ti) (hd : ∀ kk, ti.d ≠ .int kk)
    (hK : ∀ N, GuardN P E.ty N f k.params k.isBool → Known P E.ty ct N) : ∀ N, GuardN P E.ty N f k.params k.isBool := by
  intro N
  induction N with
  | zero =>
    intro w args ha
    rw [hp] at ha
    cases args with
    | nil => exact ha.elim
    | cons v vs =>
      obtain ⟨ti', h1, h2⟩ := ha.1
      rw [ht] at h1; cases h1
      split at h2
      · rename_i e; exact absurd e (hd _)
      · obtain ⟨n, cs, h3, _⟩ := h2; omega
  | succ N ih => exact fn_sound hE hgd hf hfn (hK N ih)
end
end Go.Sx
