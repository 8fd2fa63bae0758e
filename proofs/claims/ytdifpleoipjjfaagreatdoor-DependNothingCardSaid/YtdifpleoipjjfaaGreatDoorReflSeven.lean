/- Regions that draw their order are sound, and the evaluator is sound. -/
import Derived.Test.YtdifpleoipjjfaaGreatDoorReflSix
namespace Go.Refl
open Go

section
variable {P : Program} {E : Env} {ex : Exec} {ops : Array Oper} {sz n0 : Nat}
variable {R : Nat → Rec} {D : Nat → Drawn} {T : Nat → Tr AV} {H : Nat → Hp} {M : Nat → Nat}
variable {h0 hh : Hp} {ρ0 ρ : Rho} {w0 w : World} {ds : List Deferred} {listed : Array Bool} {a : Act} {c : Nat}

theorem adjust (base : Hp) (n0 : Nat) (f : Nat → Option (Option AObj)) : ∀ m, ∃ h' : Hp, h'.next = base.next ∧ (∀ i, i < m → h'.h.get (n0 + i) = match f i with | none => base.h.get (n0 + i) | some x => x) ∧
    ∀ b, (∀ i, i < m → b ≠ n0 + i) → h'.h.get b = base.h.get b
  | 0 => ⟨base, rfl, fun i hi => by omega, fun _ _ => rfl⟩
  | m + 1 => by
    obtain ⟨h', g1, g2, g3⟩ := adjust base n0 f m
    have main : ∀ h2 : Hp, h2.next = h'.next → (∀ b, b ≠ n0 + m → h2.h.get b = h'.h.get b) → h2.h.get (n0 + m) = (match f m with | none => base.h.get (n0 + m) | some x => x) →
        ∃ h' : Hp, h'.next = base.next ∧ (∀ i, i < m + 1 → h'.h.get (n0 + i) = match f i with | none => base.h.get (n0 + i) | some x => x) ∧ ∀ b, (∀ i, i < m + 1 → b ≠ n0 + i) → h'.h.get b = base.h.get b := by
      intro h2 e1 e2 e3
      refine ⟨h2, e1.trans g1, fun i hi => ?_, fun b hb => ?_⟩
      · by_cases e : i = m
        · subst e; exact e3
        · rw [e2 _ (by omega)]; exact g2 i (by omega)
      · rw [e2 b (hb m (by omega))]
        exact g3 b (fun i hi => hb i (by omega))
    cases hf : f m with
    | none => exact main h' rfl (fun _ _ => rfl) (by rw [hf]; exact g3 _ (fun i hi => by omega))
    | some x =>
      cases x with
      | none => exact main (delO h' (n0 + m)) rfl (fun b hb => by simp only [delO, Tr.get_del, if_neg hb]) (by rw [hf]; simp [delO, Tr.get_del])
      | some o => exact main (setO h' (n0 + m) o) rfl (fun b hb => by simp only [setO, Tr.get_set, if_neg hb]) (by rw [hf]; simp [setO, Tr.get_set])

theorem DInv.loud (hW : Whole E ex ops sz n0 R D T H M) (hbf : ∀ i, i < ops.size → (beforeL ops.toList [])[i]? = some (M i)) (hI : DInv E ops sz n0 R T H M h0 ρ0 w0 ds listed a w c ρ hh) {j : Nat} {o : Oper} (ho : ops[j]? = some o)
    (hn : ¬ Lst listed j) (hb : ∀ i, Nat.testBit (M j) i = true → Lst listed i) {x : AV} (hR : R j = .ld x) :
    HR E (hideFor (M j) n0 (D j).blocks (H j)) ρ w ∧ ∃ h1, loudOp E ex o (hideT (M j) (D j).writes (T j)) (hideFor (M j) n0 (D j).blocks (H j)) = some [(x, h1)] ∧
      ∀ ρ' v w', Up E (hideFor (M j) n0 (D j).blocks (H j)) ρ w h1 ρ' w' → VR ρ' x v →
        ∃ hh', DInv E ops sz n0 R T H M h0 ρ0 w0 ds (listed.setIfInBounds j true) (a.put o.dst v) w' (j + 1) ρ' hh' := by
  have hj := (Array.getElem?_eq_some_iff.1 ho).1
  have hjl : j < listed.size := by rw [hI.lsz]; exact hj
  have hL := lst_set hjl
  have keep : ∀ i, i ≠ j → (Lst (listed.setIfInBounds j true) i ↔ Lst listed i) := fun i hi => by rw [hL]; exact ⟨fun h => h.resolve_left hi, .inr⟩
  obtain ⟨_, _, _, hs⟩ := hW.step j o ho
  rw [hR] at hs
  simp only at hs
  obtain ⟨_, _, hlo, ⟨h1, hld, hun⟩, _⟩ := hs
  have hcj : c ≤ j := by
    rcases Nat.lt_or_ge j c with h | h
    · exact absurd ((hI.ld j hj ⟨x, hR⟩).2 h) hn
    · exact h
  have hbef : ∀ k, k < j → isLd R k → Lst listed k := fun k hk hl => hb k (hlo _ (hW.louds j (by omega) k hk hl))
  have hno : ∀ k, c ≤ k → k < j → ¬ isLd R k := fun k k1 k2 k3 => by
    have := (hI.ld k (by omega) k3).1 (hbef k k2 k3)
    omega
  obtain ⟨c1, c2⟩ := hW.calm j hcj (by omega) hno
  have hsub : ∀ b o, (hideFor (M j) n0 (D j).blocks (H j)).h.get b = some o → hh.h.get b = some o := fun b o hg => hI.shown hW hb hcj (by omega) (by omega) hno (fun i hi _ => hi) hg
  have hnx : (hideFor (M j) n0 (D j).blocks (H j)).next = hh.next := by rw [next_hideFor, c1, hI.nx]
  refine ⟨hI.up.hr.sub hsub (Nat.le_of_eq hnx.symm), h1, hld, fun ρ' v w' hu hv => ?_⟩
  have hval : val (R j) = x := by rw [hR]; rfl
  obtain ⟨p1, p2, p3, p4⟩ := hI.put hW hbf ho hn hu.ext (v := v) (by rw [hval]; exact hv)
  obtain ⟨hh', q1, q2, q3⟩ := adjust (H (j + 1)) n0 (fun i => match R i with
    | .al ob _ => match listed.getD i false with
      | true => match Nat.blt i (j + 1) with
        | true => none
        | false => some (some ob)
      | false => some none
    | _ => none) ops.size
  have hja : ¬ isAl R j := by rintro ⟨ob, u, e⟩; rw [hR] at e; cases e
  have r0 : ∀ i, i < ops.size → isAl R i → ¬ Lst listed i → hh'.h.get (n0 + i) = none := by
    rintro i i1 ⟨ob, u, e⟩ i3
    have hf : listed.getD i false = false := by
      cases hc : listed.getD i false with
      | true => exact absurd hc i3
      | false => rfl
    have := q2 i i1
    simp only [e, hf] at this
    exact this
  have r1 : ∀ i, i < ops.size → isAl R i → Lst listed i → i < j + 1 → hh'.h.get (n0 + i) = (H (j + 1)).h.get (n0 + i) := by
    rintro i i1 ⟨ob, u, e⟩ i3 i4
    have hf : listed.getD i false = true := i3
    have hlt : Nat.blt i (j + 1) = true := by rw [Nat.blt_eq]; exact i4
    have := q2 i i1
    simp only [e, hf, hlt] at this
    exact this
  have r2 : ∀ i ob u, i < ops.size → R i = .al ob u → Lst listed i → j + 1 ≤ i → hh'.h.get (n0 + i) = some ob := by
    intro i ob u i1 e i3 i4
    have hf : listed.getD i false = true := i3
    have hlt : Nat.blt i (j + 1) = false := by
      cases hc : Nat.blt i (j + 1) with
      | true => rw [Nat.blt_eq] at hc; omega
      | false => rfl
    have := q2 i i1
    simp only [e, hf, hlt] at this
    exact this
  have r3 : ∀ b, (∀ i, i < ops.size → isAl R i → b ≠ n0 + i) → hh'.h.get b = (H (j + 1)).h.get b := by
    intro b hb'
    by_cases hx : ∃ i, i < ops.size ∧ b = n0 + i
    · obtain ⟨i, i1, rfl⟩ := hx
      have := q2 i i1
      cases hr : R i <;> simp only [hr] at this
      · exact this
      · exact this
      · exact absurd rfl (hb' i i1 ⟨_, _, hr⟩)
      · exact this
    · exact q3 b (fun i i1 e => hx ⟨i, i1, e⟩)
  have hnodup := (hW.blocks j (by omega)).1
  have hmem := (hW.blocks j (by omega)).2
  have hgu : ∀ b, (H (j + 1)).h.get b = (if ∃ i ∈ (D j).blocks, b = n0 + i ∧ Nat.testBit (M j) i = false ∧ ((H j).h.get b).isSome then (H j).h.get b else h1.h.get b) := fun b => by rw [hun]; exact get_unhide hnodup
  have hpast : Up E hh ρ w hh' ρ' w' := by
    refine Up.past hI.up.hr hu hsub hnx (by rw [q1, hun, next_unhide]) fun b u hg => ?_
    by_cases hx : ∃ i, i < ops.size ∧ isAl R i ∧ b = n0 + i
    · obtain ⟨i, i1, i2, rfl⟩ := hx
      by_cases hl : Lst listed i
      · have hij : i ≠ j := fun e => hja (e ▸ i2)
        rcases Nat.lt_or_ge i j with hlt | hge
        · rw [r1 i i1 i2 hl (by omega), hgu] at hg
          split at hg
          · rename_i hc
            obtain ⟨i', m1, m2, m3, m4⟩ := hc
            have : i' = i := by omega
            subst this
            right
            refine ⟨?_, ?_⟩
            · rcases Nat.lt_or_ge i' c with hic | hic
              · rw [hI.al1 i' i1 i2 hl hic, ← c2 _ (fun k k1 k2 k3 => by omega)]; exact hg
              · obtain ⟨ob, z, e⟩ := i2
                rw [hI.al2 i' ob z i1 e hl hic]
                rw [hW.laid i1 e hlt (by omega) (fun k k1 k2 => hno k (by omega) k2)] at hg
                exact hg
            · cases hz : (hideFor (M j) n0 (D j).blocks (H j)).h.get (n0 + i') with
              | none => rfl
              | some z =>
                have := (get_hideFor hz).2 i' m1 rfl
                rw [m3] at this; cases this
          · exact .inl hg
        · have hji : j + 1 ≤ i := by omega
          obtain ⟨ob, z, e⟩ := i2
          rw [r2 i ob z i1 e hl hji] at hg
          right
          refine ⟨by rw [hI.al2 i ob z i1 e hl (by omega)]; exact hg, ?_⟩
          cases hz : (hideFor (M j) n0 (D j).blocks (H j)).h.get (n0 + i) with
          | none => rfl
          | some z' =>
            have := (get_hideFor hz).1
            rw [hW.absent i1 ⟨ob, z, e⟩ (by omega)] at this; cases this
      · rw [r0 i i1 i2 hl] at hg; cases hg
    · have hne : ∀ i, i < ops.size → isAl R i → b ≠ n0 + i := fun i i1 i2 e => hx ⟨i, i1, i2, e⟩
      rw [r3 b hne, hgu, if_neg] at hg
      · exact .inl hg
      · rintro ⟨i, m1, m2, _⟩
        have := (hmem i).1 m1
        exact hne i (by omega) this.2 m2
  refine ⟨hh', by simp [hI.lsz], fun k hk i hi => ?_, by omega, fun k hk hl => ?_, p1, p2, p3, p4, q1, Nat.le_trans hI.low hpast.mono, fun i i1 i2 i3 => ?_, fun i i1 i2 i3 i4 => ?_, fun i u z i1 i2 i3 i4 => ?_, r3, hI.up.trans hpast, fun i i1 i2 => ?_, fun i ob u i1 i2 i3 => ?_, .inr ⟨x, hR⟩⟩
  · rcases (hL k).1 hk with rfl | hk
    · exact (hL i).2 (.inr (hb i hi))
    · exact (hL i).2 (.inr (hI.clo k hk i hi))
  · rw [hL]
    constructor
    · rintro (rfl | h)
      · omega
      · have := (hI.ld k hk hl).1 h; omega
    · intro h
      by_cases e : k = j
      · exact .inl e
      · exact .inr (hbef k (by omega) hl)
  · exact r0 i i1 i2 (fun h => i3 ((hL i).2 (.inr h)))
  · exact r1 i i1 i2 ((keep i (fun e => hja (e ▸ i2))).1 i3) i4
  · exact r2 i u z i1 i2 ((keep i (fun e => hja (e ▸ ⟨u, z, i2⟩))).1 i3) i4
  · have hf := hI.free i i1 (fun h => i2 ((hL i).2 (.inr h)))
    cases hz : ρ' (n0 + i) with
    | none => rfl
    | some l =>
      rcases hu.new _ l hz with h | ⟨h, _⟩
      · rw [hf] at h; cases h
      · rw [hnx] at h; have := hI.low; omega
  · have hij : i ≠ j := fun e => hja (e ▸ ⟨ob, u, i2⟩)
    have hnl : ¬ Lst listed i := fun h => i3 ((hL i).2 (.inr h))
    have hij' : i < j := by omega
    have hjob : (H j).h.get (n0 + i) = some ob := by
      rcases Nat.lt_or_ge i c with hic | hic
      · rw [c2 _ (fun k k1 k2 k3 => by omega)]; exact hI.still i ob u hic i2 hnl
      · exact hW.laid (by omega) i2 hij' (by omega) (fun k k1 k2 => hno k (by omega) k2)
    rw [hgu, if_pos]
    · exact hjob
    · refine ⟨i, (hmem i).2 ⟨hij', ob, u, i2⟩, rfl, ?_, by rw [hjob]; rfl⟩
      cases hc : Nat.testBit (M j) i with
      | true => exact absurd (hb i hc) hnl
      | false => rfl
end
end Go.Refl
/- A region that draws its order: every order comes to what the text's order has shown. -/
namespace Go.Refl
open Go

section
variable {P : Program} {E : Env} {ex : Exec} {ops : Array Oper} {sz n0 : Nat}
variable {R : Nat → Rec} {D : Nat → Drawn} {T : Nat → Tr AV} {H : Nat → Hp} {M : Nat → Nat}
variable {h0 hh : Hp} {ρ0 ρ : Rho} {w0 w : World} {ds : List Deferred} {listed : Array Bool} {a : Act} {c : Nat} {k : Nat} {F : Fence} {rnd : Option Nat} {Q : Exit → Act → World → Prop}

theorem Up.as {hm : Hp} (hu : Up E h0 ρ0 w0 hh ρ w) (hg : ∀ b, hm.h.get b = hh.h.get b) (hn : hm.next = hh.next) : Up E h0 ρ0 w0 hm ρ w :=
  ⟨hu.ext, fun b l h => by rw [hn]; exact hu.new b l h, by rw [hn]; exact hu.mono, hu.hr.sub (fun b o h => by rw [← hg]; exact h) (Nat.le_of_eq hn.symm), hu.size, hu.frame,
   fun b l ⟨o, hb⟩ hl => hu.own b l ⟨o, by rw [← hg]; exact hb⟩ hl, hu.os, hu.tape, hu.output⟩

theorem Up.bump {w' : World} (hr : HR E hh ρ w) (n : Nat) (hn : hh.next ≤ n) (e : w'.heap = w.heap) (h1 : w'.os = w.os) (h2 : w'.tape = w.tape) (h3 : w'.output = w.output) : Up E hh ρ w { hh with next := n } ρ w' :=
  ⟨Ext.refl ρ, fun _ _ h => .inl h, hn, (hr.of_heap e).sub (fun _ _ h => h) hn, by rw [e]; exact Nat.le_refl _, fun _ _ _ => by rw [e], fun b l hb hl => .inr ⟨b, l, hb, hl, rfl⟩, h1, h2, h3⟩

/-- A quiet operation gives what it gave. -/
theorem DInv.quiet (hW : Whole E ex ops sz n0 R D T H M) (hI : DInv E ops sz n0 R T H M h0 ρ0 w0 ds listed a w c ρ hh) {j : Nat} {o : Oper} (ho : ops[j]? = some o) (hn : ¬ Lst listed j)
    (hb : ∀ i, Nat.testBit (M j) i = true → Lst listed i) {x : AV} (hR : R j = .q x) : ∃ hX : Hp, HR E hX ρ w ∧ quietOp E o (hideT (M j) (D j).writes (T j)) hX = some x := by
  have hj := (Array.getElem?_eq_some_iff.1 ho).1
  obtain ⟨_, _, _, hs⟩ := hW.step j o ho
  rw [hR] at hs
  simp only at hs
  obtain ⟨_, _, hq, hlo, _⟩ := hs
  have done : ∀ (hX : Hp), (∀ b u, hX.h.get b = some u → hh.h.get b = some u) → quietOp E o (hideT (M j) (D j).writes (T j)) hX = some x → ∃ hX : Hp, HR E hX ρ w ∧ quietOp E o (hideT (M j) (D j).writes (T j)) hX = some x :=
    fun hX h1 h2 => ⟨{ hX with next := hh.next }, hI.up.hr.sub h1 (Nat.le_refl _), by rw [quietOp_next]; exact h2⟩
  rcases Nat.lt_or_ge j c with hjc | hcj
  · -- a loud one behind it has been: the last one
    obtain ⟨d, hd⟩ : ∃ d, c = d + 1 := ⟨c - 1, by omega⟩
    subst hd
    have hl : isLd R d := hI.lst.resolve_left (by omega)
    have hdm : d < ops.size := hI.cm
    have hdj : j ≠ d := by rintro rfl; obtain ⟨u, e⟩ := hl; rw [hR] at e; cases e
    have hdL : Lst listed d := (hI.ld d hdm hl).2 (by omega)
    have hnb : ¬ Nat.testBit (M d) j = true := fun h => hn (hI.clo d hdL j h)
    obtain ⟨od, hod⟩ : ∃ o, ops[d]? = some o := ⟨ops[d], Array.getElem?_eq_getElem hdm⟩
    obtain ⟨_, _, _, hs⟩ := hW.step d od hod
    obtain ⟨u, hu⟩ := hl
    rw [hu] at hs
    simp only at hs
    rcases hs.2.2.2.2.1 _ (hW.quiets d (by omega) j o x (by omega) ho hR) with h | h
    · exact absurd h hnb
    · exact done _ (fun b u' hg => hI.shown hW hb (p := d + 1) (q := d) (Nat.le_refl _) (by omega) (by omega) (fun k k1 k2 => by omega) (fun i hi hal => by
        by_cases e : i = d
        · subst e; obtain ⟨_, _, e⟩ := hal; rw [hu] at e; cases e
        · omega) hg) h
  · by_cases hx : ∃ k, c ≤ k ∧ k < j ∧ isLd R k
    · -- the first loud one that has not been
      have : ∃ k, (c ≤ k ∧ k < j ∧ isLd R k) ∧ ∀ k', c ≤ k' → k' < k → ¬ isLd R k' := by
        obtain ⟨k, hk⟩ := hx
        induction k using Nat.strongRecOn with
        | _ k ih =>
          by_cases h : ∃ k', c ≤ k' ∧ k' < k ∧ isLd R k'
          · obtain ⟨k', g1, g2, g3⟩ := h
            exact ih k' g2 ⟨g1, by omega, g3⟩
          · exact ⟨k, hk, fun k' g1 g2 g3 => h ⟨k', g1, g2, g3⟩⟩
      obtain ⟨k, ⟨k1, k2, k3⟩, k4⟩ := this
      have hkn : ¬ Lst listed k := fun h => by have := (hI.ld k (by omega) k3).1 h; omega
      rcases hlo _ (hW.louds j (by omega) k k2 k3) with h | h
      · exact absurd (hb k h) hkn
      · exact done _ (fun b u hg => hI.shown hW hb (p := k) (q := j) k1 (by omega) (by omega) k4 (fun i hi _ => by omega) hg) h
    · exact done _ (fun b u hg => hI.shown hW hb (p := j) (q := j) hcj (by omega) (by omega) (fun k k1 k2 k3 => hx ⟨k, k1, k2, k3⟩) (fun i hi _ => hi) hg) hq
end
end Go.Refl
/- A region that draws its order: the law. -/
namespace Go.Refl
open Go

section
variable {P : Program} {E : Env} {ex : Exec} {ops : Array Oper} {sz n0 : Nat}
variable {R : Nat → Rec} {D : Nat → Drawn} {T : Nat → Tr AV} {H : Nat → Hp} {M : Nat → Nat}
variable {h0 hh : Hp} {ρ0 ρ : Rho} {w0 w : World} {ds : List Deferred} {listed : Array Bool} {a : Act} {c : Nat} {k : Nat} {F : Fence} {rnd : Option Nat} {Q : Exit → Act → World → Prop}

theorem step_any (hE : EnvOk P E) (hK : KnownOk P E) (hS : Sound P E ex) (hF : FenceOk F rnd ρ) (hW : Whole E ex ops sz n0 R D T H M) (hbf : ∀ i, i < ops.size → (beforeL ops.toList [])[i]? = some (M i)) {t0 : Tr AV} (hT0 : T 0 = freshT ops.toList (beforeL ops.toList []) 0 t0)
    (hI : DInv E ops sz n0 R T H M h0 ρ0 w0 ds listed a w c ρ hh) (hn0 : h0.next ≤ n0) {j : Nat} (hj : j ∈ Region.ready .any ops listed) :
    wpOpIn F k P ops Q j (fun a' w' => ∃ c' ρ' hh', Ext ρ ρ' ∧ DInv E ops sz n0 R T H M h0 ρ0 w0 ds (listed.setIfInBounds j true) a' w' c' ρ' hh') a w := by
  obtain ⟨hlt, hn, ⟨o, ho⟩, hb⟩ := ready_inv hW hbf hI hj
  have ht := hI.tr hW hbf hT0 hlt hn hb
  obtain ⟨_, _, _, hs⟩ := hW.step j o ho
  unfold wpOpIn
  rw [ho]
  simp only
  cases hR : R j <;> rw [hR] at hs <;> simp only at hs
  · rw [wanted_sound ht hs.1, if_neg (by simp)]
    exact ⟨fun f _ => hF.fn f, c, ρ, hh, Ext.refl ρ, hI.calm hW hbf ho hn hb (by rintro ⟨_, _, e⟩; rw [hR] at e; cases e) (by rintro ⟨_, e⟩; rw [hR] at e; cases e) (by rw [hR]; exact undef_rel ρ)⟩
  · rename_i v
    rw [wanted_sound ht hs.1, if_pos rfl]
    obtain ⟨hX, g1, g2⟩ := hI.quiet hW ho hn hb hR
    have hone : oneOp E ex o (hideT (M j) (D j).writes (T j)) hX = some [(v, hX)] := by unfold oneOp; rw [hs.2.1]; simp only [g2]
    have hnd : ∀ c, o.op ≠ .defer c := by intro c hc; have := hs.2.1; rw [hc] at this; cases this
    obtain ⟨v', q1, q2⟩ := quiet_sound hE g1 ht g2
    refine ⟨fun f _ => hF.fn f, ?_⟩
    rw [semAt_run hF hnd, q2]
    exact ⟨c, ρ, hh, Ext.refl ρ, hI.calm hW hbf ho hn hb (by rintro ⟨_, _, e⟩; rw [hR] at e; cases e) (by rintro ⟨_, e⟩; rw [hR] at e; cases e) (by rw [hR]; exact q1)⟩
  · rename_i ob v
    rw [wanted_sound ht hs.1, if_pos rfl]
    have hnd : ∀ c, o.op ≠ .defer c := by intro c hc; have := hs.2.1; rw [hc] at this; cases this
    obtain ⟨sh, kap, v', w', q1, ⟨ob', q2, q3, q4, q5, q6⟩, q7⟩ := alloc_sound0 hE hI.up.hr ht (hI.free j hlt hn) hs.2.2.2.2.1
    refine ⟨fun f _ => hF.fn f, ?_⟩
    rw [semAt_run hF hnd, q1]
    exact ⟨c, _, _, Rho.add_ext (hI.free j hlt hn), hI.alloc hW hbf hn0 ho hn hb hR q2 q3 q4 q5 q6 q7⟩
  · rename_i v
    rw [wanted_sound ht hs.1, if_pos rfl]
    obtain ⟨g1, h1, g2, g3⟩ := hI.loud hW hbf ho hn hb hR
    have hone : oneOp E ex o (hideT (M j) (D j).writes (T j)) (hideFor (M j) n0 (D j).blocks (H j)) = some [(v, h1)] := by unfold oneOp; rw [hs.2.1]; exact g2
    refine oneOp_wp hE hK hS hF g1 ht hone fun x h' ρ' v' w' hm hup hv => ?_
    cases List.mem_singleton.1 hm
    obtain ⟨hh', g4⟩ := g3 ρ' v' w' hup hv
    exact ⟨_, ρ', hh', hup.ext, g4⟩

theorem any_all (hE : EnvOk P E) (hK : KnownOk P E) (hS : Sound P E ex) (hW : Whole E ex ops sz n0 R D T H M) (hbf : ∀ i, i < ops.size → (beforeL ops.toList [])[i]? = some (M i)) {t0 : Tr AV} (hT0 : T 0 = freshT ops.toList (beforeL ops.toList []) 0 t0) (hn0 : h0.next ≤ n0)
    (hQ : ∀ listed a w c ρ hh, DInv E ops sz n0 R T H M h0 ρ0 w0 ds listed a w c ρ hh → (∀ i, i < ops.size → Lst listed i) → Q .normal a w) :
    ∀ (fuel : Nat) (listed : Array Bool) (a : Act) (w : World) (c : Nat) (ρ : Rho) (hh : Hp), DInv E ops sz n0 R T H M h0 ρ0 w0 ds listed a w c ρ hh → FenceOk F rnd ρ → listed.toList.count false ≤ fuel → wpAnyIn F k P .any ops Q fuel listed a w := by
  have fin : ∀ listed a w c ρ hh, DInv E ops sz n0 R T H M h0 ρ0 w0 ds listed a w c ρ hh → Region.ready .any ops listed = [] → Q .normal a w := by
    intro listed a w c ρ hh hI hr
    refine hQ listed a w c ρ hh hI fun i hi => ?_
    induction i using Nat.strongRecOn with
    | _ i ih =>
      cases hc : listed.getD i false with
      | true => exact hc
      | false =>
        exfalso
        have hil : i < listed.size := by rw [hI.lsz]; exact hi
        have : i ∈ Region.ready .any ops listed := by
          refine mem_ready.2 ⟨?_, ops[i], Array.getElem?_eq_getElem hi, fun e he hb => ?_⟩
          · rw [Array.getD_eq_getD_getElem?] at hc ⊢
            rw [Array.getElem?_eq_getElem hil] at hc ⊢
            exact hc
          · have hok := (hW.step i _ (Array.getElem?_eq_getElem hi)).1
            have := List.all_eq_true.1 hok e (by simpa using he)
            rw [hb] at this
            simp only [Nat.blt_eq] at this
            exact ih e.on this (by omega)
        rw [hr] at this; cases this
  intro fuel
  induction fuel with
  | zero =>
    intro listed a w c ρ hh hI _ hc
    have hr : Region.ready .any ops listed = [] := by
      cases hr : Region.ready .any ops listed with
      | nil => rfl
      | cons j js =>
        obtain ⟨hlt, hn, _⟩ := ready_inv hW hbf hI (j := j) (by rw [hr]; exact List.mem_cons_self)
        exfalso
        have h0 := List.count_eq_zero.1 (Nat.le_zero.1 hc)
        have hjl : j < listed.size := by rw [hI.lsz]; exact hlt
        apply h0
        unfold Lst at hn
        rw [Array.getD_eq_getD_getElem?, Array.getElem?_eq_getElem hjl] at hn
        have : listed[j] = false := by simpa using hn
        rw [← this]
        simp
    exact ⟨hr, fin _ _ _ _ _ _ hI hr⟩
  | succ fuel ih =>
    intro listed a w c ρ hh hI hF hc
    refine ⟨fun hr => fin _ _ _ _ _ _ hI hr, fun j hj => ?_⟩
    refine wpOpIn_mono ?_ (step_any hE hK hS hF hW hbf hT0 hI hn0 hj)
    rintro a' w' ⟨c', ρ', hh', g1, g2⟩
    refine ih _ _ _ _ _ _ g2 (hF.ext g1) ?_
    obtain ⟨hlt, hn, _⟩ := ready_inv hW hbf hI hj
    have hjl : j < listed.size := by rw [hI.lsz]; exact hlt
    unfold Lst at hn
    rw [Array.getD_eq_getD_getElem?, Array.getElem?_eq_getElem hjl] at hn
    have hf : listed[j] = false := by simpa using hn
    rw [Array.toList_setIfInBounds, List.count_set (by simpa using hjl)]
    have hf' : listed.toList[j]'(by simpa using hjl) = false := by simpa using hf
    rw [hf']
    have hpos : 0 < listed.toList.count false := List.count_pos_iff.2 (by rw [← hf']; exact List.getElem_mem _)
    show listed.toList.count false - 1 + 0 ≤ fuel
    omega

theorem drawSound (hE : EnvOk P E) (hK : KnownOk P E) (hS : Sound P E ex) : DrawSound P E ex := by
  intro id ops rnd s F ρ a w k t h hq hF hs
  obtain ⟨R, D, T, H, M, tr, d0, t0, e0, tf, hf, hbf⟩ := drawRun_trace hq
  have hW : Whole E ex ops s.size s.hp.next R D T H M := ⟨fun i o ho => by have := tr.step i o (by simpa using ho); simpa using this, d0⟩
  have hbf' : ∀ i, i < ops.size → (beforeL ops.toList [])[i]? = some (M i) := fun i hi => by have := hbf i (by simpa using hi); simpa using this
  rw [Nat.zero_add, Array.length_toList] at tf hf
  refine wpIn_region_any hE.mixed ?_
  have hup := Up.bump (w' := { w with drawn := w.drawn + 1 }) hs.hr (s.hp.next + ops.size) (Nat.le_add_right _ _) rfl rfl rfl rfl
  have hl0 : ∀ i, ¬ Lst (Array.replicate ops.size false) i := by
    intro i hi
    unfold Lst at hi
    rw [Array.getD_eq_getD_getElem?, Array.getElem?_replicate] at hi
    split at hi <;> simp at hi
  refine any_all (h0 := s.hp) (ρ0 := ρ) (w0 := w) (ds := a.defers) hE hK hS hW hbf' t0 (Nat.le_refl _) ?_ ops.size _ a _ 0 ρ { s.hp with next := s.hp.next + ops.size } ?_ hF ?_
  · intro listed a' w' c ρ' hh hI hall
    have hno : ∀ k, c ≤ k → k < ops.size → ¬ isLd R k := fun k k1 k2 k3 => by have := (hI.ld k k2 k3).1 (hall k k2); omega
    obtain ⟨c1, c2⟩ := hW.calm ops.size hI.cm (Nat.le_refl _) hno
    have hget : ∀ b, h.h.get b = hh.h.get b := by
      intro b
      rw [← hf]
      by_cases hx : ∃ i, i < ops.size ∧ isAl R i ∧ b = s.hp.next + i
      · obtain ⟨i, i1, i2, rfl⟩ := hx
        rcases Nat.lt_or_ge i c with hic | hic
        · rw [hI.al1 i i1 i2 (hall i i1) hic, c2 _ (fun k k1 k2 k3 => by omega)]
        · obtain ⟨ob, v, e⟩ := i2
          rw [hI.al2 i ob v i1 e (hall i i1) hic, hW.laid i1 e i1 (Nat.le_refl _) (fun k k1 k2 => hno k (by omega) k2)]
      · have hne : ∀ i, i < ops.size → isAl R i → b ≠ s.hp.next + i := fun i i1 i2 e => hx ⟨i, i1, i2, e⟩
        rw [hI.oth b hne, c2 b (fun k k1 k2 k3 => hne k k2 k3)]
    have hup2 := hI.up.as hget (by rw [← hf, c1, hI.nx])
    refine ⟨.normal, _, ρ', List.mem_singleton.2 rfl, trivial, hup2, ⟨hup2.hr, fun d x hx => ?_, hI.tsz, ?_⟩⟩
    · simp only at hx
      rw [← tf] at hx
      rcases hW.regs ops.size (Nat.le_refl _) d x hx with ⟨i, g1, ⟨o, g2, g3⟩, rfl, g4⟩ | ⟨g1, g2⟩
      · refine hI.regs d i o (hall i g1) g2 g3 fun k o' k1 k2 k3 => ?_
        rcases Nat.lt_or_ge i k with hik | hik
        · exact absurd k3 (g4 k o' hik (Array.getElem?_eq_some_iff.1 k2).1 k2)
        · exact hik
      · exact hI.regs0 d x (fun k o' k1 k2 => g1 k o' (Array.getElem?_eq_some_iff.1 k2).1 k2) g2
    · rw [hI.dfr]; exact hs.marks.ext hup2.ext
  · refine ⟨by simp, fun k hk => absurd hk (hl0 k), Nat.zero_le _, fun k _ _ => ⟨fun h => absurd h (hl0 k), fun h => by omega⟩, fun d i o h => absurd h (hl0 i), fun d x _ hx => ?_, hs.size, rfl, by rw [e0], Nat.le_refl _,
      fun i i1 i2 _ => ?_, fun i _ _ h => absurd h (hl0 i), fun i _ _ _ _ h => absurd h (hl0 i), fun b _ => by rw [e0], hup, fun i _ _ => ?_, fun i _ _ h => by omega, .inl rfl⟩
    · rw [t0] at hx
      exact hs.tr d x (get_freshT hx).1
    · have := hW.absent i1 i2 (Nat.zero_le i)
      rw [e0] at this; exact this
    · cases hz : ρ (s.hp.next + i) with
      | none => rfl
      | some l => have := hs.hr.dom _ l hz; omega
  · simp

/-- THE LAW OF THE EVALUATOR. -/
theorem exec_sound (hE : EnvOk P E) (hK : KnownOk P E) : ∀ n, Sound P E (exec E n)
  | 0 => by intro c rnd s rs F ρ a w k h; cases h
  | n + 1 => codeRun_sound hE hK (exec_sound hE hK n) (drawSound hE hK (exec_sound hE hK n))
end
end Go.Refl
