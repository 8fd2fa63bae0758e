/- A closed call, run by the evaluator over kept answers, in any world where the table of the powers of ten stands: what it answers, and that what was there stays. -/
import Derived.Test.YtdifpleoipjjfaaGreatDoorHeadB
import Derived.Below
namespace Go.Proofs.YtdifpleoipjjfaaGreatDoor
open Go Go.Refl Go.RowKit

/-- The table of the powers of ten, as the world holds it. -/
def powCells : Array Value := #[.int .u64 1, .int .u64 10, .int .u64 100, .int .u64 1000, .int .u64 10000, .int .u64 100000, .int .u64 1000000, .int .u64 10000000, .int .u64 100000000, .int .u64 1000000000, .int .u64 10000000000, .int .u64 100000000000, .int .u64 1000000000000, .int .u64 10000000000000, .int .u64 100000000000000, .int .u64 1000000000000000, .int .u64 10000000000000000, .int .u64 100000000000000000, .int .u64 1000000000000000000, .int .u64 10000000000000000000]

def PowIn (w : World) : Prop := ∃ fr, w.heap[3]? = some (.cells powCells 738 fr)

def rho9 : Rho := fun b => if b < 9 then some ⟨b, 0, 0⟩ else none

def hp9 : Hp := { h := mkTree .lf powGl, next := 9 }

theorem hp9_get {b : Nat} {o : AObj} (h : hp9.h.get b = some o) : b = 3 ∧ o = powRow := by
  rcases mkTree_get _ _ _ _ h with h | h
  · rw [lf_get] at h; cases h
  · simp only [powGl, List.mem_singleton, Prod.mk.injEq] at h
    exact h

theorem pow_or {E : Env} {ρ : Rho} {k lo hi : Nat} (hpf : E.pf = (lo, hi)) : OR E ρ ⟨3, 0, k⟩ powRow (.cells powCells 738 (lo, hi)) := by
  refine ⟨powCells, lo, hi, rfl, fun i x hx => ?_, fun i h1 h2 => ?_, ⟨fun h => (by cases h), fun _ => ⟨rfl, rfl, fun _ => hpf.symm⟩⟩⟩
  · have hi' : i < 20 := by
      have := (List.getElem?_eq_some_iff.1 hx).1
      simpa using this
    have key : ∀ i < 20, ∃ n : Int, ([.int .u64 1, .int .u64 10, .int .u64 100, .int .u64 1000, .int .u64 10000, .int .u64 100000, .int .u64 1000000, .int .u64 10000000, .int .u64 100000000, .int .u64 1000000000, .int .u64 10000000000, .int .u64 100000000000, .int .u64 1000000000000, .int .u64 10000000000000, .int .u64 100000000000000, .int .u64 1000000000000000, .int .u64 10000000000000000, .int .u64 100000000000000000, .int .u64 1000000000000000000, .int .u64 10000000000000000000] : List AV)[i]? = some (.int .u64 n) ∧ powCells[i]? = some (.int .u64 n) := by
      intro i hi
      have : i = 0 ∨ i = 1 ∨ i = 2 ∨ i = 3 ∨ i = 4 ∨ i = 5 ∨ i = 6 ∨ i = 7 ∨ i = 8 ∨ i = 9 ∨ i = 10 ∨ i = 11 ∨ i = 12 ∨ i = 13 ∨ i = 14 ∨ i = 15 ∨ i = 16 ∨ i = 17 ∨ i = 18 ∨ i = 19 := by omega
      rcases this with rfl | rfl | rfl | rfl | rfl | rfl | rfl | rfl | rfl | rfl | rfl | rfl | rfl | rfl | rfl | rfl | rfl | rfl | rfl | rfl <;> exact ⟨_, rfl, rfl⟩
    obtain ⟨n, h1, h2⟩ := key i hi'
    rw [h1] at hx; cases hx
    exact ⟨.int .u64 n, by simpa using h2, .int _ _⟩
  · have h2 : i < 20 := by simpa [powCells] using h2
    omega

theorem pow_back {E : Env} {ρ : Rho} {l : Refl.Loc} {ob : Obj} {lo hi : Nat} (hpf : E.pf = (lo, hi)) (h : OR E ρ l powRow ob) : ob = .cells powCells 738 (lo, hi) := by
  obtain ⟨cs, lo', hi', rfl, h1, h2, h3⟩ := h
  obtain ⟨hsh, hsz, hfz⟩ := h3.2 rfl
  have hfz := hfz (by decide)
  rw [hpf] at hfz; cases hfz
  have hsz : cs.size = 20 := hsz
  have hcs : cs = powCells := by
    apply Array.ext
    · rw [hsz]; rfl
    · intro i hi1 hi2
      have hi20 : i < 20 := by rw [← hsz]; exact hi1
      obtain ⟨cs0, lo0, hi0, e0, k1, _⟩ := pow_or (E := E) (ρ := ρ) (k := 0) (lo := lo) (hi := hi) hpf
      cases e0
      have hx : ∃ x, ([.int .u64 1, .int .u64 10, .int .u64 100, .int .u64 1000, .int .u64 10000, .int .u64 100000, .int .u64 1000000, .int .u64 10000000, .int .u64 100000000, .int .u64 1000000000, .int .u64 10000000000, .int .u64 100000000000, .int .u64 1000000000000, .int .u64 10000000000000, .int .u64 100000000000000, .int .u64 1000000000000000, .int .u64 10000000000000000, .int .u64 100000000000000000, .int .u64 1000000000000000000, .int .u64 10000000000000000000] : List AV)[i]? = some x :=
        ⟨_, List.getElem?_eq_getElem (by simpa using hi20)⟩
      obtain ⟨x, hx⟩ := hx
      obtain ⟨v, e1, r1⟩ := h1 i x hx
      obtain ⟨v', e2, r2⟩ := k1 i x hx
      rw [hsh, Nat.zero_add] at e1
      have e2 : powCells[i]? = some v' := by simpa using e2
      have hvv : v = v' := by
        have : i = 0 ∨ i = 1 ∨ i = 2 ∨ i = 3 ∨ i = 4 ∨ i = 5 ∨ i = 6 ∨ i = 7 ∨ i = 8 ∨ i = 9 ∨ i = 10 ∨ i = 11 ∨ i = 12 ∨ i = 13 ∨ i = 14 ∨ i = 15 ∨ i = 16 ∨ i = 17 ∨ i = 18 ∨ i = 19 := by omega
        rcases this with rfl | rfl | rfl | rfl | rfl | rfl | rfl | rfl | rfl | rfl | rfl | rfl | rfl | rfl | rfl | rfl | rfl | rfl | rfl | rfl <;> (cases hx; cases r1; cases r2; rfl)
      subst hvv
      rw [Array.getElem?_eq_getElem hi1] at e1
      rw [Array.getElem?_eq_getElem hi2] at e2
      exact (Option.some.inj e1).trans (Option.some.inj e2).symm
  rw [hcs]

theorem hr9 {pf : Nat × Nat} {t : Tr (List Ent)} {w : World} (h : w.heap[3]? = some (.cells powCells 738 pf)) : HR (envT pf t) hp9 rho9 w := by
  refine ⟨fun b l hb => ?_, fun b o hb => ?_, fun b b' l l' hb hb' _ _ _ => ?_, fun g hg => ?_⟩
  · unfold rho9 at hb
    split at hb
    · assumption
    · cases hb
  · obtain ⟨rfl, rfl⟩ := hp9_get hb
    obtain ⟨lo, hi⟩ := pf
    exact ⟨⟨3, 0, 0⟩, _, rfl, h, pow_or (envT_pf _ _)⟩
  · obtain ⟨o, ho⟩ := hb
    obtain ⟨o', ho'⟩ := hb'
    rw [(hp9_get ho).1, (hp9_get ho').1]
  · rw [envT_globs] at hg
    exact ⟨0, by unfold rho9; rw [if_pos hg]⟩

/-- What is asked of each outcome: the value, and that the table is as it was. -/
def outIs (v : AV) : AV × Hp → Bool
  | (x, h) => match sameA 9 x v with
    | true => match h.h.get 3 with
      | some o => sameO o powRow
      | none => false
    | false => false

noncomputable def closedRun (pf : Nat × Nat) (t : Tr (List Ent)) (f : Nat) (args : List AV) (v : AV) : Bool :=
  match callFn (envT pf t) (exec (envT pf t) 100000) f args hp9 with
  | some rs => allL (outIs v) rs
  | none => false

theorem closed_call {t : Tr (List Ent)} (ht : ∀ pf, TabOk pf t) {f : Nat} {args : List AV} {v : AV} (hrun : ∀ pf, closedRun pf t f args v = true) {w : World} (hw : PowIn w) {args' : Array Value}
    (hv : VL rho9 args args'.toList) (hc : (callFunc f args').run Tryz.prog w = .ok (.enter f args') w) :
    Calls Tryz.prog f args' w fun e w' => (∃ ρ' x, e = .returned x ∧ VR ρ' v x) ∧ Below w.heap.size w w' := by
  obtain ⟨pf, hw⟩ := hw
  have hrun := hrun pf
  unfold closedRun at hrun
  split at hrun
  · rename_i rs hrs
    have hok := callFn_sound (envT_ok pf t) (knownT_ok (ht pf)) (exec_sound (envT_ok pf t) (knownT_ok (ht pf)) 100000) (hr9 hw) hv hrs
    rcases hok with ⟨_, h⟩ | ⟨_, _, _, _, _, _, h, _⟩
    · refine (callsIn_wide.1 (h 0)).mono ?_
      rintro e w' ⟨x, h', ρ', y, hm, rfl, u, hvr⟩
      have ho := allL_mem hrun _ hm
      simp only [outIs] at ho
      split at ho
      · rename_i hs
        have hs := sameA_same 9 _ _ hs
        subst hs
        split at ho
        · rename_i o ho3
          have := sameO_same ho
          subst this
          refine ⟨⟨ρ', y, rfl, hvr⟩, u.os, u.tape, u.output, u.size, fun c hc' => ?_⟩
          by_cases h3 : c = 3
          · subst h3
            obtain ⟨l, ob, k1, k2, k3⟩ := u.hr.obj 3 _ ho3
            have : l = ⟨3, 0, 0⟩ := by
              have := u.ext 3 ⟨3, 0, 0⟩ rfl
              rw [k1] at this; exact Option.some.inj this
            subst this
            obtain ⟨lo, hi⟩ := pf
            have := pow_back (envT_pf _ _) k3
            subst this
            exact k2.trans hw.symm
          · refine u.frame c hc' (fun b l hb hl => ?_)
            obtain ⟨o, ho⟩ := hb
            obtain ⟨rfl, rfl⟩ := hp9_get ho
            cases hl
            exact fun e => h3 e.symm
        · cases ho
      · cases ho
    · rw [hc] at h; cases h
  · cases hrun
end Go.Proofs.YtdifpleoipjjfaaGreatDoor
