/- The nine functions of Few pass it: they answer, whatever can be read. -/
import Derived.Test.YtdifpleoipjjfaaGreatDoorHeadA
import Derived.Test.YtdifpleoipjjfaaGreatDoorSxThree
import Derived.ChangeArms
namespace Go.Proofs.YtdifpleoipjjfaaGreatDoor
open Go Go.Refl Go.Sx
def ty94 : TI := ⟨(.struct [(0, 3), (1, 49), (2, 49)]), 3, 56, [.int .i64 (.ofNat 0), .nils, .nils], true⟩
theorem ty94_ok : TyOk Tryz.prog 94 ty94 := tyOk_of Tryz.types_size Tryz.type94 Tryz.underlying94 (fun _ => ⟨Tryz.stoodInHeld94, Tryz.eqGuardType94, by kernel_rfl⟩) (by kernel_rfl)
def ty506 : TI := ⟨(.struct [(0, 3), (1, 9), (2, 3)]), 3, 32, [.int .i64 (.ofNat 0), .str [], .int .i64 (.ofNat 0)], true⟩
theorem ty506_ok : TyOk Tryz.prog 506 ty506 := tyOk_of Tryz.types_size Tryz.type506 Tryz.underlying506 (fun _ => ⟨Tryz.stoodInHeld506, Tryz.eqGuardType506, by kernel_rfl⟩) (by kernel_rfl)
def ty512 : TI := ⟨(.struct [(0, 9), (1, 3)]), 2, 24, [.str [], .int .i64 (.ofNat 0)], true⟩
theorem ty512_ok : TyOk Tryz.prog 512 ty512 := tyOk_of Tryz.types_size Tryz.type512 Tryz.underlying512 (fun _ => ⟨Tryz.stoodInHeld512, Tryz.eqGuardType512, by kernel_rfl⟩) (by kernel_rfl)
def tyG : List (Nat × TI) := [(3, ty3), (4, ty4), (9, ty9), (22, ty22), (23, ty23), (24, ty24), (26, ty26), (28, ty28), (31, ty31), (32, ty32), (34, ty34), (35, ty35), (36, ty36), (37, ty37), (39, ty39), (40, ty40), (42, ty42), (43, ty43), (44, ty44), (46, ty46), (49, ty49), (60, ty60), (62, ty62), (65, ty65), (67, ty67), (68, ty68), (70, ty70), (72, ty72), (73, ty73), (75, ty75), (77, ty77), (78, ty78), (79, ty79), (81, ty81), (83, ty83), (85, ty85), (87, ty87), (89, ty89), (91, ty91), (92, ty92), (94, ty94), (96, ty96), (98, ty98), (127, ty127), (162, ty162), (213, ty213), (357, ty357), (506, ty506), (512, ty512)]
theorem tyG_ok : AllOf (fun p => TyOk Tryz.prog p.1 p.2) tyG :=
  .cons ty3_ok <|
  .cons ty4_ok <|
  .cons ty9_ok <|
  .cons ty22_ok <|
  .cons ty23_ok <|
  .cons ty24_ok <|
  .cons ty26_ok <|
  .cons ty28_ok <|
  .cons ty31_ok <|
  .cons ty32_ok <|
  .cons ty34_ok <|
  .cons ty35_ok <|
  .cons ty36_ok <|
  .cons ty37_ok <|
  .cons ty39_ok <|
  .cons ty40_ok <|
  .cons ty42_ok <|
  .cons ty43_ok <|
  .cons ty44_ok <|
  .cons ty46_ok <|
  .cons ty49_ok <|
  .cons ty60_ok <|
  .cons ty62_ok <|
  .cons ty65_ok <|
  .cons ty67_ok <|
  .cons ty68_ok <|
  .cons ty70_ok <|
  .cons ty72_ok <|
  .cons ty73_ok <|
  .cons ty75_ok <|
  .cons ty77_ok <|
  .cons ty78_ok <|
  .cons ty79_ok <|
  .cons ty81_ok <|
  .cons ty83_ok <|
  .cons ty85_ok <|
  .cons ty87_ok <|
  .cons ty89_ok <|
  .cons ty91_ok <|
  .cons ty92_ok <|
  .cons ty94_ok <|
  .cons ty96_ok <|
  .cons ty98_ok <|
  .cons ty127_ok <|
  .cons ty162_ok <|
  .cons ty213_ok <|
  .cons ty357_ok <|
  .cons ty506_ok <|
  .cons ty512_ok <|
  .nil
noncomputable def fnG : List (Nat × Func) := [(5, Tryz.f5), (12, Tryz.f12), (13, Tryz.f13), (14, Tryz.f14), (15, Tryz.f15), (39, Tryz.f39), (40, Tryz.f40), (41, Tryz.f41), (42, Tryz.f42)]
theorem fnG_ok : AllOf (FnOk Tryz.prog) fnG :=
  .cons ⟨Tryz.func5, by kernel_rfl⟩ <|
  .cons ⟨Tryz.func12, by kernel_rfl⟩ <|
  .cons ⟨Tryz.func13, by kernel_rfl⟩ <|
  .cons ⟨Tryz.func14, by kernel_rfl⟩ <|
  .cons ⟨Tryz.func15, by kernel_rfl⟩ <|
  .cons ⟨Tryz.func39, by kernel_rfl⟩ <|
  .cons ⟨Tryz.func40, by kernel_rfl⟩ <|
  .cons ⟨Tryz.func41, by kernel_rfl⟩ <|
  .cons ⟨Tryz.func42, by kernel_rfl⟩ <|
  .nil
def tyGT : Tr TI := mkTree .lf tyG
noncomputable def fnGT : Tr Func := mkTree .lf fnG
noncomputable def gE : Env := { fns := fnsOf fnGT, ty := tyGT.get, globs := 0, known := fun _ _ _ => none, pf := (0, 0) }
theorem mixedG : Tryz.prog.follows .mixedOrders = true := by decide
theorem gE_ty : gE.ty = (mkTree .lf tyG).get := by unfold gE; simp only; unfold tyGT; rfl
theorem gE_fns : gE.fns = fnsOf (mkTree .lf fnG) := by unfold gE; simp only; unfold fnGT; rfl
theorem gE_ok : EnvOk Tryz.prog gE := envOk_of (tl := tyG) (fl := fnG) gE_ty gE_fns tyG_ok fnG_ok mixedG

def tiOk (ty : Nat → Option TI) (ti : TI) : Bool :=
  Nat.ble ti.size 1000 && (match ti.d with
    | .slice _ => Nat.beq ti.size 1
    | .struct fs => (List.range ti.size).all fun i => fs.any fun p => match ty p.2 with
      | some te => Nat.ble p.1 i && Nat.blt i (p.1 + te.size)
      | none => false
    | _ => true)
theorem good_of {E : Env} {tl : List (Nat × TI)} (hty : ∀ t ti, E.ty t = some ti → (t, ti) ∈ tl) (h : tl.all (fun p => tiOk E.ty p.2) = true) : Good E := by
  have all : ∀ t ti, E.ty t = some ti → tiOk E.ty ti = true := fun t ti ht => List.all_eq_true.1 h _ (hty t ti ht)
  refine ⟨fun t ti fs ht hd i hi => ?_, fun t ti e ht hd => ?_, fun e te he => ?_⟩
  · have := all t ti ht
    unfold tiOk at this
    rw [hd, Bool.and_eq_true] at this
    have := List.all_eq_true.1 this.2 i (List.mem_range.2 hi)
    obtain ⟨p, hp, hq⟩ := List.any_eq_true.1 this
    split at hq
    · rename_i te hte
      rw [Bool.and_eq_true] at hq
      exact ⟨p.1, p.2, te, hp, hte, Nat.le_of_ble_eq_true hq.1, by simpa [Nat.blt_eq] using hq.2⟩
    · cases hq
  · have := all t ti ht
    unfold tiOk at this
    rw [hd, Bool.and_eq_true] at this
    exact Nat.eq_of_beq_eq_true this.2
  · have := all e te he
    unfold tiOk at this
    rw [Bool.and_eq_true] at this
    exact Nat.le_of_ble_eq_true this.1
theorem gE_mem (t : Nat) (ti : TI) (h : gE.ty t = some ti) : (t, ti) ∈ tyG := by
  rw [gE_ty] at h
  rcases mkTree_get _ _ _ _ h with h | h
  · rw [lf_get] at h; cases h
  · exact h
theorem tyG_all : tyG.all (fun p => tiOk gE.ty p.2) = true := by kernel_rfl
theorem gE_good : Good gE := good_of gE_mem tyG_all

noncomputable def sxOk (ct : Nat → Option Ct) (cs : List Nat) (f : Nat) (k : Ct) : Bool :=
  match gE.fns f with
  | none => false
  | some fi => sxFn gE.ty ct cs fi k
theorem sxOk_of {ct : Nat → Option Ct} {cs : List Nat} {f : Nat} {k : Ct} (h : sxOk ct cs f k = true) : ∃ fi, gE.fns f = some fi ∧ sxFn gE.ty ct cs fi k = true := by
  unfold sxOk at h
  split at h
  · cases h
  · rename_i fi hf
    exact ⟨fi, hf, h⟩
def ct0 : Nat → Option Ct := fun _ => none
def ct1 : Nat → Option Ct := fun f => match Nat.beq f 40 with
  | true => some ⟨[75, 3], false, true⟩
  | false => none
def ct2 : Nat → Option Ct := fun f => match Nat.beq f 39 with
  | true => some ⟨[62], true, false⟩
  | false => match Nat.beq f 40 with
    | true => some ⟨[75, 3], false, false⟩
    | false => match Nat.beq f 41 with
      | true => some ⟨[87], true, false⟩
      | false => match Nat.beq f 42 with
        | true => some ⟨[127, 3], true, false⟩
        | false => none
def ct3 : Nat → Option Ct := fun f => match Nat.beq f 12 with
  | true => some ⟨[46], true, false⟩
  | false => match Nat.beq f 13 with
    | true => some ⟨[22, 3], true, false⟩
    | false => match Nat.beq f 14 with
      | true => some ⟨[28], true, false⟩
      | false => match Nat.beq f 15 with
        | true => some ⟨[36], false, false⟩
        | false => none
theorem sx39 : sxOk ct0 [3, 4] 39 ⟨[62], true, false⟩ = true := by kernel_rfl
theorem sx40 : sxOk ct1 [6] 40 ⟨[75, 3], false, true⟩ = true := by kernel_rfl
theorem sx41 : sxOk ct0 [3, 4] 41 ⟨[87], true, false⟩ = true := by kernel_rfl
theorem sx42 : sxOk ct0 [5, 7] 42 ⟨[127, 3], true, false⟩ = true := by kernel_rfl
theorem sx14 : sxOk ct0 [3] 14 ⟨[28], true, false⟩ = true := by kernel_rfl
theorem sx15 : sxOk ct0 [4, 5] 15 ⟨[36], false, false⟩ = true := by kernel_rfl
theorem sx12 : sxOk ct2 [4, 5, 6, 7, 8] 12 ⟨[46], true, false⟩ = true := by kernel_rfl
theorem sx13 : sxOk ct2 [5, 6] 13 ⟨[22, 3], true, false⟩ = true := by kernel_rfl
theorem sx5 : sxOk ct3 [8, 9] 5 ⟨[46, 22, 28], true, false⟩ = true := by kernel_rfl

theorem known0 (N : Nat) : Known Tryz.prog gE.ty ct0 N := fun f k h => by cases h
theorem g39 : ∀ N, GuardN Tryz.prog gE.ty N 39 [62] true := let ⟨_, h1, h2⟩ := sxOk_of sx39; guard_of gE_ok gE_good h1 h2 known0
theorem g41 : ∀ N, GuardN Tryz.prog gE.ty N 41 [87] true := let ⟨_, h1, h2⟩ := sxOk_of sx41; guard_of gE_ok gE_good h1 h2 known0
theorem g42 : ∀ N, GuardN Tryz.prog gE.ty N 42 [127, 3] true := let ⟨_, h1, h2⟩ := sxOk_of sx42; guard_of gE_ok gE_good h1 h2 known0
theorem g14 : ∀ N, GuardN Tryz.prog gE.ty N 14 [28] true := let ⟨_, h1, h2⟩ := sxOk_of sx14; guard_of gE_ok gE_good h1 h2 known0
theorem g15 : ∀ N, GuardN Tryz.prog gE.ty N 15 [36] false := let ⟨_, h1, h2⟩ := sxOk_of sx15; guard_of gE_ok gE_good h1 h2 known0
theorem gE75 : gE.ty 75 = some ty75 := by kernel_rfl
theorem ty75_d (kk : IntKind) : ty75.d ≠ .int kk := by intro h; cases h
theorem g40 : ∀ N, GuardN Tryz.prog gE.ty N 40 [75, 3] false := by
  obtain ⟨_, h1, h2⟩ := sxOk_of sx40
  refine guard_self gE_ok gE_good (k := ⟨[75, 3], false, true⟩) h1 h2 rfl gE75 ty75_d fun N hN f k h => ?_
  unfold ct1 at h
  split at h
  · rename_i hb
    have := Nat.eq_of_beq_eq_true hb
    subst this
    cases h
    exact hN
  · cases h
theorem known2 (N : Nat) : Known Tryz.prog gE.ty ct2 N := by
  intro f k h
  unfold ct2 at h
  split at h
  · rename_i hb
    have := Nat.eq_of_beq_eq_true hb
    subst this; cases h; exact g39
  · split at h
    · rename_i hb
      have := Nat.eq_of_beq_eq_true hb
      subst this; cases h; exact g40
    · split at h
      · rename_i hb
        have := Nat.eq_of_beq_eq_true hb
        subst this; cases h; exact g41
      · split at h
        · rename_i hb
          have := Nat.eq_of_beq_eq_true hb
          subst this; cases h; exact g42
        · cases h
theorem g12 : ∀ N, GuardN Tryz.prog gE.ty N 12 [46] true := let ⟨_, h1, h2⟩ := sxOk_of sx12; guard_of gE_ok gE_good h1 h2 known2
theorem g13 : ∀ N, GuardN Tryz.prog gE.ty N 13 [22, 3] true := let ⟨_, h1, h2⟩ := sxOk_of sx13; guard_of gE_ok gE_good h1 h2 known2
theorem known3 (N : Nat) : Known Tryz.prog gE.ty ct3 N := by
  intro f k h
  unfold ct3 at h
  split at h
  · rename_i hb
    have := Nat.eq_of_beq_eq_true hb
    subst this; cases h; exact g12
  · split at h
    · rename_i hb
      have := Nat.eq_of_beq_eq_true hb
      subst this; cases h; exact g13
    · split at h
      · rename_i hb
        have := Nat.eq_of_beq_eq_true hb
        subst this; cases h; exact g14
      · split at h
        · rename_i hb
          have := Nat.eq_of_beq_eq_true hb
          subst this; cases h; exact g15
        · cases h
theorem g5 : ∀ N, GuardN Tryz.prog gE.ty N 5 [46, 22, 28] true := let ⟨_, h1, h2⟩ := sxOk_of sx5; guard_of gE_ok gE_good h1 h2 known3
end Go.Proofs.YtdifpleoipjjfaaGreatDoor
/- What the arguments' reading says: they can be read. -/
namespace Go.Sx
open Go Go.Refl Go.RowKit

/-- Types that are made of numbers, truths, texts, slices and structs alone, all of the table. -/
def closedOk (ty : Nat → Option TI) (ti : TI) : Bool :=
  match ti.d with
  | .int _ | .bool | .string => Nat.beq ti.size 1
  | .slice e => Nat.beq ti.size 1 && (ty e).isSome
  | .struct fs => fs.all fun p => (ty p.2).isSome
  | _ => false
def Closed (ty : Nat → Option TI) : Prop := ∀ t ti, ty t = some ti → closedOk ty ti = true

section
variable {P : Program} {E : Env} {H : Type} {enc : TypeId × Value → H} {w : World} {base : Nat} {spare : Nat → Bool} {held : Bool}

theorem cellsOf_ty (hE : EnvOk P E) {t : Nat} {ti : TI} (h : E.ty t = some ti) : P.cellsOf t = ti.size := by
  obtain ⟨i, z, h1, h2, _⟩ := (hE.ty t ti h).info
  unfold Program.cellsOf
  rw [h1]
  simpa using h2

theorem rd_of_trod (hE : EnvOk P E) (hc : Closed E.ty) : ∀ {fuel t : Nat} {cs : List Value} {x : DataW H × List MemPlace} {ti : TI}, DataW.trod enc P w base spare held fuel t cs = some x → E.ty t = some ti → RdN E.ty w fuel t cs
  | 0, t, cs, x, ti, h, _ => by simp [DataW.trod] at h
  | fuel + 1, t, cs, x, ti, h, ht => by
    obtain ⟨d, hu, hd, _⟩ := ty_under hE ht w
    have hcl := hc t ti ht
    refine ⟨ti, ht, ?_⟩
    unfold closedOk at hcl
    split at hcl
    · rename_i k hk
      rw [hk] at hd; simp only [TDOk] at hd; subst hd
      obtain ⟨n, rfl, _⟩ := DataW.trod_int hu h
      rw [hk]
      exact ⟨(Nat.eq_of_beq_eq_true hcl).symm, n, rfl⟩
    · rename_i hk
      rw [hk] at hd; simp only [TDOk] at hd; subst hd
      obtain ⟨n, rfl, _⟩ := DataW.trod_bool hu h
      rw [hk]
      exact ⟨(Nat.eq_of_beq_eq_true hcl).symm, n, rfl⟩
    · rename_i hk
      rw [hk] at hd; simp only [TDOk] at hd; subst hd
      obtain ⟨n, rfl, _⟩ := DataW.trod_string hu h
      rw [hk]
      exact ⟨(Nat.eq_of_beq_eq_true hcl).symm, n, rfl⟩
    · rename_i e hk
      rw [Bool.and_eq_true] at hcl
      rw [hk] at hd; simp only [TDOk] at hd; subst hd
      obtain ⟨te, hte⟩ := Option.isSome_iff_exists.1 hcl.2
      have hsz := Nat.eq_of_beq_eq_true hcl.1
      rw [hk]
      rcases DataW.trod_slice hu h with ⟨rfl, _⟩ | ⟨a, len, cap, elems, rest, n, e1, rfl, _, h1, h2, h3, h4, h5, _⟩
      · exact ⟨hsz.symm, none, 0, 0, rfl, Nat.zero_le _, fun i hi => absurd hi (Nat.not_lt_zero _)⟩
      · cases e1
        refine ⟨hsz.symm, some a, len, cap, rfl, Nat.le_trans h2 h3, fun i hi => ?_⟩
        have h5i := h5 i hi
        rw [cellsOf_ty hE hte] at h5i
        have hlt : i < elems.length := by omega
        rw [List.getElem?_eq_getElem hlt] at h5i
        obtain ⟨vs, g1, g2⟩ := Option.bind_eq_some_iff.1 h5i
        unfold World.cells? at g1
        split at g1
        · have hl := mapM_some_length g1
          simp at hl
          refine ⟨a, vs, te, rfl, hte, rd_of_trod hE hc g2 hte, hl, fun j v hj => ?_⟩
          have hjl : j < te.size := by have := (List.getElem?_eq_some_iff.1 hj).1; omega
          have := mapM_some_get g1 j j (by simp [hjl])
          rw [this]; exact hj
        · cases g1
    · rename_i fs hk
      rw [hk] at hd; simp only [TDOk] at hd
      obtain ⟨g, rfl, rfl⟩ := hd
      obtain ⟨xs, n, e1, _, h2, h3, h4⟩ := DataW.trod_struct hu h
      cases e1
      rw [hk]
      refine ⟨by rw [h2, cellsOf_ty hE ht], fun o u ho => ?_⟩
      obtain ⟨f, hf, e2⟩ := List.mem_map.1 ho
      cases e2
      obtain ⟨te, hte⟩ := Option.isSome_iff_exists.1 (List.all_eq_true.1 hcl _ ho)
      obtain ⟨i, hi, hfi⟩ := List.getElem_of_mem hf
      have hi' : i < g.size := by simpa using hi
      have h4i := h4 i f (by rw [Array.getElem?_eq_getElem hi']; simpa using hfi)
      have hlt : i < xs.length := by omega
      rw [List.getElem?_eq_getElem hlt, cellsOf_ty hE hte] at h4i
      exact ⟨te, hte, rd_of_trod hE hc h4i hte⟩
    · cases hcl
end

/-- Zero values can be read. -/
def zeroRd (ty : Nat → Option TI) : Nat → Nat → List Value → Bool
  | 0, _, _ => false
  | n + 1, t, cs => match ty t with
    | none => false
    | some ti => Nat.beq cs.length ti.size && (match ti.d with
      | .int k => match cs with
        | [.int k' _] => k' == k
        | _ => false
      | .bool => match cs with
        | [.bool _] => true
        | _ => false
      | .string => match cs with
        | [.string _] => true
        | _ => false
      | .slice _ => match cs with
        | [.slice none 0 _] => true
        | _ => false
      | .struct fs => fs.all fun p => match ty p.2 with
        | some te => zeroRd ty n p.2 ((cs.drop p.1).take te.size)
        | none => false
      | _ => false)
theorem zeroRd_sound {ty : Nat → Option TI} {w : World} : ∀ {n t : Nat} {cs : List Value}, zeroRd ty n t cs = true → RdN ty w n t cs
  | 0, _, _, h => by cases h
  | n + 1, t, cs, h => by
    simp only [zeroRd] at h
    split at h
    · cases h
    · rename_i ti hti
      rw [Bool.and_eq_true] at h
      refine ⟨ti, hti, Nat.eq_of_beq_eq_true h.1, ?_⟩
      have h2 := h.2
      split at h2
      · rename_i hk
        rw [hk]
        split at h2
        · rename_i k' i
          have := eq_of_beq h2
          subst this
          exact ⟨i, rfl⟩
        · cases h2
      · rename_i hk
        rw [hk]
        split at h2
        · exact ⟨_, rfl⟩
        · cases h2
      · rename_i hk
        rw [hk]
        split at h2
        · exact ⟨_, rfl⟩
        · cases h2
      · rename_i hk
        rw [hk]
        split at h2
        · exact ⟨_, _, _, rfl, Nat.zero_le _, fun i hi => absurd hi (Nat.not_lt_zero _)⟩
        · cases h2
      · rename_i fs hk
        rw [hk]
        intro o u ho
        have := List.all_eq_true.1 h2 _ ho
        split at this
        · rename_i te hte
          exact ⟨te, hte, zeroRd_sound this⟩
        · cases this
      · cases h2
end Go.Sx
