/- Tables, and answers that are kept by number: each is told once and used where a call meets it. -/
import Derived.Test.YtdifpleoipjjfaaGreatDoorReflSeven
import Derived.KernelRfl
import Derived.Lib.UnsafeStr
import Derived.Lib.MakeNoZero
import Derived.Lib.Bytealg
namespace Go.Refl
open Go

inductive AllOf {α : Type} (p : α → Prop) : List α → Prop
  | nil : AllOf p []
  | cons {a : α} {l : List α} : p a → AllOf p l → AllOf p (a :: l)

theorem AllOf.mem {α : Type} {p : α → Prop} {l : List α} (h : AllOf p l) : ∀ a ∈ l, p a := by
  induction h with
  | nil => intro a ha; cases ha
  | cons h1 _ ih =>
    intro b hb
    cases hb with
    | head => exact h1
    | tail _ hb => exact ih b hb

theorem AllOf.append {α : Type} {p : α → Prop} {l m : List α} (h : AllOf p l) (k : AllOf p m) : AllOf p (l ++ m) := by
  induction h with
  | nil => exact k
  | cons h1 _ ih => exact .cons h1 ih

def mkTree {α : Type} (t : Tr α) : List (Nat × α) → Tr α
  | [] => t
  | p :: l => mkTree (t.set p.1 p.2) l

theorem mkTree_get {α : Type} : ∀ (l : List (Nat × α)) (t : Tr α) (n : Nat) (a : α), (mkTree t l).get n = some a → t.get n = some a ∨ (n, a) ∈ l
  | [], _, _, _, h => .inl h
  | p :: l, t, n, a, h => by
    rcases mkTree_get l _ n a h with h | h
    · rw [Tr.get_set] at h
      split at h
      · rename_i e; cases h; subst e; exact .inr (List.mem_cons_self)
      · exact .inl h
    · exact .inr (List.mem_cons_of_mem _ h)

theorem lf_get {α : Type} (n : Nat) : (Tr.lf : Tr α).get n = none := by unfold Tr.get; rfl

/-! ### Types -/
def pairsEq : List (Nat × Nat) → List Field → Bool
  | [], [] => true
  | p :: ps, f :: fs => match Nat.beq p.1 f.offset with
    | true => match Nat.beq p.2 f.type with
      | true => pairsEq ps fs
      | false => false
    | false => false
  | _, _ => false
theorem pairsEq_map : ∀ {ps : List (Nat × Nat)} {fs : List Field}, pairsEq ps fs = true → fs.map (fun x => (x.offset, x.type)) = ps
  | [], [], _ => rfl
  | [], _ :: _, h => by cases h
  | _ :: _, [], h => by cases h
  | (a, b) :: ps, f :: fs, h => by
    unfold pairsEq at h
    split at h
    · rename_i h1
      split at h
      · rename_i h2
        have e1 : a = f.offset := Nat.eq_of_beq_eq_true h1
        have e2 : b = f.type := Nat.eq_of_beq_eq_true h2
        rw [List.map_cons, pairsEq_map h, e1, e2]
      · cases h
    · cases h

def tdChk : TD → TypeDesc → Bool
  | .int k, .int j => kindEq k j
  | .bool, .bool => true
  | .string, .string => true
  | .slice e, .slice f => Nat.beq e f
  | .array n e, .array m f => Nat.beq n m && Nat.beq e f
  | .struct fs, .struct gs => pairsEq fs gs.toList
  | .map k e, .map j f => Nat.beq k j && Nat.beq e f
  | .pointer e, .pointer f => Nat.beq e f
  | .func, .func .. => true
  | .interface, .interface _ => true
  | .uptr, .unsafePointer => true
  | _, _ => false
theorem tdChk_ok {d : TD} {e : TypeDesc} (h : tdChk d e = true) : TDOk d e ∧ d ≠ .other := by
  unfold tdChk at h
  split at h <;> (try (exact absurd h (by decide))) <;> (try simp only [Bool.and_eq_true] at h) <;> refine ⟨?_, fun e => by cases e⟩
  · exact congrArg _ (kindEq_same h).symm
  · rfl
  · rfl
  · exact congrArg _ (Nat.eq_of_beq_eq_true h).symm
  · obtain ⟨h1, h2⟩ := h; simp only [TDOk, Nat.eq_of_beq_eq_true h1, Nat.eq_of_beq_eq_true h2]
  · exact ⟨_, rfl, pairsEq_map h⟩
  · obtain ⟨h1, h2⟩ := h; simp only [TDOk, Nat.eq_of_beq_eq_true h1, Nat.eq_of_beq_eq_true h2]
  · exact congrArg _ (Nat.eq_of_beq_eq_true h).symm
  · exact ⟨_, _, _, rfl⟩
  · exact ⟨_, rfl⟩
  · rfl

def fieldsIn (n : Nat) : TypeDesc → Bool
  | .struct fs => fs.toList.all fun f => Nat.blt f.type n
  | _ => true
def namesOk : TypeDesc → Bool
  | .struct fs => fs.toList.all fun f => !(f.name == "_")
  | _ => true
def zeroChk (ti : TI) (z : Value) : Bool :=
  match isAgg ti.d, z with
  | true, .agg cs => match ofCells cs.toList with
    | some l => all2 (sameA 9) l ti.zero
    | none => false
  | true, _ => false
  | false, .agg _ => false
  | false, z => match ofCells [z] with
    | some l => all2 (sameA 9) l ti.zero
    | none => false

/-- What is asked of a type's row, all of it a reckoning. -/
def tyChk (n : Nat) (ti : TI) (i : TypeInfo) (d : TypeDesc) : Bool :=
  Nat.beq i.size ti.size && Nat.beq i.bytes ti.bytes && tdChk ti.d d && fieldsIn n d && Nat.beq ti.zero.length ti.size &&
  match i.zero with
  | some z => zeroChk ti z
  | none => false

theorem info_of {P : Program} {t : Nat} {i : TypeInfo} (h : P.types[t]? = some i) : P.info? t = some i := by
  have hlt : t < P.types.size := (Array.getElem?_eq_some_iff.1 h).1
  show Tables.info? P.toTables t = _
  unfold Tables.info?
  rw [if_pos hlt]; exact h

theorem info_in {P : Program} {n t : Nat} (hn : P.types.size = n) (h : t < n) : ∃ i, P.info? t = some i := by
  have hlt : t < P.types.size := by rw [hn]; exact h
  exact ⟨P.types[t], info_of (Array.getElem?_eq_some_iff.2 ⟨hlt, rfl⟩)⟩

theorem cells_of_not_agg {z : Value} (h : ∀ cs, z ≠ .agg cs) : z.cells = #[z] := by
  cases z <;> first
    | rfl
    | exact absurd rfl (h _)

theorem tyOk_of {P : Program} {n t : Nat} {i : TypeInfo} {d : TypeDesc} {ti : TI} (hn : P.types.size = n) (h1 : P.types[t]? = some i) (hu : P.underlying t = some d)
    (hp : ti.plain = true → P.stoodInHeld t = false ∧ P.eqGuardType P.depth t = false ∧ namesOk d = true) (h : tyChk n ti i d = true) : TyOk P t ti := by
  unfold tyChk at h
  simp only [Bool.and_eq_true] at h
  obtain ⟨⟨⟨⟨⟨hs, hb⟩, hd⟩, hf⟩, hl⟩, hz⟩ := h
  obtain ⟨hd1, hd2⟩ := tdChk_ok hd
  cases hze : i.zero with
  | some z =>
    rw [hze] at hz
    have hz : zeroChk ti z = true := hz
    have hzz : VL (fun _ => none) ti.zero z.cells.toList ∧ (isAgg ti.d = true → ∃ cs, z = .agg cs) ∧ (isAgg ti.d = false → VL (fun _ => none) ti.zero [z]) := by
      unfold zeroChk at hz
      cases ha : isAgg ti.d with
      | true =>
        rw [ha] at hz
        cases z with
        | agg cs =>
          simp only at hz
          split at hz
          · rename_i l hl
            have := all2_same (fun a b => sameA_same 9 a b) hz
            subst this
            exact ⟨ofCells_sound _ hl, fun _ => ⟨_, rfl⟩, fun hf => by cases hf⟩
          · cases hz
        | _ => cases hz
      | false =>
        rw [ha] at hz
        have hne : ∀ cs, z ≠ .agg cs := by intro cs e; subst e; cases hz
        have hz' : (match ofCells [z] with | some l => all2 (sameA 9) l ti.zero | none => false) = true := by
          cases z <;> first | exact hz | exact absurd rfl (hne _)
        split at hz'
        · rename_i l hl
          have := all2_same (fun a b => sameA_same 9 a b) hz'
          subst this
          refine ⟨by rw [cells_of_not_agg hne]; exact ofCells_sound _ hl, fun hf => (by cases hf), fun _ => ofCells_sound _ hl⟩
        · cases hz'
    refine ⟨⟨d, hu, hd1⟩, ⟨i, z, info_of h1, Nat.eq_of_beq_eq_true hs, Nat.eq_of_beq_eq_true hb, hze, fun ρ => ?_, hzz.2.1, fun ha _ => hzz.2.2 ha⟩, ?_, hd2, Nat.eq_of_beq_eq_true hl, ?_⟩
    · exact VL.ext (fun _ _ h => by cases h) hzz.1
    · intro hpl
      obtain ⟨p1, p2, p3⟩ := hp hpl
      refine ⟨p1, p2, fun f hf x hx => ?_⟩
      rw [hu] at hf; cases hf
      simp only [namesOk, List.all_eq_true] at p3
      have := p3 x (Array.mem_toList_iff.2 hx)
      intro e
      rw [e] at this
      simp at this
    · intro f hf' x hx
      rw [hu] at hf'; cases hf'
      simp only [fieldsIn, List.all_eq_true] at hf
      exact info_in hn (by have := hf x (Array.mem_toList_iff.2 hx); simpa [Nat.blt_eq] using this)
  | none => rw [hze] at hz; cases hz

theorem noPlain {ti : TI} {q : Prop} (h : ti.plain = false) : ti.plain = true → q := fun e => by rw [h] at e; cases e

/-! ### Functions -/
def fiOf (fn : Func) : Option FI :=
  match fn.body with
  | some b => some { body := b, ntmps := fn.ntmps, results := fn.results.toList }
  | none => none
def fnsOf (t : Tr Func) (f : Nat) : Option FI :=
  match t.get f with
  | some fn => fiOf fn
  | none => none

structure FnOk (P : Program) (p : Nat × Func) : Prop where
  row : P.funcs[p.1]? = some p.2
  name : (p.2.name == "runtime.NumGoroutine") = false

theorem envOk_of {P : Program} {E : Env} {tl : List (Nat × TI)} {fl : List (Nat × Func)} (hty : E.ty = (mkTree .lf tl).get) (hfn : E.fns = fnsOf (mkTree .lf fl))
    (ht : AllOf (fun p => TyOk P p.1 p.2) tl) (hf : AllOf (FnOk P) fl) (hm : P.follows .mixedOrders = true) : EnvOk P E := by
  refine ⟨fun t ti h => ?_, fun f fi h => ?_, hm⟩
  · rw [hty] at h
    rcases mkTree_get _ _ _ _ h with h | h
    · rw [lf_get] at h; cases h
    · exact ht.mem _ h
  · rw [hfn] at h
    unfold fnsOf at h
    split at h
    · rename_i fn hg
      rcases mkTree_get _ _ _ _ hg with hg | hg
      · rw [lf_get] at hg; cases hg
      · have := hf.mem _ hg
        unfold fiOf at h
        split at h
        · rename_i b hb
          cases h
          exact ⟨fn, this.row, hb, rfl, rfl, by have := this.name; simpa using this⟩
        · cases h
    · cases h
end Go.Refl
/- What the evaluator answers for the few functions that it does not step through. Definitions alone. -/
namespace Go.Refl
open Go

inductive Nk where
  | cc | str | mnz | ixb | cmp

/-- The place of a number in a list of them. -/
def ixOf (c : Nat) : List Nat → Nat → Option Nat
  | [], _ => none
  | n :: ns, i => match Nat.beq n c with
    | true => some i
    | false => ixOf c ns (i + 1)

/-- (*strings.Builder).copyCheck, (*strings.Builder).String, bytealg.MakeNoZero, bytealg.IndexByteString, the comparison of strings. 'bt': the type of a builder; 'u8': that of a byte. -/
def nativeA (bt u8 : Nat) (k : Nk) (args : List AV) (h : Hp) : Option (AV × Hp) :=
  match k, args with
  | .cc, [.ptr b 0] => match row? h b with
    | some (c, e, opn, f) => match opn with
      | true => none
      | false => match Nat.beq e bt with
        | false => none
        | true => match c with
          | [.nilp, v] => match f with
            | 0 => some (.tup [], setO h b (.row [.ptr b 0, v] e opn f))
            | _ => none
          | [.ptr b' 0, _] => match Nat.beq b' b with
            | true => some (.tup [], h)
            | false => none
          | _ => none
    | none => none
  | .str, [.ptr b 0] => match row? h b with
    | some (c, _, opn, _) => match opn with
      | true => none
      | false => match c with
        | [_, .slc r off len _] => match row? h r with
          | some (c, e, _, _) => match Nat.beq e u8 with
            | false => none
            | true => match takeN c off len with
              | some cs => match strOf cs with
                | some s => match s with
                  | [] => none
                  | _ :: _ => match Nat.ble len 1000000 with
                    | true => some (.str s, delO h r)
                    | false => none
                | none => none
              | none => none
          | none => none
        | _ => none
    | none => none
  | .mnz, [.int .i64 (.ofNat n)] => match Nat.ble n 1000000 with
    | true => some (.slc h.next 0 n (.op 0), alloc h (.row [] u8 true 0))
    | false => none
  | .ixb, [.str s, .int .u8 (.ofNat c)] => match Nat.blt c 256 with
    | true => match ixOf c s 0 with
      | some i => some (.int .i64 (.ofNat i), h)
      | none => some (.int .i64 (.negSucc 0), h)
    | false => none
  | .cmp, [.str a, .str b] => match listEq a b with
    | true => some (.int .i64 (.ofNat 0), h)
    | false => match bless a b with
      | true => some (.int .i64 (.negSucc 0), h)
      | false => some (.int .i64 (.ofNat 1), h)
  | _, _ => none
end Go.Refl
/- Answers that are kept: a call whose arguments and memory have a known shape is answered by what one run found, its blocks renamed. Definitions, and what renaming keeps. -/
namespace Go.Refl
open Go

/-! ### Renaming blocks -/
def mapO {α β : Type} (f : α → Option β) : List α → Option (List β)
  | [] => some []
  | a :: as => match f a with
    | none => none
    | some b => match mapO f as with
      | none => none
      | some bs => some (b :: bs)

def rn (r : Nat → Nat) : Nat → AV → Option AV
  | 0, _ => none
  | n + 1, x => match x with
    | .int k i => some (.int k i)
    | .bool b => some (.bool b)
    | .str s => some (.str s)
    | .ptr b o => some (.ptr (r b) o)
    | .nilp => some .nilp
    | .slc b o len c => some (.slc (r b) o len c)
    | .nils => some .nils
    | .emp => some .emp
    | .mp b => some (.mp (r b))
    | .nilm => some .nilm
    | .fn f a c => match mapO (rn r n) a with
      | none => none
      | some a => match mapO (rn r n) c with
        | none => none
        | some c => some (.fn f a c)
    | .yl b => some (.yl (r b))
    | .nilf => some .nilf
    | .ifc t v => match rn r n v with
      | none => none
      | some v => some (.ifc t v)
    | .nili => some .nili
    | .agg cs => match mapO (rn r n) cs with
      | none => none
      | some cs => some (.agg cs)
    | .tup cs => match mapO (rn r n) cs with
      | none => none
      | some cs => some (.tup cs)

def rnE (r : Nat → Nat) : List (AV × AV × Nat) → Option (List (AV × AV × Nat))
  | [] => some []
  | (k, v, b) :: es => match rn r 9 k with
    | none => none
    | some k => match rn r 9 v with
      | none => none
      | some v => match rnE r es with
        | none => none
        | some es => some ((k, v, b) :: es)

def rnO (r : Nat → Nat) : AObj → Option AObj
  | .row cells elem opn frz => match mapO (rn r 9) cells with
    | none => none
    | some cells => some (.row cells elem opn frz)
  | .map es clock => match rnE r es with
    | none => none
    | some es => some (.map es clock)
  | _ => none

def sameE : List (AV × AV × Nat) → List (AV × AV × Nat) → Bool
  | [], [] => true
  | (k, v, b) :: es, (k', v', b') :: es' => match sameA 9 k k' with
    | true => match sameA 9 v v' with
      | true => match Nat.beq b b' with
        | true => sameE es es'
        | false => false
      | false => false
    | false => false
  | _, _ => false
def sameO : AObj → AObj → Bool
  | .row c e o f, .row c' e' o' f' => match Nat.beq e e' with
    | true => match Nat.beq f f' with
      | true => match o == o' with
        | true => all2 (sameA 9) c c'
        | false => false
      | false => false
    | false => false
  | .map es k, .map es' k' => match Nat.beq k k' with
    | true => sameE es es'
    | false => false
  | _, _ => false

/-- The blocks of 'pre' are G, G + 1, ..; 'post': what is kept behind the call, by number, the new ones behind the old; 'm': how many there are, old and new. 'gl': package-level rows that are read and left as they are. -/
structure Ent where
  f : Nat
  args : List AV
  pre : List AObj
  val : AV
  post : List (Nat × AObj)
  m : Nat
  gl : List (Nat × AObj)

def ren (G : Nat) (σ : List Nat) (k next : Nat) (b : Nat) : Nat :=
  match Nat.blt b G with
  | true => b
  | false => match getAt σ (b - G) with
    | some a => a
    | none => next + (b - G - k)

/-! The actual blocks behind the pattern's: a guess, which is checked. -/
def gBind (G b b' : Nat) (σ : List Nat) : List Nat :=
  match Nat.blt b G with
  | true => σ
  | false => match Nat.beq (b - G) σ.length with
    | true => σ ++ [b']
    | false => σ
def gL (f : AV → AV → List Nat → List Nat) : List AV → List AV → List Nat → List Nat
  | x :: xs, y :: ys, σ => gL f xs ys (f x y σ)
  | _, _, σ => σ
def gV (G : Nat) : Nat → AV → AV → List Nat → List Nat
  | 0, _, _, σ => σ
  | n + 1, x, y, σ => match x, y with
    | .ptr b _, .ptr b' _ => gBind G b b' σ
    | .slc b _ _ _, .slc b' _ _ _ => gBind G b b' σ
    | .mp b, .mp b' => gBind G b b' σ
    | .fn _ a c, .fn _ a' c' => gL (gV G n) c c' (gL (gV G n) a a' σ)
    | .ifc _ v, .ifc _ v' => gV G n v v' σ
    | .agg a, .agg a' => gL (gV G n) a a' σ
    | .tup a, .tup a' => gL (gV G n) a a' σ
    | _, _ => σ
def gE (G : Nat) : List (AV × AV × Nat) → List (AV × AV × Nat) → List Nat → List Nat
  | (k, v, _) :: es, (k', v', _) :: es', σ => gE G es es' (gV G 9 v v' (gV G 9 k k' σ))
  | _, _, σ => σ
def gO (G : Nat) : AObj → AObj → List Nat → List Nat
  | .row c _ _ _, .row c' _ _ _, σ => gL (gV G 9) c c' σ
  | .map es _, .map es' _, σ => gE G es es' σ
  | _, _, σ => σ
def gP (G : Nat) (h : Hp) : List AObj → Nat → List Nat → List Nat
  | [], _, σ => σ
  | o :: os, i, σ => match getAt σ i with
    | none => σ
    | some b => match h.h.get b with
      | none => σ
      | some o' => gP G h os (i + 1) (gO G o o' σ)

def inL (a : Nat) : List Nat → Bool
  | [] => false
  | b :: bs => match Nat.beq a b with
    | true => true
    | false => inL a bs
def distinct : List Nat → Bool
  | [] => true
  | a :: as => match inL a as with
    | true => false
    | false => distinct as

def preOk (r : Nat → Nat) (h : Hp) : List AObj → List Nat → Bool
  | [], [] => true
  | o :: os, b :: bs => match h.h.get b with
    | none => false
    | some o' => match rnO r o with
      | none => false
      | some p => match sameO p o' with
        | true => preOk r h os bs
        | false => false
  | _, _ => false

def glOk (G : Nat) (r : Nat → Nat) (h : Hp) (σ : List Nat) : List (Nat × AObj) → Bool
  | [] => true
  | p :: ps => match Nat.blt p.1 G with
    | false => false
    | true => match inL p.1 σ with
      | true => false
      | false => match h.h.get p.1 with
        | none => false
        | some o' => match rnO r p.2 with
          | none => false
          | some q => match sameO q o' with
            | true => glOk G r h σ ps
            | false => false

def delAll : List Nat → Tr AObj → Tr AObj
  | [], t => t
  | b :: bs, t => delAll bs (t.del b)
def putPost (r : Nat → Nat) : List (Nat × AObj) → Tr AObj → Option (Tr AObj)
  | [], t => some t
  | p :: ps, t => match rnO r p.2 with
    | none => none
    | some o => putPost r ps (t.set (r p.1) o)

def quickA : AV → AV → Bool
  | .int k a, .int j b => kindEq k j && intEq a b
  | .str a, .str b => listEq a b
  | .bool a, .bool b => a == b
  | .slc _ _ l _, .slc _ _ l' _ => Nat.beq l l'
  | _, _ => true

def useEnt (G : Nat) (e : Ent) (args : List AV) (h : Hp) : Option (AV × Hp) :=
  match all2 quickA e.args args with
  | false => none
  | true =>
    let σ := gP G h e.pre 0 (gL (gV G 9) e.args args [])
    let k := e.pre.length
    let r := ren G σ k h.next
    match mapO (rn r 9) e.args with
    | none => none
    | some a => match all2 (sameA 9) a args with
      | false => none
      | true => match distinct σ with
        | false => none
        | true => match preOk r h e.pre σ with
          | false => none
          | true => match glOk G r h σ e.gl with
            | false => none
            | true => match rn r 9 e.val with
              | none => none
              | some v => match putPost r e.post (delAll σ h.h) with
                | none => none
                | some t => some (v, { h := t, next := h.next + (e.m - k) })

/-! ### The run that an answer comes from -/
def preHeap : List AObj → Nat → Tr AObj → Tr AObj
  | [], _, t => t
  | o :: os, b, t => preHeap os (b + 1) (t.set b o)
def glSame (h : Hp) : List (Nat × AObj) → Bool
  | [] => true
  | p :: ps => match h.h.get p.1 with
    | none => false
    | some o => match sameO o p.2 with
      | true => glSame h ps
      | false => false
def outOk (G : Nat) (e : Ent) : AV × Hp → Bool
  | (x, h) => match sameA 9 x e.val with
    | true => match Nat.ble h.next (G + e.m) with
      | true => match glSame h e.post with
        | true => glSame h e.gl
        | false => false
      | false => false
    | false => false
def allL {α : Type} (f : α → Bool) : List α → Bool
  | [] => true
  | a :: as => match f a with
    | true => allL f as
    | false => false
def runEnt (E : Env) (N : Nat) (e : Ent) : Bool :=
  match Nat.ble e.pre.length e.m with
  | false => false
  | true => match callFn E (exec E N) e.f e.args { h := preHeap e.pre E.globs (mkTree .lf e.gl), next := E.globs + e.pre.length } with
    | none => false
    | some rs => allL (outOk E.globs e) rs

def useEnts (G : Nat) : List Ent → List AV → Hp → Option (AV × Hp)
  | [], _, _ => none
  | e :: es, args, h => match useEnt G e args h with
    | some r => some r
    | none => useEnts G es args h

/-! ### What renaming keeps -/
theorem mapO_get {α β : Type} {f : α → Option β} : ∀ {l : List α} {m : List β}, mapO f l = some m → l.length = m.length ∧ ∀ (i : Nat) x y, l[i]? = some x → m[i]? = some y → f x = some y
  | [], m, h => by simp only [mapO] at h; cases h; exact ⟨rfl, by simp⟩
  | a :: as, m, h => by
    simp only [mapO] at h
    split at h
    · cases h
    · rename_i b hb
      split at h
      · cases h
      · rename_i bs hbs
        cases h
        obtain ⟨h1, h2⟩ := mapO_get hbs
        refine ⟨by simp [h1], fun i x y hx hy => ?_⟩
        cases i with
        | zero => simp at hx hy; subst hx; subst hy; exact hb
        | succ i => exact h2 i x y (by simpa using hx) (by simpa using hy)

/-- Renamed, it stands for a value; so it did before, with the blocks behind their names. -/
theorem rn_pull (r : Nat → Nat) (ρ : Rho) : ∀ (n : Nat) (x y : AV) (v : Value), rn r n x = some y → VR ρ y v → VR (fun b => ρ (r b)) x v
  | 0, _, _, _, h, _ => by simp [rn] at h
  | n + 1, x, y, v, h, hv => by
    have ih := rn_pull r ρ n
    have list : ∀ {l m : List AV} {vs : List Value}, mapO (rn r n) l = some m → VL ρ m vs → VL (fun b => ρ (r b)) l vs := by
      intro l m vs hm hl
      obtain ⟨h1, h2⟩ := mapO_get hm
      refine ⟨h1.trans hl.1, fun i a b ha hb => ?_⟩
      have hi : i < m.length := by rw [← h1]; exact (List.getElem?_eq_some_iff.1 ha).1
      exact ih _ _ _ (h2 i a _ ha (List.getElem?_eq_getElem hi)) (hl.2 i _ b (List.getElem?_eq_getElem hi) hb)
    cases x <;> simp only [rn] at h
    case int => cases h; cases hv; exact .int _ _
    case bool => cases h; cases hv; exact .bool _
    case str => cases h; cases hv; exact .str _ _ ‹_›
    case ptr => cases h; cases hv; exact .ptr _ _ _ ‹_›
    case nilp => cases h; cases hv; exact .nilp
    case slc =>
      cases h; cases hv
      · exact .slx _ _ _ _ _ ‹_› ‹_›
      · exact .slo _ _ _ _ _ _ ‹_› ‹_› ‹_›
    case nils => cases h; cases hv; exact .nils
    case emp => cases h; cases hv; exact .emp _ _
    case mp => cases h; cases hv; exact .mp _ _ ‹_›
    case nilm => cases h; cases hv; exact .nilm
    case fn f a c =>
      split at h
      · cases h
      · rename_i a1 ha
        split at h
        · cases h
        · rename_i c1 hc
          cases h
          obtain ⟨a', c', rfl, h1, h2⟩ := VR.fn_iff.1 hv
          exact VR.fn_iff.2 ⟨a', c', rfl, list ha h1, list hc h2⟩
    case yl => cases h; cases hv; exact .yl _ _ ‹_›
    case nilf => cases h; cases hv; exact .nilf
    case ifc t u =>
      split at h
      · cases h
      · rename_i u' hu
        cases h
        cases hv with
        | ifc _ _ y hy => exact .ifc _ _ _ (ih _ _ _ hu hy)
    case nili => cases h; cases hv; exact .nili
    case agg cs =>
      split at h
      · cases h
      · rename_i cs' hc
        cases h
        obtain ⟨vs, rfl, hl⟩ := VR.agg_iff.1 hv
        exact VR.agg_iff.2 ⟨vs, rfl, list hc hl⟩
    case tup cs =>
      split at h
      · cases h
      · rename_i cs' hc
        cases h
        obtain ⟨vs, rfl, hl⟩ := VR.tup_iff.1 hv
        exact VR.tup_iff.2 ⟨vs, rfl, list hc hl⟩

theorem rn_push (r : Nat → Nat) (ρ ρ' : Rho) (hr : ∀ b l, ρ b = some l → ρ' (r b) = some l) : ∀ (n : Nat) (x y : AV) (v : Value), rn r n x = some y → VR ρ x v → VR ρ' y v
  | 0, _, _, _, h, _ => by simp [rn] at h
  | n + 1, x, y, v, h, hv => by
    have ih := rn_push r ρ ρ' hr n
    have list : ∀ {l m : List AV} {vs : List Value}, mapO (rn r n) l = some m → VL ρ l vs → VL ρ' m vs := by
      intro l m vs hm hl
      obtain ⟨h1, h2⟩ := mapO_get hm
      refine ⟨h1.symm.trans hl.1, fun i a b ha hb => ?_⟩
      have hi : i < l.length := by rw [h1]; exact (List.getElem?_eq_some_iff.1 ha).1
      exact ih _ _ _ (h2 i _ a (List.getElem?_eq_getElem hi) ha) (hl.2 i _ b (List.getElem?_eq_getElem hi) hb)
    cases x <;> simp only [rn] at h
    case int => cases h; cases hv; exact .int _ _
    case bool => cases h; cases hv; exact .bool _
    case str => cases h; cases hv; exact .str _ _ ‹_›
    case ptr => cases h; cases hv; exact .ptr _ _ _ (hr _ _ ‹_›)
    case nilp => cases h; cases hv; exact .nilp
    case slc =>
      cases h; cases hv
      · exact .slx _ _ _ _ _ (hr _ _ ‹_›) ‹_›
      · exact .slo _ _ _ _ _ _ (hr _ _ ‹_›) ‹_› ‹_›
    case nils => cases h; cases hv; exact .nils
    case emp => cases h; cases hv; exact .emp _ _
    case mp => cases h; cases hv; exact .mp _ _ (hr _ _ ‹_›)
    case nilm => cases h; cases hv; exact .nilm
    case fn f a c =>
      split at h
      · cases h
      · rename_i a1 ha
        split at h
        · cases h
        · rename_i c1 hc
          cases h
          obtain ⟨a', c', rfl, h1, h2⟩ := VR.fn_iff.1 hv
          exact VR.fn_iff.2 ⟨a', c', rfl, list ha h1, list hc h2⟩
    case yl => cases h; cases hv; exact .yl _ _ (hr _ _ ‹_›)
    case nilf => cases h; cases hv; exact .nilf
    case ifc t u =>
      split at h
      · cases h
      · rename_i u' hu
        cases h
        cases hv with
        | ifc _ _ y hy => exact .ifc _ _ _ (ih _ _ _ hu hy)
    case nili => cases h; cases hv; exact .nili
    case agg cs =>
      split at h
      · cases h
      · rename_i cs' hc
        cases h
        obtain ⟨vs, rfl, hl⟩ := VR.agg_iff.1 hv
        exact VR.agg_iff.2 ⟨vs, rfl, list hc hl⟩
    case tup cs =>
      split at h
      · cases h
      · rename_i cs' hc
        cases h
        obtain ⟨vs, rfl, hl⟩ := VR.tup_iff.1 hv
        exact VR.tup_iff.2 ⟨vs, rfl, list hc hl⟩

theorem rnE_get {r : Nat → Nat} : ∀ {l m : List (AV × AV × Nat)}, rnE r l = some m → l.length = m.length ∧ ∀ (i : Nat) x y, l[i]? = some x → m[i]? = some y → rn r 9 x.1 = some y.1 ∧ rn r 9 x.2.1 = some y.2.1 ∧ x.2.2 = y.2.2
  | [], m, h => by simp only [rnE] at h; cases h; exact ⟨rfl, by simp⟩
  | (k, v, b) :: as, m, h => by
    simp only [rnE] at h
    split at h
    · cases h
    · rename_i k' hk
      split at h
      · cases h
      · rename_i v' hv
        split at h
        · cases h
        · rename_i es hes
          cases h
          obtain ⟨h1, h2⟩ := rnE_get hes
          refine ⟨by simp [h1], fun i x y hx hy => ?_⟩
          cases i with
          | zero => simp at hx hy; subst hx; subst hy; exact ⟨hk, hv, rfl⟩
          | succ i => exact h2 i x y (by simpa using hx) (by simpa using hy)

theorem rnO_pull {E : Env} (r : Nat → Nat) (ρ : Rho) {l : Loc} {p o : AObj} {ob : Obj} (h : rnO r p = some o) (ho : OR E ρ l o ob) : OR E (fun b => ρ (r b)) l p ob := by
  cases p with
  | row cells elem opn frz =>
    simp only [rnO] at h
    split at h
    · cases h
    · rename_i c hc
      cases h
      obtain ⟨cs, lo, hi, h1, h2, h3, h4⟩ := ho
      obtain ⟨k1, k2⟩ := mapO_get hc
      refine ⟨cs, lo, hi, h1, fun i x hx => ?_, h3, by rw [k1]; exact h4⟩
      have hi' : i < c.length := by rw [← k1]; exact (List.getElem?_eq_some_iff.1 hx).1
      obtain ⟨v, hv, hr⟩ := h2 i _ (List.getElem?_eq_getElem hi')
      exact ⟨v, hv, rn_pull r ρ 9 _ _ _ (k2 i x _ hx (List.getElem?_eq_getElem hi')) hr⟩
  | map es clock =>
    simp only [rnO] at h
    split at h
    · cases h
    · rename_i c hc
      cases h
      obtain ⟨es', h1, h2, h3⟩ := ho
      obtain ⟨k1, k2⟩ := rnE_get hc
      refine ⟨es', h1, k1.trans h2, fun i x y hx hy => ?_⟩
      have hi' : i < c.length := by rw [← k1]; exact (List.getElem?_eq_some_iff.1 hx).1
      obtain ⟨a1, a2, a3⟩ := k2 i x _ hx (List.getElem?_eq_getElem hi')
      obtain ⟨b1, b2, b3⟩ := h3 i _ y (List.getElem?_eq_getElem hi') hy
      exact ⟨rn_pull r ρ 9 _ _ _ a1 b1, rn_pull r ρ 9 _ _ _ a2 b2, a3.trans b3⟩
  | loop => simp [rnO] at h
  | defd => simp [rnO] at h
  | miter => simp [rnO] at h

theorem rnO_push {E : Env} (r : Nat → Nat) (ρ ρ' : Rho) (hr : ∀ b l, ρ b = some l → ρ' (r b) = some l) {l : Loc} {p o : AObj} {ob : Obj} (h : rnO r p = some o) (ho : OR E ρ l p ob) : OR E ρ' l o ob := by
  cases p with
  | row cells elem opn frz =>
    simp only [rnO] at h
    split at h
    · cases h
    · rename_i c hc
      cases h
      obtain ⟨cs, lo, hi, h1, h2, h3, h4⟩ := ho
      obtain ⟨k1, k2⟩ := mapO_get hc
      refine ⟨cs, lo, hi, h1, fun i x hx => ?_, h3, by rw [← k1]; exact h4⟩
      have hi' : i < cells.length := by rw [k1]; exact (List.getElem?_eq_some_iff.1 hx).1
      obtain ⟨v, hv, hr'⟩ := h2 i _ (List.getElem?_eq_getElem hi')
      exact ⟨v, hv, rn_push r ρ ρ' hr 9 _ _ _ (k2 i _ x (List.getElem?_eq_getElem hi') hx) hr'⟩
  | map es clock =>
    simp only [rnO] at h
    split at h
    · cases h
    · rename_i c hc
      cases h
      obtain ⟨es', h1, h2, h3⟩ := ho
      obtain ⟨k1, k2⟩ := rnE_get hc
      refine ⟨es', h1, k1.symm.trans h2, fun i x y hx hy => ?_⟩
      have hi' : i < es.length := by rw [k1]; exact (List.getElem?_eq_some_iff.1 hx).1
      obtain ⟨a1, a2, a3⟩ := k2 i _ x (List.getElem?_eq_getElem hi') hx
      obtain ⟨b1, b2, b3⟩ := h3 i _ y (List.getElem?_eq_getElem hi') hy
      exact ⟨rn_push r ρ ρ' hr 9 _ _ _ a1 b1, rn_push r ρ ρ' hr 9 _ _ _ a2 b2, a3.symm.trans b3⟩
  | loop => simp [rnO] at h
  | defd => simp [rnO] at h
  | miter => simp [rnO] at h

theorem sameE_same : ∀ {a b : List (AV × AV × Nat)}, sameE a b = true → a = b
  | [], [], _ => rfl
  | [], _ :: _, h => by simp [sameE] at h
  | _ :: _, [], h => by simp [sameE] at h
  | (k, v, b) :: es, (k', v', b') :: es', h => by
    simp only [sameE] at h
    split at h
    · rename_i h1
      split at h
      · rename_i h2
        split at h
        · rename_i h3
          rw [sameA_same 9 _ _ h1, sameA_same 9 _ _ h2, Nat.eq_of_beq_eq_true h3, sameE_same h]
        · cases h
      · cases h
    · cases h
theorem sameO_same {a b : AObj} (h : sameO a b = true) : a = b := by
  cases a <;> cases b <;> simp only [sameO] at h <;> try (cases h; done)
  · split at h
    · rename_i h1
      split at h
      · rename_i h2
        split at h
        · rename_i h3
          rw [all2_same (fun a b => sameA_same 9 a b) h, Nat.eq_of_beq_eq_true h1, Nat.eq_of_beq_eq_true h2, eq_of_beq h3]
        · cases h
      · cases h
    · cases h
  · split at h
    · rename_i h1; rw [Nat.eq_of_beq_eq_true h1, sameE_same h]
    · cases h
end Go.Refl
/- Answers that are kept: what one run in a memory of its own found holds in any memory of the same shape. -/
namespace Go.Refl
open Go

/-! ### The relations depend on the environment's types and variables alone -/
theorem OR.env {E E' : Env} (ht : E.ty = E'.ty) (hp : E.pf = E'.pf) {ρ : Rho} {l : Loc} {o : AObj} {ob : Obj} (h : OR E ρ l o ob) : OR E' ρ l o ob := by
  cases o with
  | row => obtain ⟨cs, lo, hi, h1, h2, h3, h4⟩ := h; exact ⟨cs, lo, hi, h1, h2, h3, ⟨fun e => (by rw [← ht]; exact h4.1 e), by rw [← hp]; exact h4.2⟩⟩
  | map => exact h
  | loop => exact h
  | defd => exact h
  | miter => exact h
theorem HR.env {E E' : Env} (ht : E.ty = E'.ty) (hp : E.pf = E'.pf) (hg : E.globs = E'.globs) {h : Hp} {ρ : Rho} {w : World} (hr : HR E h ρ w) : HR E' h ρ w :=
  ⟨hr.dom, fun b o hb => let ⟨l, ob, h1, h2, h3⟩ := hr.obj b o hb; ⟨l, ob, h1, h2, h3.env ht hp⟩, hr.sep, fun g hl => hr.glob g (by rw [hg]; exact hl)⟩
theorem Up.env {E E' : Env} (ht : E.ty = E'.ty) (hp : E.pf = E'.pf) (hg : E.globs = E'.globs) {h h' : Hp} {ρ ρ' : Rho} {w w' : World} (u : Up E h ρ w h' ρ' w') : Up E' h ρ w h' ρ' w' :=
  ⟨u.ext, u.new, u.mono, u.hr.env ht hp hg, u.size, u.frame, u.own, u.os, u.tape, u.output⟩
theorem Answers.env {E E' : Env} (ht : E.ty = E'.ty) (hp : E.pf = E'.pf) (hg : E.globs = E'.globs) {h : Hp} {ρ : Rho} {w : World} {rs : List (AV × Hp)} {e : Ending} {w' : World} (a : Answers E h ρ w rs e w') : Answers E' h ρ w rs e w' :=
  let ⟨x, h', ρ', v, h1, h2, h3, h4⟩ := a
  ⟨x, h', ρ', v, h1, h2, h3.env ht hp hg, h4⟩

/-- What comes out of a call is looked at in another way. -/
theorem CallOk.map {P : Program} {E E' : Env} {h h0 : Hp} {ρ ρ0 : Rho} {w : World} {f : Nat} {args : Array Value} {rs rs0 : List (AV × Hp)} (c : CallOk P E h0 ρ0 w f args rs0)
    (k : ∀ x h1 ρ1 v w', (x, h1) ∈ rs0 → Up E h0 ρ0 w h1 ρ1 w' → VR ρ1 x v → ∃ y h' ρ', (y, h') ∈ rs ∧ Up E' h ρ w h' ρ' w' ∧ VR ρ' y v) : CallOk P E' h ρ w f args rs := by
  rcases c with ⟨c1, c2⟩ | ⟨x, h1, ρ1, v, w', m, hv, u, r⟩
  · refine .inl ⟨c1, fun n => (c2 n).mono ?_⟩
    rintro e w' ⟨x, h1, ρ1, v, m, he, u, r⟩
    obtain ⟨y, h', ρ', m', u', r'⟩ := k x h1 ρ1 v w' m u r
    exact ⟨y, h', ρ', v, m', he, u', r'⟩
  · obtain ⟨y, h', ρ', m', u', r'⟩ := k x h1 ρ1 v w' m u r
    exact .inr ⟨y, h', ρ', v, w', m', hv, u', r'⟩

/-! ### The parts of the check -/
theorem inL_mem : ∀ {l : List Nat} {a : Nat}, inL a l = false → a ∉ l
  | [], _, _ => by simp
  | b :: bs, a, h => by
    simp only [inL] at h
    split at h
    · cases h
    · rename_i hne
      intro hm
      rcases List.mem_cons.1 hm with e | hm
      · subst e; simp at hne
      · exact inL_mem h hm
theorem distinct_inj : ∀ {l : List Nat}, distinct l = true → ∀ (i j a : Nat), l[i]? = some a → l[j]? = some a → i = j
  | [], _, i, j, a, hi, _ => by simp at hi
  | x :: xs, h, i, j, a, hi, hj => by
    simp only [distinct] at h
    split at h
    · cases h
    · rename_i hx
      have hm := inL_mem hx
      cases i with
      | zero =>
        cases j with
        | zero => rfl
        | succ j => simp at hi hj; subst hi; exact absurd (List.mem_of_getElem? hj) hm
      | succ i =>
        cases j with
        | zero => simp at hi hj; subst hj; exact absurd (List.mem_of_getElem? hi) hm
        | succ j => simp at hi hj; exact congrArg _ (distinct_inj h i j a hi hj)

theorem preOk_get {r : Nat → Nat} {h : Hp} : ∀ {os : List AObj} {bs : List Nat}, preOk r h os bs = true → os.length = bs.length ∧ ∀ (i : Nat) o b, os[i]? = some o → bs[i]? = some b → ∃ o', h.h.get b = some o' ∧ rnO r o = some o'
  | [], [], _ => ⟨rfl, by simp⟩
  | [], _ :: _, h => by simp [preOk] at h
  | _ :: _, [], h => by simp [preOk] at h
  | o :: os, b :: bs, hp => by
    simp only [preOk] at hp
    split at hp
    · cases hp
    · rename_i o' ho'
      split at hp
      · cases hp
      · rename_i p hp'
        split at hp
        · rename_i hs
          obtain ⟨h1, h2⟩ := preOk_get hp
          have := sameO_same hs
          subst this
          refine ⟨by simp [h1], fun i x y hx hy => ?_⟩
          cases i with
          | zero => simp at hx hy; subst hx; subst hy; exact ⟨_, ho', hp'⟩
          | succ i => exact h2 i x y (by simpa using hx) (by simpa using hy)
        · cases hp

theorem glOk_get {G : Nat} {r : Nat → Nat} {h : Hp} {σ : List Nat} : ∀ {ps : List (Nat × AObj)}, glOk G r h σ ps = true → ∀ p ∈ ps, p.1 < G ∧ p.1 ∉ σ ∧ ∃ o', h.h.get p.1 = some o' ∧ rnO r p.2 = some o'
  | [], _, p, hp => by cases hp
  | q :: ps, hq, p, hp => by
    simp only [glOk] at hq
    split at hq
    · cases hq
    · rename_i hlt
      split at hq
      · cases hq
      · rename_i hin
        split at hq
        · cases hq
        · rename_i o' ho'
          split at hq
          · cases hq
          · rename_i x hx
            split at hq
            · rename_i hs
              have := sameO_same hs
              subst this
              rcases List.mem_cons.1 hp with rfl | hp
              · exact ⟨by simpa [Nat.blt_eq] using hlt, inL_mem hin, _, ho', hx⟩
              · exact glOk_get hq p hp
            · cases hq
theorem glSame_get {h : Hp} : ∀ {ps : List (Nat × AObj)}, glSame h ps = true → ∀ p ∈ ps, h.h.get p.1 = some p.2
  | [], _, p, hp => by cases hp
  | q :: ps, hq, p, hp => by
    simp only [glSame] at hq
    split at hq
    · cases hq
    · rename_i o ho
      split at hq
      · rename_i hs
        have := sameO_same hs
        subst this
        rcases List.mem_cons.1 hp with rfl | hp
        · exact ho
        · exact glSame_get hq p hp
      · cases hq

theorem delAll_get : ∀ {bs : List Nat} {t : Tr AObj} {b : Nat} {o : AObj}, (delAll bs t).get b = some o → b ∉ bs ∧ t.get b = some o
  | [], t, b, o, h => ⟨by simp, h⟩
  | c :: bs, t, b, o, h => by
    obtain ⟨h1, h2⟩ := delAll_get (bs := bs) h
    rw [Tr.get_del] at h2
    split at h2
    · cases h2
    · rename_i hne; exact ⟨by simp [hne, h1], h2⟩
theorem putPost_get {r : Nat → Nat} : ∀ {ps : List (Nat × AObj)} {t t' : Tr AObj}, putPost r ps t = some t' → ∀ b o, t'.get b = some o →
    (∃ p ∈ ps, r p.1 = b ∧ rnO r p.2 = some o) ∨ t.get b = some o
  | [], _, _, h, b, o, ho => by simp only [putPost] at h; cases h; exact .inr ho
  | p :: ps, t, t', h, b, o, ho => by
    simp only [putPost] at h
    split at h
    · cases h
    · rename_i q hq
      rcases putPost_get h b o ho with ⟨p', h1, h2, h3⟩ | h2
      · exact .inl ⟨p', List.mem_cons_of_mem _ h1, h2, h3⟩
      · rw [Tr.get_set] at h2
        split at h2
        · rename_i e; cases h2; exact .inl ⟨p, List.mem_cons_self, e.symm, hq⟩
        · exact .inr h2

theorem preHeap_get : ∀ (os : List AObj) (b : Nat) (t : Tr AObj) (c : Nat), (preHeap os b t).get c = if b ≤ c ∧ c < b + os.length then os[c - b]? else t.get c
  | [], b, t, c => by simp only [preHeap]; rw [if_neg (by simp only [List.length_nil]; omega)]
  | o :: os, b, t, c => by
    simp only [preHeap]
    rw [preHeap_get os (b + 1) _ c, Tr.get_set]
    by_cases h1 : c = b
    · subst h1
      rw [if_neg (by omega), if_pos rfl, if_pos (by simp)]
      simp
    · rw [if_neg h1]
      by_cases h2 : b + 1 ≤ c ∧ c < b + 1 + os.length
      · rw [if_pos h2, if_pos (by simp; omega)]
        have : c - b = (c - (b + 1)) + 1 := by omega
        rw [this]; simp
      · rw [if_neg h2, if_neg (by simp; omega)]

theorem allL_mem {α : Type} {f : α → Bool} : ∀ {l : List α}, allL f l = true → ∀ a ∈ l, f a = true
  | [], _, a, ha => by cases ha
  | b :: bs, h, a, ha => by
    simp only [allL] at h
    split at h
    · rename_i hb
      rcases List.mem_cons.1 ha with rfl | ha
      · exact hb
      · exact allL_mem h a ha
    · cases h

section ren
variable (G : Nat) (σ : List Nat) (n : Nat)
theorem ren_glob {b : Nat} (h : b < G) : ren G σ σ.length n b = b := by
  unfold ren
  rw [show Nat.blt b G = true from (by simpa [Nat.blt_eq] using h)]
theorem ren_old {i a : Nat} (h : σ[i]? = some a) : ren G σ σ.length n (G + i) = a := by
  unfold ren
  rw [show Nat.blt (G + i) G = false from (by rw [Bool.eq_false_iff]; intro hh; rw [Nat.blt_eq] at hh; omega)]
  simp only [Nat.add_sub_cancel_left, getAt_eq, h]
theorem ren_new (j : Nat) : ren G σ σ.length n (G + σ.length + j) = n + j := by
  unfold ren
  rw [show Nat.blt (G + σ.length + j) G = false from (by rw [Bool.eq_false_iff]; intro hh; rw [Nat.blt_eq] at hh; omega)]
  have h1 : G + σ.length + j - G = σ.length + j := by omega
  simp only [h1, getAt_eq]
  rw [List.getElem?_eq_none (by omega)]
  simp
end ren

theorem useEnt_some {G : Nat} {e : Ent} {args : List AV} {h : Hp} {r : AV × Hp} (hu : useEnt G e args h = some r) :
    ∃ σ : List Nat, σ.length = e.pre.length ∧ distinct σ = true ∧ mapO (rn (ren G σ σ.length h.next) 9) e.args = some args ∧
      preOk (ren G σ σ.length h.next) h e.pre σ = true ∧ glOk G (ren G σ σ.length h.next) h σ e.gl = true ∧ ∃ v t, rn (ren G σ σ.length h.next) 9 e.val = some v ∧ putPost (ren G σ σ.length h.next) e.post (delAll σ h.h) = some t ∧
        r = (v, { h := t, next := h.next + (e.m - σ.length) }) := by
  unfold useEnt at hu
  split at hu
  · cases hu
  · simp only at hu
    generalize gP G h e.pre 0 (gL (gV G 9) e.args args []) = σ at hu
    split at hu
    · cases hu
    · rename_i a ha
      split at hu
      · cases hu
      · rename_i hs
        split at hu
        · cases hu
        · rename_i hd
          split at hu
          · cases hu
          · rename_i hp
            split at hu
            · cases hu
            · rename_i hgl
              split at hu
              · cases hu
              · rename_i v hv
                split at hu
                · cases hu
                · rename_i t ht
                  have e1 : e.pre.length = σ.length := (preOk_get hp).1
                  have e2 := all2_same (fun a b => sameA_same 9 a b) hs
                  subst e2
                  rw [e1] at ha hp hgl hv ht hu
                  cases hu
                  exact ⟨σ, e1.symm, hd, ha, hp, hgl, v, t, hv, ht, rfl⟩
end Go.Refl
/- The law of an answer that is kept. -/
namespace Go.Refl
open Go

/-- What the run in a memory of its own shows, for every memory and every value of the model. -/
def EntRun (P : Program) (E : Env) (e : Ent) : Prop :=
  e.pre.length ≤ e.m ∧ ∃ rs, (∀ r ∈ rs, outOk E.globs e r = true) ∧
    ∀ (ρ : Rho) (w : World) (args' : Array Value), HR E { h := preHeap e.pre E.globs (mkTree .lf e.gl), next := E.globs + e.pre.length } ρ w → VL ρ e.args args'.toList →
      CallOk P E { h := preHeap e.pre E.globs (mkTree .lf e.gl), next := E.globs + e.pre.length } ρ w e.f args' rs

theorem entRun_of {P : Program} {E : Env} (hE : EnvOk P E) (hK : KnownOk P E) {N : Nat} {e : Ent} (h : runEnt E N e = true) : EntRun P E e := by
  unfold runEnt at h
  split at h
  · cases h
  · rename_i hle
    split at h
    · cases h
    · rename_i rs hrs
      exact ⟨Nat.le_of_ble_eq_true hle, rs, allL_mem h, fun ρ w args' hr hv => callFn_sound hE hK (exec_sound hE hK N) hr hv hrs⟩

theorem EntRun.env {P : Program} {E E' : Env} (ht : E.ty = E'.ty) (hp : E.pf = E'.pf) (hg : E.globs = E'.globs) {e : Ent} (h : EntRun P E e) : EntRun P E' e := by
  obtain ⟨h1, rs, h2, h3⟩ := h
  refine ⟨h1, rs, by rw [← hg]; exact h2, fun ρ w args' hr hv => ?_⟩
  rw [← hg] at hr ⊢
  exact (h3 ρ w args' (hr.env ht.symm hp.symm hg.symm) hv).map fun x h1 ρ1 v w' m u r => ⟨x, h1, ρ1, m, u.env ht hp hg, r⟩

theorem useEnt_sound {P : Program} {E : Env} {e : Ent} (he : EntRun P E e) {args : List AV} {h : Hp} {r : AV × Hp} (hu : useEnt E.globs e args h = some r)
    {ρ : Rho} {w : World} {args' : Array Value} (hr : HR E h ρ w) (hv : VL ρ args args'.toList) : CallOk P E h ρ w e.f args' [r] := by
  obtain ⟨hkm, rs, hout, hrun⟩ := he
  obtain ⟨σ, hlen, hd, ha, hp, hgl, v, t, hval, hpost, rfl⟩ := useEnt_some hu
  have hgl := glOk_get hgl
  generalize hG : E.globs = G at *
  -- the names
  let rr := ren G σ σ.length h.next
  have hglob : ∀ b, b < G → rr b = b := fun b hb => ren_glob G σ h.next hb
  have hold : ∀ i a, σ[i]? = some a → rr (G + i) = a := fun i a hi => ren_old G σ h.next hi
  have hnew : ∀ j, rr (G + σ.length + j) = h.next + j := fun j => ren_new G σ h.next j
  have hGn : ∀ g, g < G → g < h.next := fun g hg => by
    obtain ⟨k, hk⟩ := hr.glob g (by rw [hG]; exact hg)
    exact hr.dom _ _ hk
  have hpre := preOk_get hp
  have hσ : ∀ (i : Nat) a, σ[i]? = some a → ∃ p o', e.pre[i]? = some p ∧ h.h.get a = some o' ∧ rnO rr p = some o' := by
    intro i a hi
    have hlt : i < e.pre.length := by rw [← hlen]; exact (List.getElem?_eq_some_iff.1 hi).1
    obtain ⟨o', h1, h2⟩ := hpre.2 i _ a (List.getElem?_eq_getElem hlt) hi
    exact ⟨_, o', List.getElem?_eq_getElem hlt, h1, h2⟩
  have hσn : ∀ (i : Nat) a, σ[i]? = some a → a < h.next ∧ live h a := by
    intro i a hi
    obtain ⟨p, o', _, h2, _⟩ := hσ i a hi
    obtain ⟨l, ob, h3, _⟩ := hr.obj a o' h2
    exact ⟨hr.dom _ _ h3, ⟨o', h2⟩⟩
  -- the memory of the run
  let ρ0 : Rho := fun b => ρ (rr b)
  let h0 : Hp := { h := preHeap e.pre G (mkTree .lf e.gl), next := G + e.pre.length }
  -- a block of that memory: what it is here
  have hget0 : ∀ b o, h0.h.get b = some o → ∃ a o', rr b = a ∧ h.h.get a = some o' ∧ rnO rr o = some o' ∧ ((∃ i, b = G + i ∧ σ[i]? = some a) ∨ (b = a ∧ (b, o) ∈ e.gl)) := by
    intro b o hb
    have hb : (preHeap e.pre G (mkTree .lf e.gl)).get b = some o := hb
    rw [preHeap_get] at hb
    split at hb
    · rename_i hc
      have hi : b - G < σ.length := by rw [hlen]; omega
      obtain ⟨p, o', k1, k2, k3⟩ := hσ (b - G) _ (List.getElem?_eq_getElem hi)
      rw [hb] at k1; cases k1
      refine ⟨σ[b - G], o', ?_, k2, k3, .inl ⟨b - G, by omega, List.getElem?_eq_getElem hi⟩⟩
      have := hold (b - G) _ (List.getElem?_eq_getElem hi)
      rw [← this]; congr 1; omega
    · rcases mkTree_get _ _ _ _ hb with hb | hb
      · rw [lf_get] at hb; cases hb
      · obtain ⟨k1, k2, o', k3, k4⟩ := hgl _ hb
        exact ⟨b, o', hglob b k1, k3, k4, .inr ⟨rfl, hb⟩⟩
  have hinj : ∀ b b' o o' a, h0.h.get b = some o → h0.h.get b' = some o' → rr b = a → rr b' = a → b = b' := by
    intro b b' o o' a hb hb' ha ha'
    obtain ⟨x, _, k1, _, _, k4⟩ := hget0 b o hb
    obtain ⟨x', _, k1', _, _, k4'⟩ := hget0 b' o' hb'
    rw [ha] at k1; subst k1
    rw [ha'] at k1'; subst k1'
    rcases k4 with ⟨i, rfl, hi⟩ | ⟨rfl, hm⟩ <;> rcases k4' with ⟨i', rfl, hi'⟩ | ⟨rfl, hm'⟩
    · rw [distinct_inj hd i i' _ hi hi']
    · exact absurd (List.mem_of_getElem? hi) (hgl _ hm').2.1
    · exact absurd (List.mem_of_getElem? hi') (hgl _ hm).2.1
    · rfl
  have hcase : ∀ b, b < G ∨ (∃ i a, b = G + i ∧ σ[i]? = some a) ∨ ∃ j, b = G + σ.length + j := by
    intro b
    by_cases h1 : b < G
    · exact .inl h1
    · by_cases h2 : b - G < σ.length
      · exact .inr (.inl ⟨b - G, σ[b - G], by omega, List.getElem?_eq_getElem h2⟩)
      · exact .inr (.inr ⟨b - G - σ.length, by omega⟩)
  have hnone : ∀ j, ρ (h.next + j) = none := by
    intro j
    cases hj : ρ (h.next + j) with
    | none => rfl
    | some l => have := hr.dom _ _ hj; omega
  have hr0 : HR E h0 ρ0 w := by
    refine ⟨fun b l hb => ?_, fun b o hb => ?_, fun b b' l l' hb hb' hl hl' heq => ?_, fun g hg => ?_⟩
    · show b < G + e.pre.length
      rcases hcase b with h1 | ⟨i, a, rfl, hi⟩ | ⟨j, rfl⟩
      · omega
      · have := (List.getElem?_eq_some_iff.1 hi).1; omega
      · have hb : ρ (rr (G + σ.length + j)) = some l := hb
        rw [hnew, hnone] at hb; cases hb
    · obtain ⟨a, o', hra, h2, h3, _⟩ := hget0 b o hb
      obtain ⟨l, ob, k1, k2, k3⟩ := hr.obj a o' h2
      refine ⟨l, ob, ?_, k2, rnO_pull rr ρ h3 k3⟩
      show ρ (rr b) = some l
      rw [hra]; exact k1
    · obtain ⟨o, ho⟩ := hb
      obtain ⟨o', ho'⟩ := hb'
      obtain ⟨a, x, hra, k2, _, _⟩ := hget0 b o ho
      obtain ⟨a', x', hra', k2', _, _⟩ := hget0 b' o' ho'
      have hl : ρ (rr b) = some l := hl
      have hl' : ρ (rr b') = some l' := hl'
      rw [hra] at hl; rw [hra'] at hl'
      have := hr.sep a a' l l' ⟨x, k2⟩ ⟨x', k2'⟩ hl hl' heq
      subst this
      exact hinj b b' o o' _ ho ho' hra hra'
    · obtain ⟨k, hk⟩ := hr.glob g hg
      rw [hG] at hg
      exact ⟨k, by show ρ (rr g) = _; rw [hglob g hg]; exact hk⟩
  have hv0 : VL ρ0 e.args args'.toList := by
    obtain ⟨h1, h2⟩ := mapO_get ha
    refine ⟨h1.trans hv.1, fun i x y hx hy => ?_⟩
    have hi : i < args.length := by rw [← h1]; exact (List.getElem?_eq_some_iff.1 hx).1
    exact rn_pull rr ρ 9 _ _ _ (h2 i x _ hx (List.getElem?_eq_getElem hi)) (hv.2 i _ y (List.getElem?_eq_getElem hi) hy)
  have hrun := hrun ρ0 w args' hr0 hv0
  refine hrun.map ?_
  intro x h1 ρ1 v1 w' hm u hvr
  have hok := hout _ hm
  have hok : (sameA 9 x e.val = true) ∧ h1.next ≤ G + e.m ∧ glSame h1 e.post = true ∧ glSame h1 e.gl = true := by
    simp only [outOk] at hok
    split at hok
    · rename_i hs
      split at hok
      · rename_i hn
        split at hok
        · rename_i hp; exact ⟨hs, Nat.le_of_ble_eq_true hn, hp, hok⟩
        · cases hok
      · cases hok
    · cases hok
  obtain ⟨hsx, hnx, hpo, hgs⟩ := hok
  have hgs := glSame_get hgs
  have hpo := glSame_get hpo
  have hsx := sameA_same 9 _ _ hsx
  subst hsx
  -- the names behind the run
  let ρ' : Rho := fun b => if b < h.next then ρ b else ρ1 (b - h.next + (G + σ.length))
  have hpush : ∀ b l, ρ1 b = some l → ρ' (rr b) = some l := by
    intro b l hb
    have key : ∀ l0, ρ0 b = some l0 → ρ' (rr b) = some l := by
      intro l0 hl0
      have := u.ext b l0 hl0
      rw [hb] at this; cases this
      have hl0 : ρ (rr b) = some l := hl0
      show (if rr b < h.next then ρ (rr b) else _) = _
      rw [if_pos (hr.dom _ _ hl0)]; exact hl0
    rcases hcase b with h1' | ⟨i, a, rfl, hi⟩ | ⟨j, rfl⟩
    · obtain ⟨k, hk⟩ := hr0.glob b (by rw [hG]; exact h1')
      exact key _ hk
    · obtain ⟨p, o', k1, k2, k3⟩ := hσ i a hi
      obtain ⟨l0, ob, k4, _⟩ := hr.obj a o' k2
      refine key l0 ?_
      show ρ (rr (G + i)) = _
      rw [hold i a hi]; exact k4
    · rw [hnew]
      show (if h.next + j < h.next then _ else _) = _
      rw [if_neg (by omega), ← hb]
      congr 1; omega
  have hext : Ext ρ ρ' := by
    intro b l hb
    show (if b < h.next then ρ b else _) = _
    rw [if_pos (hr.dom _ _ hb)]; exact hb
  -- a block of the memory behind the call: one of the run's, or an old one
  have hpost' := putPost_get hpost
  have lv : ∀ b o, t.get b = some o → (∃ c p, h1.h.get c = some p ∧ rr c = b ∧ rnO rr p = some o) ∨ (b ∉ σ ∧ (∀ p ∈ e.gl, p.1 ≠ b) ∧ h.h.get b = some o) := by
    intro b o hb
    rcases hpost' b o hb with ⟨p, k1, k2, k3⟩ | k2
    · exact .inl ⟨p.1, p.2, hpo p k1, k2, k3⟩
    · obtain ⟨k1, k2⟩ := delAll_get k2
      by_cases hg : ∃ p ∈ e.gl, p.1 = b
      · obtain ⟨p, hp1, rfl⟩ := hg
        obtain ⟨m1, m2, o', m3, m4⟩ := hgl p hp1
        rw [k2] at m3; cases m3
        exact .inl ⟨p.1, p.2, hgs p hp1, hglob _ m1, m4⟩
      · exact .inr ⟨k1, fun p hp1 hp2 => hg ⟨p, hp1, hp2⟩, k2⟩
  have loc1 : ∀ c p, h1.h.get c = some p → ∃ l ob, ρ1 c = some l ∧ ρ' (rr c) = some l ∧ w'.heap[l.blk]? = some ob ∧ OR E ρ1 l p ob := by
    intro c p hc
    obtain ⟨l, ob, k1, k2, k3⟩ := u.hr.obj c p hc
    exact ⟨l, ob, k1, hpush c l k1, k2, k3⟩
  -- an old one is none of those that the run was given
  have oldne : ∀ b o l, b ∉ σ → (∀ p ∈ e.gl, p.1 ≠ b) → h.h.get b = some o → ρ b = some l → ∀ c l', live h0 c → ρ0 c = some l' → l'.blk ≠ l.blk := by
    intro b o l hb hbg ho hl c l' hc hl' heq
    obtain ⟨oc, hoc⟩ := hc
    obtain ⟨a, x, hra, k2, _, k4⟩ := hget0 c oc hoc
    have hl' : ρ (rr c) = some l' := hl'
    rw [hra] at hl'
    have := hr.sep a b l' l ⟨x, k2⟩ ⟨o, ho⟩ hl' hl heq
    subst this
    rcases k4 with ⟨i, rfl, hi⟩ | ⟨rfl, hm⟩
    · exact hb (List.mem_of_getElem? hi)
    · exact hbg _ hm rfl
  have own1 : ∀ c l, live h1 c → ρ1 c = some l → w.heap.size ≤ l.blk ∨ ∃ b0 l0, live h b0 ∧ ρ b0 = some l0 ∧ l0.blk = l.blk := by
    intro c l hc hl
    rcases u.own c l hc hl with k | ⟨b0, l0, k1, k2, k3⟩
    · exact .inl k
    · obtain ⟨o0, ho0⟩ := k1
      obtain ⟨a, x, hra, m2, _, _⟩ := hget0 b0 o0 ho0
      have k2 : ρ (rr b0) = some l0 := k2
      rw [hra] at k2
      exact .inr ⟨a, l0, ⟨x, m2⟩, k2, k3⟩
  have hk2 : σ.length ≤ e.m := by omega
  refine ⟨v, { h := t, next := h.next + (e.m - σ.length) }, ρ', List.mem_singleton.2 rfl, ⟨hext, ?_, by show h.next ≤ h.next + _; omega, ⟨?_, ?_, ?_, ?_⟩, u.size, ?_, ?_, u.os, u.tape, u.output⟩, rn_push rr ρ1 ρ' hpush 9 _ _ _ hval hvr⟩
  · intro b l hb
    have hb : (if b < h.next then ρ b else ρ1 (b - h.next + (G + σ.length))) = some l := hb
    split at hb
    · exact .inl hb
    · have := u.hr.dom _ _ hb
      exact .inr ⟨by omega, by show b < h.next + (e.m - σ.length); omega⟩
  · intro b l hb
    have hb : (if b < h.next then ρ b else ρ1 (b - h.next + (G + σ.length))) = some l := hb
    show b < h.next + (e.m - σ.length)
    split at hb
    · omega
    · have := u.hr.dom _ _ hb; omega
  · intro b o hb
    rcases lv b o hb with ⟨c, p, k1, rfl, k3⟩ | ⟨k1, kg, k2⟩
    · obtain ⟨l, ob, m1, m2, m3, m4⟩ := loc1 c p k1
      exact ⟨l, ob, m2, m3, rnO_push rr ρ1 ρ' hpush k3 m4⟩
    · obtain ⟨l, ob, m1, m2, m3⟩ := hr.obj b o k2
      refine ⟨l, ob, hext _ _ m1, ?_, m3.ext hext⟩
      rw [u.frame l.blk (hr.blk_lt ⟨o, k2⟩ m1) (fun c l' hc hl' => oldne b o l k1 kg k2 m1 c l' hc hl')]
      exact m2
  · rintro b b' l l' ⟨o, ho⟩ ⟨o', ho'⟩ hl hl' heq
    rcases lv b o ho with ⟨c, p, k1, rfl, k3⟩ | ⟨k1, kg, k2⟩ <;> rcases lv b' o' ho' with ⟨c', p', k1', rfl, k3'⟩ | ⟨k1', kg', k2'⟩
    · obtain ⟨m, ob, m1, m2, _⟩ := loc1 c p k1
      obtain ⟨m', ob', m1', m2', _⟩ := loc1 c' p' k1'
      rw [hl] at m2; cases m2
      rw [hl'] at m2'; cases m2'
      rw [u.hr.sep c c' l l' ⟨p, k1⟩ ⟨p', k1'⟩ m1 m1' heq]
    · exfalso
      obtain ⟨m, ob, m1, m2, _⟩ := loc1 c p k1
      rw [hl] at m2; cases m2
      obtain ⟨lb, obb, n1, _⟩ := hr.obj b' o' k2'
      have : l' = lb := by have := hext _ _ n1; rw [hl'] at this; cases this; rfl
      subst this
      have hlt := hr.blk_lt ⟨o', k2'⟩ n1
      rcases u.own c l ⟨p, k1⟩ m1 with q | ⟨b0, l0, q1, q2, q3⟩
      · omega
      · exact oldne b' o' l' k1' kg' k2' n1 b0 l0 q1 q2 (q3.trans heq)
    · exfalso
      obtain ⟨m, ob, m1, m2, _⟩ := loc1 c' p' k1'
      rw [hl'] at m2; cases m2
      obtain ⟨lb, obb, n1, _⟩ := hr.obj b o k2
      have : l = lb := by have := hext _ _ n1; rw [hl] at this; cases this; rfl
      subst this
      have hlt := hr.blk_lt ⟨o, k2⟩ n1
      rcases u.own c' l' ⟨p', k1'⟩ m1 with q | ⟨b0, l0, q1, q2, q3⟩
      · omega
      · exact oldne b o l k1 kg k2 n1 b0 l0 q1 q2 (q3.trans heq.symm)
    · obtain ⟨lb, obb, n1, _⟩ := hr.obj b o k2
      obtain ⟨lb', obb', n1', _⟩ := hr.obj b' o' k2'
      have e1 : l = lb := by have := hext _ _ n1; rw [hl] at this; cases this; rfl
      have e2 : l' = lb' := by have := hext _ _ n1'; rw [hl'] at this; cases this; rfl
      subst e1; subst e2
      exact hr.sep b b' l l' ⟨o, k2⟩ ⟨o', k2'⟩ n1 n1' heq
  · intro g hg
    obtain ⟨k, hk⟩ := hr.glob g hg
    exact ⟨k, hext _ _ hk⟩
  · intro c hc hn
    refine u.frame c hc (fun b l hb hl => ?_)
    obtain ⟨o, ho⟩ := hb
    obtain ⟨a, x, hra, m2, _, _⟩ := hget0 b o ho
    have hl : ρ (rr b) = some l := hl
    rw [hra] at hl
    exact hn a l ⟨x, m2⟩ hl
  · rintro b l ⟨o, ho⟩ hl
    rcases lv b o ho with ⟨c, p, k1, rfl, k3⟩ | ⟨k1, kg, k2⟩
    · obtain ⟨m, ob, m1, m2, _⟩ := loc1 c p k1
      rw [hl] at m2; cases m2
      exact own1 c l ⟨p, k1⟩ m1
    · obtain ⟨lb, obb, n1, _⟩ := hr.obj b o k2
      have e1 : l = lb := by have := hext _ _ n1; rw [hl] at this; cases this; rfl
      subst e1
      exact .inr ⟨b, l, ⟨o, k2⟩, n1, rfl⟩
end Go.Refl
/- Strings, bytes and rows of bytes, for the functions of Go's library that the evaluator does not step through. -/
namespace Go.Refl
open Go

theorem ixOf_eq (c : UInt8) : ∀ (l : List UInt8) (i : Nat), (match ixOf c.toNat (l.map UInt8.toNat) i with | some j => (j : Int) - i | none => -1) = Lib.indexByte l c ∧ ∀ j, ixOf c.toNat (l.map UInt8.toNat) i = some j → i ≤ j
  | [], i => by simp [ixOf, Lib.indexByte]
  | b :: l, i => by
    obtain ⟨ih1, ih2⟩ := ixOf_eq c l (i + 1)
    simp only [List.map_cons, ixOf, Lib.indexByte]
    by_cases hb : b = c
    · subst hb
      simp only [Nat.beq_refl, beq_self_eq_true, if_true]
      exact ⟨by simp, fun j hj => by cases hj; exact Nat.le_refl _⟩
    · have h1 : Nat.beq b.toNat c.toNat = false := by
        rw [Bool.eq_false_iff]
        intro h
        exact hb (UInt8.toNat_inj.1 (Nat.eq_of_beq_eq_true h))
      have h2 : (b == c) = false := by simpa using hb
      simp only [h1, h2, Bool.false_eq_true, if_false]
      rw [← ih1]
      cases hx : ixOf c.toNat (l.map UInt8.toNat) (i + 1) with
      | none => simp
      | some j =>
        have := ih2 j hx
        simp only
        have hne : ((j : Int) - ((i + 1 : Nat) : Int) == -1) = false := by rw [beq_eq_false_iff_ne]; omega
        rw [hne]
        simp only [Bool.false_eq_true, if_false]
        refine ⟨by omega, fun k hk => by cases hk; omega⟩

theorem compare_eq : ∀ (a b : List UInt8), Lib.compareBytes a b = if a = b then 0 else if Op.bytesLess a b = true then -1 else 1
  | [], [] => by simp [Lib.compareBytes]
  | [], _ :: _ => by simp [Lib.compareBytes, Op.bytesLess]
  | _ :: _, [] => by simp [Lib.compareBytes, Op.bytesLess]
  | a :: as, b :: bs => by
    have ih := compare_eq as bs
    simp only [Lib.compareBytes]
    by_cases h1 : a < b
    · have hne : a ≠ b := by intro e; subst e; exact absurd h1 (UInt8.lt_irrefl _)
      rw [if_pos h1, if_neg (by simp [hne])]
      simp [Op.bytesLess, h1]
    · by_cases h2 : b < a
      · have hne : a ≠ b := by intro e; subst e; exact h1 h2
        rw [if_neg h1, if_pos h2, if_neg (by simp [hne])]
        simp [Op.bytesLess, h1, hne]
      · have he : a = b := by
          apply UInt8.toNat_inj.1
          have h1' : ¬ a.toNat < b.toNat := h1
          have h2' : ¬ b.toNat < a.toNat := h2
          omega
        subst he
        rw [if_neg h1, if_neg h2, ih]
        simp [Op.bytesLess, UInt8.lt_irrefl]

theorem liesAt_at {P : Program} {e : TypeId} (hc : P.cellsOf e = 1) (count off n : Nat) (hn : off + n ≤ count) : liesAt P P.depth e count off e n = true := by
  have hd : P.depth = (2 * (P.types.size + Made.depth) + 1) + 1 := rfl
  rw [hd]
  simp only [liesAt, Bool.or_eq_true]
  left
  rw [hd]
  simp [rowAt, hc, hn, sameLayout, Nat.mod_one]

theorem unsafeString_at {P : Program} (w : World) (pt it ty e : TypeId) (hp : P.underlying pt = some (.pointer e)) (hc : P.cellsOf e = 1) (g q cells : Nat) (hsh : w.shape? g = some (e, cells)) (l : List UInt8) (h0 : l ≠ []) (hn : q + l.length ≤ cells) (h63 : l.length ≤ 9223372036854775807)
    (hcell : ∀ j x, l[j]? = some x → w.cell? ((⟨g, q, none⟩ : Addr).add j) = some (.int .u8 x.toNat)) :
    (Builtin.unsafeString_ #[pt, it] ty #[.pointer (some ⟨g, q, none⟩), .int .i64 l.length]).run P w = .ok (.string ⟨l.toArray⟩) (w.freeze ⟨g, q, none⟩ l.length) := by
  have hl : l.length ≠ 0 := by simpa using h0
  have hlb := Lib.run_loadBytes (P := P) w l ⟨g, q, none⟩ .empty hcell
  have hlies := liesAt_at (P := P) hc (cells / P.cellsOf e) q l.length (by rw [hc]; simpa using hn)
  have h63' : ¬ (9223372036854775807 : Int) < (l.length : Int) := by omega
  have hdef : Builtin.unsafeString_ #[pt, it] ty #[.pointer (some ⟨g, q, none⟩), .int .i64 l.length] =
      (do
        let n ← asInt (.int .i64 l.length)
        if n < 0 then runtimePanic (.error "unsafe.String: len out of range")
        if n > IntKind.i64.max then unsupported (.unsafePointer "String: a length above the largest int")
        if n = 0 then pure (.string .empty)
        else if ← variablesAt ⟨g, q, none⟩ (← elemOf pt) n.toNat then do
          let s ← loadBytes ⟨g, q, none⟩ .empty n.toNat
          freeze ⟨g, q, none⟩ n.toNat
          pure (.string s)
        else unsupported (.unsafePointer "String: not so many bytes at ptr")) := rfl
  rw [hdef]
  have hmax : IntKind.i64.max = 9223372036854775807 := rfl
  have hneg : ¬ (l.length : Int) < 0 := by omega
  simp [asInt, asIntOf, hmax, h63', hneg, hl, variablesAt, hsh, elemOf, run_underlying hp, hlies, hlb]

/-- A block is forgotten, and the model's is written. -/
theorem Up.lose {E : Env} {h : Hp} {ρ : Rho} {w w' : World} (hr : HR E h ρ w) {b : Nat} {l : Loc} {o : AObj} (hb : h.h.get b = some o) (hl : ρ b = some l)
    (hw : ∀ c, c ≠ l.blk → w'.heap[c]? = w.heap[c]?) (hs : w'.heap.size = w.heap.size) (hos : w'.os = w.os) (ht : w'.tape = w.tape) (hout : w'.output = w.output) :
    Up E h ρ w (delO h b) ρ w' := by
  refine ⟨Ext.refl ρ, fun _ _ h => .inl h, Nat.le_refl _, ⟨hr.dom, ?_, ?_, hr.glob⟩, by omega, ?_, ?_, hos, ht, hout⟩
  · intro c u hu
    have hc := live_del (h := h) (b := b) (c := c) ⟨u, hu⟩
    have hu' : h.h.get c = some u := by
      simp only [delO] at hu
      rw [Tr.get_del, if_neg hc.2] at hu
      exact hu
    obtain ⟨l', ob', h1, h2, h3⟩ := hr.obj c u hu'
    refine ⟨l', ob', h1, ?_, h3⟩
    rw [hw]; exact h2
    intro e
    exact hc.2 (hr.sep c b l' l ⟨u, hu'⟩ ⟨o, hb⟩ h1 hl e)
  · intro x y lx ly hx hy h1 h2 e
    exact hr.sep x y lx ly (live_del hx).1 (live_del hy).1 h1 h2 e
  · intro c hc hn
    exact hw c (fun e => hn b l ⟨o, hb⟩ hl e.symm)
  · intro x lx hx h1
    exact .inr ⟨x, lx, (live_del hx).1, h1, rfl⟩

theorem freeze_other (w : World) (a : Addr) (n c : Nat) (h : c ≠ a.block) : (w.freeze a n).heap[c]? = w.heap[c]? := by
  unfold World.freeze
  split
  · rfl
  · simp only [Array.getElem?_modify]
    rw [if_neg (fun e => h e.symm)]
theorem freeze_size (w : World) (a : Addr) (n : Nat) : (w.freeze a n).heap.size = w.heap.size := by
  unfold World.freeze
  split
  · rfl
  · simp
theorem freeze_rest (w : World) (a : Addr) (n : Nat) : (w.freeze a n).os = w.os ∧ (w.freeze a n).tape = w.tape ∧ (w.freeze a n).output = w.output := by
  unfold World.freeze
  split <;> exact ⟨rfl, rfl, rfl⟩

theorem callOk_calls {P : Program} {E : Env} {h : Hp} {ρ : Rho} {w : World} {f : Nat} {args : Array Value} {rs : List (AV × Hp)} (hc : (callFunc f args).run P w = .ok (.enter f args) w)
    (h' : Calls P f args w (Answers E h ρ w rs)) : CallOk P E h ρ w f args rs := .inl ⟨hc, fun _ => callsIn_wide.2 h'⟩
end Go.Refl
