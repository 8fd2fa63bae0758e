/- An evaluator for code that only looks at what it is given: values, places, single operations. -/
import Derived.Test.YtdifpleoipjjfaaGreatDoorReflEight
import Derived.Below
import Derived.Test.YtdifpleoipjjfaaGreatDoorReflSeven
namespace Go.Sx
open Go Go.Refl

/-- A place: an argument, a part of one, an element at a loop's counter. 't': its type. -/
inductive Pt where
  | arg (j : Nat)
  | sub (p : Pt) (o t : Nat)
  | elt (p : Pt) (x t : Nat)

/-- A value. -/
inductive SV where
  | anyB | anyI
  | int (n : Nat) | bool (b : Bool)
  | pth (p : Pt) (t : Nat)
  | adr (p : Pt) (t : Nat)
  | iv (x : Nat) | ivS (x : Nat)
  | len (p : Pt)
  | ltb (x : Nat) (p : Pt)
  | blk (b : Nat) (o : Nat) (ch : List (Nat × Nat))
  | one (b : Nat)
  | undef

def ptEq : Pt → Pt → Bool
  | .arg j, .arg k => Nat.beq j k
  | .sub p o t, .sub q n u => match ptEq p q with
    | true => Nat.beq o n && Nat.beq t u
    | false => false
  | .elt p x t, .elt q y u => match ptEq p q with
    | true => Nat.beq x y && Nat.beq t u
    | false => false
  | _, _ => false
def chEq : List (Nat × Nat) → List (Nat × Nat) → Bool
  | [], [] => true
  | (a, b) :: x, (c, d) :: y => match Nat.beq a c && Nat.beq b d with
    | true => chEq x y
    | false => false
  | _, _ => false
def svEq : SV → SV → Bool
  | .anyB, .anyB | .anyI, .anyI | .undef, .undef => true
  | .int a, .int b => Nat.beq a b
  | .bool a, .bool b => a == b
  | .pth p t, .pth q u => ptEq p q && Nat.beq t u
  | .adr p t, .adr q u => ptEq p q && Nat.beq t u
  | .iv a, .iv b => Nat.beq a b
  | .ivS a, .ivS b => Nat.beq a b
  | .len p, .len q => ptEq p q
  | .ltb x p, .ltb y q => Nat.beq x y && ptEq p q
  | .blk b o c, .blk b' o' c' => Nat.beq b b' && Nat.beq o o' && chEq c c'
  | .one a, .one b => Nat.beq a b
  | _, _ => false
def intLike : SV → Bool
  | .anyI | .int _ | .iv _ | .ivS _ | .len _ => true
  | _ => false
def boolLike : SV → Bool
  | .anyB | .bool _ | .ltb _ _ => true
  | _ => false

/-- An own block: what was laid in it last, and its type; nothing yet. -/
structure Own where
  ty : Nat
  val : Option Pt
/-- A state: temporaries (the last first), own blocks (the first laid first), what is known of counters, the next counter. -/
structure SS where
  tmps : List (Nat × SV)
  size : Nat
  own : List Own
  facts : List (Nat × Pt)
  nx : Nat

def getT : List (Nat × SV) → Nat → Option SV
  | [], _ => none
  | (m, v) :: r, n => match Nat.beq m n with
    | true => some v
    | false => getT r n
def setT (l : List (Nat × SV)) (n : Nat) (v : SV) : List (Nat × SV) := (n, v) :: l
/-- Own blocks by number: the first laid is 0. -/
def getOwn (l : List Own) (b : Nat) : Option Own := getAt l b
def setOwn (l : List Own) (b : Nat) (o : Own) : List Own := setAt l b o
def knows : List (Nat × Pt) → Nat → Pt → Bool
  | [], _, _ => false
  | (x, p) :: r, y, q => match Nat.beq x y && ptEq p q with
    | true => true
    | false => knows r y q
def knowsOf : List (Nat × Pt) → Nat → Bool
  | [], _ => false
  | (x, _) :: r, y => match Nat.beq x y with
    | true => true
    | false => knowsOf r y

/-- What a call answers: its parameters' types, and whether a truth or a number comes back; whether it calls itself. -/
structure Ct where
  params : List Nat
  isBool : Bool
  self : Bool

section
variable (ty : Nat → Option TI) (ct : Nat → Option Ct)

def evS (t : List (Nat × SV)) : Operand → Option SV
  | .tmp n => getT t n
  | .const v => match v with
    | .int .i64 (.ofNat n) => some (.int n)
    | .bool b => some (.bool b)
    | _ => none
  | _ => none

def follow : Pt → List (Nat × Nat) → Pt
  | p, [] => p
  | p, (o, t) :: r => follow (.sub p o t) r
def lastTy : Nat → List (Nat × Nat) → Nat
  | t, [] => t
  | _, (_, u) :: r => lastTy u r

/-- A chain of fields is one of the type's. -/
def memP (o u : Nat) : List (Nat × Nat) → Bool
  | [] => false
  | (a, b) :: r => match Nat.beq a o && Nat.beq b u with
    | true => true
    | false => memP o u r
def chOk : Nat → List (Nat × Nat) → Bool
  | _, [] => true
  | t, (o, u) :: r => match ty t with
    | some ti => match ti.d with
      | .struct fs => match memP o u fs with
        | true => chOk u r
        | false => false
      | _ => false
    | none => false

/-- The field of a struct type. -/
def fieldOf (s i : Nat) : Option (Nat × Nat) :=
  match ty s with
  | some ti => match ti.d with
    | .struct fs => getAt fs i
    | _ => none
  | none => none
def pairEq : Option (Nat × Nat) → Option (Nat × Nat) → Bool
  | some (a, b), some (c, d) => Nat.beq a c && Nat.beq b d
  | _, _ => false

def cmpOp : BinOp → Bool
  | .eql | .neq | .lss | .leq | .gtr | .geq => true
  | _ => false

def sxBin (op : BinOp) (x y : SV) : Option SV :=
  match intLike x && intLike y with
  | false => none
  | true => match op with
    | .lss => match x, y with
      | .iv a, .len p => some (.ltb a p)
      | _, _ => some .anyB
    | .add => match x, y with
      | .iv a, .int 1 => some (.ivS a)
      | _, _ => some .anyI
    | .sub => some .anyI
    | .eql | .neq | .leq | .gtr | .geq => some .anyB
    | _ => none

/-- Does an argument fit a parameter? 'self': the place must be a part of what came in. -/
def argOk (own : List Own) (self : Bool) (t : Nat) : SV → Bool
  | .pth p u => match Nat.beq t u with
    | true => match self, p with
      | true, .arg _ => false
      | _, _ => true
    | false => false
  | .int _ | .anyI | .iv _ | .ivS _ | .len _ => match ty t with
    | some ti => match ti.d with
      | .int .i64 => true
      | _ => false
    | none => false
  | .one b => match self with
    | true => false
    | false => match getOwn own b, ty t with
      | some ⟨u, some _⟩, some ti => match ti.d with
        | .slice e => Nat.beq e u
        | _ => false
      | _, _ => false
  | _ => false
def argsOk (own : List Own) (self : Bool) : List Nat → List SV → Bool
  | [], [] => true
  | t :: ts, v :: vs => match argOk ty own self t v with
    | true => argsOk own self ts vs
    | false => false
  | _, _ => false
def evL (t : List (Nat × SV)) : List Operand → Option (List SV)
  | [] => some []
  | o :: os => match evS t o with
    | none => none
    | some v => match evL t os with
      | none => none
      | some vs => some (v :: vs)

/-- One operation. -/
def sxOp (o : Op) (s : SS) : Option (SV × SS) :=
  match o with
  | .move x | .assign x => match evS s.tmps x with
    | some v => some (v, s)
    | none => none
  | .load t a => match evS s.tmps a with
    | some (.adr p u) => match Nat.beq t u with
      | true => some (.pth p t, s)
      | false => none
    | some (.blk b _ ch) => match getOwn s.own b with
      | some ⟨u, some p⟩ => match Nat.beq (lastTy u ch) t && chOk ty u ch with
        | true => some (.pth (follow p ch) t, s)
        | false => none
      | _ => none
    | _ => none
  | .fieldAddr st x i => match evS s.tmps x with
    | some (.adr p u) => match fieldOf ty st i, fieldOf ty u i with
      | some (o, f), r => match pairEq (some (o, f)) r with
        | true => match ty f with
          | some tf => match tf.size with
            | 0 => none
            | _ + 1 => some (.adr (.sub p o f) f, s)
          | none => none
        | false => none
      | _, _ => none
    | some (.blk b off ch) => match getOwn s.own b with
      | some ⟨u, some _⟩ => match fieldOf ty st i, fieldOf ty (lastTy u ch) i with
        | some (o, f), r => match pairEq (some (o, f)) r with
          | true => match ty f with
            | some tf => match tf.size with
              | 0 => none
              | _ + 1 => some (.blk b (off + o) (ch ++ [(o, f)]), s)
            | none => none
          | false => none
        | _, _ => none
      | _ => none
    | _ => none
  | .indexAddr t x ix => match evS s.tmps x, evS s.tmps ix with
    | some (.pth p u), some (.iv k) => match Nat.beq t u with
      | false => none
      | true => match knows s.facts k p with
        | false => none
        | true => match ty t with
          | some ti => match ti.d with
            | .slice e => match ty e with
              | some te => match te.size with
                | 0 => none
                | _ + 1 => some (.adr (.elt p k e) e, s)
              | none => none
            | _ => none
          | none => none
    | _, _ => none
  | .binOp op _ x y _ => match evS s.tmps x, evS s.tmps y with
    | some a, some b => match sxBin op a b with
      | some v => some (v, s)
      | none => none
    | _, _ => none
  | .unOp op _ x => match op with
    | .not => match evS s.tmps x with
      | some (.bool b) => some (.bool (!b), s)
      | some v => match boolLike v with
        | true => some (.anyB, s)
        | false => none
      | none => none
    | _ => none
  | .pick c a b => match evS s.tmps c with
    | some (.bool true) => match evS s.tmps a with
      | some v => some (v, s)
      | none => none
    | some (.bool false) => match evS s.tmps b with
      | some v => some (v, s)
      | none => none
    | _ => none
  | .box t x => match evS s.tmps x with
    | some (.pth p u) => match Nat.beq t u with
      | true => some (.blk s.own.length 0 [], { s with own := s.own ++ [⟨t, some p⟩] })
      | false => none
    | _ => none
  | .alloc t => match ty t with
    | some _ => some (.blk s.own.length 0 [], { s with own := s.own ++ [⟨t, none⟩] })
    | none => none
  | .store t a x => match evS s.tmps a, evS s.tmps x with
    | some (.blk b 0 []), some (.pth p u) => match getOwn s.own b with
      | some ⟨v, none⟩ => match Nat.beq t u && Nat.beq t v with
        | true => some (.undef, { s with own := setOwn s.own b ⟨t, some p⟩ })
        | false => none
      | _ => none
    | _, _ => none
  | .buildSlice t n ps => match n, ps.toList with
    | 1, [(0, x)] => match evS s.tmps x with
      | some (.pth p u) => match ty t with
        | some ti => match ti.d with
          | .slice e => match Nat.beq e u with
            | true => some (.one s.own.length, { s with own := s.own ++ [⟨e, some p⟩] })
            | false => none
          | _ => none
        | none => none
      | _ => none
    | _, _ => none
  | .call c => match c.callee with
    | .builtin b => match b with
      | .len => match c.args.toList, c.argTypes.toList with
        | [x], [t] => match evS s.tmps x with
          | some (.pth p u) => match Nat.beq t u with
            | true => match ty t with
              | some ti => match ti.d with
                | .slice _ => some (.len p, s)
                | .string => some (.anyI, s)
                | _ => none
              | none => none
            | false => none
          | _ => none
        | _, _ => none
      | _ => none
    | .value f => match f with
      | .func f => match ct f with
        | some k => match evL s.tmps c.args.toList with
          | some vs => match argsOk ty s.own k.self k.params vs with
            | true => some (match k.isBool with | true => .anyB | false => .anyI, s)
            | false => none
          | none => none
        | none => none
      | _ => none
    | _ => none
  | _ => none

/-- Is an operation wanted? A truth that is not known is looked at from both sides. -/
inductive Want where
  | yes | no | both (d : Nat) (f : Option (Nat × Pt))
def wantS (ops : Array Oper) (o : Oper) (t : List (Nat × SV)) : Option Want :=
  match o.guard with
  | none => some .yes
  | some (j, w) => match (ops[j]?).bind (·.dst) with
    | some d => match getT t d with
      | some (.bool b) => some (match b == w with | true => .yes | false => .no)
      | some .undef => some .no
      | some .anyB => some (.both d none)
      | some (.ltb k p) => some (.both d (some (k, p)))
      | _ => none
    | none => none
def putS (s : SS) (d : Option Tmp) (v : SV) : Option SS :=
  match d with
  | some d => match Nat.blt d s.size with
    | true => some { s with tmps := setT s.tmps d v }
    | false => none
  | none => some s
/-- A truth is settled; where it says that a counter is below a length, that is known from there on. -/
def settle (s : SS) (d : Nat) (f : Option (Nat × Pt)) (b : Bool) : SS :=
  { s with tmps := setT s.tmps d (.bool b), facts := match b, f with
    | true, some p => p :: s.facts
    | _, _ => s.facts }
def stepS (o : Oper) (want : Bool) (s : SS) : Option SS :=
  match want with
  | true => match sxOp ty ct o.op s with
    | some (v, s) => putS s o.dst v
    | none => none
  | false => putS s o.dst .undef

def sxOps (ops : Array Oper) : List Oper → SS → Option (List SS)
  | [], s => some [s]
  | o :: os, s => match wantS ops o s.tmps with
    | some .yes => match stepS ty ct o true s with
      | some s => sxOps ops os s
      | none => none
    | some .no => match stepS ty ct o false s with
      | some s => sxOps ops os s
      | none => none
    | some (.both d f) =>
      match o.guard with
      | some (_, w) =>
        match stepS ty ct o true (settle s d f w) with
        | none => none
        | some s1 => match sxOps ops os s1 with
          | none => none
          | some l1 => match stepS ty ct o false (settle s d f (!w)) with
            | none => none
            | some s2 => match sxOps ops os s2 with
              | none => none
              | some l2 => some (l1 ++ l2)
      | none => none
    | none => none

inductive SE where
  | normal | exit (id : Nat) | ret

def mapS {α β : Type} (f : α → Option (List β)) : List α → Option (List β)
  | [] => some []
  | a :: as => match f a with
    | none => none
    | some x => match mapS f as with
      | none => none
      | some y => some (x ++ y)

/-- The temporaries that a code writes. -/
def dstsO : List Oper → List Nat
  | [] => []
  | o :: os => match o.dst with
    | some d => d :: dstsO os
    | none => dstsO os
def dstsC : Nat → Code → List Nat
  | 0, _ => []
  | n + 1, c => match c with
    | .region _ ops _ => dstsO ops.toList
    | .seq a b => dstsC n a ++ dstsC n b
    | .cond _ a b => dstsC n a ++ dstsC n b
    | .block _ b | .loop b | .scope b => dstsC n b
    | _ => []
def memN (n : Nat) : List Nat → Bool
  | [] => false
  | m :: r => match Nat.beq m n with
    | true => true
    | false => memN n r
/-- The head of a loop: counters as told, other numbers unknown, all else that is written is forgotten. The names that stand are written out once. -/
def headT (mods : List Nat) (c x : Nat) : List (Nat × SV) → List Nat → List (Nat × SV)
  | [], _ => []
  | (m, v) :: r, seen => match memN m seen with
    | true => headT mods c x r seen
    | false => match memN m mods with
      | false => (m, v) :: headT mods c x r (m :: seen)
      | true => match Nat.beq m c with
        | true => (m, .iv x) :: headT mods c x r (m :: seen)
        | false => match intLike v with
          | true => (m, .anyI) :: headT mods c x r (m :: seen)
          | false => headT mods c x r (m :: seen)
def subT (t' : List (Nat × SV)) (c x : Nat) : List (Nat × SV) → Bool
  | [] => true
  | (m, v) :: r => match getT t' m with
    | none => false
    | some v' => match (match Nat.beq m c with
        | true => svEq v' (.ivS x)
        | false => match v with
          | .anyI => intLike v'
          | v => svEq v v') with
      | true => subT t' c x r
      | false => false
def ownEq : Own → Own → Bool
  | ⟨t, some p⟩, ⟨u, some q⟩ => Nat.beq t u && ptEq p q
  | ⟨t, none⟩, ⟨u, none⟩ => Nat.beq t u
  | _, _ => false
/-- The head's own blocks stand. -/
def ownPre : List Own → List Own → Bool
  | [], _ => true
  | a :: as, b :: bs => match ownEq a b with
    | true => ownPre as bs
    | false => false
  | _ :: _, [] => false
/-- The counter of a loop: a temporary that is told to be one, that the loop writes and that is 0 before it. -/
def counter (cs mods : List Nat) (t : List (Nat × SV)) : Option Nat :=
  match cs with
  | [] => none
  | c :: r => match memN c mods, getT t c with
    | true, some (.int 0) => some c
    | _, _ => counter r mods t

def headOk (h : SS) (c x : Nat) : List (SE × SS) → Bool
  | [] => true
  | (e, s) :: r => match (match e with
      | .normal => match subT s.tmps c x h.tmps with
        | true => match knowsOf s.facts x with
          | true => ownPre h.own s.own && Nat.beq s.size h.size
          | false => false
        | false => false
      | _ => true) with
    | true => headOk h c x r
    | false => false
def outs : List (SE × SS) → List (SE × SS)
  | [] => []
  | (e, s) :: r => match e with
    | .normal => outs r
    | e => (e, s) :: outs r

def unblock (id : Nat) : SE × SS → SE × SS
  | (.exit i, s) => match Nat.beq i id with
    | true => (.normal, s)
    | false => (.exit i, s)
  | r => r

def sxC (cs : List Nat) : Nat → Code → SS → Option (List (SE × SS))
  | 0, _, _ => none
  | n + 1, c, s => match c with
    | .skip | .label _ => some [(.normal, s)]
    | .region _ ops draw => match draw with
      | true => none
      | false => match sxOps ty ct ops ops.toList s with
        | none => none
        | some l => some (l.map fun s => (.normal, s))
    | .seq a b => match sxC cs n a s with
      | none => none
      | some l => mapS (fun r => match r with
        | (.normal, s) => sxC cs n b s
        | r => some [r]) l
    | .cond x a b => match x with
      | .tmp d => match getT s.tmps d with
        | some (.bool true) => sxC cs n a s
        | some (.bool false) => sxC cs n b s
        | some (.ltb k p) => match sxC cs n a { s with facts := (k, p) :: s.facts } with
          | none => none
          | some l1 => match sxC cs n b s with
            | none => none
            | some l2 => some (l1 ++ l2)
        | some .anyB => match sxC cs n a s with
          | none => none
          | some l1 => match sxC cs n b s with
            | none => none
            | some l2 => some (l1 ++ l2)
        | _ => none
      | _ => none
    | .block id b => match sxC cs n b s with
      | none => none
      | some l => some (l.map (unblock id))
    | .scope b => sxC cs n b s
    | .exit id => some [(.exit id, s)]
    | .ret => some [(.ret, s)]
    | .loop b =>
      let mods := dstsC 1000 b
      match counter cs mods s.tmps with
      | none => none
      | some c =>
        let h : SS := { s with tmps := headT mods c s.nx s.tmps [], nx := s.nx + 1 }
        match sxC cs n b h with
        | none => none
        | some l => match headOk h c s.nx l with
          | true => some (outs l)
          | false => none
    | _ => none

/-- A function: its parameters are read; each way out hands back a truth (a number). -/
def startT : Nat → List Nat → List (Nat × SV)
  | _, [] => []
  | j, t :: ts => (j, match ty t with
    | some ti => match ti.d with
      | .int .i64 => .anyI
      | _ => .pth (.arg j) t
    | none => .undef) :: startT (j + 1) ts
def resOk (isBool : Bool) (r : Nat) : List (SE × SS) → Bool
  | [] => true
  | (e, s) :: l => match (match e with
      | .exit _ => false
      | _ => match getT s.tmps r with
        | some v => match isBool with
          | true => boolLike v
          | false => intLike v
        | none => false) with
    | true => resOk isBool r l
    | false => false
def sxFn (cs : List Nat) (fi : FI) (k : Ct) : Bool :=
  match fi.results with
  | [.tmp r] => match Nat.ble k.params.length fi.ntmps with
    | false => false
    | true => match sxC ty ct cs 1000 fi.body { tmps := startT ty 0 k.params, size := fi.ntmps, own := [], facts := [], nx := 0 } with
      | none => false
      | some l => resOk k.isBool r l
  | _ => false
end
end Go.Sx
/- What can be read, places in it, and what a value of the evaluator stands for. -/
namespace Go.Sx
open Go Go.Refl Go.RowKit

theorem add_add (a : Addr) (i j : Nat) : (a.add i).add j = a.add (i + j) := by
  unfold Addr.add
  by_cases hi : i = 0
  · subst hi; simp
  · by_cases hj : j = 0
    · subst hj; simp
    · simp [hi, hj, Nat.add_assoc]
theorem add_block (a : Addr) (i : Nat) : (a.add i).block = a.block := by unfold Addr.add; split <;> rfl
theorem add_zero (a : Addr) : a.add 0 = a := by simp [Addr.add]

/-- Cells that can be read at a type, with some fuel. -/
def RdN (ty : Nat → Option TI) (w : World) : Nat → Nat → List Value → Prop
  | 0, _, _ => False
  | n + 1, t, cs => ∃ ti, ty t = some ti ∧ cs.length = ti.size ∧ match ti.d with
    | .int k => ∃ i, cs = [.int k i]
    | .bool => ∃ b, cs = [.bool b]
    | .string => ∃ s, cs = [.string s]
    | .slice e => ∃ a len cap, cs = [.slice a len cap] ∧ len ≤ maxLen ∧ ∀ i, i < len → ∃ ad vs te, a = some ad ∧ ty e = some te ∧ RdN ty w n e vs ∧ vs.length = te.size ∧
        ∀ (j : Nat) v, vs[j]? = some v → w.cell? ((ad.add (i * te.size)).add j) = some v
    | .struct fs => ∀ o u, (o, u) ∈ fs → ∃ te, ty u = some te ∧ RdN ty w n u ((cs.drop o).take te.size)
    | _ => False

theorem cell_lt {w : World} {a : Addr} {v : Value} (h : w.cell? a = some v) : a.block < w.heap.size := World.block_lt_of_cell? w a h

theorem RdN.below {ty : Nat → Option TI} {w w' : World} (hb : Below w.heap.size w w') : ∀ {n t : Nat} {cs : List Value}, RdN ty w n t cs → RdN ty w' n t cs
  | 0, _, _, h => h
  | n + 1, t, cs, h => by
    obtain ⟨ti, h1, h2, h3⟩ := h
    refine ⟨ti, h1, h2, ?_⟩
    split at h3
    · exact h3
    · exact h3
    · exact h3
    · obtain ⟨a, len, cap, e1, e2, e3⟩ := h3
      refine ⟨a, len, cap, e1, e2, fun i hi => ?_⟩
      obtain ⟨ad, vs, te, k1, k2, k3, k4, k5⟩ := e3 i hi
      refine ⟨ad, vs, te, k1, k2, k3.below hb, k4, fun j v hj => ?_⟩
      have := k5 j v hj
      rw [hb.cell (cell_lt this)]; exact this
    · intro o u ho
      obtain ⟨te, k1, k2⟩ := h3 o u ho
      exact ⟨te, k1, k2.below hb⟩
    · exact h3

theorem RdN.more {ty : Nat → Option TI} {w : World} : ∀ {n t : Nat} {cs : List Value}, RdN ty w n t cs → ∀ m, n ≤ m → RdN ty w m t cs
  | 0, _, _, h, _, _ => h.elim
  | n + 1, t, cs, h, m, hm => by
    obtain ⟨m, rfl⟩ : ∃ k, m = k + 1 := ⟨m - 1, by omega⟩
    obtain ⟨ti, h1, h2, h3⟩ := h
    refine ⟨ti, h1, h2, ?_⟩
    split at h3
    · exact h3
    · exact h3
    · exact h3
    · obtain ⟨a, len, cap, e1, e2, e3⟩ := h3
      refine ⟨a, len, cap, e1, e2, fun i hi => ?_⟩
      obtain ⟨ad, vs, te, k1, k2, k3, k4, k5⟩ := e3 i hi
      exact ⟨ad, vs, te, k1, k2, k3.more m (by omega), k4, k5⟩
    · intro o u ho
      obtain ⟨te, k1, k2⟩ := h3 o u ho
      exact ⟨te, k1, k2.more m (by omega)⟩
    · exact h3

/-- What a function was given: each argument's type, its fuel, its cells. -/
abbrev Given := List (Nat × Nat × List Value)

section
variable (ty : Nat → Option TI) (w0 : World) (A : Given)

/-- A place holds cells; with counters as told. -/
inductive D (iv : List Nat) : Pt → Nat → Nat → List Value → Prop
  | arg (j t n : Nat) (cs : List Value) (h : A[j]? = some (t, n, cs)) (hr : RdN ty w0 n t cs) : D iv (.arg j) t n cs
  | sub (p : Pt) (t n : Nat) (cs : List Value) (ti : TI) (fs : List (Nat × Nat)) (o u : Nat) (te : TI) (h : D iv p t (n + 1) cs) (ht : ty t = some ti) (hd : ti.d = .struct fs) (ho : (o, u) ∈ fs) (hu : ty u = some te)
      (hr : RdN ty w0 n u ((cs.drop o).take te.size)) : D iv (.sub p o u) u n ((cs.drop o).take te.size)
  | elt (p : Pt) (t n : Nat) (ad : Addr) (len cap : Nat) (ti : TI) (e : Nat) (te : TI) (x i : Nat) (vs : List Value) (h : D iv p t (n + 1) [.slice (some ad) len cap]) (ht : ty t = some ti) (hd : ti.d = .slice e) (he : ty e = some te)
      (hx : iv[x]? = some i) (hi : i < len) (hr : RdN ty w0 n e vs) (hl : vs.length = te.size) (hc : ∀ (j : Nat) v, vs[j]? = some v → w0.cell? ((ad.add (i * te.size)).add j) = some v) : D iv (.elt p x e) e n vs
end

variable {ty : Nat → Option TI} {w0 : World} {A : Given}

theorem D.rd {iv : List Nat} {p : Pt} {t n : Nat} {cs : List Value} (h : D ty w0 A iv p t n cs) : RdN ty w0 n t cs := by
  cases h with
  | arg _ _ _ _ _ hr => exact hr
  | sub _ _ _ _ _ _ _ _ _ _ _ _ _ _ hr => exact hr
  | elt _ _ _ _ _ _ _ _ _ _ _ _ _ _ _ _ _ _ hr => exact hr

theorem D.more {iv iv' : List Nat} (hi : ∀ (x i : Nat), iv[x]? = some i → iv'[x]? = some i) {p : Pt} {t n : Nat} {cs : List Value} (h : D ty w0 A iv p t n cs) : D ty w0 A iv' p t n cs := by
  induction h with
  | arg j t n cs h hr => exact .arg j t n cs h hr
  | sub p t n cs ti fs o u te _ ht hd ho hu hr ih => exact .sub p t n cs ti fs o u te ih ht hd ho hu hr
  | elt p t n ad len cap ti e te x i vs _ ht hd he hx hlt hr hl hc ih => exact .elt p t n ad len cap ti e te x i vs ih ht hd he (hi _ _ hx) hlt hr hl hc

theorem D.det {iv : List Nat} {p : Pt} {t n : Nat} {cs : List Value} (h : D ty w0 A iv p t n cs) : ∀ {t' n' : Nat} {cs' : List Value}, D ty w0 A iv p t' n' cs' → t = t' ∧ n = n' ∧ cs = cs' := by
  induction h with
  | arg j t n cs h hr =>
    intro t' n' cs' h'
    cases h' with
    | arg _ _ _ _ h2 _ => rw [h] at h2; cases h2; exact ⟨rfl, rfl, rfl⟩
  | sub p t n cs ti fs o u te _ ht hd ho hu hr ih =>
    intro t' n' cs' h'
    cases h' with
    | sub _ t2 n2 cs2 ti2 fs2 _ _ te2 h2 ht2 hd2 ho2 hu2 hr2 =>
      obtain ⟨rfl, e, rfl⟩ := ih h2
      rw [hu] at hu2; cases hu2
      exact ⟨rfl, by omega, rfl⟩
  | elt p t n ad len cap ti e te x i vs _ ht hd he hx hlt hr hl hc ih =>
    intro t' n' cs' h'
    cases h' with
    | elt _ t2 n2 ad2 len2 cap2 ti2 _ te2 _ i2 vs2 h2 ht2 hd2 he2 hx2 hlt2 hr2 hl2 hc2 =>
      obtain ⟨rfl, e1, e2⟩ := ih h2
      cases e2
      rw [he] at he2; cases he2
      rw [hx] at hx2; cases hx2
      refine ⟨rfl, by omega, ?_⟩
      apply List.ext_getElem (by omega)
      intro k k1 k2
      have a1 := hc k _ (List.getElem?_eq_getElem k1)
      have a2 := hc2 k _ (List.getElem?_eq_getElem k2)
      rw [a1] at a2
      exact Option.some.inj a2

/-- A value and its cells. -/
def VC (ty : Nat → Option TI) (t : Nat) (cs : List Value) (v : Value) : Prop :=
  ∃ ti, ty t = some ti ∧ match Go.Refl.isAgg ti.d with
    | true => v = .agg cs.toArray
    | false => cs = [v]

/-- The way from a block's value to a part. -/
def chOff : List (Nat × Nat) → Nat
  | [] => 0
  | (o, _) :: r => o + chOff r

section
variable (ty : Nat → Option TI) (w0 : World) (A : Given)
/-- What a value of the evaluator stands for: counters, own blocks. -/
def V (iv bl : List Nat) : SV → Value → Prop
  | .anyB, v => ∃ b, v = .bool b
  | .anyI, v => ∃ n, v = .int .i64 n
  | .int n, v => v = .int .i64 (n : Int)
  | .bool b, v => v = .bool b
  | .pth p t, v => ∃ n cs, D ty w0 A iv p t n cs ∧ VC ty t cs v
  | .adr p t, v => ∃ n cs ad, D ty w0 A iv p t n cs ∧ v = .pointer (some ad) ∧ ∀ (j : Nat) c, cs[j]? = some c → w0.cell? (ad.add j) = some c
  | .iv x, v => ∃ i, iv[x]? = some i ∧ v = .int .i64 (i : Int)
  | .ivS x, v => ∃ i, iv[x]? = some i ∧ v = .int .i64 (IntKind.i64.wrap ((i : Int) + 1))
  | .len p, v => ∃ t n a l c, D ty w0 A iv p t n [.slice a l c] ∧ l ≤ maxLen ∧ v = .int .i64 (l : Int)
  | .ltb x p, v => ∃ i t n a l c, iv[x]? = some i ∧ D ty w0 A iv p t n [.slice a l c] ∧ l ≤ maxLen ∧ v = .bool (decide (i < l))
  | .blk b o ch, v => ∃ k, bl[b]? = some k ∧ o = chOff ch ∧ v = .pointer (some ⟨k, o, none⟩)
  | .one b, v => ∃ k, bl[b]? = some k ∧ v = .slice (some ⟨k, 0, none⟩) 1 1
  | .undef, v => v = undef

/-- An own block. -/
def OwnR (iv : List Nat) (w : World) (o : Own) (k : Nat) : Prop :=
  w0.heap.size ≤ k ∧ ∃ (cs : Array Value) (ti : TI), ty o.ty = some ti ∧ cs.size = ti.size ∧ w.heap[k]? = some (.cells cs o.ty (0, 0)) ∧
    ∀ p, o.val = some p → ∃ n, D ty w0 A iv p o.ty n cs.toList

def Fact (iv : List Nat) (f : Nat × Pt) : Prop := ∃ i t n a l c, iv[f.1]? = some i ∧ D ty w0 A iv f.2 t n [.slice a l c] ∧ l ≤ maxLen ∧ i < l

structure SR (iv bl : List Nat) (s : SS) (a : Act) (w : World) : Prop where
  tmps : ∀ m v, getT s.tmps m = some v → ∃ u, a.tmps[m]? = some u ∧ V ty w0 A iv bl v u
  size : a.tmps.size = s.size
  len : bl.length = s.own.length
  own : ∀ (b : Nat) o, s.own[b]? = some o → ∃ k, bl[b]? = some k ∧ OwnR ty w0 A iv w o k
  inj : ∀ (b c k : Nat), bl[b]? = some k → bl[c]? = some k → b = c
  below : Below w0.heap.size w0 w
  facts : ∀ f ∈ s.facts, Fact ty w0 A iv f
  nx : iv.length = s.nx
  defers : a.defers = []
end

theorem V.more {iv iv' bl bl' : List Nat} (hi : ∀ (x i : Nat), iv[x]? = some i → iv'[x]? = some i) (hb : ∀ (x i : Nat), bl[x]? = some i → bl'[x]? = some i) {s : SV} {v : Value} (h : V ty w0 A iv bl s v) : V ty w0 A iv' bl' s v := by
  cases s with
  | anyB => exact h
  | anyI => exact h
  | int n => exact h
  | bool b => exact h
  | pth p t => obtain ⟨n, cs, h1, h2⟩ := h; exact ⟨n, cs, h1.more hi, h2⟩
  | adr p t => obtain ⟨n, cs, ad, h1, h2⟩ := h; exact ⟨n, cs, ad, h1.more hi, h2⟩
  | iv x => obtain ⟨i, h1, h2⟩ := h; exact ⟨i, hi _ _ h1, h2⟩
  | ivS x => obtain ⟨i, h1, h2⟩ := h; exact ⟨i, hi _ _ h1, h2⟩
  | len p => obtain ⟨t, n, a, l, c, h1, h2⟩ := h; exact ⟨t, n, a, l, c, h1.more hi, h2⟩
  | ltb x p => obtain ⟨i, t, n, a, l, c, h1, h2, h3⟩ := h; exact ⟨i, t, n, a, l, c, hi _ _ h1, h2.more hi, h3⟩
  | blk b o ch => obtain ⟨k, h1, h2⟩ := h; exact ⟨k, hb _ _ h1, h2⟩
  | one b => obtain ⟨k, h1, h2⟩ := h; exact ⟨k, hb _ _ h1, h2⟩
  | undef => exact h

/-- Back to fewer counters and blocks, where the value was one of those. -/
theorem V.back {iv iv' bl bl' : List Nat} (hi : ∀ (x i : Nat), iv[x]? = some i → iv'[x]? = some i) (hb : ∀ (x i : Nat), bl[x]? = some i → bl'[x]? = some i) {s : SV} {v0 v : Value} (h0 : V ty w0 A iv bl s v0) (h : V ty w0 A iv' bl' s v) : V ty w0 A iv bl s v := by
  cases s with
  | anyB => exact h
  | anyI => exact h
  | int n => exact h
  | bool b => exact h
  | pth p t =>
    obtain ⟨n, cs, h1, h2⟩ := h
    obtain ⟨n0, cs0, k1, k2⟩ := h0
    obtain ⟨_, rfl, rfl⟩ := (k1.more hi).det h1
    exact ⟨_, _, k1, h2⟩
  | adr p t =>
    obtain ⟨n, cs, ad, h1, h2⟩ := h
    obtain ⟨n0, cs0, ad0, k1, k2⟩ := h0
    obtain ⟨_, rfl, rfl⟩ := (k1.more hi).det h1
    exact ⟨_, _, ad, k1, h2⟩
  | iv x =>
    obtain ⟨i, h1, h2⟩ := h
    obtain ⟨i0, k1, k2⟩ := h0
    have := hi _ _ k1; rw [h1] at this; cases this
    exact ⟨i, k1, h2⟩
  | ivS x =>
    obtain ⟨i, h1, h2⟩ := h
    obtain ⟨i0, k1, k2⟩ := h0
    have := hi _ _ k1; rw [h1] at this; cases this
    exact ⟨i, k1, h2⟩
  | len p =>
    obtain ⟨t, n, a, l, c, h1, h2⟩ := h
    obtain ⟨t0, n0, a0, l0, c0, k1, k2⟩ := h0
    obtain ⟨rfl, rfl, e⟩ := (k1.more hi).det h1
    cases e
    exact ⟨_, _, _, _, _, k1, h2⟩
  | ltb x p =>
    obtain ⟨i, t, n, a, l, c, h1, h2, h3⟩ := h
    obtain ⟨i0, t0, n0, a0, l0, c0, k1, k2, k3⟩ := h0
    have := hi _ _ k1; rw [h1] at this; cases this
    obtain ⟨rfl, rfl, e⟩ := (k2.more hi).det h2
    cases e
    exact ⟨_, _, _, _, _, _, k1, k2, h3⟩
  | blk b o ch =>
    obtain ⟨k, h1, h2⟩ := h
    obtain ⟨k0, k1, k2⟩ := h0
    have := hb _ _ k1; rw [h1] at this; cases this
    exact ⟨k, k1, h2⟩
  | one b =>
    obtain ⟨k, h1, h2⟩ := h
    obtain ⟨k0, k1, k2⟩ := h0
    have := hb _ _ k1; rw [h1] at this; cases this
    exact ⟨k, k1, h2⟩
  | undef => exact h

theorem V.int {iv bl : List Nat} {s : SV} {v : Value} (hs : intLike s = true) (h : V ty w0 A iv bl s v) : ∃ n, v = .int .i64 n := by
  cases s <;> simp only [intLike] at hs <;> try (cases hs; done)
  · exact h
  · exact ⟨_, h⟩
  · obtain ⟨i, _, h⟩ := h; exact ⟨_, h⟩
  · obtain ⟨i, _, h⟩ := h; exact ⟨_, h⟩
  · obtain ⟨t, n, a, l, c, _, _, h⟩ := h; exact ⟨_, h⟩
theorem V.truth {iv bl : List Nat} {s : SV} {v : Value} (hs : boolLike s = true) (h : V ty w0 A iv bl s v) : ∃ b, v = .bool b := by
  cases s <;> simp only [boolLike] at hs <;> try (cases hs; done)
  · exact h
  · exact ⟨_, h⟩
  · obtain ⟨i, t, n, a, l, c, _, _, _, h⟩ := h; exact ⟨_, h⟩

theorem ptEq_eq : ∀ {p q : Pt}, ptEq p q = true → p = q
  | .arg j, .arg k, h => by simp only [ptEq] at h; rw [Nat.eq_of_beq_eq_true h]
  | .sub p o t, .sub q n u, h => by
    simp only [ptEq] at h
    split at h
    · rename_i h1
      rw [Bool.and_eq_true] at h
      rw [ptEq_eq h1, Nat.eq_of_beq_eq_true h.1, Nat.eq_of_beq_eq_true h.2]
    · cases h
  | .elt p x t, .elt q y u, h => by
    simp only [ptEq] at h
    split at h
    · rename_i h1
      rw [Bool.and_eq_true] at h
      rw [ptEq_eq h1, Nat.eq_of_beq_eq_true h.1, Nat.eq_of_beq_eq_true h.2]
    · cases h
  | .arg _, .sub .., h | .arg _, .elt .., h | .sub .., .arg _, h | .sub .., .elt .., h | .elt .., .arg _, h | .elt .., .sub .., h => by simp [ptEq] at h
theorem chEq_eq : ∀ {a b : List (Nat × Nat)}, chEq a b = true → a = b
  | [], [], _ => rfl
  | [], _ :: _, h => by simp [chEq] at h
  | _ :: _, [], h => by simp [chEq] at h
  | (a, b) :: x, (c, d) :: y, h => by
    simp only [chEq] at h
    split at h
    · rename_i h1
      rw [Bool.and_eq_true] at h1
      rw [Nat.eq_of_beq_eq_true h1.1, Nat.eq_of_beq_eq_true h1.2, chEq_eq h]
    · cases h
theorem svEq_eq {a b : SV} (h : svEq a b = true) : a = b := by
  cases a <;> cases b <;> simp only [svEq, Bool.and_eq_true] at h <;> first
    | (cases h; done)
    | rfl
    | (rw [Nat.eq_of_beq_eq_true h]; done)
    | (rw [eq_of_beq h]; done)
    | (rw [ptEq_eq h]; done)
    | (rw [ptEq_eq h.1, Nat.eq_of_beq_eq_true h.2]; done)
    | (rw [Nat.eq_of_beq_eq_true h.1, ptEq_eq h.2]; done)
    | (rw [Nat.eq_of_beq_eq_true h.1.1, Nat.eq_of_beq_eq_true h.1.2, chEq_eq h.2]; done)
end Go.Sx
/- Single operations: what the model does, for values of the evaluator. -/
namespace Go.Sx
open Go Go.Refl Go.RowKit

section
variable {P : Program} {E : Env} {w0 w : World} {A : Given} {iv bl : List Nat} {s : SS} {a : Act}

theorem SR.get (h : SR E.ty w0 A iv bl s a w) {o : Operand} {v : SV} (hv : evS s.tmps o = some v) : V E.ty w0 A iv bl v (a.eval o) := by
  unfold evS at hv
  split at hv
  · rename_i n
    obtain ⟨u, h1, h2⟩ := h.tmps n v hv
    show V E.ty w0 A iv bl v (a.tmps.getD n undef)
    rw [Array.getD_eq_getD_getElem?, h1]
    exact h2
  · split at hv
    · cases hv; exact rfl
    · cases hv; exact rfl
    · cases hv
  · cases hv

theorem vc_load (hE : EnvOk P E) {t : Nat} {ti : TI} (ht : E.ty t = some ti) {cs : List Value} (hl : cs.length = ti.size) {ad : Addr} (hc : ∀ (j : Nat) c, cs[j]? = some c → w.cell? (ad.add j) = some c)
    (h1 : Go.Refl.isAgg ti.d = false → ∃ v, cs = [v]) : ∃ v, VC E.ty t cs v ∧ (loadVar t ad).run P w = .ok v w := by
  have hag := ty_agg hE ht w
  cases hi : Go.Refl.isAgg ti.d with
  | true =>
    refine ⟨.agg cs.toArray, ⟨ti, ht, by rw [hi]⟩, ?_⟩
    have := run_loadCells_list (P := P) w ad cs hc
    rw [hl] at this
    simp [loadVar, hag, hi, ty_size hE ht w, this]
  | false =>
    obtain ⟨v, rfl⟩ := h1 hi
    refine ⟨v, ⟨ti, ht, by rw [hi]⟩, ?_⟩
    have := hc 0 v rfl
    rw [add_zero] at this
    simp [loadVar, hag, hi, this]

theorem RdN.one {n t : Nat} {ti : TI} {cs : List Value} (h : RdN E.ty w n t cs) (ht : E.ty t = some ti) : cs.length = ti.size ∧ (Go.Refl.isAgg ti.d = false → ∃ v, cs = [v]) := by
  cases n with
  | zero => exact h.elim
  | succ n =>
    obtain ⟨ti', h1, h2, h3⟩ := h
    rw [ht] at h1; cases h1
    refine ⟨h2, fun hi => ?_⟩
    split at h3
    · obtain ⟨i, rfl⟩ := h3; exact ⟨_, rfl⟩
    · obtain ⟨i, rfl⟩ := h3; exact ⟨_, rfl⟩
    · obtain ⟨i, rfl⟩ := h3; exact ⟨_, rfl⟩
    · obtain ⟨x, y, z, rfl, _⟩ := h3; exact ⟨_, rfl⟩
    · rename_i hd; rw [hd] at hi; cases hi
    · exact h3.elim

theorem field_run (hE : EnvOk P E) {st i o f : Nat} (hf : fieldOf E.ty st i = some (o, f)) {tf : TI} (htf : E.ty f = some tf) (hs0 : tf.size ≠ 0) (ad : Addr) :
    (Instr.fieldAt st (.pointer (some ad)) i).run P w = .ok (.pointer (some (ad.add o))) w := by
  unfold fieldOf at hf
  split at hf
  · rename_i ti hti
    obtain ⟨d, hu, hd, hrun⟩ := ty_under hE hti w
    split at hf
    · rename_i fs hdd
      rw [hdd] at hd; simp only [TDOk] at hd
      obtain ⟨g, rfl, rfl⟩ := hd
      rw [getAt_eq, List.getElem?_map] at hf
      cases hfi : g.toList[i]? with
      | none => rw [hfi] at hf; simp at hf
      | some x =>
        rw [hfi] at hf
        simp only [Option.map_some, Option.some.injEq, Prod.mk.injEq] at hf
        obtain ⟨rfl, rfl⟩ := hf
        have hfi' : g[i]? = some x := by simpa using hfi
        simp [Instr.fieldAt, hrun, hfi', Instr.sureAddr, fieldPlace, ty_size hE htf w, hs0]
    · cases hf
  · cases hf

theorem index_run (hE : EnvOk P E) {t e : Nat} {ti te : TI} (ht : E.ty t = some ti) (hd : ti.d = .slice e) (he : E.ty e = some te) {ad : Addr} {len cap i : Nat} (hi : i < len) :
    (Instr.indexAt t (.slice (some ad) len cap) (.int .i64 (i : Int))).run P w = .ok (.pointer (some (ad.add (i * te.size)))) w := by
  obtain ⟨d, hu, hdd, hrun⟩ := ty_under hE ht w
  rw [hd] at hdd; simp only [TDOk] at hdd; subst hdd
  simp only [Instr.indexAt, Sem.run_bind, asIntOf_run, Result.andThen_ok, hrun, Sem.run_pure]
  rw [if_pos (by omega)]
  simp [ty_size hE he w]

theorem len_run (hE : EnvOk P E) {t e rt : Nat} {ti : TI} (ht : E.ty t = some ti) (hd : ti.d = .slice e) (x : Option Addr) (len cap : Nat) :
    (Builtin.len_ #[t] rt #[.slice x len cap]).run P w = .ok (.int .i64 (len : Int)) w := by
  obtain ⟨d, hu, hdd, hrun⟩ := ty_under hE ht w
  rw [hd] at hdd; simp only [TDOk] at hdd; subst hdd
  simp [Builtin.len_, hrun, goInt]
theorem lenS_run (hE : EnvOk P E) {t rt : Nat} {ti : TI} (ht : E.ty t = some ti) (hd : ti.d = .string) (s : ByteArray) :
    ∃ n, (Builtin.len_ #[t] rt #[.string s]).run P w = .ok (.int .i64 n) w := by
  obtain ⟨d, hu, hdd, hrun⟩ := ty_under hE ht w
  rw [hd] at hdd; simp only [TDOk] at hdd; subst hdd
  exact ⟨_, by simp [Builtin.len_, hrun, goInt]; rfl⟩

/-- Numbers: what comes out. -/
theorem bin_run (hE : EnvOk P E) (op : BinOp) (ty : Nat) (x y : Operand) (zt : Nat) {m n : Int} (hx : a.eval x = .int .i64 m) (hy : a.eval y = .int .i64 n) {r : AV} (hq : binInt op .i64 m n = some r) (hsh : isShift op = false) (dst : Option Tmp) (type : Nat) (pos : String) (after : Array Edge) (guard : Option (Nat × Bool)) :
    ∃ v, VR (fun _ => none) r v ∧ (execOp a.eval ⟨dst, .binOp op ty x y zt, type, pos, after, guard⟩).run P w = .ok (.value v) w := by
  have hqb : qBin E op ty (isConst x || isConst y) (.int .i64 m) (.int .i64 n) = some r := by
    simp only [qBin, hsh, kindEq]
    exact hq
  obtain ⟨v, h1, h2⟩ := qBin_sound (P := P) (w := w) (ρ := fun _ => none) (xo := x) (yo := y) hE (hx ▸ VR.int .i64 m) (hy ▸ VR.int .i64 n) hqb
  refine ⟨v, h1, ?_⟩
  simp only [execOp]
  rw [Sem.run_bind, h2]
  rfl
end
end Go.Sx
/- Single operations are sound. -/
namespace Go.Sx
open Go Go.Refl Go.RowKit

section
variable {P : Program} {E : Env} {w0 w : World} {A : Given} {iv bl : List Nat} {s s' : SS} {a : Act} {ct : Nat → Option Ct}

theorem memP_mem {o u : Nat} : ∀ {l : List (Nat × Nat)}, memP o u l = true → (o, u) ∈ l
  | [], h => by simp [memP] at h
  | (x, y) :: r, h => by
    simp only [memP] at h
    split at h
    · rename_i h1
      rw [Bool.and_eq_true] at h1
      rw [Nat.eq_of_beq_eq_true h1.1, Nat.eq_of_beq_eq_true h1.2]
      exact List.mem_cons_self
    · exact List.mem_cons_of_mem _ (memP_mem h)

theorem sub_D {p : Pt} {t n : Nat} {cs : List Value} (h : D E.ty w0 A iv p t n cs) {ti : TI} (ht : E.ty t = some ti) {fs : List (Nat × Nat)} (hd : ti.d = .struct fs) {o u : Nat} (ho : (o, u) ∈ fs) :
    ∃ m te, E.ty u = some te ∧ n = m + 1 ∧ D E.ty w0 A iv (.sub p o u) u m ((cs.drop o).take te.size) := by
  have hr := h.rd
  cases n with
  | zero => exact hr.elim
  | succ n =>
    obtain ⟨ti', h1, h2, h3⟩ := hr
    rw [ht] at h1; cases h1
    rw [hd] at h3
    obtain ⟨te, k1, k2⟩ := h3 o u ho
    exact ⟨n, te, k1, rfl, .sub p t n cs ti fs o u te h ht hd ho k1 k2⟩

theorem follow_D : ∀ (ch : List (Nat × Nat)) {p : Pt} {t n : Nat} {cs : List Value}, D E.ty w0 A iv p t n cs → chOk E.ty t ch = true →
    ∃ m cs', D E.ty w0 A iv (follow p ch) (lastTy t ch) m cs' ∧ ∀ (j : Nat) c, cs'[j]? = some c → cs[chOff ch + j]? = some c
  | [], p, t, n, cs, h, _ => ⟨n, cs, h, fun j c hj => by simpa [chOff] using hj⟩
  | (o, u) :: r, p, t, n, cs, h, hc => by
    simp only [chOk] at hc
    split at hc
    · rename_i ti hti
      split at hc
      · rename_i fs hd
        split at hc
        · rename_i hm
          obtain ⟨m, te, h1, rfl, h2⟩ := sub_D h hti hd (memP_mem hm)
          obtain ⟨m', cs', k1, k2⟩ := follow_D r h2 hc
          refine ⟨m', cs', k1, fun j c hj => ?_⟩
          have := k2 j c hj
          rw [List.getElem?_take] at this
          split at this
          · rw [List.getElem?_drop] at this
            rw [← this]
            congr 1
            simp only [chOff]
            omega
          · cases this
        · cases hc
      · cases hc
    · cases hc

theorem fieldOf_mem {t i o f : Nat} (h : fieldOf E.ty t i = some (o, f)) : ∃ ti fs, E.ty t = some ti ∧ ti.d = .struct fs ∧ (o, f) ∈ fs := by
  unfold fieldOf at h
  split at h
  · rename_i ti hti
    split at h
    · rename_i fs hd
      rw [getAt_eq] at h
      exact ⟨ti, fs, hti, hd, List.mem_of_getElem? h⟩
    · cases h
  · cases h
theorem pairEq_eq {o f : Nat} {r : Option (Nat × Nat)} (h : pairEq (some (o, f)) r = true) : r = some (o, f) := by
  cases r with
  | none => simp [pairEq] at h
  | some x =>
    obtain ⟨c, d⟩ := x
    simp only [pairEq, Bool.and_eq_true] at h
    rw [Nat.eq_of_beq_eq_true h.1, Nat.eq_of_beq_eq_true h.2]

theorem knows_mem {x : Nat} {p : Pt} : ∀ {l : List (Nat × Pt)}, knows l x p = true → (x, p) ∈ l
  | [], h => by simp [knows] at h
  | (y, q) :: r, h => by
    simp only [knows] at h
    split at h
    · rename_i h1
      rw [Bool.and_eq_true] at h1
      rw [Nat.eq_of_beq_eq_true h1.1, ptEq_eq h1.2]
      exact List.mem_cons_self
    · exact List.mem_cons_of_mem _ (knows_mem h)

theorem VC.slice {t e : Nat} {ti : TI} (ht : E.ty t = some ti) (hd : ti.d = .slice e) {cs : List Value} {v : Value} (h : VC E.ty t cs v) : cs = [v] := by
  obtain ⟨ti', h1, h2⟩ := h
  rw [ht] at h1; cases h1
  rw [hd] at h2
  exact h2

/-- What a step leaves: the same temporaries, more own blocks. -/
def Stp (E : Env) (w0 : World) (A : Given) (iv bl : List Nat) (a : Act) (v : SV) (s' : SS) (u : Value) (w' : World) : Prop :=
  ∃ bl', (∀ (x i : Nat), bl[x]? = some i → bl'[x]? = some i) ∧ V E.ty w0 A iv bl' v u ∧ SR E.ty w0 A iv bl' s' a w'

theorem Stp.same {v : SV} {u : Value} (h : SR E.ty w0 A iv bl s a w) (hv : V E.ty w0 A iv bl v u) : Stp E w0 A iv bl a v s u w := ⟨bl, fun _ _ h => h, hv, h⟩

theorem cellw (h : SR E.ty w0 A iv bl s a w) {ad : Addr} {cs : List Value} (hc : ∀ (j : Nat) c, cs[j]? = some c → w0.cell? (ad.add j) = some c) : ∀ (j : Nat) c, cs[j]? = some c → w.cell? (ad.add j) = some c := by
  intro j c hj
  have := hc j c hj
  rw [h.below.cell (cell_lt this)]; exact this

/-- A new own block. -/
theorem SR.push (h : SR E.ty w0 A iv bl s a w) {o : Own} {cs : Array Value} {ti : TI} (hty : E.ty o.ty = some ti) (hsz : cs.size = ti.size) (hv : ∀ p, o.val = some p → ∃ n, D E.ty w0 A iv p o.ty n cs.toList) :
    (∀ (x i : Nat), bl[x]? = some i → (bl ++ [w.heap.size])[x]? = some i) ∧ (bl ++ [w.heap.size])[s.own.length]? = some w.heap.size ∧
      SR E.ty w0 A iv (bl ++ [w.heap.size]) { s with own := s.own ++ [o] } a (w.alloc (.cells cs o.ty)) := by
  have hmore : ∀ (x i : Nat), bl[x]? = some i → (bl ++ [w.heap.size])[x]? = some i := by
    intro x i hx
    rw [List.getElem?_append_left (List.getElem?_eq_some_iff.1 hx).1]; exact hx
  have hnew : (w.alloc (.cells cs o.ty)).heap[w.heap.size]? = some (.cells cs o.ty (0, 0)) := by
    show (w.heap.push _)[w.heap.size]? = _
    simp
  have hold : ∀ k, k < w.heap.size → (w.alloc (.cells cs o.ty)).heap[k]? = w.heap[k]? := fun k hk => Below.heap_alloc w _ k hk
  have hlt : ∀ (b k : Nat), bl[b]? = some k → k < w.heap.size := by
    intro b k hb
    have hb' : b < s.own.length := by rw [← h.len]; exact (List.getElem?_eq_some_iff.1 hb).1
    obtain ⟨k', h1, h2, cs', ti', h3, h4, h5, _⟩ := h.own b _ (List.getElem?_eq_getElem hb')
    rw [hb] at h1; cases h1
    exact (Array.getElem?_eq_some_iff.1 h5).1
  refine ⟨hmore, by rw [← h.len]; simp, ⟨fun m v hm => ?_, h.size, by simp [h.len], fun b x hb => ?_, fun b c k hb hc => ?_, h.below.alloc h.below.size _, h.facts, h.nx, h.defers⟩⟩
  · obtain ⟨u, h1, h2⟩ := h.tmps m v hm
    exact ⟨u, h1, h2.more (fun _ _ h => h) hmore⟩
  · by_cases hb' : b < s.own.length
    · rw [List.getElem?_append_left hb'] at hb
      obtain ⟨k, h1, h2, cs', ti', h3, h4, h5, h6⟩ := h.own b x hb
      exact ⟨k, hmore _ _ h1, h2, cs', ti', h3, h4, by rw [hold k (hlt b k h1)]; exact h5, h6⟩
    · have hbe : b = s.own.length := by
        have := (List.getElem?_eq_some_iff.1 hb).1
        simp at this; omega
      subst hbe
      simp at hb
      subst hb
      exact ⟨w.heap.size, by rw [← h.len]; simp, h.below.size, cs, ti, hty, hsz, hnew, hv⟩
  · have split : ∀ (x k : Nat), (bl ++ [w.heap.size])[x]? = some k → (bl[x]? = some k ∧ k < w.heap.size) ∨ (x = bl.length ∧ k = w.heap.size) := by
      intro x k hx
      by_cases hx' : x < bl.length
      · rw [List.getElem?_append_left hx'] at hx
        exact .inl ⟨hx, hlt x k hx⟩
      · have := (List.getElem?_eq_some_iff.1 hx).1
        simp at this
        have hxe : x = bl.length := by omega
        subst hxe
        simp at hx
        exact .inr ⟨rfl, hx.symm⟩
    rcases split b k hb with ⟨h1, h2⟩ | ⟨h1, h2⟩ <;> rcases split c k hc with ⟨h3, h4⟩ | ⟨h3, h4⟩
    · exact h.inj b c k h1 h3
    · omega
    · omega
    · rw [h1, h3]
end
end Go.Sx
