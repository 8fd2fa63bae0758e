/- An evaluator for the small program code, its numbers and its memory, against the model. -/
import GoSem.Step
import Derived.RangeFuncLeaves
import Derived.OrdersIn
import Derived.Laws.World
import Derived.Laws.Sem
namespace Go.Refl
open Go

/-- A tree of values by number: 0 at the root; 2k+1 on the left, 2k+2 on the right. -/
inductive Tr (α : Type) where
  | lf
  | nd (l : Tr α) (v : Option α) (r : Tr α)

namespace Tr
variable {α : Type}
def get : Tr α → Nat → Option α
  | .lf, _ => none
  | .nd l v r, n => match n with
    | 0 => v
    | m + 1 => match Nat.beq (m % 2) 0 with
      | true => l.get (m / 2)
      | false => r.get (m / 2)
def put (x : Option α) : Nat → Tr α → Nat → Tr α
  | 0, t, _ => t
  | d + 1, .lf, n => match n with
    | 0 => .nd .lf x .lf
    | m + 1 => match Nat.beq (m % 2) 0 with
      | true => .nd (put x d .lf (m / 2)) none .lf
      | false => .nd .lf none (put x d .lf (m / 2))
  | d + 1, .nd l v r, n => match n with
    | 0 => .nd l x r
    | m + 1 => match Nat.beq (m % 2) 0 with
      | true => .nd (put x d l (m / 2)) v r
      | false => .nd l v (put x d r (m / 2))
def set (t : Tr α) (n : Nat) (a : α) : Tr α := put (some a) (n + 1) t n
def del (t : Tr α) (n : Nat) : Tr α := put none (n + 1) t n
end Tr

/-- A capacity: known; or that of its row less a number. -/
inductive Cap where
  | ex (n : Nat)
  | op (sub : Nat)

/-- A value; its blocks are numbers of the abstract memory. -/
inductive AV where
  | int (k : IntKind) (n : Int)
  | bool (b : Bool)
  | str (s : List Nat)
  | ptr (b o : Nat)
  | nilp
  | slc (b o len : Nat) (cap : Cap)
  | nils
  | emp
  | mp (r : Nat)
  | nilm
  | fn (f : Nat) (fst cap : List AV)
  | yl (l : Nat)
  | nilf
  | ifc (t : Nat) (v : AV)
  | nili
  | agg (cs : List AV)
  | tup (vs : List AV)

/-- A block. A row: its cells as far as they are known; is its capacity open; below 'frz' it is not written. -/
inductive AObj where
  | row (cells : List AV) (elem : Nat) (opn : Bool) (frz : Nat)
  | map (es : List (AV × AV × Nat)) (clock : Nat)
  | loop (state : LoopState) (pending : Option Code) (tmps : Tr AV) (size : Nat) (params : List Tmp) (assign body : Code) (defers : Nat)
  | defd
  | miter (map : Option Nat) (since : Nat) (seen : List Nat) (stepped : Nat)

/-- What is known of a type. -/
inductive TD where
  | int (k : IntKind) | bool | string | slice (e : Nat) | array (n e : Nat) | struct (fs : List (Nat × Nat)) | map (k e : Nat) | pointer (e : Nat) | func | interface | uptr | other
structure TI where
  d : TD
  size : Nat
  bytes : Nat
  zero : List AV
  /-- Its values are compared part by part. -/
  plain : Bool

structure Hp where
  h : Tr AObj
  next : Nat

structure FI where
  body : Code
  ntmps : Nat
  results : List ResultVar

structure Env where
  fns : Nat → Option FI
  ty : Nat → Option TI
  /-- How many numbers of blocks are those of the package-level variables. -/
  globs : Nat
  /-- Contracts that are known. -/
  known : Nat → List AV → Hp → Option (AV × Hp)
  /-- Which cells of a pinned row are frozen. -/
  pf : Nat × Nat

structure St where
  tmps : Tr AV
  size : Nat
  hp : Hp
  marks : List Nat

inductive AE where
  | normal | exit (id : Nat) | ret

/-- What may come out: every way of the model's is among them. -/
abbrev Exec := Code → Option Nat → St → Option (List (AE × St))

def mapAll {α β : Type} (f : α → Option (List β)) : List α → Option (List β)
  | [] => some []
  | a :: as => match f a with
    | none => none
    | some x => match mapAll f as with
      | none => none
      | some y => some (x ++ y)

def bindL {α β : Type} (m : Option (List α)) (f : α → Option (List β)) : Option (List β) :=
  match m with
  | none => none
  | some l => match l with
    | [] => some []
    | a :: as => match as with
      | [] => f a
      | _ :: _ => mapAll f l

def ofCell : Value → Option AV
  | .int k n => some (.int k n)
  | .bool b => some (.bool b)
  | .string s => some (.str (s.data.toList.map UInt8.toNat))
  | .pointer none => some .nilp
  | .slice none 0 0 => some .nils
  | .map none => some .nilm
  | .nilFunc => some .nilf
  | .nilIface => some .nili
  | _ => none

def ofCells : List Value → Option (List AV)
  | [] => some []
  | v :: vs => match ofCell v with
    | none => none
    | some a => match ofCells vs with
      | none => none
      | some as => some (a :: as)

def ofValue : Value → Option AV
  | .agg cs => match ofCells cs.toList with
    | some l => some (.agg l)
    | none => none
  | .tuple cs => match cs.toList with
    | [] => some (.tup [])
    | _ => none
  | v => ofCell v

def undefA : AV := .tup []

def getAt {α : Type} : List α → Nat → Option α
  | [], _ => none
  | x :: _, 0 => some x
  | _ :: xs, n + 1 => getAt xs n

def setAt {α : Type} : List α → Nat → α → List α
  | [], _, _ => []
  | _ :: xs, 0, a => a :: xs
  | x :: xs, n + 1, a => x :: setAt xs n a

def cellsOf : AV → List AV
  | .agg cs => cs
  | v => [v]

def isAgg : TD → Bool
  | .struct _ | .array _ _ => true
  | _ => false

def row? (h : Hp) (b : Nat) : Option (List AV × Nat × Bool × Nat) :=
  match h.h.get b with
  | some (.row c e o f) => some (c, e, o, f)
  | _ => none

def alloc (h : Hp) (o : AObj) : Hp := { h := h.h.set h.next o, next := h.next + 1 }

def setO (h : Hp) (b : Nat) (o : AObj) : Hp := { h := h.h.set b o, next := h.next }
def delO (h : Hp) (b : Nat) : Hp := { h := h.h.del b, next := h.next }

def takeN (c : List AV) (o n : Nat) : Option (List AV) :=
  let r := (c.drop o).take n
  match Nat.beq r.length n with
  | true => some r
  | false => none

def loadN (h : Hp) (b o n : Nat) : Option (List AV) :=
  match row? h b with
  | some (c, _) => takeN c o n
  | none => none

def loadV (ti : TI) (h : Hp) (b o : Nat) : Option AV :=
  match row? h b with
  | some (c, _) => match isAgg ti.d with
    | true => match takeN c o ti.size with
      | some l => some (.agg l)
      | none => none
    | false => getAt c o
  | none => none

/-- A part of a struct or an array. -/
def partV (ti : TI) (c : List AV) (o : Nat) : Option AV :=
  match isAgg ti.d with
  | true => match takeN c o ti.size with
    | some l => some (.agg l)
    | none => none
  | false => getAt c o

def splice (c : List AV) (o : Nat) (vs : List AV) : List AV := c.take o ++ vs ++ c.drop (o + vs.length)

def flat : AV → Bool
  | .agg _ | .tup _ => false
  | _ => true
def flats : List AV → Bool
  | [] => true
  | v :: vs => match flat v with
    | true => flats vs
    | false => false

def storeN (h : Hp) (b o : Nat) (vs : List AV) : Option Hp :=
  match row? h b with
  | some (c, e, opn, f) => match Nat.ble f o with
    | true => match Nat.ble (o + vs.length) c.length with
      | true => match flats vs with
        | true => some (setO h b (.row (splice c o vs) e opn f))
        | false => none
      | false => none
    | false => none
  | none => none

def listEq : List Nat → List Nat → Bool
  | [], [] => true
  | a :: x, b :: y => match Nat.beq a b with
    | true => listEq x y
    | false => false
  | _, _ => false

def bless : List Nat → List Nat → Bool
  | _, [] => false
  | [], _ :: _ => true
  | a :: x, b :: y => match Nat.blt a b with
    | true => true
    | false => match Nat.beq a b with
      | true => bless x y
      | false => false

def intEq : Int → Int → Bool
  | .ofNat a, .ofNat b => Nat.beq a b
  | .negSucc a, .negSucc b => Nat.beq a b
  | _, _ => false

def intLt : Int → Int → Bool
  | .ofNat a, .ofNat b => Nat.blt a b
  | .negSucc a, .negSucc b => Nat.blt b a
  | .negSucc _, .ofNat _ => true
  | .ofNat _, .negSucc _ => false

/-! Numbers. -/
def two : IntKind → Nat
  | .i8 | .u8 => 256
  | .i16 | .u16 => 65536
  | .i32 | .u32 => 4294967296
  | .i64 | .u64 => 18446744073709551616
def half : IntKind → Nat
  | .i8 | .u8 => 128
  | .i16 | .u16 => 32768
  | .i32 | .u32 => 2147483648
  | .i64 | .u64 => 9223372036854775808
def modF (k : IntKind) : Int → Nat
  | .ofNat a => a % two k
  | .negSucc a => (two k - 1) - a % two k
def signF (k : IntKind) (m : Nat) : Int :=
  match k.signed with
  | true => match Nat.blt m (half k) with
    | true => .ofNat m
    | false => .negSucc (two k - 1 - m)
  | false => .ofNat m
def wrapF (k : IntKind) (n : Int) : Int := signF k (modF k n)

def kindEq : IntKind → IntKind → Bool
  | .i8, .i8 | .i16, .i16 | .i32, .i32 | .i64, .i64 | .u8, .u8 | .u16, .u16 | .u32, .u32 | .u64, .u64 => true
  | _, _ => false

def binInt (op : BinOp) (k : IntKind) (x y : Int) : Option AV :=
  match op with
  | .add => some (.int k (wrapF k (x + y)))
  | .sub => some (.int k (wrapF k (x - y)))
  | .mul => some (.int k (wrapF k (x * y)))
  | .quo => match x, y with
    | .ofNat a, .ofNat (b + 1) => some (.int k (wrapF k (.ofNat (a / (b + 1)))))
    | _, _ => none
  | .rem => match x, y with
    | .ofNat a, .ofNat (b + 1) => some (.int k (.ofNat (a % (b + 1))))
    | _, _ => none
  | .eql => some (.bool (intEq x y))
  | .neq => some (.bool (!intEq x y))
  | .lss => some (.bool (intLt x y))
  | .leq => some (.bool (!intLt y x))
  | .gtr => some (.bool (intLt y x))
  | .geq => some (.bool (!intLt x y))
  | .and => some (.int k (wrapF k (.ofNat (Nat.land (modF k x) (modF k y)))))
  | .or => some (.int k (wrapF k (.ofNat (Nat.lor (modF k x) (modF k y)))))
  | .xor => some (.int k (wrapF k (.ofNat (Nat.xor (modF k x) (modF k y)))))
  | _ => none

def binShift (op : BinOp) (k : IntKind) (x y : Int) : Option AV :=
  match x, y with
  | .ofNat a, .ofNat b => match op with
    | .shl => some (.int k (wrapF k (.ofNat (a * 2 ^ (min b k.bits)))))
    | .shr => some (.int k (.ofNat (a / 2 ^ (min b k.bits))))
    | _ => none
  | _, _ => none

def binStr (op : BinOp) (x y : List Nat) : Option AV :=
  match op with
  | .add => match Nat.ble (x.length + y.length) 1000000 with
    | true => some (.str (x ++ y))
    | false => none
  | .eql => some (.bool (listEq x y))
  | .neq => some (.bool (!listEq x y))
  | .lss => some (.bool (bless x y))
  | .leq => some (.bool (bless x y || listEq x y))
  | .gtr => some (.bool (!(bless x y || listEq x y)))
  | .geq => some (.bool (!bless x y))
  | _ => none

/-! Equality at a type, the parts of a struct or an array one by one. -/
def eqF (ty : Nat → Option TI) (eq : Nat → AV → AV → Option Bool) : List (Nat × Nat) → List AV → List AV → Option Bool
  | [], _, _ => some true
  | (o, t) :: fs, a, b => match ty t with
    | none => none
    | some ti => match partV ti a o, partV ti b o with
      | some x, some y => match eq t x y with
        | some true => eqF ty eq fs a b
        | r => r
      | _, _ => none
def eqA (eq : AV → AV → Option Bool) (te : TI) : Nat → Nat → List AV → List AV → Option Bool
  | 0, _, _, _ => some true
  | n + 1, o, a, b => match partV te a o, partV te b o with
    | some x, some y => match eq x y with
      | some true => eqA eq te n (o + te.size) a b
      | r => r
    | _, _ => none
def eqD (ty : Nat → Option TI) (eq : Nat → AV → AV → Option Bool) (ti : TI) (x y : AV) : Option Bool :=
  match ti.d, x, y with
  | .int _, .int j a, .int k b => match kindEq j k with
    | true => some (intEq a b)
    | false => none
  | .bool, .bool a, .bool b => some (a == b)
  | .string, .str a, .str b => some (listEq a b)
  | .pointer _, .nilp, .nilp => some true
  | .pointer _, .nilp, .ptr .. => some false
  | .pointer _, .ptr .., .nilp => some false
  | .interface, .nili, .ifc .. => some false
  | .interface, .ifc .., .nili => some false
  | .slice _, .nils, .nils => some true
  | .slice _, .nils, .slc .. => some false
  | .slice _, .slc .., .nils => some false
  | .slice _, .nils, .emp => some false
  | .slice _, .emp, .nils => some false
  | .map .., .nilm, .nilm => some true
  | .map .., .nilm, .mp _ => some false
  | .map .., .mp _, .nilm => some false
  | .func, .nilf, .nilf => some true
  | .func, .nilf, .fn .. => some false
  | .func, .fn .., .nilf => some false
  | .struct fs, .agg a, .agg b => match ti.plain with
    | true => eqF ty eq fs a b
    | false => none
  | .array n e, .agg a, .agg b => match ti.plain with
    | true => match ty e with
      | some te => eqA (eq e) te n 0 a b
      | none => none
    | false => none
  | _, _, _ => none
def eqT (ty : Nat → Option TI) : Nat → Nat → AV → AV → Option Bool
  | 0, _, _, _ => none
  | d + 1, t, x, y => match ty t with
    | none => none
    | some ti => eqD ty (eqT ty d) ti x y

/-- A value may be a key. -/
def chkF (ty : Nat → Option TI) (chk : Nat → AV → Bool) : List (Nat × Nat) → List AV → Bool
  | [], _ => true
  | (o, t) :: fs, a => match ty t with
    | none => false
    | some ti => match partV ti a o with
      | some x => match chk t x with
        | true => chkF ty chk fs a
        | false => false
      | none => false
def chkA (chk : AV → Bool) (te : TI) : Nat → Nat → List AV → Bool
  | 0, _, _ => true
  | n + 1, o, a => match partV te a o with
    | some x => match chk x with
      | true => chkA chk te n (o + te.size) a
      | false => false
    | none => false
def chkD (ty : Nat → Option TI) (chk : Nat → AV → Bool) (ti : TI) (x : AV) : Bool :=
  match ti.d, x with
  | .int _, _ => true
  | .bool, _ => true
  | .string, _ => true
  | .struct fs, .agg a => match ti.plain with
    | true => chkF ty chk fs a
    | false => false
  | .array n e, .agg a => match ty e with
    | some te => chkA (chk e) te n 0 a
    | none => false
  | _, _ => false
def chkT (ty : Nat → Option TI) : Nat → Nat → AV → Bool
  | 0, _, _ => false
  | d + 1, t, x => match ty t with
    | none => false
    | some ti => chkD ty (chkT ty d) ti x

/-- The key of a map is found. -/
def findM (eq : AV → Option Bool) : List (AV × AV × Nat) → Nat → Option (Option (Nat × AV × Nat))
  | [], _ => some none
  | (k, v, b) :: es, i => match eq k with
    | some true => some (some (i, v, b))
    | some false => findM eq es (i + 1)
    | none => none

/-- Two values that are the same, written out (for the check of what may move). -/
def capEq : Cap → Cap → Bool
  | .ex a, .ex b => Nat.beq a b
  | .op a, .op b => Nat.beq a b
  | _, _ => false
def all2 {α : Type} (f : α → α → Bool) : List α → List α → Bool
  | [], [] => true
  | a :: as, b :: bs => match f a b with
    | true => all2 f as bs
    | false => false
  | _, _ => false
def sameA : Nat → AV → AV → Bool
  | 0, _, _ => false
  | n + 1, x, y => match x, y with
    | .int k a, .int j b => kindEq k j && intEq a b
    | .bool a, .bool b => a == b
    | .str a, .str b => listEq a b
    | .ptr a o, .ptr b p => Nat.beq a b && Nat.beq o p
    | .nilp, .nilp | .nils, .nils | .nilm, .nilm | .nilf, .nilf | .nili, .nili => true
    | .slc b o l c, .slc b' o' l' c' => Nat.beq b b' && Nat.beq o o' && Nat.beq l l' && capEq c c'
    | .mp a, .mp b => Nat.beq a b
    | .yl a, .yl b => Nat.beq a b
    | .fn f a c, .fn g b d => Nat.beq f g && all2 (sameA n) a b && all2 (sameA n) c d
    | .ifc t v, .ifc u w => Nat.beq t u && sameA n v w
    | .agg a, .agg b => all2 (sameA n) a b
    | .tup a, .tup b => all2 (sameA n) a b
    | _, _ => false

section run
variable (E : Env)

def evalO (t : Tr AV) : Operand → Option AV
  | .tmp n => t.get n
  | .const v => ofValue v
  | .func f => some (.fn f [] [])
  | .global g => match Nat.blt g E.globs with
    | true => some (.ptr g 0)
    | false => none

def evalL (t : Tr AV) : List Operand → Option (List AV)
  | [] => some []
  | o :: os => match evalO E t o with
    | none => none
    | some v => match evalL t os with
      | none => none
      | some vs => some (v :: vs)

/-- A number that an index is. -/
def natOf : AV → Option Nat
  | .int _ (.ofNat n) => some n
  | _ => none

def evalN (t : Tr AV) (o : Operand) : Option Nat :=
  match evalO E t o with
  | some v => natOf v
  | none => none

def bnd (t : Tr AV) (d : Nat) : Option Operand → Option Nat
  | none => some d
  | some o => evalN E t o

def fillL (place : Nat → Option (Nat × Nat)) : List AV → List (Nat × AV) → Option (List AV)
  | cells, [] => some cells
  | cells, (i, v) :: rest =>
    match place i with
    | none => none
    | some (off, size) => match Nat.beq (cellsOf v).length size with
      | false => none
      | true => match Nat.ble (off + size) cells.length with
        | false => none
        | true => fillL place (splice cells off (cellsOf v)) rest

def partsL (t : Tr AV) : List (Nat × Operand) → Option (List (Nat × AV))
  | [] => some []
  | (i, o) :: r => match evalO E t o with
    | none => none
    | some v => match partsL t r with
      | none => none
      | some vs => some ((i, v) :: vs)

def repl (z : List AV) : Nat → List AV
  | 0 => []
  | n + 1 => z ++ repl z n

def strOf : List AV → Option (List Nat)
  | [] => some []
  | v :: r => match v with
    | .int .u8 (.ofNat n) => match Nat.blt n 256 with
      | true => match strOf r with
        | some l => some (n :: l)
        | none => none
      | false => none
    | _ => none

def mapEs (h : Hp) : AV → Option (List (AV × AV × Nat))
  | .nilm => some []
  | .mp r => match h.h.get r with
    | some (.map es _) => some es
    | _ => none
  | _ => none

def placeF (fs : List (Nat × Nat)) (i : Nat) : Option (Nat × Nat) :=
  match getAt fs i with
  | some (off, ft) => match E.ty ft with
    | some ti => some (off, ti.size)
    | none => none
  | none => none
def placeA (size i : Nat) : Option (Nat × Nat) := some (i * size, size)

inductive Cls where | q | a | l
def cls : Op → Cls
  | .convert s d _ => match E.ty s with
    | some { d := .string, .. } => match E.ty d with
      | some { d := .slice _, .. } => .a
      | _ => .q
    | _ => .q
  | .alloc _ | .box .. | .buildSlice .. | .makeMap .. | .makeSlice .. => .a
  | .store .. | .insert .. | .mapUpdate .. | .mapEntry .. | .entryStore .. | .next .. | .range .. => .l
  | .call c => match c.callee with
    | .builtin b => match b with
      | .len | .cap | .min | .max => .q
      | _ => .l
    | _ => .l
  | .defer _ | .panic _ | .go _ | .send .. | .recv .. | .select .. => .l
  | _ => .q

def qSlice (t : Tr AV) (ti : TI) (x : AV) (lo hi : Option Operand) : Option AV :=
  match ti.d, x with
  | .string, .str s => match bnd E t s.length hi with
    | none => none
    | some h => match bnd E t 0 lo with
      | none => none
      | some l => match Nat.ble l h with
        | false => none
        | true => match Nat.ble h s.length with
          | false => none
          | true => some (.str ((s.take h).drop l))
  | .slice e, .nils => match E.ty e with
    | none => none
    | some _ => match bnd E t 0 hi with
      | some 0 => match bnd E t 0 lo with
        | some 0 => some .nils
        | _ => none
      | _ => none
  | .slice e, .slc b off len cap => match E.ty e with
    | none => none
    | some te => match bnd E t len hi with
      | none => none
      | some h => match bnd E t 0 lo with
        | none => none
        | some l => match Nat.ble l h with
          | false => none
          | true => match cap with
            | .ex m => match Nat.ble h m with
              | false => none
              | true => some (.slc b (match Nat.beq l m with | true => off | false => off + l * te.size) (h - l) (.ex (m - l)))
            | .op s => match Nat.ble h len with
              | false => none
              | true => match Nat.blt l len with
                | true => some (.slc b (off + l * te.size) (h - l) (.op (s + l)))
                | false => match l with
                  | 0 => some (.slc b off (h - l) (.op s))
                  | _ + 1 => some .emp
  | .array n e, .ptr b off => match E.ty e with
    | none => none
    | some te => match bnd E t n hi with
      | none => none
      | some h => match bnd E t 0 lo with
        | none => none
        | some l => match Nat.ble l h with
          | false => none
          | true => match Nat.ble h n with
            | false => none
            | true => some (.slc b (match Nat.beq l n with | true => off | false => off + l * te.size) (h - l) (.ex (n - l)))
  | _, _ => none

def qIndexAddr (ti : TI) (x : AV) (i : Nat) : Option AV :=
  match ti.d, x with
  | .array n e, .ptr b off => match E.ty e with
    | none => none
    | some te => match Nat.blt i n with
      | true => some (.ptr b (off + i * te.size))
      | false => none
  | .slice e, .slc b off len _ => match E.ty e with
    | none => none
    | some te => match Nat.blt i len with
      | true => some (.ptr b (off + i * te.size))
      | false => none
  | _, _ => none

def qIndex (ti : TI) (x : AV) (i : Nat) : Option AV :=
  match ti.d, x with
  | .string, .str s => match getAt s i with
    | some n => some (.int .u8 (.ofNat n))
    | none => none
  | .array n e, .agg cs => match E.ty e with
    | none => none
    | some te => match Nat.blt i n with
      | true => partV te cs (i * te.size)
      | false => none
  | _, _ => none

def qConvert (h : Hp) (ts td : TI) (x : AV) : Option AV :=
  match td.d, x with
  | .int k, .int _ n => some (.int k (wrapF k n))
  | .string, v => match ts.d with
    | .string => match v with
      | .str s => some (.str s)
      | _ => none
    | .slice e => match E.ty e with
      | some { d := .int .u8, .. } => match v with
        | .nils => some (.str [])
        | .slc b o len _ => match loadN h b o len with
          | some cs => match strOf cs with
            | some s => some (.str s)
            | none => none
          | none => none
        | _ => none
      | _ => none
    | _ => none
  | _, _ => none

def zeroOf (ti : TI) : AV :=
  match isAgg ti.d with
  | true => .agg ti.zero
  | false => match ti.zero with
    | v :: _ => v
    | [] => undefA

def qLookup (h : Hp) (ti : TI) (m k : AV) (ok : Bool) : Option AV :=
  match ti.d with
  | .map kt e => match E.ty e with
    | none => none
    | some te => match mapEs h m with
      | none => none
      | some es => match chkT E.ty 20 kt k with
       | false => none
       | true => match findM (eqT E.ty 20 kt k) es 0 with
        | none => none
        | some none => some (match ok with | true => .tup [zeroOf te, .bool false] | false => zeroOf te)
        | some (some (_, v, _)) => some (match ok with | true => .tup [v, .bool true] | false => v)
  | _ => none

def qBuild (ti : TI) (vs : List (Nat × AV)) : Option AV :=
  match ti.d with
  | .struct fs => match fillL (placeF E fs) ti.zero vs with
    | some l => some (.agg l)
    | none => none
  | .array _ e => match E.ty e with
    | some te => match fillL (placeA te.size) ti.zero vs with
      | some l => some (.agg l)
      | none => none
    | none => none
  | _ => none

def qLen (h : Hp) (d : TD) (x : AV) : Option AV :=
  match d, x with
  | .string, .str s => some (.int .i64 (.ofNat s.length))
  | .slice _, .slc _ _ n _ => some (.int .i64 (.ofNat n))
  | .slice _, .nils => some (.int .i64 (.ofNat 0))
  | .slice _, .emp => some (.int .i64 (.ofNat 0))
  | .array n _, _ => some (.int .i64 (.ofNat n))
  | .map .., .nilm => some (.int .i64 (.ofNat 0))
  | .map .., .mp r => match h.h.get r with
    | some (.map es _) => some (.int .i64 (.ofNat es.length))
    | _ => none
  | _, _ => none

def qCap (d : TD) (x : AV) : Option AV :=
  match d, x with
  | .slice _, .slc _ _ _ (.ex n) => some (.int .i64 (.ofNat n))
  | .slice _, .nils => some (.int .i64 (.ofNat 0))
  | _, _ => none

def qBuiltin (h : Hp) (b : Builtin) (ts : List Nat) (vs : List AV) : Option AV :=
  match b, vs with
  | .len, [x] => match ts with
    | [t] => match E.ty t with
      | some ti => qLen h ti.d x
      | none => none
    | _ => none
  | .cap, [x] => match ts with
    | [t] => match E.ty t with
      | some ti => qCap ti.d x
      | none => none
    | _ => none
  | .min, [.int k x, .int j y] => match kindEq k j with
    | true => some (.int k (match intLt y x with | true => y | false => x))
    | false => none
  | .max, [.int k x, .int j y] => match kindEq k j with
    | true => some (.int k (match intLt x y with | true => y | false => x))
    | false => none
  | _, _ => none

def isShift : BinOp → Bool
  | .shl | .shr => true
  | _ => false

def isConst : Operand → Bool
  | .const _ => true
  | _ => false

/-- 'c': one of the two is written out as a constant. -/
def qBin (op : BinOp) (t : Nat) (c : Bool) (x y : AV) : Option AV :=
  match x, y with
  | .nili, .nili => match E.ty t with
    | some ti => match ti.d with
      | .interface => match c, op with
        | true, .eql => some (.bool true)
        | true, .neq => some (.bool false)
        | _, _ => none
      | _ => none
    | none => none
  | .int k a, .int j b => match isShift op with
    | true => binShift op k a b
    | false => match kindEq k j with
      | true => binInt op k a b
      | false => none
  | .str a, .str b => binStr op a b
  | x, y => match op with
    | .eql => match eqT E.ty 20 t x y with
      | some b => some (.bool b)
      | none => none
    | .neq => match eqT E.ty 20 t x y with
      | some b => some (.bool (!b))
      | none => none
    | _ => none

/-- Quiet operations: they leave memory alone. -/
def quietOp (o : Oper) (t : Tr AV) (h : Hp) : Option AV :=
  match o.op with
  | .move x => evalO E t x
  | .assign x => evalO E t x
  | .pick c a b => match evalO E t c with
    | some (.bool true) => evalO E t a
    | some (.bool false) => evalO E t b
    | _ => none
  | .load ty a => match evalO E t a with
    | some (.ptr b off) => match E.ty ty with
      | some ti => loadV ti h b off
      | none => none
    | _ => none
  | .nilCheck x => match evalO E t x with
    | some (.ptr b off) => some (.ptr b off)
    | _ => none
  | .binOp op ty x y _ => match evalO E t x with
    | none => none
    | some a => match evalO E t y with
      | none => none
      | some b => qBin E op ty (isConst x || isConst y) a b
  | .unOp op _ x => match evalO E t x with
    | some (.bool b) => match op with
      | .not => some (.bool (!b))
      | _ => none
    | some (.int k n) => match op with
      | .neg => some (.int k (wrapF k (0 - n)))
      | _ => none
    | _ => none
  | .convert s d x => match E.ty s with
    | none => none
    | some ts => match E.ty d with
      | none => none
      | some td => match evalO E t x with
        | none => none
        | some v => qConvert E h ts td v
  | .makeInterface ty x => match E.ty ty with
    | some ti => match ti.d with
      | .interface => none
      | _ => match evalO E t x with
        | some v => some (.ifc ty v)
        | none => none
    | none => none
  | .makeFunc fn a c => match fn with
    | .func f => match evalL E t a.toList with
      | none => none
      | some a => match evalL E t c.toList with
        | none => none
        | some c => some (.fn f a c)
    | _ => none
  | .build ty ps => match E.ty ty with
    | none => none
    | some ti => match partsL E t ps.toList with
      | none => none
      | some vs => qBuild E ti vs
  | .fieldAddr s x i => match evalO E t x with
    | some (.ptr b off) => match E.ty s with
      | some ti => match ti.d with
        | .struct fs => match getAt fs i with
          | some (o, ft) => match E.ty ft with
            | some te => match te.size with
              | 0 => none
              | _ + 1 => some (.ptr b (off + o))
            | none => none
          | none => none
        | _ => none
      | none => none
    | _ => none
  | .field s x i => match evalO E t x with
    | some (.agg cs) => match E.ty s with
      | some ti => match ti.d with
        | .struct fs => match getAt fs i with
          | some (o, ft) => match E.ty ft with
            | some te => partV te cs o
            | none => none
          | none => none
        | _ => none
      | none => none
    | _ => none
  | .indexAddr ty x ix => match E.ty ty with
    | none => none
    | some ti => match evalO E t x with
      | none => none
      | some v => match evalN E t ix with
        | none => none
        | some i => qIndexAddr E ti v i
  | .index ty x ix => match E.ty ty with
    | none => none
    | some ti => match evalO E t x with
      | none => none
      | some v => match evalN E t ix with
        | none => none
        | some i => qIndex E ti v i
  | .slice ty x lo hi mx => match mx with
    | some _ => none
    | none => match E.ty ty with
      | none => none
      | some ti => match evalO E t x with
        | none => none
        | some v => qSlice E t ti v lo hi
  | .lookup ty x k ok => match E.ty ty with
    | none => none
    | some ti => match evalO E t x with
      | none => none
      | some m => match evalO E t k with
        | none => none
        | some k => qLookup E h ti m k ok
  | .extract x i => match evalO E t x with
    | some (.tup vs) => getAt vs i
    | _ => none
  | .call c => match c.callee with
    | .builtin b => match evalL E t c.args.toList with
      | none => none
      | some vs => qBuiltin E h b c.argTypes.toList vs
    | _ => none
  | .entry it => match evalO E t it with
    | some (.ptr r 0) => match h.h.get r with
      | some (.miter (some m) _ seen stepped) => match h.h.get m with
        | some (.map es clock) => match seen.getLast? with
          | some stamp => match Nat.beq clock stepped with
            | true => match es.find? (fun e => Nat.beq e.2.2 stamp) with
              | some e => some (.tup [e.1, e.2.1])
              | none => none
            | false => none
          | none => none
        | _ => none
      | _ => none
    | _ => none
  | _ => none

/-- What an allocation lays, and what it hands back of the new block. -/
def allocOp (o : Oper) (t : Tr AV) (r : Nat) : Option (AObj × AV) :=
  match o.op with
  | .alloc e => match E.ty e with
    | some ti => some (.row ti.zero e false 0, .ptr r 0)
    | none => none
  | .box e x => match evalO E t x with
    | some v => some (.row (cellsOf v) e false 0, .ptr r 0)
    | none => none
  | .buildSlice ty len ps => match E.ty ty with
    | none => none
    | some ti => match ti.d with
      | .slice e => match E.ty e with
        | none => none
        | some te => match partsL E t ps.toList with
          | none => none
          | some vs => match Nat.ble (len * te.size) 100000 with
            | false => none
            | true => match fillL (placeA te.size) (repl te.zero len) vs with
              | some cells => some (.row cells e false 0, .slc r 0 len (.ex len))
              | none => none
      | _ => none
  | .makeMap _ r' => match r' with
    | none => some (.map [] 0, .mp r)
    | some _ => none
  | .makeSlice ty l c => match E.ty ty with
    | none => none
    | some ti => match ti.d with
      | .slice e => match E.ty e with
        | none => none
        | some te => match evalN E t l with
          | none => none
          | some l => match evalN E t c with
            | none => none
            | some c => match Nat.ble l c with
              | false => none
              | true => match Nat.ble c 100000 with
                | false => none
                | true => match Nat.ble te.bytes 100000 with
                  | false => none
                  | true => some (.row (repl te.zero c) e false 0, .slc r 0 l (.ex c))
      | _ => none
  | .convert s d x => match E.ty s with
    | none => none
    | some _ => match E.ty d with
      | none => none
      | some td => match td.d with
        | .slice e => match E.ty e with
          | some te => match te.d, te.size with
            | .int .u8, 1 => match evalO E t x with
              | some (.str s) => some (.row (s.map fun n => .int .u8 (.ofNat n)) e true 0, .slc r 0 s.length (.op 0))
              | _ => none
            | _, _ => none
          | none => none
        | _ => none
  | _ => none

/-- Two keys that are the same to the bit. -/
def keySame1 : AV → AV → Bool
  | .int k a, .int j b => match kindEq k j with
    | true => intEq a b
    | false => false
  | .bool a, .bool b => a == b
  | .str a, .str b => listEq a b
  | _, _ => false
def keySame (x y : AV) : Bool :=
  match x, y with
  | .agg a, .agg b => all2 keySame1 a b
  | x, y => keySame1 x y

def updMap (h : Hp) (kt : Nat) (m k v : AV) : Option Hp :=
  match m with
  | .mp r => match h.h.get r with
    | some (.map es clock) => match chkT E.ty 20 kt k with
     | false => none
     | true => match findM (eqT E.ty 20 kt k) es 0 with
      | some (some (i, _, b)) => match getAt es i with
        | some (k0, _) => match keySame k0 k with
          | true => some (setO h r (.map (setAt es i (k, v, b)) clock))
          | false => none
        | none => none
      | some none => some (setO h r (.map (es ++ [(k, v, clock)]) (clock + 1)))
      | none => none
    | _ => none
  | _ => none

/-- The cells that an append or a copy takes. -/
def takenCells (size : Nat) (h : Hp) : AV → Option (Nat × List AV)
  | .nils => some (0, [])
  | .slc b o len _ => match loadN h b o (len * size) with
    | some c => some (len, c)
    | none => none
  | .str s => match Nat.beq size 1 with
    | true => some (s.length, s.map fun n => .int .u8 (.ofNat n))
    | false => none
  | _ => none

/-- An open row is the one that its slice is taken for. -/
def appendOk (te : TI) (elem e : Nat) (opn : Bool) (o sb : Nat) : Bool :=
  match opn with
  | false => false
  | true => match te.size with
    | 0 => false
    | _ + 1 => match Nat.beq e elem with
      | true => Nat.beq o (sb * te.size)
      | false => false

def appendTo (te : TI) (elem : Nat) (h : Hp) (s : AV) (n : Nat) (new : List AV) : Option (AV × Hp) :=
  match Nat.ble n 100000 with
  | false => none
  | true => match Nat.ble te.bytes 100000 with
    | false => none
    | true => match s with
      | .nils => match n with
        | 0 => some (.nils, h)
        | _ + 1 => some (.slc h.next 0 n (.op 0), alloc h (.row new elem true 0))
      | .slc b o len cap => match n with
        | 0 => some (s, h)
        | _ + 1 => match row? h b with
          | none => none
          | some (c, e, opn, f) => match Nat.ble len 100000 with
            | false => none
            | true => match cap with
              | .ex m => match Nat.ble (len + n) m with
                | true => match storeN h b (o + len * te.size) new with
                  | some h' => some (.slc b o (len + n) cap, h')
                  | none => none
                | false => match takeN c o (len * te.size) with
                  | some old => some (.slc h.next 0 (len + n) (.op 0), alloc h (.row (old ++ new) elem true 0))
                  | none => none
              | .op sb => match appendOk te elem e opn o sb with
                | false => none
                | true => match Nat.ble (o + (len + n) * te.size) c.length with
                  | true => match storeN h b (o + len * te.size) new with
                    | some h' => some (.slc b o (len + n) cap, h')
                    | none => none
                  | false => match Nat.beq (o + len * te.size) c.length with
                    | false => none
                    | true => match Nat.ble f (o + len * te.size) with
                      | false => none
                      | true => match takeN c o (len * te.size) with
                        | some old => match flats new with
                          | true => some (.slc h.next 0 (len + n) (.op 0), alloc (delO h b) (.row (old ++ new) elem true (f - o)))
                          | false => none
                        | none => none
      | _ => none

def initL : Nat → List AV → Tr AV → Tr AV
  | _, [], t => t
  | i, v :: vs, t => initL (i + 1) vs (t.set i v)

def results (t : Tr AV) (h : Hp) : List ResultVar → Option (List AV)
  | [] => some []
  | r :: rs => match (match r with
      | .tmp n => t.get n
      | .cell a ty => match t.get a with
        | some (.ptr b o) => match E.ty ty with
          | some ti => loadV ti h b o
          | none => none
        | _ => none) with
    | none => none
    | some v => match results t h rs with
      | none => none
      | some vs => some (v :: vs)

def takeMarks : List Nat → Hp → Option Hp
  | [], h => some h
  | m :: ms, h => match h.h.get m with
    | some .defd => takeMarks ms (delO h m)
    | _ => none

def resultOf : List AV → AV
  | [v] => v
  | vs => .tup vs

def callFn (ex : Exec) (f : Nat) (args : List AV) (h : Hp) : Option (List (AV × Hp)) :=
  match E.known f args h with
  | some r => some [r]
  | none => match E.fns f with
    | none => none
    | some fi => match Nat.ble args.length fi.ntmps with
      | false => none
      | true => bindL (ex fi.body none { tmps := initL 0 args .lf, size := fi.ntmps, hp := h, marks := [] }) fun (e, s) =>
        match e with
        | .exit _ => none
        | _ => match results E s.tmps s.hp fi.results with
          | none => none
          | some vs => match takeMarks s.marks s.hp with
            | none => none
            | some h' => some [(resultOf vs, h')]

def setTmps (size : Nat) : List Tmp → List AV → Tr AV → Option (Tr AV)
  | [], [], t => some t
  | p :: ps, a :: as, t => match Nat.blt p size with
    | true => setTmps size ps as (t.set p a)
    | false => none
  | _, _, _ => none

def yieldFn (ex : Exec) (l : Nat) (args : List AV) (h : Hp) : Option (List (AV × Hp)) :=
  match h.h.get l with
  | some (.loop .ready _ tmps size params assign body _) => match setTmps size params args tmps with
    | none => none
    | some t => bindL (ex assign (some l) { tmps := t, size := size, hp := h, marks := [] }) fun (e, s) =>
      match e with
      | .normal => match s.hp.h.get l with
        | some (.loop .ready pend tmps size params assign bd d) =>
          bindL (ex body (some l) { s with hp := setO s.hp l (.loop .busy pend tmps size params assign bd d) }) fun (e, s) =>
            match s.marks with
            | _ :: _ => none
            | [] => match s.hp.h.get l with
              | some (.loop _ _ tmps size params assign body d) => match e with
                | .normal => some [(.bool true, setO s.hp l (.loop .ready none tmps size params assign body d))]
                | .ret => some [(.bool false, setO s.hp l (.loop .done (some .ret) tmps size params assign body d))]
                | .exit id => some [(.bool false, setO s.hp l (.loop .done (some (.exit id)) tmps size params assign body d))]
              | _ => none
        | _ => none
      | _ => none
  | _ => none

/-- The entries that a range over a map has not met. -/
def leftOf (seen : List Nat) : List (AV × AV × Nat) → List (AV × AV × Nat)
  | [] => []
  | e :: es => match seen.any (Nat.beq e.2.2) with
    | true => leftOf seen es
    | false => e :: leftOf seen es

def nextOp (h : Hp) (r : Nat) : Option (List (AV × Hp)) :=
  match h.h.get r with
  | some (.miter none _ _ _) => some [(.tup [.bool false], h)]
  | some (.miter (some m) since seen last) => match h.h.get m with
    | some (.map es clock) => match Nat.beq clock since && Nat.beq last since with
      | false => none
      | true => match es.all (fun e => Nat.blt e.2.2 since) with
        | false => none
        | true => match leftOf seen es with
          | [] => some [(.tup [.bool false], h)]
          | left => some (left.map fun e => (.tup [.bool true, e.1, e.2.1], setO h r (.miter (some m) since (seen ++ [e.2.2]) clock)))
    | _ => none
  | _ => none

def loudOp (ex : Exec) (o : Oper) (t : Tr AV) (h : Hp) : Option (List (AV × Hp)) :=
  match o.op with
  | .store ty a x => match evalO E t a with
    | some (.ptr b off) => match evalO E t x with
      | some v => match E.ty ty with
        | some ti => match Nat.beq (cellsOf v).length ti.size with
          | true => match storeN h b off (cellsOf v) with
            | some h => some [(undefA, h)]
            | none => none
          | false => none
        | none => none
      | none => none
    | _ => none
  | .mapUpdate ty m k v | .insert ty m k v => match E.ty ty with
    | some ti => match ti.d with
      | .map kt _ => match evalO E t m with
        | none => none
        | some m => match evalO E t k with
          | none => none
          | some k => match evalO E t v with
            | none => none
            | some v => match updMap E h kt m k v with
              | some h => some [(undefA, h)]
              | none => none
      | _ => none
    | none => none
  | .range ty x => match E.ty ty with
    | some ti => match ti.d with
      | .map .. => match evalO E t x with
        | some .nilm => some [(.ptr h.next 0, alloc h (.miter none 0 [] 0))]
        | some (.mp m) => match h.h.get m with
          | some (.map _ clock) => some [(.ptr h.next 0, alloc h (.miter (some m) clock [] clock))]
          | _ => none
        | _ => none
      | _ => none
    | none => none
  | .next it isString => match isString with
    | true => none
    | false => match evalO E t it with
      | some (.ptr r 0) => nextOp h r
      | _ => none
  | .call c => match c.callee with
    | .builtin b => match c.argTypes.toList with
      | st :: rest => match E.ty st with
        | none => none
        | some ts => match ts.d with
          | .slice e => match E.ty e with
            | none => none
            | some te => match evalL E t c.args.toList with
              | some [s, x] => match b with
                | .append => match rest with
                  | [xt] => match E.ty xt with
                    | none => none
                    | some tx => match tx.d with
                      | .int _ => match natOf x with
                        | none => none
                        | some n => match Nat.ble n 100000 with
                          | false => none
                          | true => match appendTo te e h s n (repl te.zero n) with
                            | some r => some [r]
                            | none => none
                      | _ => match takenCells te.size h x with
                        | none => none
                        | some (n, new) => match appendTo te e h s n new with
                          | some r => some [r]
                          | none => none
                  | _ => none
                | .copy => match takenCells te.size h x with
                  | none => none
                  | some (n, cs) => match s with
                    | .nils => some [(.int .i64 (.ofNat 0), h)]
                    | .slc b o len _ => match min n len with
                      | 0 => some [(.int .i64 (.ofNat 0), h)]
                      | k + 1 => match storeN h b o (cs.take ((k + 1) * te.size)) with
                        | some h => some [(.int .i64 (.ofNat (k + 1)), h)]
                        | none => none
                    | _ => none
                | _ => none
              | _ => none
          | _ => none
      | [] => none
    | .invoke .. => none
    | .value f => match evalO E t f with
      | some (.fn f fst cap) => match evalL E t c.args.toList with
        | some args => callFn E ex f (fst ++ args ++ cap) h
        | none => none
      | some (.yl l) => match evalL E t c.args.toList with
        | some args => yieldFn ex l args h
        | none => none
      | _ => none
  | _ => none

def wanted (ops : Array Oper) (o : Oper) (t : Tr AV) : Option Bool :=
  match o.guard with
  | none => some true
  | some (j, w) => match (ops[j]?).bind (·.dst) with
    | some d => match t.get d with
      | some (.bool b) => some (b == w)
      | some (.tup []) => some false
      | _ => none
    | none => none

def putT (s : Nat) (t : Tr AV) (d : Option Tmp) (v : AV) : Option (Tr AV) :=
  match d with
  | some d => match Nat.blt d s with
    | true => some (t.set d v)
    | false => none
  | none => some t

def oneOp (ex : Exec) (o : Oper) (t : Tr AV) (h : Hp) : Option (List (AV × Hp)) :=
  match cls E o.op with
  | .q => match quietOp E o t h with
    | some v => some [(v, h)]
    | none => none
  | .a => match allocOp E o t h.next with
    | some (ob, v) => some [(v, alloc h ob)]
    | none => none
  | .l => loudOp E ex o t h

def opsRun (ex : Exec) (ops : Array Oper) (sz : Nat) : List Oper → Tr AV → Hp → Option (List (Tr AV × Hp))
  | [], t, h => some [(t, h)]
  | o :: os, t, h => match wanted ops o t with
    | some true => bindL (oneOp E ex o t h) fun (v, h) => match putT sz t o.dst v with
      | some t => opsRun ex ops sz os t h
      | none => none
    | some false => match putT sz t o.dst undefA with
      | some t => opsRun ex ops sz os t h
      | none => none
    | none => none

/-! A region that draws its order: the loud operations stand in a chain; a quiet one that may stand on either side of a loud one gives the same on both; an allocation that a loud one need not wait for is hidden from it. Each operation of the region has a number of a block of its own, laid aside at the region's start. -/
structure Drawn where
  writes : List (Nat × Nat)
  blocks : List Nat
  quiet : List (Nat × Oper × Nat × Tr AV × AV)
  louds : List (Nat × Hp)

/-- What came of one operation. -/
inductive Rec where
  | skip
  | q (v : AV)
  | al (ob : AObj) (v : AV)
  | ld (v : AV)

def hideT (mask : Nat) : List (Nat × Nat) → Tr AV → Tr AV
  | [], t => t
  | (i, d) :: r, t => hideT mask r (match Nat.testBit mask i with | true => t | false => t.del d)
def hideFor (mask n0 : Nat) : List Nat → Hp → Hp
  | [], h => h
  | i :: r, h => hideFor mask n0 r (match Nat.testBit mask i with | true => h | false => delO h (n0 + i))
def unhide (mask n0 : Nat) (old : Hp) : List Nat → Hp → Hp
  | [], h => h
  | i :: r, h => unhide mask n0 old r (match Nat.testBit mask i with
    | true => h
    | false => match old.h.get (n0 + i) with
      | some o => setO h (n0 + i) o
      | none => h)

/-- It waits for all that stand before it. -/
def fullMask (mask j : Nat) : Bool := Nat.beq mask (2 ^ j - 1)
def edgesOk (o : Oper) (j : Nat) : Bool := o.after.toList.all fun e => match Region.binds .any e with
  | true => Nat.blt e.on j
  | false => true
def dstOk (mask j : Nat) (dst : Option Tmp) (writes : List (Nat × Nat)) : Bool :=
  match dst with
  | none => true
  | some d => match fullMask mask j with
    | true => true
    | false => !(writes.any fun x => Nat.beq x.2 d)
def addW (j : Nat) (dst : Option Tmp) (writes : List (Nat × Nat)) : List (Nat × Nat) :=
  match dst with
  | none => writes
  | some d => (j, d) :: writes
/-- At the start: what is written in no fixed order is not known. -/
def freshT : List Oper → List Nat → Nat → Tr AV → Tr AV
  | o :: os, m :: ms, j, t => freshT os ms (j + 1) (match o.dst with
    | none => t
    | some d => match fullMask m j with
      | true => t
      | false => t.del d)
  | _, _, _, t => t

def absent (h : Hp) (b : Nat) : Bool :=
  match h.h.get b with
  | none => true
  | some _ => false

def drawStep (ex : Exec) (ops : Array Oper) (sz n0 : Nat) (o : Oper) (j mask : Nat) (dr : Drawn) (t : Tr AV) (h : Hp) : Option (Rec × Drawn × Tr AV × Hp) :=
  match edgesOk o j && dstOk mask j o.dst dr.writes with
  | false => none
  | true =>
    let tj := hideT mask dr.writes t
    let dr1 : Drawn := { dr with writes := addW j o.dst dr.writes }
    match wanted ops o tj with
    | some true => match cls E o.op with
      | .q => match quietOp E o tj (hideFor mask n0 dr.blocks h) with
        | none => none
        | some v => match dr.louds.all (fun x => match Nat.testBit mask x.1 with
            | true => true
            | false => match quietOp E o tj (hideFor mask n0 dr.blocks x.2) with
              | some v' => sameA 20 v v'
              | none => false) with
          | false => none
          | true => match putT sz t o.dst v with
            | some t => some (.q v, { dr1 with quiet := (j, o, mask, tj, v) :: dr.quiet }, t, h)
            | none => none
      | .a => match absent h (n0 + j) && dr.louds.all (fun x => absent x.2 (n0 + j)) with
        | false => none
        | true => match allocOp E o tj (n0 + j) with
          | some (ob, v) => match putT sz t o.dst v with
            | some t => some (.al ob v, { dr1 with blocks := j :: dr.blocks }, t, setO h (n0 + j) ob)
            | none => none
          | none => none
      | .l => match dr.louds.all (fun x => Nat.testBit mask x.1) with
        | false => none
        | true => match loudOp E ex o tj (hideFor mask n0 dr.blocks h) with
          | some [(v, h1)] =>
            let h2 := unhide mask n0 h dr.blocks h1
            match dr.quiet.all (fun x => match Nat.testBit mask x.1 with
              | true => true
              | false => match quietOp E x.2.1 x.2.2.2.1 (hideFor x.2.2.1 n0 dr.blocks h2) with
                | some v' => sameA 20 x.2.2.2.2 v'
                | none => false) with
            | false => none
            | true => match putT sz t o.dst v with
              | some t => some (.ld v, { dr1 with louds := (j, h) :: dr.louds }, t, h2)
              | none => none
          | _ => none
    | some false => match putT sz t o.dst undefA with
      | some t => some (.skip, dr1, t, h)
      | none => none
    | none => none

def drawRun (ex : Exec) (ops : Array Oper) (sz n0 : Nat) : List Oper → List Nat → Nat → Drawn → Tr AV → Hp → Option (Tr AV × Hp)
  | [], _, _, _, t, h => some (t, h)
  | o :: os, bf, j, dr, t, h => match bf with
    | [] => none
    | mask :: ms => match drawStep E ex ops sz n0 o j mask dr t h with
      | none => none
      | some (_, dr, t, h) => drawRun ex ops sz n0 os ms (j + 1) dr t h

/-- What each operation waits for. -/
def beforeL : List Oper → List Nat → List Nat
  | [], acc => acc
  | o :: os, acc => beforeL os (acc ++ [o.after.toList.foldl (fun s e => match Region.binds .any e with
      | true => Nat.lor s (Nat.lor (2 ^ e.on) ((getAt acc e.on).getD 0))
      | false => s) 0])

/-- A range over a function is entered: outside a round a block for deferred calls is laid. -/
def enterR (rnd : Option Nat) (s : St) : Option (Hp × List Nat) :=
  match rnd with
  | none => some (alloc s.hp .defd, s.hp.next :: s.marks)
  | some l => match s.hp.h.get l with
    | some (.loop ..) => some (s.hp, s.marks)
    | _ => none

def codeRun (ex : Exec) : Exec := fun c rnd s =>
  match c with
  | .skip | .label _ => some [(.normal, s)]
  | .region _ ops draw => match draw with
    | false => bindL (opsRun E ex ops s.size ops.toList s.tmps s.hp) fun (t, h) => some [(.normal, { s with tmps := t, hp := h })]
    | true => match drawRun E ex ops s.size s.hp.next ops.toList (beforeL ops.toList []) 0 ⟨[], [], [], []⟩ (freshT ops.toList (beforeL ops.toList []) 0 s.tmps) { s.hp with next := s.hp.next + ops.size } with
      | some (t, h) => some [(.normal, { s with tmps := t, hp := h })]
      | none => none
  | .seq a b => bindL (ex a rnd s) fun (e, s) => match e with
    | .normal => ex b rnd s
    | e => some [(e, s)]
  | .cond x a b => match evalO E s.tmps x with
    | some (.bool true) => ex a rnd s
    | some (.bool false) => ex b rnd s
    | _ => none
  | .block id b => bindL (ex b rnd s) fun (e, s) => match e with
    | .exit i => match Nat.beq i id with
      | true => some [(.normal, s)]
      | false => some [(.exit i, s)]
    | e => some [(e, s)]
  | .loop b => bindL (ex b rnd s) fun (e, s) => match e with
    | .normal => ex (.loop b) rnd s
    | e => some [(e, s)]
  | .scope b => ex b rnd s
  | .exit id => some [(.exit id, s)]
  | .ret => some [(.ret, s)]
  | .rangeFunc f params assign body => match evalO E s.tmps f with
    | some (.fn f fst cap) => match E.fns f with
     | none => none
     | some _ => match enterR rnd s with
     | none => none
     | some (h, ms) =>
      let l := h.next
      bindL (callFn E ex f (fst ++ [.yl l] ++ cap) (alloc h (.loop .ready none s.tmps s.size params.toList assign body s.hp.next))) fun (_, h) =>
        match h.h.get l with
        | some (.loop st pend _ _ _ _ _ _) => match st with
          | .busy => none
          | _ =>
            let s' := { s with hp := delO h l, marks := ms }
            match pend with
            | none => some [(.normal, s')]
            | some .ret => some [(.ret, s')]
            | some (.exit id) => some [(.exit id, s')]
            | some _ => none
        | _ => none
    | _ => none
  | _ => none

def exec : Nat → Exec
  | 0 => fun _ _ _ => none
  | n + 1 => codeRun E (exec n)
end run
end Go.Refl
/- What the abstract values and blocks stand for: relations, and the laws of trees, lists and numbers. -/
namespace Go.Refl
open Go

/-! ### Trees -/
namespace Tr
variable {α : Type}
theorem half_lt {m : Nat} : m / 2 < m + 1 := by omega
theorem get_put (x : Option α) : ∀ (d : Nat) (t : Tr α) (n m : Nat), n < d → (put x d t n).get m = if m = n then x else t.get m := by
  intro d
  induction d with
  | zero => intro t n m h; omega
  | succ d ih =>
    intro t n m h
    have key : ∀ (l : Tr α) (v : Option α) (r : Tr α), (put x (d + 1) (.nd l v r) n).get m = if m = n then x else (Tr.nd l v r).get m := by
      intro l v r
      cases n with
      | zero =>
        cases m with
        | zero => simp [put, get]
        | succ m => simp [put, get]
      | succ n =>
        simp only [put]
        cases hn : Nat.beq (n % 2) 0 with
        | true =>
          have e := Nat.eq_of_beq_eq_true hn
          cases m with
          | zero => simp [get]
          | succ m =>
            simp only [get]
            cases hm : Nat.beq (m % 2) 0 with
            | true =>
              have e' := Nat.eq_of_beq_eq_true hm
              simp only
              rw [ih l (n / 2) (m / 2) (by omega)]
              by_cases hh : m / 2 = n / 2
              · have : m = n := by omega
                simp [this]
              · have : m ≠ n := by omega
                simp [hh, this]
            | false =>
              have e' := Nat.ne_of_beq_eq_false hm
              have : m ≠ n := by intro hh; subst hh; exact e' e
              simp [this]
        | false =>
          have e := Nat.ne_of_beq_eq_false hn
          cases m with
          | zero => simp [get]
          | succ m =>
            simp only [get]
            cases hm : Nat.beq (m % 2) 0 with
            | false =>
              have e' := Nat.ne_of_beq_eq_false hm
              simp only
              rw [ih r (n / 2) (m / 2) (by omega)]
              by_cases hh : m / 2 = n / 2
              · have : m = n := by omega
                simp [this]
              · have : m ≠ n := by omega
                simp [hh, this]
            | true =>
              have e' := Nat.eq_of_beq_eq_true hm
              have : m ≠ n := by intro hh; subst hh; exact e e'
              simp [this]
    cases t with
    | nd l v r => exact key l v r
    | lf =>
      have e1 : put x (d + 1) .lf n = put x (d + 1) (.nd .lf none .lf) n := by
        cases n with
        | zero => rfl
        | succ n => simp only [put]
      have e2 : (Tr.nd .lf none .lf : Tr α).get m = none := by
        cases m with
        | zero => rfl
        | succ m => simp only [get]; cases Nat.beq (m % 2) 0 <;> rfl
      rw [e1, key, e2]
      rfl
theorem get_set (t : Tr α) (n m : Nat) (a : α) : (t.set n a).get m = if m = n then some a else t.get m := get_put _ _ _ _ _ (Nat.lt_succ_self n)
theorem get_del (t : Tr α) (n m : Nat) : (t.del n).get m = if m = n then none else t.get m := get_put _ _ _ _ _ (Nat.lt_succ_self n)
theorem get_set_same (t : Tr α) (n : Nat) (a : α) : (t.set n a).get n = some a := by simp [get_set]
theorem get_set_ne (t : Tr α) {n m : Nat} (a : α) (h : m ≠ n) : (t.set n a).get m = t.get m := by simp [get_set, h]
end Tr

/-! ### Lists -/
theorem getAt_eq {α : Type} : ∀ (l : List α) (n : Nat), getAt l n = l[n]?
  | [], n => by simp [getAt]
  | x :: xs, 0 => by simp [getAt]
  | x :: xs, n + 1 => by simp [getAt, getAt_eq xs n]
theorem setAt_eq {α : Type} : ∀ (l : List α) (n : Nat) (a : α), setAt l n a = l.set n a
  | [], n, a => by simp [setAt]
  | x :: xs, 0, a => by simp [setAt]
  | x :: xs, n + 1, a => by simp [setAt, setAt_eq xs n a]
theorem takeN_eq {c : List AV} {o n : Nat} {r : List AV} (h : takeN c o n = some r) : r = (c.drop o).take n ∧ r.length = n := by
  unfold takeN at h
  simp only at h
  split at h
  · rename_i hb; cases h; exact ⟨rfl, Nat.eq_of_beq_eq_true hb⟩
  · cases h

/-! ### mapAll, bindL -/
theorem mapAll_mem {α β : Type} {f : α → Option (List β)} : ∀ {l : List α} {r : List β}, mapAll f l = some r →
    ∀ a ∈ l, ∃ x, f a = some x ∧ ∀ b ∈ x, b ∈ r
  | [], r, _, a, ha => by simp at ha
  | a :: as, r, h, b, hb => by
    simp only [mapAll] at h
    split at h
    · cases h
    · rename_i x hx
      split at h
      · cases h
      · rename_i y hy
        cases h
        rcases List.mem_cons.1 hb with rfl | hb
        · exact ⟨x, hx, fun c hc => List.mem_append_left _ hc⟩
        · obtain ⟨z, hz, hm⟩ := mapAll_mem hy b hb
          exact ⟨z, hz, fun c hc => List.mem_append_right _ (hm c hc)⟩
theorem bindL_some {α β : Type} {m : Option (List α)} {f : α → Option (List β)} {r : List β} (h : bindL m f = some r) :
    ∃ l, m = some l ∧ ∀ a ∈ l, ∃ x, f a = some x ∧ ∀ b ∈ x, b ∈ r := by
  unfold bindL at h
  split at h
  · cases h
  · rename_i l
    refine ⟨l, rfl, ?_⟩
    split at h
    · intro a ha; simp at ha
    · split at h
      · intro a ha
        simp only [List.mem_singleton] at ha
        subst ha
        exact ⟨r, h, fun _ hb => hb⟩
      · exact mapAll_mem h

/-! ### Where a block lies -/
structure Loc where
  blk : Nat
  sh : Nat
  kap : Nat
abbrev Rho := Nat → Option Loc

/-- The model's value that an abstract value stands for. -/
inductive VR (ρ : Rho) : AV → Value → Prop
  | int (k n) : VR ρ (.int k n) (.int k n)
  | bool (b) : VR ρ (.bool b) (.bool b)
  | str (s : List Nat) (a : ByteArray) (h : a.data.toList.map UInt8.toNat = s) : VR ρ (.str s) (.string a)
  | ptr (b o) (l : Loc) (h : ρ b = some l) : VR ρ (.ptr b o) (.pointer (some ⟨l.blk, l.sh + o, none⟩))
  | nilp : VR ρ .nilp (.pointer none)
  | slx (b o len n) (l : Loc) (h : ρ b = some l) (hlen : len ≤ n) : VR ρ (.slc b o len (.ex n)) (.slice (some ⟨l.blk, l.sh + o, none⟩) len n)
  | slo (b o len s c) (l : Loc) (h : ρ b = some l) (hc : c + s = l.kap) (hlen : len ≤ c) : VR ρ (.slc b o len (.op s)) (.slice (some ⟨l.blk, l.sh + o, none⟩) len c)
  | nils : VR ρ .nils (.slice none 0 0)
  | emp (a c) : VR ρ .emp (.slice (some a) 0 c)
  | mp (r) (l : Loc) (h : ρ r = some l) : VR ρ (.mp r) (.map (some l.blk))
  | nilm : VR ρ .nilm (.map none)
  | fn (f) (a c : List AV) (a' c' : Array Value) (ha : a.length = a'.size) (ha' : ∀ (i : Nat) x y, a[i]? = some x → a'[i]? = some y → VR ρ x y)
      (hc : c.length = c'.size) (hc' : ∀ (i : Nat) x y, c[i]? = some x → c'[i]? = some y → VR ρ x y) : VR ρ (.fn f a c) (.func (.func f) a' c')
  | yl (l) (x : Loc) (h : ρ l = some x) : VR ρ (.yl l) (.func (.yield x.blk) #[] #[])
  | nilf : VR ρ .nilf .nilFunc
  | ifc (t x y) (h : VR ρ x y) : VR ρ (.ifc t x) (.iface t y)
  | nili : VR ρ .nili .nilIface
  | agg (cs : List AV) (vs : Array Value) (h : cs.length = vs.size) (h' : ∀ (i : Nat) x y, cs[i]? = some x → vs[i]? = some y → VR ρ x y) : VR ρ (.agg cs) (.agg vs)
  | tup (cs : List AV) (vs : Array Value) (h : cs.length = vs.size) (h' : ∀ (i : Nat) x y, cs[i]? = some x → vs[i]? = some y → VR ρ x y) : VR ρ (.tup cs) (.tuple vs)

def Ext (ρ ρ' : Rho) : Prop := ∀ b l, ρ b = some l → ρ' b = some l
theorem Ext.refl (ρ : Rho) : Ext ρ ρ := fun _ _ h => h
theorem Ext.trans {a b c : Rho} (h : Ext a b) (k : Ext b c) : Ext a c := fun _ _ x => k _ _ (h _ _ x)

theorem VR.ext {ρ ρ' : Rho} (he : Ext ρ ρ') {x : AV} {v : Value} (h : VR ρ x v) : VR ρ' x v := by
  induction h with
  | int k n => exact .int k n
  | bool b => exact .bool b
  | str s a h => exact .str s a h
  | ptr b o l h => exact .ptr b o l (he _ _ h)
  | nilp => exact .nilp
  | slx b o len n l h hl => exact .slx b o len n l (he _ _ h) hl
  | slo b o len s c l h hc hl => exact .slo b o len s c l (he _ _ h) hc hl
  | nils => exact .nils
  | emp a c => exact .emp a c
  | mp r l h => exact .mp r l (he _ _ h)
  | nilm => exact .nilm
  | fn f a c a' c' ha ha' hc hc' ih1 ih2 => exact .fn f a c a' c' ha ih1 hc ih2
  | yl l x h => exact .yl l x (he _ _ h)
  | nilf => exact .nilf
  | ifc t x y h ih => exact .ifc t x y ih
  | nili => exact .nili
  | agg cs vs h h' ih => exact .agg cs vs h ih
  | tup cs vs h h' ih => exact .tup cs vs h ih

/-- Lists of values, one by one. -/
def VL (ρ : Rho) (cs : List AV) (vs : List Value) : Prop := cs.length = vs.length ∧ ∀ (i : Nat) x y, cs[i]? = some x → vs[i]? = some y → VR ρ x y

theorem VL.nil (ρ : Rho) : VL ρ [] [] := ⟨rfl, by simp⟩
theorem VL.cons {ρ : Rho} {x : AV} {y : Value} {cs : List AV} {vs : List Value} (h : VR ρ x y) (hs : VL ρ cs vs) : VL ρ (x :: cs) (y :: vs) := by
  refine ⟨by simp [hs.1], fun i a b ha hb => ?_⟩
  cases i with
  | zero => simp at ha hb; exact ha ▸ hb ▸ h
  | succ i => simp at ha hb; exact hs.2 i a b ha hb
theorem VL.ext {ρ ρ' : Rho} (he : Ext ρ ρ') {cs : List AV} {vs : List Value} (h : VL ρ cs vs) : VL ρ' cs vs := ⟨h.1, fun i x y hx hy => (h.2 i x y hx hy).ext he⟩
theorem VL.append {ρ : Rho} {a b : List AV} {x y : List Value} (h : VL ρ a x) (k : VL ρ b y) : VL ρ (a ++ b) (x ++ y) := by
  refine ⟨by simp [h.1, k.1], fun i u v hu hv => ?_⟩
  by_cases hi : i < a.length
  · rw [List.getElem?_append_left hi] at hu
    rw [List.getElem?_append_left (h.1 ▸ hi)] at hv
    exact h.2 i u v hu hv
  · rw [List.getElem?_append_right (by omega)] at hu
    rw [List.getElem?_append_right (by have := h.1; omega), ← h.1] at hv
    exact k.2 _ u v hu hv
theorem VL.take {ρ : Rho} {a : List AV} {x : List Value} (h : VL ρ a x) (n : Nat) : VL ρ (a.take n) (x.take n) := by
  refine ⟨by simp [h.1], fun i u v hu hv => ?_⟩
  rw [List.getElem?_take] at hu hv
  split at hu
  · rename_i hi; rw [if_pos hi] at hv; exact h.2 i u v hu hv
  · cases hu
theorem VL.drop {ρ : Rho} {a : List AV} {x : List Value} (h : VL ρ a x) (n : Nat) : VL ρ (a.drop n) (x.drop n) := by
  refine ⟨by simp [h.1], fun i u v hu hv => ?_⟩
  rw [List.getElem?_drop] at hu hv
  exact h.2 _ u v hu hv
theorem VL.get {ρ : Rho} {a : List AV} {x : List Value} (h : VL ρ a x) {i : Nat} {u : AV} (hu : a[i]? = some u) : ∃ v, x[i]? = some v ∧ VR ρ u v := by
  have hi : i < a.length := (List.getElem?_eq_some_iff.1 hu).1
  have hx : x[i]? = some (x[i]'(h.1 ▸ hi)) := List.getElem?_eq_getElem _
  exact ⟨_, hx, h.2 i _ _ hu hx⟩
theorem VL.cons_iff {ρ : Rho} {x : AV} {cs : List AV} {vs : List Value} : VL ρ (x :: cs) vs ↔ ∃ y ys, vs = y :: ys ∧ VR ρ x y ∧ VL ρ cs ys := by
  constructor
  · intro h
    cases vs with
    | nil => have := h.1; simp at this
    | cons y ys =>
      refine ⟨y, ys, rfl, h.2 0 x y (by simp) (by simp), by have := h.1; simpa using this, fun i u v hu hv => h.2 (i + 1) u v (by simpa using hu) (by simpa using hv)⟩
  · rintro ⟨y, ys, rfl, h, hs⟩; exact .cons h hs
theorem VL.nil_iff {ρ : Rho} {vs : List Value} : VL ρ [] vs ↔ vs = [] := by
  constructor
  · intro h; have := h.1; simp at this; exact List.length_eq_zero_iff.1 this.symm
  · rintro rfl; exact .nil ρ

theorem VR.agg_iff {ρ : Rho} {cs : List AV} {v : Value} : VR ρ (.agg cs) v ↔ ∃ vs : Array Value, v = .agg vs ∧ VL ρ cs vs.toList := by
  constructor
  · intro h
    cases h with
    | agg _ vs h h' => exact ⟨vs, rfl, by simpa using h, fun i x y hx hy => h' i x y hx (by simpa using hy)⟩
  · rintro ⟨vs, rfl, h⟩; exact .agg cs vs (by simpa using h.1) fun i x y hx hy => h.2 i x y hx (by simpa using hy)
theorem VR.tup_iff {ρ : Rho} {cs : List AV} {v : Value} : VR ρ (.tup cs) v ↔ ∃ vs : Array Value, v = .tuple vs ∧ VL ρ cs vs.toList := by
  constructor
  · intro h
    cases h with
    | tup _ vs h h' => exact ⟨vs, rfl, by simpa using h, fun i x y hx hy => h' i x y hx (by simpa using hy)⟩
  · rintro ⟨vs, rfl, h⟩; exact .tup cs vs (by simpa using h.1) fun i x y hx hy => h.2 i x y hx (by simpa using hy)
theorem VR.fn_iff {ρ : Rho} {f : Nat} {a c : List AV} {v : Value} : VR ρ (.fn f a c) v ↔ ∃ a' c' : Array Value, v = .func (.func f) a' c' ∧ VL ρ a a'.toList ∧ VL ρ c c'.toList := by
  constructor
  · intro h
    cases h with
    | fn _ _ _ a' c' h1 h2 h3 h4 => exact ⟨a', c', rfl, ⟨by simpa using h1, fun i x y hx hy => h2 i x y hx (by simpa using hy)⟩, ⟨by simpa using h3, fun i x y hx hy => h4 i x y hx (by simpa using hy)⟩⟩
  · rintro ⟨a', c', rfl, h, k⟩
    exact .fn f a c a' c' (by simpa using h.1) (fun i x y hx hy => h.2 i x y hx (by simpa using hy)) (by simpa using k.1) (fun i x y hx hy => k.2 i x y hx (by simpa using hy))

theorem VR.cells {ρ : Rho} {x : AV} {v : Value} (h : VR ρ x v) : VL ρ (cellsOf x) v.cells.toList := by
  cases h with
  | agg cs vs h h' => exact ⟨by simpa [cellsOf, Value.cells] using h, fun i x y hx hy => h' i x y hx (by simpa [Value.cells] using hy)⟩
  | fn f a c a' c' ha ha' hc hc' => exact .cons (.fn f a c a' c' ha ha' hc hc') (.nil ρ)
  | tup cs vs h h' => exact .cons (.tup cs vs h h') (.nil ρ)
  | ifc t x y h => exact .cons (.ifc t x y h) (.nil ρ)
  | int k n => exact .cons (.int k n) (.nil ρ)
  | bool b => exact .cons (.bool b) (.nil ρ)
  | str s a h => exact .cons (.str s a h) (.nil ρ)
  | ptr b o l h => exact .cons (.ptr b o l h) (.nil ρ)
  | nilp => exact .cons .nilp (.nil ρ)
  | slx b o len n l h hl => exact .cons (.slx b o len n l h hl) (.nil ρ)
  | slo b o len s c l h hc hl => exact .cons (.slo b o len s c l h hc hl) (.nil ρ)
  | nils => exact .cons .nils (.nil ρ)
  | emp a c => exact .cons (.emp a c) (.nil ρ)
  | mp r l h => exact .cons (.mp r l h) (.nil ρ)
  | nilm => exact .cons .nilm (.nil ρ)
  | yl l x h => exact .cons (.yl l x h) (.nil ρ)
  | nilf => exact .cons .nilf (.nil ρ)
  | nili => exact .cons .nili (.nil ρ)

/-- A frame's temporaries. -/
def TR (ρ : Rho) (t : Tr AV) (a : Array Value) : Prop := ∀ n x, t.get n = some x → ∃ v, a[n]? = some v ∧ VR ρ x v
theorem TR.ext {ρ ρ' : Rho} (he : Ext ρ ρ') {t : Tr AV} {a : Array Value} (h : TR ρ t a) : TR ρ' t a := fun n x hx => let ⟨v, hv, hr⟩ := h n x hx; ⟨v, hv, hr.ext he⟩
theorem TR.lf (ρ : Rho) (a : Array Value) : TR ρ .lf a := by intro n x h; simp [Tr.get] at h
theorem TR.set {ρ : Rho} {t : Tr AV} {a : Array Value} (h : TR ρ t a) {n : Nat} {x : AV} {v : Value} (hn : n < a.size) (hv : VR ρ x v) : TR ρ (t.set n x) (a.setIfInBounds n v) := by
  intro m y hy
  rw [Tr.get_set] at hy
  split at hy
  · rename_i e; subst e; cases hy
    exact ⟨v, by simp [hn], hv⟩
  · rename_i e
    obtain ⟨u, hu, hr⟩ := h m y hy
    exact ⟨u, by rw [Array.getElem?_setIfInBounds_ne (Ne.symm e)]; exact hu, hr⟩
