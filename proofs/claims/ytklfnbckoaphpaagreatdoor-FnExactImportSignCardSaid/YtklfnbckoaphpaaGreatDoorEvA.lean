/- An evaluator of the model's Code on abstract states whose values are typed pure data: definitions. No conditions: definitions only. -/
import Derived.Calls
import Derived.KernelRfl
set_option linter.unusedVariables false
namespace Go.Proofs.YtklfnbckoaphpaaGreatDoor
open Go

/-! ### Types of data -/
inductive Ty where
  | int (k : IntKind)
  | bool
  | str
  | slice (e : Ty)
  | st (a : Ty)
  | pair (a b : Ty)
  | unit
  | ptr (a : Ty)
  | fn (a r : Ty)
  | map (k v : Ty)

@[reducible] def Ty.den : Ty → Type
  | .int _ => Int
  | .bool => Bool
  | .str => ByteArray
  | .slice e => List e.den
  | .st a => a.den
  | .pair a b => a.den × b.den
  | .unit => Unit
  | .ptr a => a.den
  | .fn a r => a.den → Option r.den
  | .map k v => List (k.den × v.den)

def ikEq : (a b : IntKind) → Option (PLift (a = b))
  | .i8, .i8 => some ⟨rfl⟩
  | .i16, .i16 => some ⟨rfl⟩
  | .i32, .i32 => some ⟨rfl⟩
  | .i64, .i64 => some ⟨rfl⟩
  | .u8, .u8 => some ⟨rfl⟩
  | .u16, .u16 => some ⟨rfl⟩
  | .u32, .u32 => some ⟨rfl⟩
  | .u64, .u64 => some ⟨rfl⟩
  | _, _ => none

def Ty.eq? : (a b : Ty) → Option (PLift (a = b))
  | .int k, .int k' => match ikEq k k' with | some ⟨h⟩ => some ⟨h ▸ rfl⟩ | none => none
  | .bool, .bool => some ⟨rfl⟩
  | .str, .str => some ⟨rfl⟩
  | .unit, .unit => some ⟨rfl⟩
  | .slice e, .slice f => match Ty.eq? e f with | some ⟨h⟩ => some ⟨h ▸ rfl⟩ | none => none
  | .st e, .st f => match Ty.eq? e f with | some ⟨h⟩ => some ⟨h ▸ rfl⟩ | none => none
  | .ptr e, .ptr f => match Ty.eq? e f with | some ⟨h⟩ => some ⟨h ▸ rfl⟩ | none => none
  | .pair a b, .pair c d => match Ty.eq? a c, Ty.eq? b d with | some ⟨h⟩, some ⟨g⟩ => some ⟨h ▸ g ▸ rfl⟩ | _, _ => none
  | .fn a b, .fn c d => match Ty.eq? a c, Ty.eq? b d with | some ⟨h⟩, some ⟨g⟩ => some ⟨h ▸ g ▸ rfl⟩ | _, _ => none
  | .map a b, .map c d => match Ty.eq? a c, Ty.eq? b d with | some ⟨h⟩, some ⟨g⟩ => some ⟨h ▸ g ▸ rfl⟩ | _, _ => none
  | _, _ => none

/-- data of one type, asked for at another: the same type or nothing -/
def Ty.cast? (a b : Ty) (x : a.den) : Option b.den := match Ty.eq? a b with | some ⟨h⟩ => some (h ▸ x) | none => none
def Ty.castL? (a b : Ty) (x : List a.den) : Option (List b.den) := match Ty.eq? a b with | some ⟨h⟩ => some (h ▸ x) | none => none

/-- how many cells of memory -/
def Ty.cells : Ty → Nat
  | .unit => 0
  | .pair a b => a.cells + b.cells
  | .st a => a.cells
  | _ => 1

def Ty.dflt : (t : Ty) → t.den
  | .int _ => (0 : Int)
  | .bool => false
  | .str => ByteArray.empty
  | .unit => ()
  | .slice _ => []
  | .st a => a.dflt
  | .pair a b => (a.dflt, b.dflt)
  | .ptr a => a.dflt
  | .fn _ _ => fun _ => none
  | .map _ _ => []

/-- no slice, no pointer, no function inside: the data are the value -/
def Ty.scal : Ty → Bool
  | .int _ | .bool | .str | .unit => true
  | .st a => a.scal
  | .pair a b => a.scal && b.scal
  | _ => false

/-- no pointer, no function inside: deep ownership leaves nothing that is shared -/
def Ty.pure : Ty → Bool
  | .int _ | .bool | .str | .unit => true
  | .st a => a.pure
  | .slice a => a.pure
  | .pair a b => a.pure && b.pure
  | _ => false

/-! ### Abstract values -/
/-- what a function value has captured: a pointer to a variable of this call, or to data that stay as they are -/
inductive Cap where
  | p (n : Nat)
  | d (t : Ty) (x : t.den)

inductive Cell where
  | any
  | int (k : IntKind) (n : Int)
  | bool (b : Bool)
  | str (s : ByteArray)
  | sl (t : Ty) (xs : List t.den)
  | nil
  | own (n : Nat)
  | sub (n off len : Nat)
  | ptr (n off : Nat)
  | dptr (t : Ty) (x : t.den) (off : Nat)
  | eptr (n i off : Nat)
  | fn (f : Nat) (caps : List Cap)
  | clo (a r : Ty) (φ : a.den → Option r.den)
  | mp (n : Nat)
  | mdat (k v : Ty) (es : List (k.den × v.den))

inductive A where
  | any
  | c (x : Cell)
  | agg (cs : List Cell)
  | tup (xs : List (Bool × List Cell))

/-- a cell of an element that lies open: as everywhere, or a row that the element owns -/
inductive OCell where
  | c (x : Cell)
  | kid (e : Ty) (ys : List e.den)

/-- mix: the first k elements own what they hold; opn: a row (k: such a one) whose element i lies open -/
inductive Blk where
  | box (cs : List Cell)
  | row (deep : Bool) (t : Ty) (xs : List t.den)
  | mix (t : Ty) (xs : List t.den) (k : Nat)
  | opn (t : Ty) (xs : List t.den) (k : Option Nat) (i : Nat) (cs : List OCell)
  | map (k v : Ty) (es : List (k.den × v.den))

/-- the temporaries: a row of values, and what has been set since -/
inductive Tm : Nat → Type where
  | base (l : List A) : Tm l.length
  | upd {n : Nat} (t : Tm n) (i : Nat) (h : Nat.blt i n = true) (v : A) : Tm n
structure Tms where
  n : Nat
  t : Tm n
def Tms.of (l : List A) : Tms := ⟨l.length, .base l⟩
def Tm.get : {n : Nat} → Tm n → Nat → A
  | _, .base l, i => l.getD i .any
  | _, .upd t j _ v, i => bif Nat.beq j i then v else t.get i
def Tm.toList : {n : Nat} → Tm n → List A
  | _, .base l => l
  | _, .upd t i _ v => t.toList.set i v
def Tms.set (t : Tms) (i : Nat) (v : A) : Tms := match h : Nat.blt i t.n with | true => ⟨t.n, .upd t.t i h v⟩ | false => t

structure St where
  tm : Tms
  blks : List (Nat × Blk)
def St.tmps (σ : St) : List A := σ.tm.t.toList
def St.of (l : List A) (bs : List (Nat × Blk)) : St := ⟨Tms.of l, bs⟩

/-- data as cells -/
def Ty.flat : (t : Ty) → t.den → List Cell → List Cell
  | .int k, n, r => .int k n :: r
  | .bool, b, r => .bool b :: r
  | .str, s, r => .str s :: r
  | .unit, _, r => r
  | .slice e, xs, r => .sl e xs :: r
  | .st a, x, r => a.flat x r
  | .pair a b, x, r => a.flat x.1 (b.flat x.2 r)
  | .ptr a, x, r => .dptr a x 0 :: r
  | .fn a b, φ, r => .clo a b φ :: r
  | .map k v, es, r => .mdat k v es :: r

/-- data as the cells of an element that lies open -/
def Ty.flatO : (t : Ty) → t.den → List OCell → List OCell
  | .int k, n, r => .c (.int k n) :: r
  | .bool, b, r => .c (.bool b) :: r
  | .str, s, r => .c (.str s) :: r
  | .unit, _, r => r
  | .slice e, xs, r => .kid e xs :: r
  | .st a, x, r => a.flatO x r
  | .pair a b, x, r => a.flatO x.1 (b.flatO x.2 r)
  | .ptr a, x, r => .c (.dptr a x 0) :: r
  | .fn a b, φ, r => .c (.clo a b φ) :: r
  | .map k v, es, r => .c (.mdat k v es) :: r

/-- data as a value -/
def Ty.toA : (t : Ty) → t.den → A
  | .int k, n => .c (.int k n)
  | .bool, b => .c (.bool b)
  | .str, s => .c (.str s)
  | .slice e, xs => .c (.sl e xs)
  | .ptr a, x => .c (.dptr a x 0)
  | .fn a b, φ => .c (.clo a b φ)
  | .map k v, es => .c (.mdat k v es)
  | .st a, x => .agg (a.flat x [])
  | .unit, _ => .any
  | .pair _ _, _ => .any

def A.cells : A → List Cell
  | .c x => [x]
  | .agg cs => cs
  | .tup _ => []
  | .any => []

/-! ### Contracts of the callees -/
inductive PK where
  | val
  | io (deep : Bool)
  | eat (deep : Bool)

abbrev Sig := List (PK × Ty)

@[reducible] def Sig.den : List (PK × Ty) → Type
  | [] => Unit
  | [p] => p.2.den
  | p :: q :: r => p.2.den × Sig.den (q :: r)

def Sig.hd : (p : PK × Ty) → (r : List (PK × Ty)) → Sig.den (p :: r) → p.2.den
  | _, [], x => x
  | _, _ :: _, x => x.1
def Sig.tl : (p : PK × Ty) → (r : List (PK × Ty)) → Sig.den (p :: r) → Sig.den r
  | _, [], _ => ()
  | _, _ :: _, x => x.2
def Sig.mk : (p : PK × Ty) → (r : List (PK × Ty)) → p.2.den → Sig.den r → Sig.den (p :: r)
  | _, [], x, _ => x
  | _, _ :: _, x, y => (x, y)

def Sig.ios : List (PK × Ty) → List (PK × Ty)
  | [] => []
  | (.io d, t) :: r => (.io d, t) :: Sig.ios r
  | _ :: r => Sig.ios r

structure Con where
  ps : List (PK × Ty)
  rs : List (PK × Ty)
  F : Sig.den ps → Option (Sig.den (Sig.ios ps ++ rs))

/-- the contract of a function whose value is handed on: what it has captured comes first -/
structure CloCon where
  caps : List Ty
  a : Ty
  r : Ty
  F : Sig.den (caps.map fun t => (PK.val, Ty.ptr t)) → a.den → Option r.den

structure TInf where
  size : Nat
  bytes : Nat
  zero : Option Value
  desc : TypeDesc
  /-- values of this type are compared field by field, nothing stands in for it -/
  eq : Bool

def tinf (P : Program) (t : Nat) : Option TInf :=
  match P.info? t, P.underlying t with
  | some i, some d => some { size := i.size, bytes := i.bytes, zero := i.zero, desc := d, eq := !P.stoodInHeld t && !P.eqGuardType P.depth t }
  | _, _ => none

structure Env where
  /-- the names of what the caller has handed over, and of what is taken out of it -/
  par : List Nat
  /-- rows that this function makes own what their elements hold -/
  dp : Bool
  /-- regions at whose end rows are wholly owned -/
  settle : List Nat
  con : Nat → Option Con
  clo : Nat → Option CloCon
  T : Nat → Option TInf

def isAggD : TypeDesc → Bool
  | .struct _ | .array _ _ => true
  | _ => false

def fieldsTy (f : Nat → Option Ty) : List Field → Option Ty
  | [] => some .unit
  | [x] => f x.type
  | x :: y :: r => match f x.type, fieldsTy f (y :: r) with | some a, some b => some (.pair a b) | _, _ => none
def repTy : Nat → Ty → Ty
  | 0, _ => .unit
  | 1, t => t
  | n + 2, t => .pair t (repTy (n + 1) t)
/-- the data that a Go type holds -/
def tyOfD (T : Nat → Option TInf) : Nat → Nat → Option Ty
  | 0, _ => none
  | n + 1, t => match T t with
    | none => none
    | some i => match i.desc with
      | .int k => some (.int k)
      | .bool => some .bool
      | .string => some .str
      | .slice e => (tyOfD T n e).map Ty.slice
      | .struct fs => (fieldsTy (tyOfD T n) fs.toList).map Ty.st
      | .array len e => (tyOfD T n e).map fun t => .st (repTy len t)
      | .map k v => match tyOfD T n k, tyOfD T n v with | some a, some b => some (.map a b) | _, _ => none
      | _ => none

/-! ### The state -/
def look (n : Nat) : List (Nat × Blk) → Option Blk
  | [] => none
  | (m, b) :: r => bif m == n then some b else look n r
def blkDel (n : Nat) : List (Nat × Blk) → List (Nat × Blk)
  | [] => []
  | (m, b) :: r => bif m == n then blkDel n r else (m, b) :: blkDel n r
def blkSet (n : Nat) (b : Blk) : List (Nat × Blk) → List (Nat × Blk)
  | [] => [(n, b)]
  | (m, c) :: r => bif m == n then (n, b) :: r else (m, c) :: blkSet n b r

def St.get (σ : St) (t : Nat) : A := σ.tm.t.get t
def St.set (σ : St) (t : Nat) (v : A) : St := { tm := σ.tm.set t v, blks := σ.blks }
def St.put (σ : St) (t : Option Nat) (v : A) : St := match t with | some t => σ.set t v | none => σ
def St.setBlk (σ : St) (n : Nat) (b : Blk) : St := { σ with blks := blkSet n b σ.blks }

/-- a cell in which no reference to block n is left ('g' tells what comes in its place) -/
def Cap.has (n : Nat) : Cap → Bool
  | .p m => m == n
  | .d _ _ => false
def Cell.swap (n : Nat) (g : Cell → Cell) : Cell → Cell
  | .own m => bif m == n then g (.own m) else .own m
  | .sub m o l => bif m == n then g (.sub m o l) else .sub m o l
  | .ptr m o => bif m == n then g (.ptr m o) else .ptr m o
  | .eptr m i o => bif m == n then g (.eptr m i o) else .eptr m i o
  | .fn f caps => bif caps.any (Cap.has n) then .any else .fn f caps
  | .mp m => bif m == n then g (.mp m) else .mp m
  | c => c
def A.swap (n : Nat) (g : Cell → Cell) : A → A
  | .c x => .c (x.swap n g)
  | .agg cs => .agg (cs.map (Cell.swap n g))
  | .tup xs => .tup (xs.map fun p => (p.1, p.2.map (Cell.swap n g)))
  | .any => .any
def OCell.map (s : Cell → Cell) : OCell → OCell
  | .c x => .c (s x)
  | .kid e ys => .kid e ys
def Blk.swap (n : Nat) (g : Cell → Cell) : Blk → Blk
  | .box cs => .box (cs.map (Cell.swap n g))
  | .opn t xs k i cs => .opn t xs k i (cs.map (OCell.map (Cell.swap n g)))
  | b => b
def St.swap (σ : St) (n : Nat) (g : Cell → Cell) : St :=
  { tm := Tms.of (σ.tmps.map (A.swap n g)), blks := (blkDel n σ.blks).map fun p => (p.1, p.2.swap n g) }
/-- block n is given up -/
def St.kill (σ : St) (n : Nat) : St := match look n σ.blks with | none => σ | some _ => σ.swap n fun _ => .any
/-- a row that isn't written any more -/
def thaw (t : Ty) (xs : List t.den) : Cell → Cell
  | .own _ => .sl t xs
  | .sub _ o l => .sl t ((xs.drop o).take l)
  | _ => .any
def St.freeze (σ : St) (par : List Nat) (n : Nat) : St := bif par.contains n then σ else match look n σ.blks with
  | some (.row _ t xs) => σ.swap n (thaw t xs)
  | _ => σ
/-- a new block under a name -/
def St.new (σ : St) (n : Nat) (b : Blk) : St := (σ.kill n).setBlk n b

def constCell : Value → Option Cell
  | .int k n => some (.int k n)
  | .bool b => some (.bool b)
  | .string s => some (.str s)
  | .slice none 0 0 => some .nil
  | .pointer none => some .any
  | .nilFunc => some .any
  | .nilIface => some .any
  | .map none => some .any
  | _ => none
def constCells : List Value → Option (List Cell)
  | [] => some []
  | v :: r => match constCell v, constCells r with | some c, some cs => some (c :: cs) | _, _ => none
def constA : Value → A
  | .int k n => .c (.int k n)
  | .bool b => .c (.bool b)
  | .string s => .c (.str s)
  | .slice none 0 0 => .c .nil
  | _ => .any

def St.eval (σ : St) : Operand → A
  | .tmp t => σ.get t
  | .const v => constA v
  | .func f => .c (.fn f [])
  | .global _ => .any

/-! ### Cells as data -/
/-- cells as data: what is read, and the cells that are left. Rows of this call, and pointers to its variables, are read as they are now. -/
def Ty.unflat (bs : List (Nat × Blk)) : (t : Ty) → List Cell → Option (t.den × List Cell)
  | .int k, .int k' n :: r => match ikEq k' k with | some _ => some (n, r) | none => none
  | .bool, .bool b :: r => some (b, r)
  | .str, .str s :: r => some (s, r)
  | .unit, r => some ((), r)
  | .slice e, .sl e' xs :: r => match Ty.castL? e' e xs with | some ys => some (ys, r) | none => none
  | .slice _, .nil :: r => some ([], r)
  | .slice e, .own n :: r => match look n bs with
    | some (.row _ e' xs) => (match Ty.castL? e' e xs with | some ys => some (ys, r) | none => none)
    | _ => none
  | .slice e, .sub n o l :: r => match look n bs with
    | some (.row _ e' xs) => (match Ty.castL? e' e ((xs.drop o).take l) with | some ys => some (ys, r) | none => none)
    | _ => none
  | .st a, cs => a.unflat bs cs
  | .pair a b, cs => match a.unflat bs cs with
    | some (x, r) => (match b.unflat bs r with | some (y, r') => some ((x, y), r') | none => none)
    | none => none
  | .ptr a, .dptr a' x 0 :: r => match Ty.cast? a' a x with | some y => some (y, r) | none => none
  | .ptr a, .ptr n 0 :: r => match look n bs with
    | some (.box cs) => (match a.unflat bs cs with | some (y, []) => some (y, r) | _ => none)
    | _ => none
  | .fn a b, .clo a' b' φ :: r => match Ty.cast? (.fn a' b') (.fn a b) φ with | some y => some (y, r) | none => none
  | .map k v, .mdat k' v' es :: r => match Ty.cast? (.map k' v') (.map k v) es with | some y => some (y, r) | none => none
  | .map k v, .mp n :: r => match look n bs with
    | some (.map k' v' es) => (match Ty.cast? (.map k' v') (.map k v) es with | some y => some (y, r) | none => none)
    | _ => none
  | _, _ => none

def A.read (bs : List (Nat × Blk)) (t : Ty) (x : A) : Option t.den :=
  match t, x with
  | .st a, .agg cs => (match a.unflat bs cs with | some (d, []) => some d | _ => none)
  | .st _, _ => none
  | .pair _ _, _ => none
  | .unit, _ => none
  | t, .c y => (match t.unflat bs [y] with | some (d, []) => some d | _ => none)
  | _, _ => none

def readCaps (bs : List (Nat × Blk)) : (ts : List Ty) → List Cap → Option (Sig.den (ts.map fun t => (PK.val, Ty.ptr t)))
  | [], [] => some ()
  | t :: ts, c :: cs =>
    match (match c with | .p n => A.read bs (.ptr t) (.c (.ptr n 0)) | .d t' x => Ty.cast? t' t x), readCaps bs ts cs with
    | some x, some y => some (Sig.mk (PK.val, Ty.ptr t) _ x y)
    | _, _ => none
  | _, _ => none

/-- a function value of this call as data -/
def A.readF (E : Env) (bs : List (Nat × Blk)) (t : Ty) (x : A) : Option t.den :=
  match x, t with
  | .c (.fn f caps), .fn a r => match E.clo f with
    | some cc => match readCaps bs cc.caps caps with
      | some kx => Ty.cast? (.fn cc.a cc.r) (.fn a r) (cc.F kx)
      | none => none
    | none => none
  | x, t => A.read bs t x

/-- the arguments of a function value -/
def readArgs (E : Env) (bs : List (Nat × Blk)) : (a : Ty) → List A → Option a.den
  | .pair a b, x :: xs => match A.readF E bs a x, readArgs E bs b xs with | some u, some v => some (u, v) | _, _ => none
  | .unit, [] => some ()
  | .pair _ _, [] => none
  | .unit, _ :: _ => none
  | a, [x] => A.readF E bs a x
  | _, _ => none

end Go.Proofs.YtklfnbckoaphpaaGreatDoor
