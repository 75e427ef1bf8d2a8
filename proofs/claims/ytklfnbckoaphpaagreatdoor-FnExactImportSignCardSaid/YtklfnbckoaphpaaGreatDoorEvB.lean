/- The evaluator: what each operation does to an abstract state. No conditions: definitions only. -/
import Derived.Test.YtklfnbckoaphpaaGreatDoorEvA
set_option linter.unusedVariables false
namespace Go.Proofs.YtklfnbckoaphpaaGreatDoor
open Go

def takeN : Nat → List Cell → List Cell
  | 0, _ => []
  | _ + 1, [] => []
  | n + 1, x :: l => x :: takeN n l
def dropN : Nat → List Cell → List Cell
  | 0, l => l
  | _ + 1, [] => []
  | n + 1, _ :: l => dropN n l
/-- the cells vs laid over l from place n on; none if they don't fit -/
def putN : Nat → List Cell → List Cell → Option (List Cell)
  | 0, [], l => some l
  | 0, v :: vs, _ :: l => match putN 0 vs l with | some r => some (v :: r) | none => none
  | 0, _ :: _, [] => none
  | _ + 1, _, [] => none
  | n + 1, vs, x :: l => match putN n vs l with | some r => some (x :: r) | none => none

/-- where a field lies; none for fields of no size -/
def fieldOff (E : Env) (t f : Nat) : Option (Nat × TInf) :=
  match E.T t with
  | none => none
  | some i => match i.desc with
    | .struct fs => match fs[f]? with
      | none => none
      | some fl => match E.T fl.type with
        | none => none
        | some j => bif j.size == 0 then none else some (fl.offset, j)
    | _ => none

/-- the cells from an address on -/
def memCells (σ : St) : Cell → Option (List Cell)
  | .ptr n off => match look n σ.blks with
    | some (.box cs) => some (dropN off cs)
    | _ => none
  | .dptr t x off => some (dropN off (t.flat x []))
  | .eptr n i off => match look n σ.blks with
    | some (.row d t xs) => bif !d || t.scal then some (dropN off (t.flat (xs.getD i t.dflt) [])) else none
    | _ => none
  | _ => none

def asCell : A → Cell
  | .c x => x
  | _ => .any

def loadA (E : Env) (σ : St) (t : Nat) (a : Cell) : Option A :=
  match E.T t with
  | none => none
  | some i => match memCells σ a with
    | none => none
    | some cs => bif (takeN i.size cs).length == i.size then
        (bif isAggD i.desc then some (.agg (takeN i.size cs)) else match takeN i.size cs with | [y] => some (.c y) | _ => none)
      else none

def bitsOp (op : BinOp) (k : IntKind) (x y : Int) : Option Int :=
  match op with
  | .and => some (k.wrap ((BitVec.ofInt k.bits x &&& BitVec.ofInt k.bits y).toNat : Nat))
  | .or => some (k.wrap ((BitVec.ofInt k.bits x ||| BitVec.ofInt k.bits y).toNat : Nat))
  | .xor => some (k.wrap ((BitVec.ofInt k.bits x ^^^ BitVec.ofInt k.bits y).toNat : Nat))
  | .andNot => some (k.wrap ((BitVec.ofInt k.bits x &&& ~~~(BitVec.ofInt k.bits y)).toNat : Nat))
  | _ => none

/-- shifts -/
def shiftOp (op : BinOp) (k : IntKind) (x y : Int) : Option Int :=
  match op with
  | .shl => some (k.wrap (x * 2 ^ (min y.toNat k.bits)))
  | .shr => some (x.fdiv (2 ^ (min y.toNat k.bits)))
  | _ => none

def binInt (op : BinOp) (k : IntKind) (x y : Int) : Option (Bool × Cell) :=
  match op with
  | .add => some (true, .int k (k.wrap (x + y)))
  | .sub => some (true, .int k (k.wrap (x - y)))
  | .mul => some (true, .int k (k.wrap (x * y)))
  | .quo => some (!decide (y = 0), .int k (k.wrap (x.tdiv y)))
  | .rem => some (!decide (y = 0), .int k (x.tmod y))
  | .eql => some (true, .bool (x == y))
  | .neq => some (true, .bool (x != y))
  | .lss => some (true, .bool (decide (x < y)))
  | .leq => some (true, .bool (decide (x ≤ y)))
  | .gtr => some (true, .bool (decide (x > y)))
  | .geq => some (true, .bool (decide (x ≥ y)))
  | .shl => none
  | .shr => none
  | op => match bitsOp op k x y with | some z => some (true, .int k z) | none => none

def binStr (op : BinOp) (x y : ByteArray) : Option (Bool × Cell) :=
  match op with
  | .add => some (decide (x.size + y.size ≤ 9223372036854775807), .str (x ++ y))
  | .eql => some (true, .bool (x.toList == y.toList))
  | .neq => some (true, .bool (!(x.toList == y.toList)))
  | .lss => some (true, .bool (Op.bytesLess x.toList y.toList))
  | .leq => some (true, .bool (Op.bytesLess x.toList y.toList || x.toList == y.toList))
  | .gtr => some (true, .bool (!(Op.bytesLess x.toList y.toList || x.toList == y.toList)))
  | .geq => some (true, .bool (!Op.bytesLess x.toList y.toList))
  | _ => none

def byteAt (s : ByteArray) (i : Nat) : Int := ((s.data.toList.getD i 0).toNat : Int)
def bytesStr (xs : List Int) : ByteArray := ⟨(xs.map fun n => UInt8.ofNat n.toNat).toArray⟩
def strBytes (s : ByteArray) : List Int := s.data.toList.map fun b => (b.toNat : Int)

/-- the bounds of a slice expression: the guard, low and high -/
def bounds (σ : St) (len : Nat) (lo hi : Option Operand) : Option (Bool × Nat × Nat) :=
  match (match lo with | none => some (0 : Int) | some x => match σ.eval x with | .c (.int _ i) => some i | _ => none),
    (match hi with | none => some (len : Int) | some x => match σ.eval x with | .c (.int _ i) => some i | _ => none) with
  | some l, some h => some (decide (0 ≤ l) && decide (l ≤ h) && decide (h ≤ (len : Int)), l.toNat, h.toNat)
  | _, _ => none

/-- the same where more than the length may be had: up to mx -/
def boundsM (σ : St) (len mx : Nat) (lo hi : Option Operand) : Option (Bool × Nat × Nat) :=
  match (match lo with | none => some (0 : Int) | some x => match σ.eval x with | .c (.int _ i) => some i | _ => none),
    (match hi with | none => some (len : Int) | some x => match σ.eval x with | .c (.int _ i) => some i | _ => none) with
  | some l, some h => some (decide (0 ≤ l) && decide (l ≤ h) && decide (h ≤ (mx : Int)), l.toNat, h.toNat)
  | _, _ => none
/-- the length of a slice -/
def lenC (bs : List (Nat × Blk)) : Cell → Option Nat
  | .sl _ xs => some xs.length
  | .nil => some 0
  | .own n => match look n bs with | some (.row _ _ xs) => some xs.length | _ => none
  | .sub _ _ l => some l
  | _ => none

def minI (x y : Int) : Int := if y < x then y else x
def maxI (x y : Int) : Int := if y > x then y else x
def foldInt (f : Int → Int → Int) (k : IntKind) : Int → List A → Option Int
  | x, [] => some x
  | x, .c (.int k' y) :: r => match ikEq k k' with | some _ => foldInt f k (f x y) r | none => none
  | _, _ => none

def capsOf : List A → Option (List Cap)
  | [] => some []
  | .c (.ptr n 0) :: r => match capsOf r with | some l => some (.p n :: l) | none => none
  | .c (.dptr t x 0) :: r => match capsOf r with | some l => some (.d t x :: l) | none => none
  | _ => none

def plainA : A → Bool
  | .c _ => true
  | .agg _ => true
  | _ => false
/-- a part of an aggregate -/
def partA (j : TInf) (off : Nat) (cs : List Cell) : Option A :=
  bif (takeN j.size (dropN off cs)).length == j.size then
    (bif isAggD j.desc then some (.agg (takeN j.size (dropN off cs))) else match takeN j.size (dropN off cs) with | [y] => some (.c y) | _ => none) else none
/-- are two structs equal, field by field -/
def eqFs (E : Env) (f : Nat → A → A → Option Bool) (cs ds : List Cell) : List Field → Option Bool
  | [] => some true
  | fl :: r => bif fl.name == "_" then none else match E.T fl.type with
    | none => none
    | some j => match partA j fl.offset cs, partA j fl.offset ds with
      | some x, some y => (match f fl.type x y, eqFs E f cs ds r with | some b, some c => some (b && c) | _, _ => none)
      | _, _ => none
def eqA (E : Env) : Nat → Nat → A → A → Option Bool
  | 0, _, _, _ => none
  | d + 1, t, x, y => match E.T t with
    | none => none
    | some i => match i.desc with
      | .bool => (match x, y with | .c (.bool a), .c (.bool b) => some (a == b) | _, _ => none)
      | .int _ => (match x, y with | .c (.int k a), .c (.int k' b) => (match ikEq k k' with | some _ => some (a == b) | none => none) | _, _ => none)
      | .string => (match x, y with | .c (.str a), .c (.str b) => some (a.toList == b.toList) | _, _ => none)
      | .struct fs => (match x, y with | .agg cs, .agg ds => (bif i.eq then eqFs E (eqA E d) cs ds fs.toList else none) | _, _ => none)
      | _ => none
/-- keys of maps, and what lies under them -/
def Ty.isKey : Ty → Bool
  | .int _ => true
  | .str => true
  | _ => false
def Ty.keq : (t : Ty) → t.den → t.den → Bool
  | .int _, a, b => a == b
  | .str, a, b => a.toList == b.toList
  | _, _, _ => false
def mfind (k v : Ty) (key : k.den) : List (k.den × v.den) → Option v.den
  | [] => none
  | p :: r => bif k.keq key p.1 then some p.2 else mfind k v key r
def mget (k v : Ty) (key : k.den) (es : List (k.den × v.den)) (z : v.den) : v.den := match mfind k v key es with | some x => x | none => z
def mhas (k v : Ty) (key : k.den) (es : List (k.den × v.den)) : Bool := match mfind k v key es with | some _ => true | none => false
def mput (k v : Ty) (key : k.den) (x : v.den) : List (k.den × v.den) → List (k.den × v.den)
  | [] => [(key, x)]
  | p :: r => bif k.keq key p.1 then (key, x) :: r else p :: mput k v key x r
/-- a value of the model that holds no memory, as data -/
def zeroA : Value → A
  | .agg cs => (match constCells cs.toList with | some zs => .agg zs | none => .any)
  | z => constA z
/-- the parts of a struct literal, laid over its zero -/
def fillA (E : Env) (fs : Array Field) (σ : St) : List (Nat × Operand) → List Cell → Option (List Cell)
  | [], cs => some cs
  | (f, x) :: r, cs => match fs[f]? with
    | none => none
    | some fl => match E.T fl.type with
      | none => none
      | some j => bif plainA (σ.eval x) && (σ.eval x).cells.length == j.size then
          (match putN fl.offset (σ.eval x).cells cs with | some cs' => fillA E fs σ r cs' | none => none) else none

def fillL (σ : St) (size : Nat) : List (Nat × Operand) → List Cell → Option (List Cell)
  | [], cs => some cs
  | (i, x) :: r, cs => bif plainA (σ.eval x) && (σ.eval x).cells.length == size then
      (match putN (i * size) (σ.eval x).cells cs with | some cs' => fillL σ size r cs' | none => none) else none

/-- cells that all hold a string, or all an integer of one kind -/
def strsOf : List Cell → Option (List ByteArray)
  | [] => some []
  | .str s :: r => match strsOf r with | some l => some (s :: l) | none => none
  | _ :: _ => none
def intsOf (k : IntKind) : List Cell → Option (List Int)
  | [] => some []
  | .int k' n :: r => match ikEq k' k, intsOf k r with | some _, some l => some (n :: l) | _, _ => none
  | _ :: _ => none
def boolsOf : List Cell → Option (List Bool)
  | [] => some []
  | .bool b :: r => match boolsOf r with | some l => some (b :: l) | none => none
  | _ :: _ => none

def isSliceCell : Cell → Bool
  | .sl _ _ => true
  | .nil => true
  | .own _ => true
  | .sub _ _ _ => true
  | _ => false
def valueCells (v : Value) : Option (List Cell) := constCells v.cells.toList

/-- operations that leave memory alone: the guard (where it fails Go panics, or nothing is said) and the value -/
def opVal (E : Env) (σ : St) : Op → Option (Bool × A)
  | .move x => some (true, σ.eval x)
  | .assign x => some (true, σ.eval x)
  | .fieldAddr t x f => match fieldOff E t f with
    | none => none
    | some (off, _) => match σ.eval x with
      | .c (.ptr n o) => some (true, .c (.ptr n (o + off)))
      | .c (.dptr ty d o) => some (true, .c (.dptr ty d (o + off)))
      | .c (.eptr n i o) => some (true, .c (.eptr n i (o + off)))
      | _ => none
  | .field t x f => match fieldOff E t f with
    | none => none
    | some (off, j) => match σ.eval x with
      | .agg cs => bif (takeN j.size (dropN off cs)).length == j.size then
          (bif isAggD j.desc then some (true, .agg (takeN j.size (dropN off cs))) else match takeN j.size (dropN off cs) with | [y] => some (true, .c y) | _ => none)
        else none
      | _ => none
  | .load t x => match loadA E σ t (asCell (σ.eval x)) with
    | some v => some (true, v)
    | none => none
  | .indexAddr t x i => match E.T t, σ.eval i with
    | some ti, .c (.int _ i) => match ti.desc with
      | .slice e => match E.T e with
        | none => none
        | some te => match σ.eval x with
          | .c (.sl ty xs) => bif te.size == ty.cells then some (decide (0 ≤ i) && decide (i < (xs.length : Int)), .c (.dptr ty (xs.getD i.toNat ty.dflt) 0)) else none
          | .c .nil => some (false, .any)
          | .c (.own n) => match look n σ.blks with
            | some (.row _ ty xs) => bif te.size == ty.cells then some (decide (0 ≤ i) && decide (i < (xs.length : Int)), .c (.eptr n i.toNat 0)) else none
            | some (.mix ty xs _) => bif te.size == ty.cells then some (decide (0 ≤ i) && decide (i < (xs.length : Int)), .c (.eptr n i.toNat 0)) else none
            | some (.opn ty xs _ _ _) => bif te.size == ty.cells then some (decide (0 ≤ i) && decide (i < (xs.length : Int)), .c (.eptr n i.toNat 0)) else none
            | _ => none
          | .c (.sub n off len) => match look n σ.blks with
            | some (.row _ ty xs) => bif te.size == ty.cells then some (decide (0 ≤ i) && decide (i < (len : Int)), .c (.eptr n (off + i.toNat) 0)) else none
            | _ => none
          | _ => none
      | _ => none
    | _, _ => none
  | .index t x i => match E.T t, σ.eval i with
    | some ti, .c (.int _ i) => match ti.desc with
      | .string => match σ.eval x with
        | .c (.str s) => some (decide (0 ≤ i) && decide (i < (s.size : Int)), .c (.int .u8 (byteAt s i.toNat)))
        | _ => none
      | .array len e => match E.T e, σ.eval x with
        | some te, .agg cs => bif te.size == 1 && cs.length == len then
          (match te.desc with
          | .string => (match strsOf cs with | some l => some (decide (0 ≤ i) && decide (i < (len : Int)), .c (.str (l.getD i.toNat ByteArray.empty))) | none => none)
          | .int k => (match intsOf k cs with | some l => some (decide (0 ≤ i) && decide (i < (len : Int)), .c (.int k (l.getD i.toNat 0))) | none => none)
          | .bool => (match boolsOf cs with | some l => some (decide (0 ≤ i) && decide (i < (len : Int)), .c (.bool (l.getD i.toNat false))) | none => none)
          | _ => none) else none
        | _, _ => none
      | _ => none
    | _, _ => none
  | .binOp op t x y _ => match σ.eval x, σ.eval y with
    | .c (.int k a), .c (.int k' b) => match shiftOp op k a b with
      | some z => some (decide (0 ≤ b), .c (.int k z))
      | none => match ikEq k k' with
        | some _ => (match binInt op k a b with | some (g, c) => some (g, .c c) | none => none)
        | none => none
    | .c (.str a), .c (.str b) => (match binStr op a b with | some (g, c) => some (g, .c c) | none => none)
    | .c (.bool a), .c (.bool b) => match E.T t with
      | some ti => match ti.desc with
        | .bool => (match op with
          | .eql => some (true, .c (.bool (a == b)))
          | .neq => some (true, .c (.bool (!(a == b))))
          | _ => none)
        | _ => none
      | none => none
    | .agg cs, .agg ds => match eqA E 20 t (.agg cs) (.agg ds) with
      | some r => (match op with
        | .eql => some (true, .c (.bool r))
        | .neq => some (true, .c (.bool (!r)))
        | _ => none)
      | none => none
    | _, _ => none
  | .lookup t x i ok => match E.T t with
    | none => none
    | some ti => match ti.desc with
      | .map kt vt => match tyOfD E.T 50 kt, tyOfD E.T 50 vt, E.T vt with
        | some kty, some vty, some tv => match A.read σ.blks (.map kty vty) (σ.eval x), A.read σ.blks kty (σ.eval i), tv.zero with
          | some es, some key, some z => match A.read [] vty (zeroA z) with
            | some dz => bif kty.isKey && vty.scal then (bif ok then some (true, .tup [(isAggD tv.desc, (vty.toA (mget kty vty key es dz)).cells), (false, [.bool (mhas kty vty key es)])])
                else some (true, vty.toA (mget kty vty key es dz))) else none
            | none => none
          | _, _, _ => none
        | _, _, _ => none
      | _ => none
  | .unOp op _ x => match op, σ.eval x with
    | .not, .c (.bool b) => some (true, .c (.bool (!b)))
    | .neg, .c (.int k n) => some (true, .c (.int k (k.wrap (0 - n))))
    | _, _ => none
  | .convert src dst x => match E.T src, E.T dst with
    | some ts, some td => match ts.desc, td.desc, σ.eval x with
      | _, .int k, .c (.int _ n) => some (true, .c (.int k (k.wrap n)))
      | _, .string, .c (.int _ n) => some (true, .c (.str (Utf8.encode n)))
      | _, .string, .c (.str s) => some (true, .c (.str s))
      | .slice e, .string, .c y => match E.T e with
        | some te => match te.desc with
          | .int .u8 => (match A.read σ.blks (.slice (.int .u8)) (.c y) with | some xs => some (true, .c (.str (bytesStr xs))) | none => none)
          | _ => none
        | none => none
      | _, _, _ => none
    | _, _ => none
  | .extract x i => match σ.eval x with
    | .tup vs => (match vs[i]? with
      | some (true, cs) => some (true, .agg cs)
      | some (false, [y]) => some (true, .c y)
      | _ => none)
    | _ => none
  | .makeFunc (.func f) first captured => match first.toList with
    | [] => (match capsOf (captured.toList.map σ.eval) with | some caps => some (true, .c (.fn f caps)) | none => none)
    | _ => none
  | .nilCheck x => match σ.eval x with
    | .c (.ptr n o) => some (true, .c (.ptr n o))
    | .c (.dptr t d o) => some (true, .c (.dptr t d o))
    | .c (.eptr n i o) => some (true, .c (.eptr n i o))
    | .c (.fn f caps) => some (true, .c (.fn f caps))
    | _ => none
  | .slice t x lo hi mx => match E.T t with
    | none => none
    | some ti => match ti.desc, σ.eval x, mx with
      | .string, .c (.str s), none => (match bounds σ s.size lo hi with | some (g, l, h) => some (g, .c (.str (s.extract l h))) | none => none)
      | .slice e, .c (.sl ty xs), none => (match E.T e with
        | some te => bif te.size == ty.cells then (match bounds σ xs.length lo hi with | some (g, l, h) => some (g, .c (.sl ty ((xs.drop l).take (h - l)))) | none => none) else none
        | none => none)
      | .slice e, .c .nil, none => (match E.T e with
        | some _ => (match bounds σ 0 lo hi with | some (g, l, h) => some (g, .c .nil) | none => none)
        | none => none)
      | .slice e, .c (.own n), none => match look n σ.blks, E.T e with
        | some (.row _ ty xs), some te => bif te.size == ty.cells then (match bounds σ xs.length lo hi with | some (g, l, h) => some (g, .c (.sub n l (h - l))) | none => none) else none
        | _, _ => none
      | .slice e, .c (.sub n o len), none => match look n σ.blks, E.T e with
        | some (.row _ ty xs), some te => bif te.size == ty.cells then (match boundsM σ len (xs.length - o) lo hi with | some (g, l, h) => some (g, .c (.sub n (o + l) (h - l))) | none => none) else none
        | _, _ => none
      | .slice e, .c y, some m => match lo, hi with
        | none, some h => (match σ.eval h, σ.eval m with
          | .c (.int _ hv), .c (.int _ mv) => bif isSliceCell y && hv == 0 && mv == 0 && (E.T e).isSome then some (true, .c .nil) else none
          | _, _ => none)
        | some l, some h => (match σ.eval l, σ.eval h, σ.eval m, lenC σ.blks y with
          | .c (.int _ lv), .c (.int _ hv), .c (.int _ mv), some len => bif (E.T e).isSome then some (decide (0 ≤ lv) && decide (lv ≤ hv) && decide (hv ≤ mv) && decide (mv ≤ (len : Int)), .any) else none
          | _, _, _, _ => none)
        | _, _ => none
      | _, _, _ => none
  | .build t parts => match E.T t with
    | none => none
    | some ti => match ti.desc, ti.zero with
      | .struct fs, some z => (match valueCells z with
        | some zs => bif fs.toList.all fun f => (E.T f.type).isSome then (match fillA E fs σ parts.toList zs with | some cs => some (true, .agg cs) | none => none) else none
        | none => none)
      | .array _ e, some z => (match valueCells z, E.T e with
        | some zs, some te => (match fillL σ te.size parts.toList zs with | some cs => some (true, .agg cs) | none => none)
        | _, _ => none)
      | _, _ => none
  | .call { callee := .builtin .len, args := xs, argTypes := ts } => match xs.toList, ts.toList with
    | [x], t :: _ => match E.T t with
      | none => none
      | some ti => match ti.desc, σ.eval x with
        | .string, .c (.str s) => some (true, .c (.int .i64 (s.size : Int)))
        | .slice _, .c (.sl _ xs) => some (true, .c (.int .i64 (xs.length : Int)))
        | .slice _, .c .nil => some (true, .c (.int .i64 0))
        | .slice _, .c (.sub _ _ l) => some (true, .c (.int .i64 (l : Int)))
        | .slice _, .c (.own n) => (match look n σ.blks with | some (.row _ _ xs) => some (true, .c (.int .i64 (xs.length : Int))) | _ => none)
        | _, _ => none
    | _, _ => none
  | .call { callee := .builtin .min, args := xs, argTypes := _ } => match xs.toList with
    | x :: r => (match σ.eval x with | .c (.int k n) => (match foldInt minI k n (r.map σ.eval) with | some m => some (true, .c (.int k m)) | none => none) | _ => none)
    | _ => none
  | .call { callee := .builtin .max, args := xs, argTypes := _ } => match xs.toList with
    | x :: r => (match σ.eval x with | .c (.int k n) => (match foldInt maxI k n (r.map σ.eval) with | some m => some (true, .c (.int k m)) | none => none) | _ => none)
    | _ => none
  | _ => none

/-! ### Calls -/
def Cell.names : Cell → List Nat
  | .own n => [n]
  | .sub n _ _ => [n]
  | .ptr n _ => [n]
  | .eptr n _ _ => [n]
  | .mp n => [n]
  | .fn _ caps => caps.filterMap fun | .p n => some n | .d _ _ => none
  | _ => []
def A.names (x : A) : List Nat := x.cells.flatMap Cell.names

/-- nothing of the result is shared with what the callee was given -/
def closedR : PK × Ty → Bool
  | (.val, t) => t.scal
  | (.io _, .ptr a) => a.scal
  | (.io _, .map _ _) => true
  | (.io true, t) => t.pure
  | (.io false, .slice e) => e.scal
  | (.io false, t) => t.scal
  | _ => false

/-- one argument: rows and variables that are handed over are read out of bs, what is only read out of bsR -/
def readP (E : Env) (bs bsR : List (Nat × Blk)) : (p : PK × Ty) → A → Option p.2.den
  | (.val, t), x => A.readF E bsR t x
  | (_, .slice _), .c .nil => some []
  | (k, .slice e), .c (.own n) => match look n bs with
    | some (.row d' e' xs) => bif (match k with | .io d => d == d' | .eat d => d == d' | .val => false) && (d' || !e'.scal) then Ty.castL? e' e xs else none
    | _ => none
  | (k, .ptr a), .c (.ptr n 0) => match look n bs with
    | some (.box cs) => bif (match k with | .io d => !d || a.scal | _ => false) then
        (match a.unflat [] cs with | some (y, []) => some y | _ => none) else none
    | _ => none
  | _, _ => none

def readPs (E : Env) (bs bsR : List (Nat × Blk)) : (ps : List (PK × Ty)) → List A → Option (Sig.den ps)
  | [], [] => some ()
  | p :: ps, x :: xs => match readP E bs bsR p x, readPs E bs bsR ps xs with
    | some d, some r => some (Sig.mk p ps d r)
    | _, _ => none
  | _, _ => none

/-- the blocks that are handed over -/
def handed : List (PK × Ty) → List A → List Nat
  | (.val, _) :: ps, _ :: xs => handed ps xs
  | (_, _) :: ps, .c (.own n) :: xs => n :: handed ps xs
  | (_, _) :: ps, .c (.ptr n _) :: xs => n :: handed ps xs
  | _ :: ps, _ :: xs => handed ps xs
  | _, _ => []
def nodupB : List Nat → Bool
  | [] => true
  | n :: r => !r.contains n && nodupB r
def without (ns : List Nat) (bs : List (Nat × Blk)) : List (Nat × Blk) := bif ns.isEmpty then bs else bs.filter fun b => !ns.contains b.1

/-- behind the call: the blocks that were handed over hold what the callee left in them; those that were eaten are gone -/
def writePs : (ps : List (PK × Ty)) → List A → (rs : List (PK × Ty)) → Sig.den (Sig.ios ps ++ rs) → St → St × Sig.den rs
  | (.io _, .slice e) :: ps, x :: xs, rs, y, σ => match x with
    | .c (.own n) => match look n σ.blks with
      | some (.row d _ _) => writePs ps xs rs (Sig.tl _ _ y) (σ.setBlk n (.row d e (Sig.hd _ _ y)))
      | _ => writePs ps xs rs (Sig.tl _ _ y) σ
    | _ => writePs ps xs rs (Sig.tl _ _ y) σ
  | (.io _, .ptr a) :: ps, x :: xs, rs, y, σ => match x with
    | .c (.ptr n _) => writePs ps xs rs (Sig.tl _ _ y) (σ.setBlk n (.box (a.flat (Sig.hd _ _ y) [])))
    | _ => writePs ps xs rs (Sig.tl _ _ y) σ
  | (.io _, _) :: ps, x :: xs, rs, y, σ => writePs ps xs rs (Sig.tl _ _ y) σ
  | (.eat _, _) :: ps, x :: xs, rs, y, σ => match x with
    | .c (.own n) => writePs ps xs rs y (σ.kill n)
    | _ => writePs ps xs rs y σ
  | (.val, _) :: ps, x :: xs, rs, y, σ => writePs ps xs rs y σ
  | (.io _, _) :: ps, [], rs, y, σ => writePs ps [] rs (Sig.tl _ _ y) σ
  | (.eat _, _) :: ps, [], rs, y, σ => writePs ps [] rs y σ
  | (.val, _) :: ps, [], rs, y, σ => writePs ps [] rs y σ
  | [], _, _, y, σ => (σ, y)

/-- how many rows data hold at their top -/
def Ty.nsl : Ty → Nat
  | .slice _ => 1
  | .st a => a.nsl
  | .pair a b => a.nsl + b.nsl
  | .ptr _ => 2
  | .fn _ _ => 2
  | .map _ _ => 2
  | _ => 0
/-- the cells of data whose one row bears a name -/
def Ty.flatN : (t : Ty) → t.den → Nat → List Cell → List Cell
  | .int k, x, _, r => .int k x :: r
  | .bool, b, _, r => .bool b :: r
  | .str, s, _, r => .str s :: r
  | .unit, _, _, r => r
  | .slice _, _, n, r => .own n :: r
  | .st a, x, n, r => a.flatN x n r
  | .pair a b, x, n, r => a.flatN x.1 n (b.flatN x.2 n r)
  | .ptr _, _, _, r => .any :: r
  | .fn _ _, _, _, r => .any :: r
  | .map _ _, _, _, r => .any :: r
def Ty.kid1 : (t : Ty) → t.den → Option Blk
  | .slice e, xs => some (.row true e xs)
  | .st a, x => a.kid1 x
  | .pair a b, x => match a.kid1 x.1 with | some k => some k | none => b.kid1 x.2
  | _, _ => none
/-- one result -/
def mkRes : (p : PK × Ty) → p.2.den → (name : Nat) → St → Option (A × St)
  | (.val, t), x, _, σ => some (t.toA x, σ)
  | (.io d, .slice e), xs, n, σ => some (.c (.own n), σ.new n (.row (d || e.scal) e xs))
  | (.io _, .ptr a), x, n, σ => bif a.scal then some (.c (.ptr n 0), σ.new n (.box (a.flat x []))) else none
  | (.io d, .st a), x, n, σ => bif a.scal then some (.agg (a.flat x []), σ) else bif d && a.nsl == 1 then
      (match a.kid1 x with | some b => some (.agg (a.flatN x n []), σ.new n b) | none => none) else none
  | (.io _, .map k v), es, n, σ => some (.c (.mp n), σ.new n (.map k v es))
  | (.io _, .int k), x, _, σ => some (.c (.int k x), σ)
  | (.io _, .bool), x, _, σ => some (.c (.bool x), σ)
  | (.io _, .str), x, _, σ => some (.c (.str x), σ)
  | _, _, _, _ => none

def mkRess : (rs : List (PK × Ty)) → Sig.den rs → (name : Nat) → St → Option (List A × St)
  | [], _, _, σ => some ([], σ)
  | p :: ps, y, n, σ => match mkRes p (Sig.hd _ _ y) n σ with
    | none => none
    | some (x, σ') => match mkRess ps (Sig.tl _ _ y) (n + 1) σ' with
      | none => none
      | some (xs, σ'') => some (x :: xs, σ'')

def asPart : A → Option (Bool × List Cell)
  | .c x => some (false, [x])
  | .agg cs => some (true, cs)
  | .tup _ => none
  | .any => none
def asParts : List A → Option (List (Bool × List Cell))
  | [] => some []
  | x :: r => match asPart x, asParts r with | some p, some q => some (p :: q) | _, _ => none
def packA : List A → Option A
  | [x] => some x
  | xs => match asParts xs with | some ps => some (.tup ps) | none => none

def freezeAll (par : List Nat) : List Nat → St → St
  | [], σ => σ
  | n :: r, σ => freezeAll par r (σ.freeze par n)

variable {ρ : Type}

/-- the name of the first result: what has been eaten keeps its name -/
def callName (E : Env) (c : Con) (args : List A) (d : Nat) : Nat := match handed c.ps args with
  | n :: _ => bif (E.par.contains n || c.rs.length == 1) && (Sig.ios c.ps).isEmpty then n else d * 64
  | [] => d * 64

/-- several blocks are handed over for good: none of them is the caller's, none is handed back -/
def manyOK (E : Env) (c : Con) (args : List A) : Bool := nodupB (handed c.ps args) && (Sig.ios c.ps).isEmpty && (handed c.ps args).all fun n => !E.par.contains n

def callCon (E : Env) (bsR : List (Nat × Blk)) (c : Con) (d : Nat) (args : List A) (σ : St) (k : A → St → Option ρ) : Option ρ :=
  bif (decide ((handed c.ps args).length ≤ 1) || manyOK E c args) && decide (callName E c args d % 64 + c.rs.length ≤ 63) then
    match readPs E σ.blks bsR c.ps args with
    | none => none
    | some x => match c.F x with
      | none => none
      | some y => match writePs c.ps args c.rs y σ with
        | (σ', z) => match mkRess c.rs z (callName E c args d) σ' with
          | none => none
          | some (xs, σ'') => match packA xs with
            | none => none
            | some v => k v σ''
  else none

def capA : Cap → A
  | .p n => .c (.ptr n 0)
  | .d t x => .c (.dptr t x 0)

def evCall (E : Env) (d : Nat) (f : Operand) (args : List Operand) (σ : St) (k : A → St → Option ρ) : Option ρ :=
  match σ.eval f with
  | .c (.fn g caps) => match E.con g with
    | none => none
    | some c => bif c.rs.all closedR && (Sig.ios c.ps).all closedR then
        callCon E (without (handed c.ps (args.map σ.eval ++ caps.map capA)) σ.blks) c d (args.map σ.eval ++ caps.map capA) σ k
      else
        -- what the callee may hand back a part of isn't written from here on
        (match freezeAll E.par (((args.map σ.eval).flatMap A.names).filter fun n => !(handed c.ps (args.map σ.eval ++ caps.map capA)).contains n) σ with
        | σ' => match σ'.eval f with
          | .c (.fn g' caps') => bif g' == g then callCon E [] c d (args.map σ'.eval ++ caps'.map capA) σ' k else none
          | _ => none)
  | .c (.clo a r φ) => bif r.scal then
      (match readArgs E σ.blks a (args.map σ.eval) with
      | none => none
      | some x => match φ x with
        | none => none
        | some y => k (r.toA y) σ)
    else none
  | _ => none

/-! ### Operations that write or make memory -/
/-- cells, one value after another, as data of one type -/
def unflatL (t : Ty) : Nat → List Cell → Option (List t.den)
  | 0, [] => some []
  | n + 1, cs => match t.unflat [] cs with
    | some (x, r) => (match unflatL t n r with | some l => some (x :: l) | none => none)
    | none => none
  | _, _ => none

def repCells : Nat → List Cell → List Cell
  | 0, _ => []
  | n + 1, cs => cs ++ repCells n cs

def isSrcD : TypeDesc → Bool
  | .slice _ => true
  | .string => true
  | _ => false
/-- the zero value is known, and of the type's size -/
def zeroOk (te : TInf) : Bool := match te.zero with | some z => z.cells.size == te.size | none => false

def srcL (bs : List (Nat × Blk)) (ty : Ty) : Cell → Option (List ty.den)
  | .nil => some []
  | .sl t ys => Ty.castL? t ty ys
  | .own n => match look n bs with
    | some (.row dd t ys) => bif !dd || t.scal then Ty.castL? t ty ys else none
    | _ => none
  | .sub n o l => match look n bs with
    | some (.row dd t ys) => bif !dd || t.scal then Ty.castL? t ty ((ys.drop o).take l) else none
    | _ => none
  | .str s => Ty.castL? (.int .u8) ty (strBytes s)
  | _ => none

def appendTo (E : Env) (d : Nat) (e : Nat) (x y : Cell) (σ : St) (k : A → St → Option ρ) : Option ρ :=
  match E.T e, tyOfD E.T 50 e with
  | some te, some ty => match srcL σ.blks ty y with
    | none => none
    | some ys => bif te.size == ty.cells && decide (0 < te.bytes) && zeroOk te then
      (match x with
      | .nil => bif decide (ys.length * te.bytes ≤ 140737488355328) then k (.c (.own (d * 64))) (σ.new (d * 64) (.row ty.scal ty ys)) else none
      | .own n => match look n σ.blks with
        | some (.row dd t xs) => bif (!dd || t.scal) && (dd || !t.scal) && !(n % 64 == 63) then
            (match Ty.castL? t ty xs with
            | some xs => bif decide ((xs.length + ys.length) * te.bytes ≤ 140737488355328) then
                k (.c (.own n)) ((σ.kill n).setBlk n (.row ty.scal ty (xs ++ ys))) else none
            | none => none) else none
        | _ => none
      | .sub n o l => match look n σ.blks with
        | some (.row dd t xs) => bif (!dd || t.scal) && (dd || !t.scal) && decide (o = 0) then
            (match Ty.castL? t ty xs with
            | some xs => bif decide (l + ys.length ≤ xs.length) then
                k (.c (.sub n 0 (l + ys.length))) (σ.setBlk n (.row ty.scal ty (xs.take l ++ ys ++ xs.drop (l + ys.length)))) else none
            | none => none) else none
        | _ => none
      | _ => none)
      else none
  | _, _ => none

/-- clear: the elements become what the type's zero is -/
def clearTo (te : TInf) (x : Cell) (σ : St) (k : St → Option ρ) : Option ρ := match x with
  | .nil => k σ
  | .own n => (match look n σ.blks with
    | some (.row dd t xs) => (match te.zero with
      | some z => (match valueCells z with
        | some zs => (match t.unflat [] zs with
          | some (x0, []) => bif te.size == t.cells && (!dd || t.scal) && (dd || !t.scal) then k (σ.setBlk n (.row dd t (List.replicate xs.length x0))) else none
          | _ => none)
        | none => none)
      | none => none)
    | _ => none)
  | .sub n o l => (match look n σ.blks with
    | some (.row dd t xs) => (match te.zero with
      | some z => (match valueCells z with
        | some zs => (match t.unflat [] zs with
          | some (x0, []) => bif te.size == t.cells && (!dd || t.scal) && (dd || !t.scal) && decide (o + l ≤ xs.length) then k (σ.setBlk n (.row dd t (xs.take o ++ List.replicate l x0 ++ xs.drop (o + l)))) else none
          | _ => none)
        | none => none)
      | none => none)
    | _ => none)
  | _ => none

/-! ### Rows whose elements own rows: an element lies open while it is worked on, till the end of the region -/
/-- the cells of an element that lies open, as data; the names that it takes in; what is left -/
def unO (bs : List (Nat × Blk)) : (t : Ty) → List OCell → Option (t.den × List Nat × List OCell)
  | .int k, .c (.int k' n) :: r => match ikEq k' k with | some _ => some (n, [], r) | none => none
  | .bool, .c (.bool b) :: r => some (b, [], r)
  | .str, .c (.str s) :: r => some (s, [], r)
  | .unit, r => some ((), [], r)
  | .slice e, .kid e' ys :: r => match Ty.castL? e' e ys with | some zs => some (zs, [], r) | none => none
  | .slice _, .c .nil :: r => some ([], [], r)
  | .slice e, .c (.own n) :: r => match look n bs with
    | some (.row true e' ys) => (match Ty.castL? e' e ys with | some zs => some (zs, [n], r) | none => none)
    | _ => none
  | .st a, cs => unO bs a cs
  | .pair a b, cs => match unO bs a cs with
    | some (x, ms, r) => (match unO bs b r with | some (y, ms', r') => some ((x, y), ms ++ ms', r') | none => none)
    | none => none
  | _, _ => none
def killAll : List Nat → St → St
  | [], σ => σ
  | m :: ms, σ => killAll ms (σ.kill m)
def odrop : Nat → List OCell → List OCell
  | 0, l => l
  | _ + 1, [] => []
  | n + 1, _ :: l => odrop n l
def oset : Nat → OCell → List OCell → List OCell
  | _, _, [] => []
  | 0, y, _ :: l => y :: l
  | n + 1, y, x :: l => x :: oset n y l
def oput : Nat → List Cell → List OCell → Option (List OCell)
  | 0, [], l => some l
  | 0, v :: vs, _ :: l => match oput 0 vs l with | some r => some (.c v :: r) | none => none
  | 0, _ :: _, [] => none
  | _ + 1, _, [] => none
  | n + 1, vs, x :: l => match oput n vs l with | some r => some (x :: r) | none => none
/-- n cells that are no rows of the element's own -/
def plainN : Nat → List OCell → Option (List Cell)
  | 0, _ => some []
  | n + 1, .c x :: r => match plainN n r with | some l => some (x :: l) | none => none
  | _ + 1, _ => none

def openAt (σ : St) (n i : Nat) (k : St → Option ρ) : Option ρ := match look n σ.blks with
  | some (.row d t xs) => bif d && !t.scal then k (σ.setBlk n (.opn t xs none i (t.flatO (xs.getD i t.dflt) []))) else none
  | some (.mix t xs kk) => bif decide (kk ≤ i) then k (σ.setBlk n (.opn t xs (some kk) i ((t.flat (xs.getD i t.dflt) []).map OCell.c))) else none
  | some (.opn t xs ko i0 cs) => bif decide (i = i0) then k σ else none
  | _ => none
/-- the name of a row that is taken out of an element: by the pointer through which it is read -/
def kidName (E : Env) (n : Nat) : Operand → Nat
  | .tmp p => bif E.par.contains n then ((p + 1) * 4096) * 64 + 62 else p * 64 + 32
  | _ => 0
def loadO (E : Env) (σ : St) (t : Nat) (x : Operand) (n i off : Nat) (k : A → St → Option ρ) : Option ρ := match E.T t with
  | none => none
  | some ti => openAt σ n i fun σ1 => match look n σ1.blks with
    | some (.opn ty xs ko i0 cs) => match plainN ti.size (odrop off cs) with
      | some ys => bif isAggD ti.desc then k (.agg ys) σ1 else (match ys with | [y] => k (.c y) σ1 | _ => none)
      | none => bif ti.size == 1 && !isAggD ti.desc then
          (match odrop off cs with
          | .kid e ys :: _ => (match look (kidName E n x) σ1.blks with
            | none => bif (E.par.contains (kidName E n x) == E.par.contains n) && !(kidName E n x % 64 == 63) then
                k (.c (.own (kidName E n x))) ((σ1.setBlk n (.opn ty xs ko i0 (oset off (.c (.own (kidName E n x))) cs))).setBlk (kidName E n x) (.row true e ys)) else none
            | some _ => none)
          | _ => none) else none
    | _ => none
def storeO (σ : St) (n i off : Nat) (vs : List Cell) (k : St → Option ρ) : Option ρ := openAt σ n i fun σ1 => match look n σ1.blks with
  | some (.opn ty xs ko i0 cs) => (match oput off vs cs with | some cs' => k (σ1.setBlk n (.opn ty xs ko i0 cs')) | none => none)
  | _ => none
/-- the element that lies open is closed: it owns what its cells name -/
def closeBlk (E : Env) (n : Nat) (σ : St) (k : St → Option ρ) : Option ρ := match look n σ.blks with
  | some (.opn t xs ko i cs) => match unO σ.blks t cs with
    | some (x, ms, []) => bif nodupB ms && !ms.contains n && (E.par.contains n || ms.all fun m => !E.par.contains m) then
        (match ko with
        | none => k ((killAll ms σ).setBlk n (.row true t (xs.set i x)))
        | some kk => bif decide (kk = i) then k ((killAll ms σ).setBlk n (.mix t (xs.set i x) (kk + 1))) else none)
      else none
    | _ => none
  | _ => k σ
def closeAll (E : Env) : List Nat → St → (St → Option ρ) → Option ρ
  | [], σ, k => k σ
  | n :: r, σ, k => closeBlk E n σ fun σ' => closeAll E r σ' k
def opnNames : List (Nat × Blk) → List Nat
  | [] => []
  | (n, .opn _ _ _ _ _) :: r => n :: opnNames r
  | _ :: r => opnNames r

/-- rows of this kind own what their elements hold -/
def deepE (E : Env) (e : Nat) : Bool := match tyOfD E.T 50 e with | some ty => E.dp && !ty.scal | none => false
def deepT (E : Env) (t : Nat) : Bool := match E.T t with
  | some ti => (match ti.desc with | .slice e => deepE E e | _ => false)
  | none => false
def buildD (E : Env) (d len : Nat) (ty : Ty) (cs : List Cell) (σ : St) (k : St → Option ρ) : Option ρ := match unO σ.blks ty (cs.map OCell.c) with
  | some (x, ms, []) => bif len == 1 && nodupB ms && !ms.contains (d * 64) && ms.all (fun m => !E.par.contains m) then
      k (((killAll ms σ).new (d * 64) (.row true ty [x])).set d (.c (.own (d * 64)))) else none
  | _ => none
def appendD (E : Env) (d e : Nat) (x y : Cell) (σ : St) (k : A → St → Option ρ) : Option ρ := match E.T e, tyOfD E.T 50 e, y with
  | some te, some ty, .own p => match look p σ.blks with
    | some (.row true t ys) => match Ty.castL? t ty ys with
      | some ys => bif te.size == ty.cells && decide (0 < te.bytes) && zeroOk te && !E.par.contains p then
        (match x with
        | .nil => bif decide (ys.length * te.bytes ≤ 140737488355328) && !(p == d * 64) then k (.c (.own (d * 64))) ((σ.kill p).new (d * 64) (.row true ty ys)) else none
        | .own n => (match look n σ.blks with
          | some (.row true t xs) => (match Ty.castL? t ty xs with
            | some xs => bif decide ((xs.length + ys.length) * te.bytes ≤ 140737488355328) && !(n == p) && !(n % 64 == 63) then
                k (.c (.own n)) (((σ.kill p).kill n).setBlk n (.row true ty (xs ++ ys))) else none
            | none => none)
          | _ => none)
        | _ => none) else none
      | none => none
    | _ => none
  | _, _, _ => none
/-- at the end of some regions a row all of whose elements own what they hold counts as such -/
def mixNames : List (Nat × Blk) → List Nat
  | [] => []
  | (n, .mix _ _ _) :: r => n :: mixNames r
  | _ :: r => mixNames r
def settleGo : List Nat → St → (St → Option ρ) → Option ρ
  | [], σ, k => k σ
  | n :: r, σ, k => match look n σ.blks with
    | some (.mix t xs kk) => bif decide (kk = xs.length) then settleGo r (σ.setBlk n (.row true t xs)) k else none
    | _ => settleGo r σ k
def settleAll (E : Env) (id : Nat) (σ : St) (k : St → Option ρ) : Option ρ := bif E.settle.contains id then settleGo (mixNames σ.blks) σ k else k σ

/-- one of c places from m on -/
def splitGo (j : Int) (f : Nat → Option ρ) : Nat → Nat → Option ρ
  | 0, _ => none
  | c + 1, m => bif j == (m : Int) then f m else splitGo j f c (m + 1)
/-- the address of an array's element, whichever it is -/
def splitIdx (E : Env) (σ : St) (t : Nat) (x i : Operand) (f : A → Option ρ) : Option ρ := match E.T t, σ.eval i with
  | some ti, .c (.int _ j) => match ti.desc with
    | .array len e => match E.T e with
      | some te => (match σ.eval x with
        | .c (.ptr n o) => splitGo j (fun m => f (.c (.ptr n (o + m * te.size)))) len 0
        | .c (.dptr ty d o) => splitGo j (fun m => f (.c (.dptr ty d (o + m * te.size)))) len 0
        | _ => none)
      | none => none
    | _ => none
  | _, _ => none

/-- literals of no element are read as nil ones (a mark among the settled regions) -/
def empE (E : Env) : Bool := E.settle.contains 999999
def evOp (E : Env) (o : Oper) (σ : St) (k : St → Option ρ) : Option ρ :=
  match opVal E σ o.op with
  | some (g, v) => bif g then k (σ.put o.dst v) else none
  | none => match o.op with
    | .pick c a b => match σ.eval c with
      | .c (.bool x) => bif x then k (σ.put o.dst (σ.eval a)) else k (σ.put o.dst (σ.eval b))
      | _ => none
    | .indexAddr t x i => splitIdx E σ t x i fun v => k (σ.put o.dst v)
    | .alloc t => match o.dst, E.T t with
      | some d, some ti => match ti.zero with
        | some z => (match valueCells z with
          | some zs => bif zs.length == ti.size then k ((σ.new (d * 64) (.box zs)).set d (.c (.ptr (d * 64) 0))) else none
          | none => none)
        | none => none
      | _, _ => none
    | .box t x => match o.dst with
      | some d => match σ.kill (d * 64) with
        | σ1 => bif plainA (σ1.eval x) then k ((σ1.setBlk (d * 64) (.box (σ1.eval x).cells)).set d (.c (.ptr (d * 64) 0))) else none
      | none => none
    | .store t x v => match E.T t with
      | none => none
      | some ti => bif plainA (σ.eval v) && (σ.eval v).cells.length == ti.size then
        (match σ.eval x with
        | .c (.ptr n off) => match look n σ.blks with
          | some (.box cs) => (match putN off (σ.eval v).cells cs with | some cs' => k ((σ.setBlk n (.box cs')).put o.dst (.tup [])) | none => none)
          | _ => none
        | .c (.eptr n i off) => match look n σ.blks with
          | some (.row dd ty xs) => bif !dd || ty.scal then
              (match putN off (σ.eval v).cells (ty.flat (xs.getD i ty.dflt) []) with
              | some cs' => (match ty.unflat [] cs' with | some (x', []) => k ((σ.setBlk n (.row dd ty (xs.set i x'))).put o.dst (.tup [])) | _ => none)
              | none => none) else storeO σ n i off (σ.eval v).cells fun σ' => k (σ'.put o.dst (.tup []))
          | some (.mix _ _ _) => storeO σ n i off (σ.eval v).cells fun σ' => k (σ'.put o.dst (.tup []))
          | some (.opn _ _ _ _ _) => storeO σ n i off (σ.eval v).cells fun σ' => k (σ'.put o.dst (.tup []))
          | _ => none
        | _ => none) else none
    | .makeMap t none => match o.dst, E.T t with
      | some d, some ti => match ti.desc with
        | .map kt vt => match tyOfD E.T 50 kt, tyOfD E.T 50 vt with
          | some kty, some vty => k ((σ.new (d * 64) (.map kty vty [])).set d (.c (.mp (d * 64))))
          | _, _ => none
        | _ => none
      | _, _ => none
    | .mapUpdate t m i x => match E.T t with
      | none => none
      | some ti => match ti.desc, σ.eval m with
        | .map kt vt, .c (.mp n) => match tyOfD E.T 50 kt, tyOfD E.T 50 vt, look n σ.blks with
          | some kty, some vty, some (.map k' v' es) => match Ty.cast? (.map k' v') (.map kty vty) es, A.read σ.blks kty (σ.eval i), A.read σ.blks vty (σ.eval x) with
            | some es, some key, some y => bif kty.isKey && vty.scal then k ((σ.setBlk n (.map kty vty (mput kty vty key y es))).put o.dst (.tup [])) else none
            | _, _, _ => none
          | _, _, _ => none
        | _, _ => none
    | .insert t m i x => match E.T t with
      | none => none
      | some ti => match ti.desc, σ.eval m with
        | .map kt vt, .c (.mp n) => match tyOfD E.T 50 kt, tyOfD E.T 50 vt, look n σ.blks with
          | some kty, some vty, some (.map k' v' es) => match Ty.cast? (.map k' v') (.map kty vty) es, A.read σ.blks kty (σ.eval i), A.read σ.blks vty (σ.eval x) with
            | some es, some key, some y => bif kty.isKey && vty.scal then k ((σ.setBlk n (.map kty vty (mput kty vty key y es))).put o.dst (.tup [])) else none
            | _, _, _ => none
          | _, _, _ => none
        | _, _ => none
    | .load t x => match σ.eval x with
      | .c (.eptr n i off) => loadO E σ t x n i off fun v σ' => k (σ'.put o.dst v)
      | _ => none
    | .convert src dst x => match o.dst, E.T src, E.T dst, σ.eval x with
      | some d, some ts, some td, .c (.str s) => match ts.desc, td.desc with
        | .string, .slice e => match E.T e with
          | some te => match te.desc with
            | .int .u8 => k ((σ.new (d * 64) (.row false (.int .u8) (strBytes s))).set d (.c (.own (d * 64))))
            | _ => none
          | none => none
        | _, _ => none
      | _, _, _, _ => none
    | .buildSlice t len parts => match o.dst, E.T t with
      | some d, some ti => match ti.desc with
        | .slice e => match E.T e, tyOfD E.T 50 e with
          | some te, some ty => bif te.size == ty.cells && decide (len * te.size ≤ 16777216) then
            (match te.zero with
            | some z => (match valueCells z with
              | some zs => bif zs.length == te.size then
                (match fillL σ te.size parts.toList (repCells len zs) with
                | some cs => bif deepE E e then buildD E d len ty cs σ k else (match unflatL ty len cs with
                  | some xs => bif empE E && len == 0 then k (σ.set d (.c .nil)) else k ((σ.new (d * 64) (.row ty.scal ty xs)).set d (.c (.own (d * 64))))
                  | none => none)
                | none => none) else none
              | none => none)
            | none => none) else none
          | _, _ => none
        | _ => none
      | _, _ => none
    | .makeSlice t l c => match o.dst, E.T t with
      | some d, some ti => match ti.desc with
        | .slice e => match E.T e, tyOfD E.T 50 e, σ.eval l, σ.eval c with
          | some te, some ty, .c (.int _ l), .c (.int _ c) =>
            bif te.size == ty.cells && decide (0 < ty.cells) && decide (0 < te.bytes) then
              (match te.zero with
              | some z => (match valueCells z with
                | none => none
                | some zs => match ty.unflat [] zs with
                | some (x, []) => bif decide (0 ≤ l) && decide (l ≤ c) && decide (c * te.bytes ≤ 140737488355328) then
                    k ((σ.new (d * 64) (.row (E.dp || ty.scal) ty (List.replicate l.toNat x))).set d (.c (.own (d * 64)))) else none
                | _ => none)
              | none => none) else none
          | _, _, _, _ => none
        | _ => none
      | _, _ => none
    | .call { callee := .builtin .append, args := xs, argTypes := ts } => match o.dst, xs.toList, ts.toList with
      | some d, [x, y], [t, t'] => match E.T t, E.T t' with
        | some ti, some ti' => match ti.desc with
          | .slice e => bif isSrcD ti'.desc then (bif deepE E e then appendD E d e (asCell (σ.eval x)) (asCell (σ.eval y)) σ fun v σ' => k (σ'.set d v) else appendTo E d e (asCell (σ.eval x)) (asCell (σ.eval y)) σ fun v σ' => k (σ'.set d v)) else none
          | _ => none
        | _, _ => none
      | _, _, _ => none
    | .call { callee := .builtin .clear, args := xs, argTypes := ts } => match xs.toList, ts.toList with
      | [x], [t] => match E.T t with
        | some ti => match ti.desc with
          | .slice e => match E.T e with
            | some te => clearTo te (asCell (σ.eval x)) σ fun σ' => k (σ'.put o.dst (.tup []))
            | none => none
          | _ => none
        | none => none
      | _, _ => none
    | .call { callee := .value f, args := xs, argTypes := _ } => match o.dst with
      | some d => evCall E d f xs.toList σ fun v σ' => k (σ'.set d v)
      | none => none
    | _ => none

def dstOf (ops : List Oper) (j : Nat) : Option Nat := match ops[j]? with | some o => o.dst | none => none

/-- one operation of a region whose order is open: it reads, computes, or calls what hands back data that are the value -/
def evOpQ (E : Env) (o : Oper) (σ : St) (k : St → Option ρ) : Option ρ :=
  match opVal E σ o.op with
  | some (g, v) => bif g then k (σ.put o.dst v) else none
  | none => match o.op with
    | .pick c a b => match σ.eval c with
      | .c (.bool x) => bif x then k (σ.put o.dst (σ.eval a)) else k (σ.put o.dst (σ.eval b))
      | _ => none
    | .indexAddr t x i => splitIdx E σ t x i fun v => k (σ.put o.dst v)
    | .call { callee := .value f, args := xs, argTypes := _ } => match σ.eval f with
      | .c (.fn g caps) => match E.con g with
        | none => none
        | some c => bif c.rs.all (fun p => match p with | (.val, t) => t.scal | _ => false) && c.ps.all (fun p => match p with | (.val, _) => true | _ => false) then
            (match readPs E σ.blks σ.blks c.ps (xs.toList.map σ.eval ++ caps.map capA) with
            | none => none
            | some x => match c.F x with
              | none => none
              | some y => match mkRess c.rs (writePs c.ps (xs.toList.map σ.eval ++ caps.map capA) c.rs y σ).2 0 σ with
                | none => none
                | some (vs, _) => match packA vs with
                  | none => none
                  | some v => k (σ.put o.dst v))
          else none
      | .c (.clo a r φ) => bif r.scal then
          (match readArgs E σ.blks a (xs.toList.map σ.eval) with
          | none => none
          | some x => match φ x with
            | none => none
            | some y => k (σ.put o.dst (r.toA y)))
        else none
      | _ => none
    | _ => none

/-- a region whose order is open is gone through by this, if all its operations read, compute, or call what hands back data that are the value -/
def quietOp (E : Env) (o : Oper) : Bool := match o.op with
  | .alloc _ => false
  | .box _ _ => false
  | .store _ _ _ => false
  | .makeMap _ _ => false
  | .mapUpdate _ _ _ _ => false
  | .insert _ _ _ _ => false
  | .buildSlice _ _ _ => false
  | .makeSlice _ _ _ => false
  | .call { callee := .builtin .append, args := _, argTypes := _ } => false
  | .call { callee := .builtin .clear, args := _, argTypes := _ } => false
  | .call { callee := .value (.func g), args := _, argTypes := _ } => match E.con g with
    | some c => c.rs.all (fun p => match p with | (.val, t) => t.scal | _ => false) && c.ps.all (fun p => match p with | (.val, _) => true | _ => false)
    | none => false
  | _ => true
/-- an operation that may be taken ahead of others: it reads and computes -/
def takeOp : Op → Bool
  | .alloc _ => false
  | .box _ _ => false
  | .store _ _ _ => false
  | .makeMap _ _ => false
  | .mapUpdate _ _ _ _ => false
  | .insert _ _ _ _ => false
  | .buildSlice _ _ _ => false
  | .makeSlice _ _ _ => false
  | .call { callee := .builtin .len, args := _, argTypes := _ } => true
  | .call { callee := .builtin .min, args := _, argTypes := _ } => true
  | .call { callee := .builtin .max, args := _, argTypes := _ } => true
  | .call _ => false
  | _ => true
def evOpT (E : Env) (o : Oper) (σ : St) (k : St → Option ρ) : Option ρ :=
  match opVal E σ o.op with
  | some (g, v) => bif g then k (σ.put o.dst v) else none
  | none => match o.op with
    | .pick c a b => match σ.eval c with
      | .c (.bool x) => bif x then k (σ.put o.dst (σ.eval a)) else k (σ.put o.dst (σ.eval b))
      | _ => none
    | .indexAddr t x i => splitIdx E σ t x i fun v => k (σ.put o.dst v)
    | _ => none
/-- a call that writes nothing of what was there -/
def quietCall (E : Env) (σ : St) (f : Operand) : Bool := match σ.eval f with
  | .c (.fn g _) => match E.con g with
    | some c => c.ps.all (fun p => match p with | (.val, _) => true | _ => false)
    | none => false
  | .c (.clo _ _ _) => true
  | _ => false
/-- one operation that is carried out where it alone may come up -/
def evOpS (E : Env) (o : Oper) (σ : St) (k : St → Option ρ) : Option ρ :=
  match o.op with
  | .buildSlice t _ _ => bif deepT E t then none else evOp E o σ k
  | .call { callee := .value f, args := _, argTypes := _ } => bif quietCall E σ f then evOp E o σ k else none
  | _ => evOpT E o σ k

def evOpsG (ev1 : Oper → St → (St → Option ρ) → Option ρ) (ops : List Oper) : List Oper → St → (St → Option ρ) → Option ρ
  | [], σ, k => k σ
  | o :: rest, σ, k => match o.guard with
    | none => ev1 o σ fun σ' => evOpsG ev1 ops rest σ' k
    | some (j, want) => match dstOf ops j with
      | none => none
      | some d => match σ.get d with
        | .c (.bool b) => bif b then
            (bif want then ev1 o (σ.set d (.c (.bool true))) fun σ' => evOpsG ev1 ops rest σ' k
              else evOpsG ev1 ops rest ((σ.set d (.c (.bool true))).put o.dst (.tup [])) k)
          else
            (bif want then evOpsG ev1 ops rest ((σ.set d (.c (.bool false))).put o.dst (.tup [])) k
              else ev1 o (σ.set d (.c (.bool false))) fun σ' => evOpsG ev1 ops rest σ' k)
        | .tup [] => evOpsG ev1 ops rest (σ.put o.dst (.tup [])) k
        | _ => none

end Go.Proofs.YtklfnbckoaphpaaGreatDoor
