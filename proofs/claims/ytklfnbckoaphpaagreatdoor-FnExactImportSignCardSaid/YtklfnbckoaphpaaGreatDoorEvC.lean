/- The evaluator: regions, branches, loops, functions. No conditions: definitions only. -/
import Derived.Test.YtklfnbckoaphpaaGreatDoorEvB
import Derived.Still
import Derived.OrdersHeld
set_option linter.unusedVariables false
namespace Go.Proofs.YtklfnbckoaphpaaGreatDoor
open Go

/-! ### A state as data and back -/
inductive PatK where
  | any
  | v (t : Ty)
  | own (n : Nat)
  | ptr (n off : Nat)
  | fn (f : Nat) (caps : List Nat)
  | mp (n : Nat)
  | sub (n : Nat)
  | nil

inductive PatB where
  | row (deep : Bool) (t : Ty)
  | mix (t : Ty)
  | box (cs : List PatK)
  | map (k v : Ty)

structure Pat where
  tmps : List PatK
  blks : List (Nat × PatB)

abbrev Dat := Sigma Ty.den

def PatK.tys : PatK → List Ty
  | .v t => [t]
  | .sub _ => [.int .i64, .int .i64]
  | _ => []
def PatB.tys : PatB → List Ty
  | .row _ t => [.slice t]
  | .mix t => [.slice t, .int .i64]
  | .box cs => cs.flatMap PatK.tys
  | .map k v => [.map k v]
def Pat.tys (p : Pat) : List Ty := p.tmps.flatMap PatK.tys ++ p.blks.flatMap fun b => b.2.tys

@[reducible] def Dn : List Ty → Type
  | [] => Unit
  | [t] => t.den
  | t :: u :: r => t.den × Dn (u :: r)

def Dn.toL : (ts : List Ty) → Dn ts → List Dat
  | [], _ => []
  | [t], x => [⟨t, x⟩]
  | t :: u :: r, x => ⟨t, x.1⟩ :: Dn.toL (u :: r) x.2
def Dn.ofL : (ts : List Ty) → List Dat → Option (Dn ts)
  | [], [] => some ()
  | [t], [⟨t', x⟩] => Ty.cast? t' t x
  | t :: u :: r, ⟨t', x⟩ :: l => match Ty.cast? t' t x, Dn.ofL (u :: r) l with | some a, some b => some (a, b) | _, _ => none
  | _, _ => none

@[reducible] def Pat.den (p : Pat) : Type := Dn p.tys

/-- the temporaries of a pattern, out of its data; and the data that are left -/
def encK : PatK → List Dat → A × List Dat
  | .any, l => (.any, l)
  | .v _, ⟨t, x⟩ :: l => (t.toA x, l)
  | .v _, [] => (.any, [])
  | .own n, l => (.c (.own n), l)
  | .ptr n o, l => (.c (.ptr n o), l)
  | .fn f ns, l => (.c (.fn f (ns.map Cap.p)), l)
  | .mp n, l => (.c (.mp n), l)
  | .sub n, ⟨.int _, o⟩ :: ⟨.int _, l⟩ :: r => (.c (.sub n (o : Int).toNat (l : Int).toNat), r)
  | .sub _, _ => (.any, [])
  | .nil, l => (.c .nil, l)
def encT : List PatK → List Dat → List A × List Dat
  | [], l => ([], l)
  | p :: ps, l => match encK p l with | (a, l') => match encT ps l' with | (as, l'') => (a :: as, l'')
def encCs : List PatK → List Dat → List Cell × List Dat
  | [], l => ([], l)
  | p :: ps, l => match encK p l with | (a, l') => match encCs ps l' with | (as, l'') => (asCell a :: as, l'')
def encB : List (Nat × PatB) → List Dat → List (Nat × Blk)
  | [], _ => []
  | (n, .row d _) :: r, ⟨.slice t, xs⟩ :: l => (n, .row d t xs) :: encB r l
  | (n, .row _ _) :: r, _ => []
  | (n, .mix _) :: r, ⟨.slice t, xs⟩ :: ⟨.int _, kk⟩ :: l => (n, .mix t xs kk.toNat) :: encB r l
  | (n, .mix _) :: r, _ => []
  | (n, .map _ _) :: r, ⟨.map k v, es⟩ :: l => (n, .map k v es) :: encB r l
  | (n, .map _ _) :: r, _ => []
  | (n, .box cs) :: r, l => match encCs cs l with | (c, l') => (n, .box c) :: encB r l'
def Pat.enc (p : Pat) (s : p.den) : St := match encT p.tmps (Dn.toL p.tys s) with | (ts, l) => St.of ts (encB p.blks l)

def Pat.has (p : Pat) (n : Nat) : Bool := p.blks.any fun b => b.1 == n

def beqNats : List Nat → List Cap → Bool
  | [], [] => true
  | n :: ns, .p m :: cs => m == n && beqNats ns cs
  | _, _ => false

/-- one temporary (or cell) held against its pattern -/
def decK (bs : List (Nat × Blk)) (p : Pat) : PatK → A → Option (List Dat)
  | .any, _ => some []
  | .v t, x => match A.read bs t x with | some d => some [⟨t, d⟩] | none => none
  | .own n, .c (.own m) => bif m == n && p.has n then some [] else none
  | .ptr n o, .c (.ptr m o') => bif m == n && o' == o && p.has n then some [] else none
  | .fn f ns, .c (.fn g caps) => bif g == f && beqNats ns caps && ns.all p.has then some [] else none
  | .mp n, .c (.mp m) => bif m == n && p.has n then some [] else none
  | .sub n, .c (.sub m o l) => bif m == n && p.has n then some [⟨.int .i64, (o : Int)⟩, ⟨.int .i64, (l : Int)⟩] else none
  | .nil, .c .nil => some []
  | _, _ => none
def decT (bs : List (Nat × Blk)) (p : Pat) : List PatK → List A → Option (List Dat)
  | [], [] => some []
  | k :: ks, x :: xs => match decK bs p k x, decT bs p ks xs with | some a, some b => some (a ++ b) | _, _ => none
  | _, _ => none
/-- the same, one place after another -/
def decI (bs : List (Nat × Blk)) (p : Pat) {n : Nat} (t : Tm n) : Nat → List PatK → Option (List Dat)
  | i, [] => bif Nat.beq i n then some [] else none
  | i, k :: ks => match k with
    | .any => decI bs p t (i + 1) ks
    | k => match decK bs p k (t.get i), decI bs p t (i + 1) ks with | some a, some b => some (a ++ b) | _, _ => none
def decCs (p : Pat) : List PatK → List Cell → Option (List Dat)
  | [], [] => some []
  | k :: ks, x :: xs => match decK [] p k (.c x), decCs p ks xs with | some a, some b => some (a ++ b) | _, _ => none
  | _, _ => none
def decB (p : Pat) (bs : List (Nat × Blk)) : List (Nat × PatB) → Option (List Dat)
  | [] => some []
  | (n, .row d t) :: r => match look n bs, decB p bs r with
    | some (.row d' t' xs), some l => bif d == d' then (match Ty.castL? t' t xs with | some ys => some (⟨.slice t, ys⟩ :: l) | none => none) else none
    | _, _ => none
  | (n, .mix t) :: r => match look n bs, decB p bs r with
    | some (.row d t' xs), some l => bif !d && !t'.scal then (match Ty.castL? t' t xs with | some ys => some (⟨.slice t, ys⟩ :: ⟨.int .i64, (0 : Int)⟩ :: l) | none => none) else none
    | some (.mix t' xs kk), some l => (match Ty.castL? t' t xs with | some ys => some (⟨.slice t, ys⟩ :: ⟨.int .i64, (kk : Int)⟩ :: l) | none => none)
    | _, _ => none
  | (n, .map k v) :: r => match look n bs, decB p bs r with
    | some (.map k' v' es), some l => (match Ty.cast? (.map k' v') (.map k v) es with | some ys => some (⟨.map k v, ys⟩ :: l) | none => none)
    | _, _ => none
  | (n, .box cs) :: r => match look n bs with
    | some (.box c) => match decCs p cs c, decB p bs r with | some a, some b => some (a ++ b) | _, _ => none
    | _ => none
/-- a nil slice, where the pattern has a row, becomes an empty row -/
def isOwn (n : Nat) : PatK → Bool
  | .own m => m == n
  | _ => false
def idxOwn (n : Nat) : Nat → List PatK → Option Nat
  | _, [] => none
  | i, k :: ks => bif isOwn n k then some i else idxOwn n (i + 1) ks
/-- the cell of a variable that has the row -/
def idxBox (n : Nat) : List (Nat × PatB) → Option (Nat × Nat)
  | [] => none
  | (b, .box cs) :: r => match idxOwn n 0 cs with | some i => some (b, i) | none => idxBox n r
  | _ :: r => idxBox n r
def adopt (p : Pat) : List (Nat × PatB) → St → St
  | [], σ => σ
  | (n, .row d t) :: r, σ => match look n σ.blks with
    | some _ => adopt p r σ
    | none => bif n % 64 == 63 then adopt p r σ else
      match idxOwn n 0 p.tmps with
      | some i => (match σ.get i with
        | .c .nil => adopt p r ((σ.setBlk n (.row d t [])).set i (.c (.own n)))
        | _ => adopt p r σ)
      | none => match idxBox n p.blks with
        | none => adopt p r (σ.setBlk n (.row d t []))
        | some (b, i) => match look b σ.blks with
          | some (.box cs) => (match cs[i]? with
            | some .nil => adopt p r ((σ.setBlk n (.row d t [])).setBlk b (.box (cs.set i (.own n))))
            | _ => adopt p r (σ.setBlk n (.row d t [])))
          | _ => adopt p r (σ.setBlk n (.row d t []))
  | _ :: r, σ => adopt p r σ
/-- the rows that the pattern lets go: they can be read as data -/
def Pat.gone (p : Pat) (bs : List (Nat × Blk)) : List (Nat × Blk) := bs.filter fun b => !p.has b.1 && decide (b.1 % 64 < 62)
def Pat.dec (p : Pat) (σ : St) : Option p.den :=
  match adopt p p.blks σ with
  | σ' => match decI (p.gone σ'.blks) p σ'.tm.t 0 p.tmps, decB p σ'.blks p.blks with
    | some a, some b => Dn.ofL p.tys (a ++ b)
    | _, _ => none

/-! ### Loops -/
abbrev Outs := List (Exit × Pat)
@[reducible] def Outs.den : List (Exit × Pat) → Type
  | [] => Empty
  | [p] => p.2.den
  | p :: q :: r => p.2.den ⊕ Outs.den (q :: r)

variable {ρ : Type}

def Outs.elim : (os : List (Exit × Pat)) → Outs.den os → (Exit → St → Option ρ) → Option ρ
  | [], e, _ => e.elim
  | [p], s, k => k p.1 (p.2.enc s)
  | p :: q :: r, s, k => match s with
    | .inl a => k p.1 (p.2.enc a)
    | .inr b => Outs.elim (q :: r) b k

def sameExit : Exit → Exit → Bool
  | .ret, .ret => true
  | .exit a, .exit b => a == b
  | _, _ => false

def Outs.inj : (os : List (Exit × Pat)) → Exit → St → Option (Outs.den os)
  | [], _, _ => none
  | [p], e, σ => bif sameExit p.1 e then p.2.dec σ else none
  | p :: q :: r, e, σ => bif sameExit p.1 e then (match p.2.dec σ with | some s => some (.inl s) | none => none)
    else match Outs.inj (q :: r) e σ with | some s => some (.inr s) | none => none

structure Loop where
  pat : Pat
  outs : List (Exit × Pat)
  run : pat.den → Option (Outs.den outs)

def kstep (p : Pat) (os : List (Exit × Pat)) : Exit → St → Option (p.den ⊕ Outs.den os)
  | .normal, σ => match p.dec σ with | some s => some (.inl s) | none => none
  | e, σ => match Outs.inj os e σ with | some s => some (.inr s) | none => none

def iterN {S O : Type} (step : S → Option (S ⊕ O)) : Nat → S → Option O
  | 0, _ => none
  | n + 1, s => match step s with
    | none => none
    | some (.inl s') => iterN step n s'
    | some (.inr o) => some o

def regOf : Code → Option Nat
  | .region id _ _ => some id
  | .seq a b => match regOf a with | some n => some n | none => regOf b
  | .cond _ a b => match regOf a with | some n => some n | none => regOf b
  | .block _ b => regOf b
  | .loop b => regOf b
  | .scope b => regOf b
  | _ => none

def inBlk (id : Nat) (k : Exit → St → Option ρ) : Exit → St → Option ρ
  | .exit id', σ => bif id' == id then k .normal σ else k (.exit id') σ
  | e, σ => k e σ
def thenK (k' : St → Option ρ) (k : Exit → St → Option ρ) : Exit → St → Option ρ
  | .normal, σ => k' σ
  | e, σ => k e σ

/-- an operation that may write what is there -/
def writesOp (E : Env) : Op → Bool
  | .store _ _ _ => true
  | .mapUpdate _ _ _ _ => true
  | .insert _ _ _ _ => true
  | .call { callee := .builtin b, args := _, argTypes := _ } => (match b with | .append => true | .clear => true | _ => false)
  | .call { callee := .value (.func g), args := _, argTypes := _ } => (match E.con g with | some c => !(c.ps.all fun p => match p with | (.val, _) => true | _ => false) | none => false)
  | _ => false
/-- an append to a literal of no element: it makes memory of its own -/
def nilApp (E : Env) (ops : Array Oper) (j : Nat) : Bool := empE E && (match ops[j]? with
  | some o => (match o.op with
    | .call { callee := .builtin .append, args := xs, argTypes := _ } => (match xs.toList with
      | [.tmp t, _] => ops.any fun q => q.guard.isNone && q.dst == some t && (match q.op with | .buildSlice _ 0 _ => true | _ => false)
      | _ => false)
    | _ => false)
  | none => false)
def nilFirst (σ : St) : Op → Bool
  | .call { callee := .builtin .append, args := xs, argTypes := _ } => (match xs.toList with
    | [x, _] => (match σ.eval x with | .c .nil => true | _ => false)
    | _ => false)
  | _ => false
def wrote (E : Env) (ops : Array Oper) (j : Nat) : Bool := match ops[j]? with | some o => writesOp E o.op && !nilApp E ops j | none => false
/-- does number j wait for number i, at one remove or at several? -/
def ancB (ops : Array Oper) : Nat → Nat → Nat → Bool
  | 0, _, _ => false
  | n + 1, j, i => match ops[j]? with
    | some o => o.after.any fun e => Region.binds .any e && (e.on == i || ancB ops n e.on i)
    | none => false
/-- whatever may write what is there waits for number i -/
def waitsB (E : Env) (ops : Array Oper) (listed : Array Bool) (i : Nat) : Bool := (List.range ops.size).all fun j => !wrote E ops j || listed.getD j true || j == i || ancB ops ops.size j i
/-- does what an operation yields hang on memory? -/
def memRead : Op → Bool
  | .load _ _ => true
  | .convert _ _ _ => true
  | .lookup _ _ _ _ => true
  | _ => false
/-- may this operation be taken first? -/
def takeB (E : Env) (ops : Array Oper) (listed : Array Bool) (j : Nat) : Bool := Region.free .any ops listed j && (match ops[j]? with | some o => o.guard.isNone && takeOp o.op && (waitsB E ops listed j || !memRead o.op) | none => false)
def isAlloc : Op → Bool
  | .alloc _ => true
  | _ => false

/-- by its guard an operation comes up or not -/
def evGrd (ops : List Oper) (o : Oper) (σ : St) (go skip : St → Option ρ) : Option ρ := match o.guard with
  | none => go σ
  | some (j, want) => match dstOf ops j with
    | none => none
    | some d => match σ.get d with
      | .c (.bool b) => bif b then (bif want then go (σ.set d (.c (.bool true))) else skip ((σ.set d (.c (.bool true))).put o.dst (.tup [])))
        else (bif want then skip ((σ.set d (.c (.bool false))).put o.dst (.tup [])) else go (σ.set d (.c (.bool false))))
      | .tup [] => skip (σ.put o.dst (.tup []))
      | _ => none

/-! ### Calls that are held back: where several operations may come up, calls that write nothing of what was there, and whose results share nothing, bear their results' names only when all of them are done -/
structure Held where
  j : Nat
  d : Nat
  /-- it leans on no memory -/
  free : Bool
  rs : List (PK × Ty)
  z : Sig.den rs

/-- may this operation be held back? -/
def heldOk (E : Env) (σ : St) (ops : Array Oper) (j : Nat) : Bool := match ops[j]? with
  | none => false
  | some o => match o.op with
    | .call { callee := .value f, args := _, argTypes := _ } => (match σ.eval f with
      | .c (.fn g _) => (match E.con g with
        | some c => o.guard.isNone && c.ps.all (fun p => match p with | (.val, _) => true | _ => false) && c.rs.all closedR
        | none => false)
      | _ => false)
    | .buildSlice t n _ => (match E.T t with
      | some ti => (match ti.desc with
        | .slice e => (match tyOfD E.T 50 e with
          | some ty => o.guard.isNone && ty.scal && !(empE E && n == 0)
          | none => false)
        | _ => false)
      | none => false)
    | .alloc t => (match tyOfD E.T 50 t with
      | some ty => o.guard.isNone && ty.scal
      | none => false)
    | .makeMap t none => (match E.T t with
      | some ti => (match ti.desc with
        | .map kt vt => (match tyOfD E.T 50 kt, tyOfD E.T 50 vt with
          | some _, some _ => o.guard.isNone
          | _, _ => false)
        | _ => false)
      | none => false)
    | _ => false
/-- what a call that is held back gives: read off the state in which it may come up first -/
def heldOne (E : Env) (σ : St) (j : Nat) (o : Oper) (k : Held → Option ρ) : Option ρ := match o.op, o.dst with
  | .call { callee := .value f, args := xs, argTypes := _ }, some d => match σ.eval f with
    | .c (.fn g caps) => match E.con g with
      | none => none
      | some c => bif o.guard.isNone && c.ps.all (fun p => match p with | (.val, _) => true | _ => false) && c.rs.all closedR && decide (c.rs.length ≤ 63) then
          (match readPs E σ.blks σ.blks c.ps (xs.toList.map σ.eval ++ caps.map capA) with
          | none => none
          | some x => match c.F x with
            | none => none
            | some y => k ⟨j, d, false, c.rs, (writePs c.ps (xs.toList.map σ.eval ++ caps.map capA) c.rs y σ).2⟩)
        else none
    | _ => none
  | .buildSlice t len parts, some d => match E.T t with
    | none => none
    | some ti => match ti.desc with
      | .slice e => match E.T e, tyOfD E.T 50 e with
        | some te, some ty => bif o.guard.isNone && ty.scal && te.size == ty.cells && decide (len * te.size ≤ 16777216) then
          (match te.zero with
          | none => none
          | some z => match valueCells z with
            | none => none
            | some zs => bif zs.length == te.size then
              (match fillL σ te.size parts.toList (repCells len zs) with
              | none => none
              | some cs => match unflatL ty len cs with
                | none => none
                | some xs => k ⟨j, d, true, [(.io true, .slice ty)], xs⟩) else none) else none
        | _, _ => none
      | _ => none
  | .alloc t, some d => match E.T t, tyOfD E.T 50 t with
    | some ti, some ty => bif o.guard.isNone && ty.scal then
      (match ti.zero with
      | none => none
      | some z => match valueCells z with
        | none => none
        | some zs => match ty.unflat [] zs with
          | some (x, []) => k ⟨j, d, true, [(.io true, .ptr ty)], x⟩
          | _ => none) else none
    | _, _ => none
  | .makeMap t none, some d => match E.T t with
    | none => none
    | some ti => match ti.desc with
      | .map kt vt => (match tyOfD E.T 50 kt, tyOfD E.T 50 vt with
        | some kty, some vty => bif o.guard.isNone then k ⟨j, d, true, [(.io true, .map kty vty)], []⟩ else none
        | _, _ => none)
      | _ => none
  | _, _ => none
def heldAll (E : Env) (σ : St) (ops : Array Oper) : List Nat → (List Held → Option ρ) → Option ρ
  | [], k => k []
  | j :: r, k => match ops[j]? with
    | some o => heldOne E σ j o fun h => heldAll E σ ops r fun hs => k (h :: hs)
    | none => none
/-- its results bear their names -/
def finOne (h : Held) (σ : St) (k : St → Option ρ) : Option ρ := match mkRess h.rs h.z (h.d * 64) σ with
  | none => none
  | some (xs, σ') => match packA xs with
    | none => none
    | some v => k (σ'.set h.d v)
def finAll : List Held → St → (St → Option ρ) → Option ρ
  | [], σ, k => k σ
  | h :: hs, σ, k => finOne h σ fun σ' => finAll hs σ' k

def operTmps : Operand → List Nat
  | .tmp t => [t]
  | _ => []
/-- the temporaries out of which the calls that are held back are made -/
def opUses : Op → List Nat
  | .call { callee := .value f, args := xs, argTypes := _ } => operTmps f ++ xs.toList.flatMap operTmps
  | .buildSlice _ _ parts => parts.toList.flatMap fun p => operTmps p.2
  | _ => []
def heldUses (ops : Array Oper) : List Nat → List Nat
  | [] => []
  | j :: r => (match ops[j]? with | some o => opUses o.op | none => []) ++ heldUses ops r
def forgetL (ds : List Nat) : Nat → List A → List A
  | _, [] => []
  | i, x :: r => (bif ds.contains i then .any else x) :: forgetL ds (i + 1) r
def forget (ds : List Nat) (σ : St) : St := { σ with tm := Tms.of (forgetL ds 0 σ.tmps) }
def mark (listed : Array Bool) (S : List Nat) : Array Bool := S.foldl (fun l i => l.setIfInBounds i true) listed
def subs : List Nat → List (List Nat)
  | [] => [[]]
  | c :: r => subs r ++ (subs r).map (c :: ·)
/-- whatever of the calls that are held back has been carried out: this may be taken first -/
def okTake (E : Env) (ops : Array Oper) (C : List Nat) (listed : Array Bool) (m : Nat) : Bool := (subs C).all fun S => takeB E ops (mark listed S) m && (Region.ready .any ops (mark listed S)).contains m
/-- .. next comes this, or one of the others -/
def okMake (E : Env) (ops : Array Oper) (C : List Nat) (fr : Bool) (listed : Array Bool) (m : Nat) : Bool := (!wrote E ops m || fr) && (subs C).all fun S => (Region.ready .any ops (mark listed S)).contains m && (Region.ready .any ops (mark listed S)).all fun i => i == m || (C.contains i && !S.contains i)
/-- .. nothing but the others comes next -/
def okDone (ops : Array Oper) (C : List Nat) (listed : Array Bool) : Bool := (subs C).all fun S => S.length == C.length || (!(Region.ready .any ops (mark listed S)).isEmpty && (Region.ready .any ops (mark listed S)).all fun i => C.contains i && !S.contains i)
def dstOk (us ds : List Nat) (o : Oper) : Bool := match o.dst with
  | some e => !us.contains e && !ds.contains e
  | none => true
def makes : Op → Bool
  | .alloc _ => true
  | .makeMap _ _ => true
  | .makeSlice _ _ _ => true
  | .buildSlice _ _ _ => true
  | .convert _ _ _ => true
  | _ => false
/-- an operation that makes memory, or adds to a row of its own, and leaves what is set aside alone -/
def makesE (E : Env) (op : Op) : Bool := makes op || (match op with
  | .call { callee := .builtin .append, args := _, argTypes := ts } => (match ts.toList with | [t, _] => !deepT E t | _ => false)
  | _ => false)
/-- an operation that makes memory while calls are held back -/
def evOpM (E : Env) (o : Oper) (σ : St) (k : St → Option ρ) : Option ρ := bif makesE E o.op then evOp E o σ k else bif writesOp E o.op then none else heldOne E σ 0 o fun h => finOne h σ k
/-- one operation that alone may come up -/
def evOpS1 (E : Env) (o : Oper) (σ : St) (k : St → Option ρ) : Option ρ := bif writesOp E o.op then evOp E o σ k else bif isAlloc o.op then evOpM E o σ k else evOpS E o σ k
/-- the same, where an append to a literal of no element must be one -/
def nilOk (E : Env) (ops : Array Oper) (j : Nat) (o : Oper) (σ : St) : Bool := !nilApp E ops j || (nilFirst σ o.op && makesE E o.op)
/-- while calls are held back: the other operations, one at a time -/
def evMany (E : Env) (ops : Array Oper) (C us ds : List Nat) (fr : Bool) : Nat → Array Bool → St → (Array Bool → St → Option ρ) → Option ρ
  | 0, _, _, _ => none
  | n + 1, listed, σ, k => match (Region.ready .any ops listed).filter fun i => !C.contains i with
    | [] => bif okDone ops C listed then k listed σ else none
    | i :: rs => match (i :: rs).find? (okTake E ops C listed) with
      | some m => (match ops[m]? with
        | some o => bif dstOk us ds o then evOpT E o σ fun σ' => evMany E ops C us ds fr n (listed.setIfInBounds m true) (forget ds σ') k else none
        | none => none)
      | none => bif okMake E ops C fr listed i then
          (match ops[i]? with
          | some o => bif o.guard.isNone && dstOk us ds o && nilOk E ops i o σ then evOpM E o σ fun σ' => evMany E ops C us ds fr n (listed.setIfInBounds i true) (forget ds σ') k else none
          | none => none)
        else none

/-- a load and a call that writes, in whichever order: the load's value is a slice of this call's own, the same behind the call -/
def swapLd (ops : Array Oper) (m : Nat) : Bool := match ops[m]? with
  | some o => o.guard.isNone && (match o.op, o.dst with | .load _ (.tmp x), some d => !(x == d) | _, _ => false)
  | none => false
/-- what else may come up -/
def othersOf (ops : Array Oper) (listed : Array Bool) (m : Nat) : List Nat := (Region.ready .any ops listed).filter fun q => !(q == m)
/-- number j may come up beside the load m, and nothing else, whether m has been or not -/
def swNext (ops : Array Oper) (listed : Array Bool) (m j : Nat) : Bool :=
  (match ops[j]? with | some o => o.guard.isNone | none => false) && Region.free .any ops listed m && (Region.ready .any ops (listed.setIfInBounds m true)).all (· == j)
def swapB (E : Env) (ops : Array Oper) (listed : Array Bool) (m j : Nat) : Bool :=
  swapLd ops m && swNext ops listed m j && (wrote E ops j || (match othersOf ops (listed.setIfInBounds j true) m with | [j'] => wrote E ops j' | _ => false))
def swapOf (E : Env) (ops : Array Oper) (listed : Array Bool) : List Nat → Option (Nat × Nat)
  | [x, y] => bif swapB E ops listed x y then some (x, y) else bif swapB E ops listed y x then some (y, x) else none
  | _ => none
def sameOwn (E : Env) (o : Oper) (σ : St) : Bool := match o.dst with
  | some d => (match opVal E σ o.op, σ.eval (.tmp d) with
    | some (true, .c (.own p)), .c (.own q) => p == q
    | some (true, .c (.int k e)), .c (.int k' e') => (match ikEq k k' with | some _ => e == e' | none => false)
    | some (true, .c (.str e)), .c (.str e') => e.toList == e'.toList
    | _, _ => false)
  | none => false
/-- the load m is done in thought; what else may come up goes one by one, till m may be taken; what m reads stays the same -/
def evSw (E : Env) (ops : Array Oper) (m : Nat) (om : Oper) : Nat → Array Bool → St → (Array Bool → St → Option ρ) → Option ρ
  | 0, _, _, _ => none
  | n + 1, listed, σ, k => bif takeB E ops listed m then k (listed.setIfInBounds m true) σ else
      match othersOf ops listed m with
      | [c] => bif swNext ops listed m c then
          (match ops[c]? with
          | some oc => bif !nilOk E ops c oc σ then none else evOpS1 E oc σ fun σ2 => bif sameOwn E om σ2 then evSw E ops m om n (listed.setIfInBounds c true) σ2 k else none
          | none => none) else none
      | _ => none
/-- what is held back: all that may be, but for the first where nothing else comes up -/
def allocsOf (ops : Array Oper) (rs : List Nat) : List Nat := rs.filter fun j => match ops[j]? with | some o => isAlloc o.op && o.guard.isNone | none => false
def heldList (E : Env) (σ : St) (ops : Array Oper) (rs : List Nat) : List Nat := bif (allocsOf ops rs).isEmpty || (allocsOf ops rs).length == rs.length then
    (bif (rs.filter (heldOk E σ ops)).length == rs.length then rs.tail else rs.filter (heldOk E σ ops)) else allocsOf ops rs
/-- the guard on number g is known: what waits for it comes up, or does nothing -/
def resolveO (g : Nat) (b : Bool) (o : Oper) : Oper := match o.guard with
  | some (j, want) => bif j == g then (bif want == b then { o with guard := none } else { o with guard := none, op := .move (.const undef) }) else o
  | none => o
def resolveG (g : Nat) (b : Bool) (ops : Array Oper) : Array Oper := (ops.toList.map (resolveO g b)).toArray
def firstGuard (ops : Array Oper) : List Nat → Option Nat
  | [] => none
  | i :: r => match ops[i]? with
    | some o => (match o.guard with | some (g, _) => some g | none => firstGuard ops r)
    | none => firstGuard ops r
/-- the first guard among what may come up, where nothing but its own operation fills its temporary -/
def guardOf (ops : Array Oper) (listed : Array Bool) (rs : List Nat) : Option (Nat × Nat) := match firstGuard ops rs with
  | some g => (match ops[g]? with
    | some og => (match og.dst with
      | some d => bif listed.getD g false && (List.range ops.size).all (fun j => j == g || (match ops[j]? with | some o => (match o.dst with | some e => !(e == d) | none => true) | none => true)) then some (g, d) else none
      | none => none)
    | none => none)
  | none => none
/-- a region whose order is open, some of whose operations make memory: what reads and computes is taken first, as far as it goes; then one operation alone may come up at a time, or calls that are held back -/
def evH (E : Env) (ops : Array Oper) : Nat → Array Bool → St → (St → Option ρ) → Option ρ
  | 0, listed, σ, k => match Region.ready .any ops listed with
    | [] => k σ
    | _ :: _ => none
  | n + 1, listed, σ, k => match Region.ready .any ops listed with
    | [] => k σ
    | i :: rs => match (i :: rs).find? (takeB E ops listed) with
      | some j => (match ops[j]? with
        | some o => evOpT E o σ fun σ' => evH E ops n (listed.setIfInBounds j true) σ' k
        | none => none)
      | none => match rs with
        | [] => (match ops[i]? with
          | some o => evGrd ops.toList o σ (fun σ0 => bif !nilOk E ops i o σ0 then none else evOpS1 E o σ0 fun σ' => evH E ops n (listed.setIfInBounds i true) σ' k) fun σ' => evH E ops n (listed.setIfInBounds i true) σ' k
          | none => none)
        | _ :: _ => match guardOf ops listed (i :: rs) with
         | some (g, d) => (match σ.get d with
          | .c (.bool b) => bif b then evH E (resolveG g true ops) n listed (σ.set d (.c (.bool true))) k else evH E (resolveG g false ops) n listed (σ.set d (.c (.bool false))) k
          | _ => none)
         | none => match swapOf E ops listed (i :: rs) with
          | some (m, _) => (match ops[m]? with
            | some om => evOpT E om σ fun σ1 => evSw E ops m om ops.size listed σ1 fun listed' σ2 => evH E ops n listed' σ2 k
            | none => none)
          | none => match heldList E σ ops (i :: rs) with
          | [] => none
          | c :: C => heldAll E σ ops (c :: C) fun hs =>
            bif nodupB (c :: C) && nodupB (hs.map Held.d) && (hs.map Held.d).all (fun d => !(heldUses ops (c :: C)).contains d) then
              evMany E ops (c :: C) (heldUses ops (c :: C)) (hs.map Held.d) (hs.all Held.free) ops.size listed (forget (hs.map Held.d) σ) fun listed' σ' => finAll hs σ' fun σ2 => evH E ops n (mark listed' (c :: C)) σ2 k
            else none

/-! ### The order of the text, checked fast: what an operation looks at as bits of a number -/
def maskT : List Nat → Nat
  | [] => 0
  | t :: r => maskT r ||| (1 <<< t)
def hasT (m i : Nat) : Bool := Nat.testBit m i
def apartF (ops : Array Oper) (x y : Oper) : Bool :=
  (match x.dst with
   | some d => !hasT (maskT (y.looksAt ops)) d && (match y.dst with | some d' => !(d' == d) | none => true)
   | none => true) &&
  (match y.dst with
   | some d => !hasT (maskT (x.looksAt ops)) d
   | none => true)
def edgeTo (k : Nat) : List Edge → Bool
  | [] => false
  | e :: r => (Region.binds .any e && e.on == k) || edgeTo k r
def edgesB (k : Nat) : List Edge → Bool
  | [] => true
  | e :: r => (!Region.binds .any e || Nat.blt e.on k) && edgesB k r
def freeF (ops : Array Oper) (k : Nat) (o : Oper) : List Oper → Bool
  | [] => true
  | oj :: r => (apartF ops o oj || edgeTo k oj.after.toList) && freeF ops k o r
def lexGo (ops : Array Oper) : Nat → List Oper → Bool
  | _, [] => true
  | k, o :: r => edgesB k o.after.toList && freeF ops k o r && lexGo ops (k + 1) r
def lexF (ops : Array Oper) : Bool := Region.noSelect ops && lexGo ops 0 ops.toList

theorem maskT_has : ∀ (l : List Nat) (i : Nat), hasT (maskT l) i = l.contains i
  | [], i => by simp [hasT, maskT]
  | t :: r, i => by
    have ih : Nat.testBit (maskT r) i = r.contains i := maskT_has r i
    simp only [hasT, maskT, Nat.testBit_or, ih, List.contains_cons, Nat.one_shiftLeft, Nat.testBit_two_pow]
    rw [Bool.or_comm]
    congr 1
    by_cases h : i = t
    · simp [h]
    · simp [h, Ne.symm h]
theorem apartF_is (ops : Array Oper) (x y : Oper) : apartF ops x y = x.apart ops y := by
  unfold apartF Oper.apart
  congr 1
  · cases x.dst with
    | none => rfl
    | some d =>
      simp only [maskT_has]
      congr 1
      cases y.dst with
      | none => rfl
      | some d' => simp [bne]
  · cases y.dst with
    | none => rfl
    | some d => simp only [maskT_has]
theorem edgeTo_is (k : Nat) : ∀ l : List Edge, edgeTo k l = l.any fun e => Region.binds .any e && e.on == k
  | [] => rfl
  | e :: r => by simp only [edgeTo, edgeTo_is k r, List.any_cons]
theorem edgesB_all {k : Nat} : ∀ {l : List Edge}, edgesB k l = true → ∀ e ∈ l, Region.binds .any e = true → e.on < k
  | [], _, e, h, _ => by cases h
  | x :: r, h, e, he, hb => by
    simp only [edgesB, Bool.and_eq_true] at h
    rcases List.mem_cons.1 he with rfl | he
    · rw [hb] at h
      have h' : Nat.blt e.on k = true := by simpa using h.1
      rwa [Nat.blt_eq] at h'
    · exact edgesB_all h.2 e he hb
theorem freeF_all {ops : Array Oper} {k : Nat} {o : Oper} : ∀ {l : List Oper}, freeF ops k o l = true → ∀ oj ∈ l, (oj.after.any fun e => Region.binds .any e && e.on == k) = true ∨ o.apart ops oj = true
  | [], _, oj, h => by cases h
  | x :: r, h, oj, hj => by
    simp only [freeF, Bool.and_eq_true, Bool.or_eq_true] at h
    rcases List.mem_cons.1 hj with rfl | hj
    · rcases h.1 with h | h
      · exact .inr (by rw [← apartF_is]; exact h)
      · exact .inl (by rw [edgeTo_is] at h; simpa using h)
    · exact freeF_all h.2 oj hj
theorem lexGo_ok (ops : Array Oper) : ∀ (l : List Oper) (k : Nat) (listed : Array Bool), (∀ j, l[j]? = ops[k + j]?) → k + l.length = ops.size → listed.size = ops.size → (∀ i, i < ops.size → listed[i]? = some (decide (i < k))) → lexGo ops k l = true → Region.lexFrom .any ops l.length k listed = true
  | [], k, listed, hl, hk, hs, hi, h => by
    simp only [List.length_nil, Region.lexFrom, List.isEmpty_iff]
    refine List.eq_nil_iff_forall_not_mem.2 fun j hj => ?_
    obtain ⟨h1, o, h2, _⟩ := mem_ready.1 hj
    have hjs := (Array.getElem?_eq_some_iff.1 h2).1
    have := hi j hjs
    simp only [List.length_nil, Nat.add_zero] at hk
    rw [Array.getD_eq_getD_getElem?, this] at h1
    simp at h1
    omega
  | o :: r, k, listed, hl, hk, hs, hi, h => by
    simp only [lexGo, Bool.and_eq_true] at h
    obtain ⟨⟨h1, h2⟩, h3⟩ := h
    have hlen : k + (r.length + 1) = ops.size := by simpa using hk
    have hok : ops[k]? = some o := by have := hl 0; simpa using this.symm
    have hr : ∀ j, r[j]? = ops[k + 1 + j]? := fun j => by
      have := hl (j + 1)
      rw [List.getElem?_cons_succ] at this
      rw [this]
      congr 1
      omega
    simp only [List.length_cons, Region.lexFrom, Bool.and_eq_true]
    refine ⟨⟨?_, ?_⟩, ?_⟩
    · rw [List.contains_iff_mem]
      refine mem_ready.2 ⟨?_, o, hok, fun e he hb => ?_⟩
      · rw [Array.getD_eq_getD_getElem?, hi k (by omega)]
        simp
      · have := edgesB_all h1 e (by simpa using he) hb
        rw [Array.getD_eq_getD_getElem?, hi e.on (by omega)]
        simpa using this
    · unfold Region.free
      rw [hok]
      simp only [List.all_eq_true, List.mem_range]
      intro j hj
      by_cases e : j = k
      · simp [e]
      · rcases Nat.lt_or_ge j k with hjk | hjk
        · have : listed.getD j true = true := by rw [Array.getD_eq_getD_getElem?, hi j hj]; simpa using hjk
          simp [this]
        · obtain ⟨d, rfl⟩ : ∃ d, j = k + 1 + d := ⟨j - k - 1, by omega⟩
          have hd : d < r.length := by omega
          have hjo : ops[k + 1 + d]? = some r[d] := by rw [← hr d]; exact List.getElem?_eq_getElem hd
          rw [hjo]
          rcases freeF_all h2 r[d] (List.getElem_mem hd) with q | q
          · simp [q]
          · simp [q]
    · refine lexGo_ok ops r (k + 1) (listed.setIfInBounds k true) hr (by omega) (by simpa using hs) (fun i hi' => ?_) h3
      rw [Array.getElem?_setIfInBounds]
      by_cases e : k = i
      · subst e
        simp [hs, hi']
      · rw [if_neg e, hi i hi']
        congr 1
        rw [decide_eq_decide]
        omega
theorem lexF_ok {ops : Array Oper} (h : lexF ops = true) : Region.lexB .any ops = true := by
  simp only [lexF, Bool.and_eq_true] at h
  simp only [Region.lexB, Bool.and_eq_true]
  refine ⟨h.1, ?_⟩
  have := lexGo_ok ops ops.toList 0 (Array.replicate ops.size false) (fun j => by simp) (by simp) (by simp) (fun i hi => by simp [hi]) h.2
  simpa using this

/-- where several ways come together again: the state as data -/
def joinAt (Λ : Nat → Option Loop) (b : Code) : Option Pat := match regOf b with
  | none => none
  | some n => match Λ (n + 1000) with
    | some L => some L.pat
    | none => none
def joinK {ρ : Type} (p : Pat) (k : Exit → St → Option ρ) : Exit → St → Option (p.den ⊕ ρ)
  | .normal, σ => match p.dec σ with | some s => some (.inl s) | none => none
  | e, σ => match k e σ with | some r => some (.inr r) | none => none
def evA (E : Env) (Λ : Nat → Option Loop) : Code → (ρ : Type) → St → (Exit → St → Option ρ) → Option ρ
  | .skip, _, σ, k => k .normal σ
  | .region id ops draw, _, σ, k => bif draw then
      (bif ops.toList.all (quietOp E) then (bif lexF ops then evOpsG (evOpQ E) ops.toList ops.toList σ (k .normal) else none)
        else (bif Region.noSelect ops then evH E ops (ops.size + ops.size) (Array.replicate ops.size false) σ (k .normal) else none))
    else evOpsG (evOp E) ops.toList ops.toList σ fun σ' => closeAll E (opnNames σ'.blks) σ' fun σ2 => settleAll E id σ2 (k .normal)
  | .seq a b, ρ, σ, k => match joinAt Λ b with
    | none => evA E Λ a ρ σ (thenK (fun σ' => evA E Λ b ρ σ' k) k)
    | some p => match evA E Λ a (p.den ⊕ ρ) σ (joinK p k) with
      | none => none
      | some (.inl s) => evA E Λ b ρ (p.enc s) k
      | some (.inr r) => some r
  | .cond c a b, ρ, σ, k => match σ.eval c with
    | .c (.bool x) => bif x then evA E Λ a ρ σ k else evA E Λ b ρ σ k
    | _ => none
  | .block id b, ρ, σ, k => evA E Λ b ρ σ (inBlk id k)
  | .loop b, _, σ, k => match regOf b with
    | none => none
    | some n => match Λ n with
      | none => none
      | some L => match L.pat.dec σ with
        | none => none
        | some s => match L.run s with
          | none => none
          | some o => Outs.elim L.outs o k
  | .exit id, _, σ, k => k (.exit id) σ
  | .ret, _, σ, k => k .ret σ
  | _, _, _, _ => none
abbrev ev (E : Env) (Λ : Nat → Option Loop) (c : Code) (σ : St) (k : Exit → St → Option ρ) : Option ρ := evA E Λ c ρ σ k

/-! ### A function -/
def initA (j : Nat) : (p : PK × Ty) → p.2.den → A
  | (.val, t), x => t.toA x
  | (.io _, .slice _), _ => .c (.own (j * 64 + 63))
  | (.eat _, .slice _), _ => .c (.own (j * 64 + 62))
  | (.io d, .ptr a), _ => bif !d || a.scal then .c (.ptr (j * 64 + 63) 0) else .any
  | (_, _), _ => .any
def initB (j : Nat) : (p : PK × Ty) → p.2.den → List (Nat × Blk)
  | (.io d, .slice e), xs => [(j * 64 + 63, .row (d || e.scal) e xs)]
  | (.eat d, .slice e), xs => [(j * 64 + 62, .row (d || e.scal) e xs)]
  | (.io d, .ptr a), x => bif !d || a.scal then [(j * 64 + 63, .box (a.flat x []))] else []
  | _, _ => []
def initAs : (j : Nat) → (ps : List (PK × Ty)) → Sig.den ps → List A
  | _, [], _ => []
  | j, p :: ps, x => initA j p (Sig.hd p ps x) :: initAs (j + 1) ps (Sig.tl p ps x)
def initBs : (j : Nat) → (ps : List (PK × Ty)) → Sig.den ps → List (Nat × Blk)
  | _, [], _ => []
  | j, p :: ps, x => initB j p (Sig.hd p ps x) ++ initBs (j + 1) ps (Sig.tl p ps x)
def repA : Nat → List A
  | 0 => []
  | n + 1 => .tup [] :: repA n
def initSt (ps : List (PK × Ty)) (n : Nat) (x : Sig.den ps) : St :=
  St.of (initAs 0 ps x ++ repA (n - ps.length)) (initBs 0 ps x)

/-- what stands in a result's place -/
def resA (E : Env) (σ : St) : ResultVar → Option A
  | .tmp t => some (σ.get t)
  | .cell t ty => match loadA E σ ty (asCell (σ.get t)) with | some v => some v | none => none
def resAs (E : Env) (σ : St) : List ResultVar → Option (List A)
  | [] => some []
  | r :: rs => match resA E σ r, resAs E σ rs with | some x, some xs => some (x :: xs) | _, _ => none

def ownsOf : List Cell → List Nat
  | [] => []
  | .own n :: r => n :: ownsOf r
  | _ :: r => ownsOf r
/-- the names of the rows that results hand over -/
def ownNames : List (PK × Ty) → List A → List Nat
  | (.val, _) :: ps, _ :: xs => ownNames ps xs
  | _ :: ps, x :: xs => (match x with | .c (.own n) => [n] | .c (.sub n _ _) => [n] | .c (.ptr n _) => [n] | .agg cs => ownsOf cs | _ => []) ++ ownNames ps xs
  | _, _ => []

/-- what a block of a result, or of an argument, holds at the end -/
def readOwn (bs : List (Nat × Blk)) (d : Bool) : (t : Ty) → A → Option t.den
  | .slice e, x => match x with
    | .c .nil => some []
    | .c (.own n) => match look n bs with
      | some (.row d' e' xs) => bif (d == d' || e.scal) && (d' || !e'.scal) then Ty.castL? e' e xs else none
      | _ => none
    | .c (.sub n o l) => match look n bs with
      | some (.row d' e' xs) => bif (d == d' || e.scal) && (d' || !e'.scal) then Ty.castL? e' e (xs.take l) else none
      | _ => none
    | _ => none
  | .ptr a, x => match x with
    | .c (.ptr n 0) => match look n bs with
      | some (.box cs) => bif !d || a.scal then (match a.unflat [] cs with | some (y, []) => some y | _ => none) else none
      | _ => none
    | _ => none
  | .st a, x => bif a.scal then A.read [] (.st a) x else bif d then
      (match x with
      | .agg cs => (match unO bs a (cs.map OCell.c) with | some (y, ms, []) => bif nodupB ms then some y else none | _ => none)
      | _ => none) else none
  | t, x => bif t.scal then A.read [] t x else none

/-- results: rows that are handed over are named by one result alone; the rest is read, but not out of those rows nor out of what the arguments hand over -/
def readRes (bs bs' : List (Nat × Blk)) : (ps : List (PK × Ty)) → List A → Option (Sig.den ps)
  | [], [] => some ()
  | (.val, t) :: ps, x :: xs => match A.read bs' t x, readRes bs bs' ps xs with
    | some a, some b => some (Sig.mk (.val, t) ps a b)
    | _, _ => none
  | (.io d, t) :: ps, x :: xs => match readOwn bs d t x, readRes bs bs' ps xs with
    | some a, some b => some (Sig.mk (.io d, t) ps a b)
    | _, _ => none
  | _, _ => none

/-- the arguments that are handed back: their own names -/
def ioAs (j : Nat) : List (PK × Ty) → List A
  | [] => []
  | (.io _, .slice _) :: ps => .c (.own (j * 64 + 63)) :: ioAs (j + 1) ps
  | (.io _, .ptr _) :: ps => .c (.ptr (j * 64 + 63) 0) :: ioAs (j + 1) ps
  | (.io _, _) :: ps => .any :: ioAs (j + 1) ps
  | _ :: ps => ioAs (j + 1) ps
def parNames (j : Nat) : List (PK × Ty) → List Nat
  | [] => []
  | (.val, _) :: ps => parNames (j + 1) ps
  | (.io _, _) :: ps => (j * 64 + 63) :: parNames (j + 1) ps
  | (.eat _, _) :: ps => (j * 64 + 62) :: parNames (j + 1) ps

/-- rows that are cut short are cut at their ends -/
def subsOK : List (PK × Ty) → List A → Bool
  | (.io _, _) :: ps, .c (.sub _ o _) :: xs => decide (o = 0) && subsOK ps xs
  | _ :: ps, _ :: xs => subsOK ps xs
  | _, _ => true
def kfin (E : Env) (ps rs : List (PK × Ty)) (res : List ResultVar) : Exit → St → Option (Sig.den (Sig.ios ps ++ rs))
  | .normal, σ | .ret, σ => match resAs E σ res with
    | none => none
    | some xs => bif nodupB (ownNames (Sig.ios ps ++ rs) (ioAs 0 ps ++ xs)) && ((Sig.ios ps).isEmpty || (ownNames rs xs).all fun n => !E.par.contains n) && subsOK rs xs then
        readRes σ.blks (σ.blks.filter fun b => !(ownNames (Sig.ios ps ++ rs) (ioAs 0 ps ++ xs)).contains b.1 && !E.par.contains b.1) (Sig.ios ps ++ rs) (ioAs 0 ps ++ xs)
      else none
  | _, _ => none

def Fev (E : Env) (Λ : Nat → Option Loop) (ps rs : List (PK × Ty)) (fn : Func) (x : Sig.den ps) : Option (Sig.den (Sig.ios ps ++ rs)) :=
  match fn.body with
  | none => none
  | some c => ev E Λ c (initSt ps fn.ntmps x) (kfin E ps rs fn.results.toList)

/-- the body of a loop, by its first region -/
def bodyOf (n : Nat) : Code → Option Code
  | .seq a b => match bodyOf n a with | some c => some c | none => bodyOf n b
  | .cond _ a b => match bodyOf n a with | some c => some c | none => bodyOf n b
  | .block _ b => bodyOf n b
  | .loop b => match regOf b with
    | some m => bif m == n then some b else bodyOf n b
    | none => bodyOf n b
  | .scope b => bodyOf n b
  | _ => none
/-- one round of a loop of a function -/
def stepEv (E : Env) (Λ : Nat → Option Loop) (p : Pat) (os : List (Exit × Pat)) (fn : Func) (n : Nat) (s : p.den) : Option (p.den ⊕ Outs.den os) :=
  match fn.body with
  | none => none
  | some c => match bodyOf n c with
    | none => none
    | some b => ev E Λ b (p.enc s) (kstep p os)

end Go.Proofs.YtklfnbckoaphpaaGreatDoor
