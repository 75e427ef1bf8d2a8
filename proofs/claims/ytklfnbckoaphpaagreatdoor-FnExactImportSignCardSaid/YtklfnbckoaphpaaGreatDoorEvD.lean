/- What an abstract state says of the machine's memory: the relation, and what keeps it. No conditions. -/
import Derived.Test.YtklfnbckoaphpaaGreatDoorEvC
import Derived.Laws.AppendOwn
import Derived.Below
import Derived.Lib.ItoaNum
set_option linter.unusedVariables false
namespace Go.Proofs.YtklfnbckoaphpaaGreatDoor
open Go

/-! ### Small words -/
def All2 {α β : Type} (R : α → β → Prop) : List α → List β → Prop
  | [], [] => True
  | a :: l, b :: m => R a b ∧ All2 R l m
  | _, _ => False

theorem All2.length {α β : Type} {R : α → β → Prop} : ∀ {l : List α} {m : List β}, All2 R l m → l.length = m.length
  | [], [], _ => rfl
  | _ :: _, _ :: _, h => by simp [All2.length h.2]
theorem All2.mono {α β : Type} {R R' : α → β → Prop} (hR : ∀ a b, R a b → R' a b) : ∀ {l : List α} {m : List β}, All2 R l m → All2 R' l m
  | [], [], _ => trivial
  | _ :: _, _ :: _, h => ⟨hR _ _ h.1, All2.mono hR h.2⟩
theorem All2.get {α β : Type} {R : α → β → Prop} : ∀ {l : List α} {m : List β}, All2 R l m → ∀ (i : Nat) (a : α), l[i]? = some a → ∃ b, m[i]? = some b ∧ R a b
  | [], [], _, i, a, h => by simp at h
  | x :: l, y :: m, h, 0, a, e => by simp at e; subst e; exact ⟨y, rfl, h.1⟩
  | x :: l, y :: m, h, i + 1, a, e => by simpa using All2.get h.2 i a (by simpa using e)
theorem All2.append {α β : Type} {R : α → β → Prop} : ∀ {l : List α} {m : List β} {l' : List α} {m' : List β}, All2 R l m → All2 R l' m' → All2 R (l ++ l') (m ++ m')
  | [], [], _, _, _, h' => h'
  | _ :: _, _ :: _, _, _, h, h' => ⟨h.1, All2.append h.2 h'⟩
theorem All2.map_left {α β γ : Type} {R : α → β → Prop} {f : γ → α} : ∀ {l : List γ} {m : List β}, All2 (fun c b => R (f c) b) l m → All2 R (l.map f) m
  | [], [], _ => trivial
  | _ :: _, _ :: _, h => ⟨h.1, All2.map_left h.2⟩
/-- the cells us lie in block b from o on -/
def At (w : World) (b o : Nat) (us : List Value) : Prop := ∀ j u, us[j]? = some u → w.cell? ⟨b, o + j, none⟩ = some u

/-- what is in Z has stayed -/
def Agree (Z : Nat → Prop) (w w' : World) : Prop := w.heap.size ≤ w'.heap.size ∧ ∀ b, b < w.heap.size → Z b → w'.heap[b]? = w.heap[b]?
theorem Agree.refl (Z : Nat → Prop) (w : World) : Agree Z w w := ⟨Nat.le_refl _, fun _ _ _ => rfl⟩
theorem Agree.trans {Z : Nat → Prop} {a b c : World} (h : Agree Z a b) (k : Agree Z b c) : Agree Z a c :=
  ⟨Nat.le_trans h.1 k.1, fun i hi hz => (k.2 i (Nat.lt_of_lt_of_le hi h.1) hz).trans (h.2 i hi hz)⟩
theorem Agree.mono {Z Z' : Nat → Prop} {a b : World} (h : Agree Z' a b) (hz : ∀ i, i < a.heap.size → Z i → Z' i) : Agree Z a b := ⟨h.1, fun i hi z => h.2 i hi (hz i hi z)⟩

/-- how many of the first blocks (package-level variables) stay as they are, and what some of them hold: set for one program -/
def nGlob : Nat := 6
def tabList : List (String × Array Value) := [("internal/strconv.uint64pow10", (Lib.pow10Tab.map fun z => Value.int .u64 z).toArray)]
def intList : List String := ["internal/bytealg.MaxLen"]
def ifcList : List String := ["strconv.ErrSyntax", "strconv.ErrRange"]
def Tabs (P : Program) (w : World) : Prop := (∀ q ∈ tabList, (∀ g, P.globalNamed q.1 = some g → g < nGlob) ∧ w.var? P q.1 = some q.2) ∧ nGlob ≤ w.heap.size ∧ (∀ q ∈ intList, (∀ g, P.globalNamed q = some g → g < nGlob) ∧ ∃ m, w.var? P q = some #[.int .i64 m]) ∧
  ∀ q ∈ ifcList, (∀ g, P.globalNamed q = some g → g < nGlob) ∧ ∃ tp p, w.var? P q = some #[.iface tp p]
theorem Tabs.keep {P : Program} {w w' : World} (h : Tabs P w) (hs : w.heap.size ≤ w'.heap.size) (hb : ∀ b, b < nGlob → w'.heap[b]? = w.heap[b]?) : Tabs P w' := by
  have key : ∀ q : String, (∀ g, P.globalNamed q = some g → g < nGlob) → w'.var? P q = w.var? P q := by
    intro q h1
    unfold World.var?
    cases hg : P.globalNamed q with
    | none => rfl
    | some g =>
      simp only [Option.bind_some]
      rw [hb g (h1 g hg)]
  exact ⟨fun q hq => ⟨(h.1 q hq).1, by rw [key q.1 (h.1 q hq).1]; exact (h.1 q hq).2⟩, Nat.le_trans h.2.1 hs, fun q hq => ⟨(h.2.2.1 q hq).1, by rw [key q (h.2.2.1 q hq).1]; exact (h.2.2.1 q hq).2⟩, fun q hq => ⟨(h.2.2.2 q hq).1, by rw [key q (h.2.2.2 q hq).1]; exact (h.2.2.2 q hq).2⟩⟩

/-- nothing that was there has turned, but for the blocks of X -/
structure Fr (X : Nat → Prop) (w w' : World) : Prop where
  os : w'.os = w.os
  tape : w'.tape = w.tape
  output : w'.output = w.output
  size : w.heap.size ≤ w'.heap.size
  block : ∀ b, b < w.heap.size → ¬ X b → w'.heap[b]? = w.heap[b]?
  glob : ∀ b, b < nGlob → b < w.heap.size → w'.heap[b]? = w.heap[b]?
abbrev NoB : Nat → Prop := fun _ => False
theorem Fr.refl (X : Nat → Prop) (w : World) : Fr X w w := ⟨rfl, rfl, rfl, Nat.le_refl _, fun _ _ _ => rfl, fun _ _ _ => rfl⟩
theorem Fr.tabs {P : Program} {X : Nat → Prop} {a b : World} (h : Fr X a b) (ht : Tabs P a) : Tabs P b := ht.keep h.size fun i hi => h.glob i hi (Nat.lt_of_lt_of_le hi ht.2.1)
theorem Fr.trans {X Y : Nat → Prop} {a b c : World} (h : Fr X a b) (k : Fr Y b c) (hy : ∀ i, i < a.heap.size → Y i → X i) : Fr X a c :=
  ⟨k.os.trans h.os, k.tape.trans h.tape, k.output.trans h.output, Nat.le_trans h.size k.size, fun i hi hx => (k.block i (Nat.lt_of_lt_of_le hi h.size) (fun y => hx (hy i hi y))).trans (h.block i hi hx), fun i hi hs => (k.glob i hi (Nat.lt_of_lt_of_le hs h.size)).trans (h.glob i hi hs)⟩
theorem Fr.agree {X : Nat → Prop} {a b : World} (h : Fr X a b) (Z : Nat → Prop) (hz : ∀ i, i < a.heap.size → Z i → ¬ X i) : Agree Z a b := ⟨h.size, fun i hi z => h.block i hi (hz i hi z)⟩
theorem Fr.below {w w' : World} (h : Fr NoB w w') : Go.RowKit.Below w.heap.size w w' := ⟨h.os, h.tape, h.output, h.size, fun k hk => h.block k hk (fun f => f)⟩

theorem At.agree {Z : Nat → Prop} {w w' : World} {b o : Nat} {us : List Value} (h : At w b o us) (hz : Z b) (ha : Agree Z w w') : At w' b o us := by
  intro j u hj
  have h1 := h j u hj
  have hb := World.block_lt_of_cell? w _ h1
  rw [World.cell?_of_block (w := w) (ha.2 b hb hz)]
  exact h1

/-! ### Values -/
def Boxed : Ty → Value → List Value → Prop
  | .st _, v, cs => v = .agg cs.toArray
  | _, v, cs => cs = [v]
def ArgCells : Ty → List Value → List Value → Prop
  | .pair a b, vs, cs => ∃ v r c1 c2, vs = v :: r ∧ cs = c1 ++ c2 ∧ c1.length = a.cells ∧ Boxed a v c1 ∧ ArgCells b r c2
  | .unit, vs, cs => vs = [] ∧ cs = []
  | a, vs, cs => ∃ v, vs = [v] ∧ Boxed a v cs

def Enters (P : Program) (f : FuncId) : Prop := ∃ fn, P.funcs[f]? = some fn ∧ (fn.name == "runtime.NumGoroutine") = false ∧ fn.body.isNone = false

def CallsV (P : Program) (v : Value) (vals : List Value) (w : World) (R : Ending → World → Prop) : Prop :=
  ∃ f caps, v = .func (.func f) #[] caps ∧ Enters P f ∧ Calls P f (vals.toArray ++ caps) w R

/-- the value of data without memory -/
def Ty.vals : (t : Ty) → t.den → List Value
  | .int k, n => [.int k n]
  | .bool, b => [.bool b]
  | .str, s => [.string s]
  | .st a, x => a.vals x
  | .pair a b, x => a.vals x.1 ++ b.vals x.2
  | _, _ => []
def Ty.valV : (t : Ty) → t.den → Value
  | .st a, x => .agg (a.vals x).toArray
  | t, x => (t.vals x).headD undef

/-- the entries of a map, in the order in which they came -/
def MapRep (k v : Ty) (es : List (k.den × v.den)) (ents : List MapEntry) : Prop := All2 (fun p e => e.key = k.valV p.1 ∧ e.val = v.valV p.2) es ents

/-- cells that read as data, out of blocks of Z, which nobody writes -/
def RdC (P : Program) : (t : Ty) → World → (Nat → Prop) → List Value → t.den → Prop
  | .int k, _, _, vs, n => vs = [.int k n]
  | .bool, _, _, vs, b => vs = [.bool b]
  | .str, _, _, vs, s => vs = [.string s]
  | .unit, _, _, vs, _ => vs = []
  | .st a, w, Z, vs, x => RdC P a w Z vs x
  | .pair a b, w, Z, vs, x => ∃ v1 v2, vs = v1 ++ v2 ∧ RdC P a w Z v1 x.1 ∧ RdC P b w Z v2 x.2
  | .slice e, w, Z, vs, xs => ∃ A cap, vs = [.slice A xs.length cap] ∧ xs.length ≤ cap ∧
      (0 < xs.length → ∃ b o, A = some ⟨b, o, none⟩ ∧ b < w.heap.size ∧ Z b ∧ ∀ i (h : i < xs.length), ∃ us, us.length = e.cells ∧ RdC P e w Z us xs[i] ∧ At w b (o + i * e.cells) us)
  | .ptr a, w, Z, vs, x => ∃ b o us, vs = [.pointer (some ⟨b, o, none⟩)] ∧ b < w.heap.size ∧ Z b ∧ us.length = a.cells ∧ RdC P a w Z us x ∧ At w b o us
  | .fn a r, w, Z, vs, φ => ∃ v, vs = [v] ∧ v.oneCell' = true ∧ ∀ w', Agree Z w w' → Tabs P w' → ∀ vals cs x y, ArgCells a vals cs → RdC P a w' (fun _ => True) cs x → φ x = some y →
      CallsV P v vals w' (fun e w'' => e = .returned (r.valV y) ∧ Fr NoB w' w'')
  | .map k v, w, Z, vs, es => ∃ b ents clock, vs = [.map (some b)] ∧ b < w.heap.size ∧ Z b ∧ w.heap[b]? = some (.map ents clock) ∧ MapRep k v es ents.toList

def RdV (P : Program) (t : Ty) (w : World) (Z : Nat → Prop) (v : Value) (x : t.den) : Prop := ∃ cs, Boxed t v cs ∧ RdC P t w Z cs x

theorem RdC.agree {P : Program} {w w' : World} {Z Z' : Nat → Prop} (ha : Agree Z w w') (hz : ∀ b, b < w.heap.size → Z b → Z' b) : ∀ (t : Ty) (vs : List Value) (x : t.den), RdC P t w Z vs x → RdC P t w' Z' vs x
  | .int _, _, _, h => h
  | .bool, _, _, h => h
  | .str, _, _, h => h
  | .unit, _, _, h => h
  | .st a, vs, x, h => RdC.agree ha hz a vs x h
  | .pair a b, vs, x, h => by
    obtain ⟨v1, v2, e, h1, h2⟩ := h
    exact ⟨v1, v2, e, RdC.agree ha hz a v1 x.1 h1, RdC.agree ha hz b v2 x.2 h2⟩
  | .slice e, vs, xs, h => by
    obtain ⟨A, cap, e1, h1, h2⟩ := h
    refine ⟨A, cap, e1, h1, fun hp => ?_⟩
    obtain ⟨b, o, e2, hb, hzb, h3⟩ := h2 hp
    refine ⟨b, o, e2, Nat.lt_of_lt_of_le hb ha.1, hz b hb hzb, fun i hi => ?_⟩
    obtain ⟨us, hl, hr, hat⟩ := h3 i hi
    exact ⟨us, hl, RdC.agree ha hz e us _ hr, hat.agree hzb ha⟩
  | .ptr a, vs, x, h => by
    obtain ⟨b, o, us, e1, hb, hzb, hl, hr, hat⟩ := h
    exact ⟨b, o, us, e1, Nat.lt_of_lt_of_le hb ha.1, hz b hb hzb, hl, RdC.agree ha hz a us x hr, hat.agree hzb ha⟩
  | .fn a r, vs, φ, h => by
    obtain ⟨v, e, h1, h2⟩ := h
    exact ⟨v, e, h1, fun w'' hw'' => h2 w'' ⟨Nat.le_trans ha.1 hw''.1, fun b hb z => (hw''.2 b (Nat.lt_of_lt_of_le hb ha.1) (hz b hb z)).trans (ha.2 b hb z)⟩⟩
  | .map k v, vs, es, h => by
    obtain ⟨b, ents, clock, e, hb, hzb, hh, hr⟩ := h
    exact ⟨b, ents, clock, e, Nat.lt_of_lt_of_le hb ha.1, hz b hb hzb, (ha.2 b hb hzb).trans hh, hr⟩

theorem RdC.mono {P : Program} {w : World} {Z Z' : Nat → Prop} (hz : ∀ b, b < w.heap.size → Z b → Z' b) {t : Ty} {vs : List Value} {x : t.den} (h : RdC P t w Z vs x) : RdC P t w Z' vs x :=
  RdC.agree (Agree.refl _ _) hz t vs x h
theorem RdV.agree {P : Program} {w w' : World} {Z Z' : Nat → Prop} (ha : Agree Z w w') (hz : ∀ b, b < w.heap.size → Z b → Z' b) {t : Ty} {v : Value} {x : t.den} (h : RdV P t w Z v x) : RdV P t w' Z' v x :=
  let ⟨cs, h1, h2⟩ := h
  ⟨cs, h1, RdC.agree ha hz t cs x h2⟩

/-- the cells of data are as many as their type says, each of one cell -/
theorem RdC.cells {P : Program} {w : World} {Z : Nat → Prop} : ∀ (t : Ty) (vs : List Value) (x : t.den), RdC P t w Z vs x → vs.length = t.cells ∧ ∀ v ∈ vs, v.oneCell' = true
  | .int _, _, _, h => by subst h; simp [Ty.cells, Value.oneCell']
  | .bool, _, _, h => by subst h; simp [Ty.cells, Value.oneCell']
  | .str, _, _, h => by subst h; simp [Ty.cells, Value.oneCell']
  | .unit, _, _, h => by subst h; simp [Ty.cells]
  | .st a, vs, x, h => RdC.cells a vs x h
  | .pair a b, vs, x, h => by
    obtain ⟨v1, v2, rfl, h1, h2⟩ := h
    have c1 := RdC.cells a v1 x.1 h1
    have c2 := RdC.cells b v2 x.2 h2
    refine ⟨by simp [Ty.cells, c1.1, c2.1], fun v hv => ?_⟩
    rcases List.mem_append.1 hv with hv | hv
    · exact c1.2 v hv
    · exact c2.2 v hv
  | .slice e, vs, xs, h => by
    obtain ⟨A, cap, rfl, _⟩ := h
    simp [Ty.cells, Value.oneCell']
  | .ptr a, vs, x, h => by
    obtain ⟨b, o, us, rfl, _⟩ := h
    simp [Ty.cells, Value.oneCell']
  | .fn a r, vs, φ, h => by
    obtain ⟨v, rfl, h1, _⟩ := h
    simp [Ty.cells, h1]
  | .map k v, vs, es, h => by
    obtain ⟨b, ents, clock, rfl, _⟩ := h
    simp [Ty.cells, Value.oneCell']

theorem Boxed.one {t : Ty} {v : Value} {cs : List Value} (h : Boxed t v cs) (ht : ∀ a, t ≠ .st a) : cs = [v] := by
  cases t <;> first | exact h | exact absurd rfl (ht _)

/-- data without memory are their value -/
theorem RdC.scal {P : Program} {w : World} {Z : Nat → Prop} : ∀ (t : Ty), t.scal = true → ∀ (vs : List Value) (x : t.den), RdC P t w Z vs x ↔ vs = t.vals x
  | .int _, _, _, _ => Iff.rfl
  | .bool, _, _, _ => Iff.rfl
  | .str, _, _, _ => Iff.rfl
  | .unit, _, _, _ => Iff.rfl
  | .st a, h, vs, x => RdC.scal a h vs x
  | .pair a b, h, vs, x => by
    have h' : a.scal = true ∧ b.scal = true := by simpa [Ty.scal] using h
    constructor
    · rintro ⟨v1, v2, rfl, h1, h2⟩
      rw [(RdC.scal a h'.1 v1 x.1).1 h1, (RdC.scal b h'.2 v2 x.2).1 h2]
      rfl
    · intro e
      exact ⟨a.vals x.1, b.vals x.2, e, (RdC.scal a h'.1 _ x.1).2 rfl, (RdC.scal b h'.2 _ x.2).2 rfl⟩
  | .slice _, h, _, _ => by simp [Ty.scal] at h
  | .ptr _, h, _, _ => by simp [Ty.scal] at h
  | .fn _ _, h, _, _ => by simp [Ty.scal] at h
  | .map _ _, h, _, _ => by simp [Ty.scal] at h

/-! ### Rows that belong to someone -/
/-- a row that a conversion of a string has made bears the model's mark: its own flag -/
def mkd (d : Bool) (t : Ty) : Bool := bif d then false else t.scal
def mkOf (mk : Bool) (cur : Array Value) : Nat × Nat := bif mk then (cur.size, cur.size + 1) else (0, 0)
theorem mkd_scal (t : Ty) : mkd t.scal t = false := by unfold mkd; cases t.scal <;> rfl
theorem mkd_or (d : Bool) (t : Ty) : mkd (d || t.scal) t = false := by unfold mkd; cases d <;> cases t.scal <;> rfl
theorem mkd_of {d : Bool} {t : Ty} (h : (d || !t.scal) = true) : mkd d t = false := by unfold mkd; cases d <;> cases ht : t.scal <;> simp_all
def RowOwn {α : Type} (mk : Bool) (Elt : Nat → (Nat → Prop) → List Value → α → Prop) (size : Nat) (w : World) (F : Nat → Prop) (v : Value) (xs : List α) : Prop :=
  ∃ A cap, v = .slice A xs.length cap ∧ xs.length ≤ cap ∧
    (cap = 0 ∨ ∃ g cur ety, A = some ⟨g, 0, none⟩ ∧ F g ∧ w.heap[g]? = some (.cells cur ety (mkOf mk cur)) ∧ cap * size ≤ cur.size ∧
      ∃ Fs : Nat → Nat → Prop, (∀ i b, Fs i b → F b ∧ b ≠ g) ∧ (∀ i j, i ≠ j → ∀ b, Fs i b → ¬ Fs j b) ∧
        ∀ i (h : i < xs.length), Elt i (Fs i) ((cur.toList.drop (i * size)).take size) xs[i])

def OwC (P : Program) (deep : Bool) : (t : Ty) → World → (Nat → Prop) → (Nat → Prop) → List Value → t.den → Prop
  | .pair a b, w, Z, F, vs, x => ∃ v1 v2, ∃ F1 F2 : Nat → Prop, vs = v1 ++ v2 ∧ (∀ n, F1 n → F n) ∧ (∀ n, F2 n → F n) ∧ (∀ n, F1 n → ¬ F2 n) ∧ OwC P deep a w Z F1 v1 x.1 ∧ OwC P deep b w Z F2 v2 x.2
  | .st a, w, Z, F, vs, x => OwC P deep a w Z F vs x
  | .slice e, w, Z, F, vs, xs => if deep then ∃ v, vs = [v] ∧ RowOwn false (fun _ F' us y => OwC P deep e w Z F' us y) e.cells w F v xs else RdC P (.slice e) w Z vs xs
  | .int k, w, Z, F, vs, x => RdC P (.int k) w Z vs x
  | .bool, w, Z, F, vs, x => RdC P .bool w Z vs x
  | .str, w, Z, F, vs, x => RdC P .str w Z vs x
  | .unit, w, Z, F, vs, x => RdC P .unit w Z vs x
  | .ptr a, w, Z, F, vs, x => RdC P (.ptr a) w Z vs x
  | .fn a r, w, Z, F, vs, x => RdC P (.fn a r) w Z vs x
  | .map k v, w, Z, F, vs, x => RdC P (.map k v) w Z vs x

theorem RowOwn.map {α : Type} {mk : Bool} {Elt Elt' : Nat → (Nat → Prop) → List Value → α → Prop} {size : Nat} {w w' : World} {F F' : Nat → Prop} {v : Value} {xs : List α}
    (h : RowOwn mk Elt size w F v xs) (hF : ∀ b, F b → F' b) (hh : ∀ g, F g → w.heap[g]?.isSome → w'.heap[g]? = w.heap[g]?)
    (he : ∀ (i : Nat) (G : Nat → Prop) us x, (∀ b, G b → F b) → Elt i G us x → Elt' i G us x) : RowOwn mk Elt' size w' F' v xs := by
  obtain ⟨A, cap, e, hl, h⟩ := h
  refine ⟨A, cap, e, hl, ?_⟩
  rcases h with h | ⟨g, cur, ety, eA, hg, hh1, hs, Fs, h1, h2, h3⟩
  · exact .inl h
  · exact .inr ⟨g, cur, ety, eA, hF g hg, (hh g hg (by simp [hh1])).trans hh1, hs, Fs, fun i b hb => ⟨hF b (h1 i b hb).1, (h1 i b hb).2⟩, h2, fun i hi => he i _ _ _ (fun b hb => (h1 i b hb).1) (h3 i hi)⟩

theorem OwC.agree {P : Program} {dp : Bool} {w w' : World} {Z Z' : Nat → Prop} (hz : ∀ b, b < w.heap.size → Z b → Z' b) (ha : Agree Z w w') : ∀ (t : Ty) (F F' : Nat → Prop) (vs : List Value) (x : t.den),
    (∀ b, F b → F' b) → Agree F w w' → OwC P dp t w Z F vs x → OwC P dp t w' Z' F' vs x
  | .pair a b, F, F', vs, x, hF, hf, h => by
    obtain ⟨v1, v2, F1, F2, e, s1, s2, s3, h1, h2⟩ := h
    exact ⟨v1, v2, F1, F2, e, fun n hn => hF n (s1 n hn), fun n hn => hF n (s2 n hn), s3, OwC.agree hz ha a F1 F1 v1 x.1 (fun _ h => h) (hf.mono fun i _ hi => s1 i hi) h1,
      OwC.agree hz ha b F2 F2 v2 x.2 (fun _ h => h) (hf.mono fun i _ hi => s2 i hi) h2⟩
  | .st a, F, F', vs, x, hF, hf, h => OwC.agree hz ha a F F' vs x hF hf h
  | .slice e, F, F', vs, xs, hF, hf, h => by
    cases dp with
    | false => exact RdC.agree ha hz (.slice e) vs xs h
    | true =>
      obtain ⟨v, e1, h⟩ := h
      refine ⟨v, e1, h.map hF (fun g hg hs => ?_) fun _ G us y hG hy => OwC.agree hz ha e G G us y (fun _ h => h) (hf.mono fun i _ hi => hG i hi) hy⟩
      have : g < w.heap.size := by
        rcases Nat.lt_or_ge g w.heap.size with h' | h'
        · exact h'
        · rw [Array.getElem?_eq_none h'] at hs; simp at hs
      exact hf.2 g this hg
  | .int _, F, F', vs, x, hF, hf, h => h
  | .bool, F, F', vs, x, hF, hf, h => h
  | .str, F, F', vs, x, hF, hf, h => h
  | .unit, F, F', vs, x, hF, hf, h => h
  | .ptr a, F, F', vs, x, hF, hf, h => RdC.agree ha hz (.ptr a) vs x h
  | .fn a r, F, F', vs, x, hF, hf, h => RdC.agree ha hz (.fn a r) vs x h
  | .map k v, F, F', vs, x, hF, hf, h => RdC.agree ha hz (.map k v) vs x h

theorem OwC.scal {P : Program} {dp : Bool} {w : World} {Z F : Nat → Prop} : ∀ (t : Ty), t.scal = true → ∀ (vs : List Value) (x : t.den), OwC P dp t w Z F vs x ↔ vs = t.vals x
  | .int _, _, _, _ => Iff.rfl
  | .bool, _, _, _ => Iff.rfl
  | .str, _, _, _ => Iff.rfl
  | .unit, _, _, _ => Iff.rfl
  | .st a, h, vs, x => OwC.scal a h vs x
  | .pair a b, h, vs, x => by
    have h' : a.scal = true ∧ b.scal = true := by simpa [Ty.scal] using h
    constructor
    · rintro ⟨v1, v2, F1, F2, rfl, _, _, _, h1, h2⟩
      rw [(OwC.scal a h'.1 v1 x.1).1 h1, (OwC.scal b h'.2 v2 x.2).1 h2]
      rfl
    · intro e
      exact ⟨a.vals x.1, b.vals x.2, NoB, NoB, e, fun _ h => h.elim, fun _ h => h.elim, fun _ h => h.elim, (OwC.scal a h'.1 _ x.1).2 rfl, (OwC.scal b h'.2 _ x.2).2 rfl⟩
  | .slice _, h, _, _ => by simp [Ty.scal] at h
  | .ptr _, h, _, _ => by simp [Ty.scal] at h
  | .fn _ _, h, _, _ => by simp [Ty.scal] at h
  | .map _ _, h, _, _ => by simp [Ty.scal] at h

theorem take_drop_at (cur : Array Value) (n k : Nat) (w : World) (g : Nat) (ety : TypeId) (fz : Nat × Nat) (hg : w.heap[g]? = some (.cells cur ety fz)) : At w g n ((cur.toList.drop n).take k) := by
  intro j u hj
  rw [cell_of_row w g (n + j) cur ety fz hg]
  rw [List.getElem?_take] at hj
  split at hj
  · simpa using hj
  · cases hj

/-- what is owned can be read -/
theorem OwC.read {P : Program} {dp : Bool} {w : World} {Z Z' : Nat → Prop} (hz : ∀ b, b < w.heap.size → Z b → Z' b) : ∀ (t : Ty) (F : Nat → Prop) (vs : List Value) (x : t.den), (∀ b, b < w.heap.size → F b → Z' b) → OwC P dp t w Z F vs x → RdC P t w Z' vs x
  | .pair a b, F, vs, x, hF, h => by
    obtain ⟨v1, v2, F1, F2, e, s1, s2, s3, h1, h2⟩ := h
    exact ⟨v1, v2, e, OwC.read hz a F1 v1 x.1 (fun n hn h => hF n hn (s1 n h)) h1, OwC.read hz b F2 v2 x.2 (fun n hn h => hF n hn (s2 n h)) h2⟩
  | .st a, F, vs, x, hF, h => OwC.read hz a F vs x hF h
  | .slice e, F, vs, xs, hF, h => by
    cases dp with
    | false => exact RdC.mono hz h
    | true =>
      obtain ⟨v, e1, A, cap, rfl, hl, h⟩ := h
      refine ⟨A, cap, e1, hl, fun hp => ?_⟩
      rcases h with h | ⟨g, cur, ety, eA, hg, hh1, hs, Fs, h1, h2, h3⟩
      · omega
      · have hlt : g < w.heap.size := (Array.getElem?_eq_some_iff.1 hh1).1
        refine ⟨g, 0, eA, hlt, hF g hlt hg, fun i hi => ⟨_, ?_, OwC.read hz e (Fs i) _ _ (fun n hn h => hF n hn (h1 i n h).1) (h3 i hi), ?_⟩⟩
        · exact (RdC.cells e _ _ (OwC.read (Z' := fun _ => True) (fun _ _ _ => trivial) e (Fs i) _ _ (fun _ _ _ => trivial) (h3 i hi))).1
        · rw [Nat.zero_add]; exact take_drop_at cur _ _ w g ety _ hh1
  | .int _, F, vs, x, hF, h => h
  | .bool, F, vs, x, hF, h => h
  | .str, F, vs, x, hF, h => h
  | .unit, F, vs, x, hF, h => h
  | .ptr a, F, vs, x, hF, h => RdC.mono hz h
  | .fn a r, F, vs, x, hF, h => RdC.mono hz h
  | .map k v, F, vs, x, hF, h => RdC.mono hz h

abbrev RowOf (P : Program) (mk dp : Bool) (e : Ty) (w : World) (Z F : Nat → Prop) (v : Value) (xs : List e.den) : Prop := RowOwn mk (fun _ F' us y => OwC P dp e w Z F' us y) e.cells w F v xs

theorem RowOf.read {P : Program} {mk dp : Bool} {e : Ty} {w : World} {Z Z' F : Nat → Prop} {v : Value} {xs : List e.den} (h : RowOf P mk dp e w Z F v xs) (hz : ∀ b, b < w.heap.size → Z b → Z' b) (hF : ∀ b, b < w.heap.size → F b → Z' b) : RdC P (.slice e) w Z' [v] xs := by
  obtain ⟨A, cap, rfl, hl, h⟩ := h
  refine ⟨A, cap, rfl, hl, fun hp => ?_⟩
  rcases h with h | ⟨g, cur, ety, eA, hg, hh1, hs, Fs, h1, h2, h3⟩
  · omega
  · have hlt : g < w.heap.size := (Array.getElem?_eq_some_iff.1 hh1).1
    refine ⟨g, 0, eA, hlt, hF g hlt hg, fun i hi => ⟨_, ?_, OwC.read hz e (Fs i) _ _ (fun n hn h => hF n hn (h1 i n h).1) (h3 i hi), ?_⟩⟩
    · exact (RdC.cells e _ _ (OwC.read (Z' := fun _ => True) (fun _ _ _ => trivial) e (Fs i) _ _ (fun _ _ _ => trivial) (h3 i hi))).1
    · rw [Nat.zero_add]; exact take_drop_at cur _ _ w g ety _ hh1

theorem RowOf.agree {P : Program} {mk dp : Bool} {e : Ty} {w w' : World} {Z Z' F F' : Nat → Prop} {v : Value} {xs : List e.den} (h : RowOf P mk dp e w Z F v xs) (hz : ∀ b, b < w.heap.size → Z b → Z' b) (ha : Agree Z w w') (hF : ∀ b, F b → F' b) (hf : Agree F w w') : RowOf P mk dp e w' Z' F' v xs := by
  refine RowOwn.map h hF (fun g hg hs => ?_) fun _ G us y hG hy => OwC.agree hz ha e G G us y (fun _ h => h) (hf.mono fun i _ hi => hG i hi) hy
  have : g < w.heap.size := by
    rcases Nat.lt_or_ge g w.heap.size with h' | h'
    · exact h'
    · rw [Array.getElem?_eq_none h'] at hs; simp at hs
  exact hf.2 g this hg

/-- a value that is handed over: a row, a variable behind a pointer, or a value all of whose rows are -/
def OwTop (P : Program) (dp : Bool) : (t : Ty) → World → (Nat → Prop) → (Nat → Prop) → Value → t.den → Prop
  | .slice e, w, Z, F, v, xs => RowOf P false dp e w Z F v xs
  | .ptr a, w, Z, F, v, x => ∃ g cs ety, ∃ F' : Nat → Prop, v = .pointer (some ⟨g, 0, none⟩) ∧ F g ∧ w.heap[g]? = some (.cells cs ety (0, 0)) ∧ (∀ b, F' b → F b ∧ b ≠ g) ∧ OwC P dp a w Z F' cs.toList x
  | .map k t, w, Z, F, v, es => ∃ g ents clock, v = .map (some g) ∧ F g ∧ w.heap[g]? = some (.map ents clock) ∧ MapRep k t es ents.toList
  | t, w, Z, F, v, x => ∃ cs, Boxed t v cs ∧ OwC P dp t w Z F cs x

theorem OwTop.agree {P : Program} {dp : Bool} {w w' : World} {Z Z' F F' : Nat → Prop} (hz : ∀ b, b < w.heap.size → Z b → Z' b) (ha : Agree Z w w') (hF : ∀ b, F b → F' b) (hf : Agree F w w') {t : Ty} {v : Value} {x : t.den} (h : OwTop P dp t w Z F v x) : OwTop P dp t w' Z' F' v x := by
  cases t with
  | slice e => exact RowOf.agree h hz ha hF hf
  | ptr a =>
    obtain ⟨g, cs, ety, F1, e, hg, hh, h1, h2⟩ := h
    have hlt : g < w.heap.size := (Array.getElem?_eq_some_iff.1 hh).1
    exact ⟨g, cs, ety, F1, e, hF g hg, (hf.2 g hlt hg).trans hh, fun b hb => ⟨hF b (h1 b hb).1, (h1 b hb).2⟩, OwC.agree hz ha a F1 F1 _ x (fun _ h => h) (hf.mono fun i _ hi => (h1 i hi).1) h2⟩
  | int k => obtain ⟨cs, h1, h2⟩ := h; exact ⟨cs, h1, OwC.agree hz ha _ F F' _ _ hF hf h2⟩
  | bool => obtain ⟨cs, h1, h2⟩ := h; exact ⟨cs, h1, OwC.agree hz ha _ F F' _ _ hF hf h2⟩
  | str => obtain ⟨cs, h1, h2⟩ := h; exact ⟨cs, h1, OwC.agree hz ha _ F F' _ _ hF hf h2⟩
  | unit => obtain ⟨cs, h1, h2⟩ := h; exact ⟨cs, h1, OwC.agree hz ha _ F F' _ _ hF hf h2⟩
  | st a => obtain ⟨cs, h1, h2⟩ := h; exact ⟨cs, h1, OwC.agree hz ha (.st a) F F' _ _ hF hf h2⟩
  | pair a b => obtain ⟨cs, h1, h2⟩ := h; exact ⟨cs, h1, OwC.agree hz ha (.pair a b) F F' _ _ hF hf h2⟩
  | fn a r => obtain ⟨cs, h1, h2⟩ := h; exact ⟨cs, h1, OwC.agree hz ha (.fn a r) F F' _ _ hF hf h2⟩
  | map k v =>
    obtain ⟨g, ents, clock, e, hg, hh, hr⟩ := h
    exact ⟨g, ents, clock, e, hF g hg, (hf.2 g (Array.getElem?_eq_some_iff.1 hh).1 hg).trans hh, hr⟩

/-! ### Contracts -/
/-- values that hold data, each by its kind; what is handed over is apart -/
def Holds (P : Program) (w : World) (Z : Nat → Prop) : (F : Nat → Prop) → (ps : List (PK × Ty)) → List Value → Sig.den ps → Prop
  | F, [], vs, _ => vs = []
  | F, (.val, t) :: ps, vs, x => ∃ v r, vs = v :: r ∧ RdV P t w Z v (Sig.hd (.val, t) ps x) ∧ Holds P w Z F ps r (Sig.tl (.val, t) ps x)
  | F, (.io d, t) :: ps, vs, x => ∃ v r, ∃ F1 F2 : Nat → Prop, vs = v :: r ∧ (∀ b, F1 b → F b) ∧ (∀ b, F2 b → F b) ∧ (∀ b, F1 b → ¬ F2 b) ∧ OwTop P d t w Z F1 v (Sig.hd (.io d, t) ps x) ∧ Holds P w Z F2 ps r (Sig.tl (.io d, t) ps x)
  | F, (.eat d, t) :: ps, vs, x => ∃ v r, ∃ F1 F2 : Nat → Prop, vs = v :: r ∧ (∀ b, F1 b → F b) ∧ (∀ b, F2 b → F b) ∧ (∀ b, F1 b → ¬ F2 b) ∧ OwTop P d t w Z F1 v (Sig.hd (.eat d, t) ps x) ∧ Holds P w Z F2 ps r (Sig.tl (.eat d, t) ps x)

def Tupled : List Value → Value → Prop
  | [x], v => v = x
  | xs, v => v = .tuple xs.toArray

/-- the values of the arguments that are handed back -/
def ioVals : List (PK × Ty) → List Value → List Value
  | (.io _, _) :: ps, v :: vs => v :: ioVals ps vs
  | _ :: ps, _ :: vs => ioVals ps vs
  | _, _ => []

/-- the two parts of what a contract gives -/
def Sig.fst : (a b : List (PK × Ty)) → Sig.den (a ++ b) → Sig.den a
  | [], _, _ => ()
  | p :: a, b, y => Sig.mk p a (Sig.hd p (a ++ b) y) (Sig.fst a b (Sig.tl p (a ++ b) y))
def Sig.snd : (a b : List (PK × Ty)) → Sig.den (a ++ b) → Sig.den b
  | [], _, y => y
  | p :: a, b, y => Sig.snd a b (Sig.tl p (a ++ b) y)

/-- a function keeps its contract: F: what its results own; G: what it hands back of its arguments owns -/
structure ConOK (P : Program) (f : FuncId) (c : Con) : Prop where
  enters : Enters P f
  calls : ∀ (w : World) (Z X : Nat → Prop) (vals : List Value) (x : Sig.den c.ps) (y : Sig.den (Sig.ios c.ps ++ c.rs)), c.F x = some y → (∀ b, X b → ¬ Z b) → (∀ b, X b → b < w.heap.size) → Holds P w Z X c.ps vals x → Tabs P w → (∀ b, X b → nGlob ≤ b) →
    Calls P f vals.toArray w fun e w' => ∃ v vs, ∃ F G : Nat → Prop, e = .returned v ∧ Tupled vs v ∧ vs.length = c.rs.length ∧ Fr X w w' ∧
      (∀ b, F b → (w.heap.size ≤ b ∨ (X b ∧ Sig.ios c.ps = [])) ∧ b < w'.heap.size) ∧ (∀ b, G b → (X b ∨ w.heap.size ≤ b) ∧ b < w'.heap.size) ∧ (∀ b, F b → ¬ G b) ∧
      Holds P w' (fun b => Z b ∨ (w.heap.size ≤ b ∧ ¬ F b ∧ ¬ G b)) G (Sig.ios c.ps) (ioVals c.ps vals) (Sig.fst _ _ y) ∧
      Holds P w' (fun b => Z b ∨ (w.heap.size ≤ b ∧ ¬ F b ∧ ¬ G b)) F c.rs vs (Sig.snd _ _ y)

/-- the same of a function whose value is handed on -/
structure CloOK (P : Program) (f : FuncId) (c : CloCon) : Prop where
  enters : Enters P f
  scal : c.r.scal = true
  calls : ∀ (w : World) (Z : Nat → Prop) (vals kvals cs : List Value) (kx : Sig.den (c.caps.map fun t => (PK.val, Ty.ptr t))) (x : c.a.den) (y : c.r.den), c.F kx x = some y →
    ArgCells c.a vals cs → RdC P c.a w Z cs x → Holds P w Z NoB (c.caps.map fun t => (PK.val, Ty.ptr t)) kvals kx → Tabs P w →
    Calls P f (vals.toArray ++ kvals.toArray) w fun e w' => e = .returned (c.r.valV y) ∧ Fr NoB w w'

structure EnvOK (P : Program) (E : Env) : Prop where
  con : ∀ f c, E.con f = some c → ConOK P f c
  clo : ∀ f c, E.clo f = some c → CloOK P f c
  T : ∀ t i, E.T t = some i → tinf P t = some i

/-! ### The relation -/
abbrev LenOf := Nat → Option (Nat × Nat)
def lenOf (bs : List (Nat × Blk)) (n : Nat) : Option (Nat × Nat) := match look n bs with
  | some (.row _ t xs) => some (xs.length, t.cells)
  | some (.mix t xs _) => some (xs.length, t.cells)
  | some (.opn t xs _ _ _) => some (xs.length, t.cells)
  | _ => none

structure Cx where
  P : Program
  w : World
  Z : Nat → Prop
  H : Nat → Option Value
  L : LenOf

def PtrRel (C : Cx) (n o : Nat) (v : Value) : Prop := ∃ g, C.H n = some (.pointer (some ⟨g, 0, none⟩)) ∧ v = .pointer (some ⟨g, o, none⟩)
def DatRel (C : Cx) (t : Ty) (x : t.den) (o : Nat) (v : Value) : Prop := ∃ b o', v = .pointer (some ⟨b, o' + o, none⟩) ∧ b < C.w.heap.size ∧ C.Z b ∧ ∃ us, us.length = t.cells ∧ RdC C.P t C.w C.Z us x ∧ At C.w b o' us
def CapRel (C : Cx) : Cap → Value → Prop
  | .p n, v => PtrRel C n 0 v
  | .d t x, v => DatRel C t x 0 v

def CellRel (C : Cx) : Cell → Value → Prop
  | .any, v => v.oneCell' = true
  | .int k n, v => v = .int k n
  | .bool b, v => v = .bool b
  | .str s, v => v = .string s
  | .sl t xs, v => RdC C.P (.slice t) C.w C.Z [v] xs
  | .nil, v => ∃ A, v = .slice A 0 0
  | .own n, v => C.H n = some v ∧ ∃ A l c, v = .slice A l c
  | .sub n o l, v => ∃ A c L s, C.L n = some (L, s) ∧ C.H n = some (.slice A L c) ∧ o + l ≤ L ∧ ∃ A' c', v = .slice A' l c' ∧ l ≤ c' ∧ (0 < l → ∃ g, A = some ⟨g, 0, none⟩ ∧ A' = some ⟨g, o * s, none⟩) ∧
      c' = c - o ∧ L ≤ c ∧ (o < c → ∃ g, A = some ⟨g, 0, none⟩ ∧ A' = some ⟨g, o * s, none⟩) ∧ (o = 0 → A' = A)
  | .ptr n o, v => PtrRel C n o v
  | .dptr t x o, v => DatRel C t x o v
  | .eptr n i o, v => ∃ g L s c, C.L n = some (L, s) ∧ i < L ∧ C.H n = some (.slice (some ⟨g, 0, none⟩) L c) ∧ v = .pointer (some ⟨g, i * s + o, none⟩)
  | .fn f caps, v => ∃ vs, v = .func (.func f) #[] vs ∧ All2 (CapRel C) caps vs.toList
  | .clo a r φ, v => RdC C.P (.fn a r) C.w C.Z [v] φ
  | .mp n, v => C.H n = some v ∧ ∃ b, v = .map (some b)
  | .mdat k t es, v => RdC C.P (.map k t) C.w C.Z [v] es

def PartRel (C : Cx) (p : Bool × List Cell) (v : Value) : Prop := match p with
  | (true, cs) => ∃ us, v = .agg us ∧ All2 (CellRel C) cs us.toList
  | (false, [c]) => CellRel C c v
  | (false, _) => False

def ARel (C : Cx) : A → Value → Prop
  | .any, _ => True
  | .c x, v => CellRel C x v
  | .agg cs, v => ∃ us, v = .agg us ∧ All2 (CellRel C) cs us.toList
  | .tup xs, v => ∃ vs, v = .tuple vs ∧ All2 (PartRel C) xs vs.toList

/-- which elements own what they hold -/
def ownsO (k : Option Nat) (j : Nat) : Bool := match k with | none => true | some k => decide (j < k)
/-- the cells of an element that lies open; F: what its rows own -/
def OList (C : Cx) : (F : Nat → Prop) → List OCell → List Value → Prop
  | _, [], [] => True
  | F, .c x :: cs, v :: vs => CellRel C x v ∧ OList C F cs vs
  | F, .kid e ys :: cs, v :: vs => ∃ F1 F2 : Nat → Prop, (∀ b, F1 b → F b) ∧ (∀ b, F2 b → F b) ∧ (∀ b, F1 b → ¬ F2 b) ∧ RowOf C.P false true e C.w C.Z F1 v ys ∧ OList C F2 cs vs
  | _, _, _ => False

def BRel (C : Cx) (F : Nat → Prop) (v : Value) : Blk → Prop
  | .mix t xs k => RowOwn false (fun j F' us y => OwC C.P (decide (j < k)) t C.w C.Z F' us y) t.cells C.w F v xs
  | .opn t xs k i cs => ∃ g cap cur ety, ∃ Fs : Nat → Nat → Prop, v = .slice (some ⟨g, 0, none⟩) xs.length cap ∧ xs.length ≤ cap ∧ i < xs.length ∧ F g ∧ C.w.heap[g]? = some (.cells cur ety (0, 0)) ∧ cap * t.cells ≤ cur.size ∧
      (∀ j b, Fs j b → F b ∧ b ≠ g) ∧ (∀ j j', j ≠ j' → ∀ b, Fs j b → ¬ Fs j' b) ∧
      (∀ j (h : j < xs.length), j ≠ i → OwC C.P (ownsO k j) t C.w C.Z (Fs j) ((cur.toList.drop (j * t.cells)).take t.cells) xs[j]) ∧ OList C (Fs i) cs ((cur.toList.drop (i * t.cells)).take t.cells)
  | .box cs => ∃ g us ety, v = .pointer (some ⟨g, 0, none⟩) ∧ F g ∧ C.w.heap[g]? = some (.cells us ety (0, 0)) ∧ All2 (CellRel C) cs us.toList
  | .row d t xs => RowOf C.P (mkd d t) d t C.w C.Z F v xs
  | .map k t es => ∃ g ents clock, v = .map (some g) ∧ F g ∧ C.w.heap[g]? = some (.map ents clock) ∧ MapRep k t es ents.toList

/-- the frame of a call: the caller's zone, what was handed over, the world in which it began; R: blocks that bear no name for a moment, but are about to be written -/
structure Base where
  P : Program
  Z0 : Nat → Prop
  X0 : Nat → Prop
  w0 : World
  par : List Nat
  R : Nat → Prop
  /-- the values of what is handed back -/
  io : Nat → Option Value
  iok : ∀ n v, io n = some v → n % 64 = 63
  parok : ∀ n, par.contains n = true → 62 ≤ n % 64
  tabs : Tabs P w0
  x0 : ∀ b, X0 b → nGlob ≤ b

/-- blocks that nobody writes while this call runs: the caller's, and its own that bear no name -/
def zone (B : Base) (w : World) (φ : Nat → Nat → Prop) (b : Nat) : Prop := (B.Z0 b ∨ B.w0.heap.size ≤ b) ∧ b < w.heap.size ∧ ¬ B.R b ∧ ∀ n, ¬ φ n b

def Base.cx (B : Base) (w : World) (H : Nat → Option Value) (φ : Nat → Nat → Prop) (L : LenOf) : Cx := { P := B.P, w, Z := zone B w φ, H, L }

theorem Base.io64 (B : Base) (d : Nat) : B.io (d * 64) = none := by
  cases h : B.io (d * 64) with
  | none => rfl
  | some v => have := B.iok _ _ h; omega

structure BlkRel (B : Base) (bs : List (Nat × Blk)) (w : World) (H : Nat → Option Value) (φ : Nat → Nat → Prop) : Prop where
  fr : Fr B.X0 B.w0 w
  hdom : ∀ n, look n bs = none → H n = none
  fdom : ∀ n, look n bs = none → ∀ b, ¬ φ n b
  fsub : ∀ n b, φ n b → ((B.par.contains n = true ∧ B.X0 b) ∨ B.w0.heap.size ≤ b) ∧ b < w.heap.size
  fdis : ∀ n m, n ≠ m → ∀ b, φ n b → ¬ φ m b
  rdis : ∀ n b, φ n b → ¬ B.R b
  rsub : ∀ b, B.R b → (B.X0 b ∨ B.w0.heap.size ≤ b) ∧ b < w.heap.size
  keep : ∀ n v, B.io n = some v → H n = none ∨ H n = some v
  blk : ∀ n b, look n bs = some b → ∃ v, H n = some v ∧ BRel (B.cx w H φ (lenOf bs)) (φ n) v b

theorem BlkRel.tabs {B : Base} {bs : List (Nat × Blk)} {w : World} {H : Nat → Option Value} {φ : Nat → Nat → Prop} (h : BlkRel B bs w H φ) : Tabs B.P w := h.fr.tabs B.tabs
theorem BlkRel.big {B : Base} {bs : List (Nat × Blk)} {w : World} {H : Nat → Option Value} {φ : Nat → Nat → Prop} (h : BlkRel B bs w H φ) {n b : Nat} (hb : φ n b) : nGlob ≤ b := by
  rcases (h.fsub n b hb).1 with ⟨_, hx⟩ | hge
  · exact B.x0 b hx
  · exact Nat.le_trans B.tabs.2.1 hge
structure Rel (B : Base) (σ : St) (tm : Array Value) (w : World) (H : Nat → Option Value) (φ : Nat → Nat → Prop) : Prop where
  mem : BlkRel B σ.blks w H φ
  tmp : All2 (ARel (B.cx w H φ (lenOf σ.blks))) σ.tmps tm.toList

def RelA (B : Base) (σ : St) (a : Act) (w : World) : Prop := a.defers = [] ∧ ∃ H φ, Rel B σ a.tmps w H φ

end Go.Proofs.YtklfnbckoaphpaaGreatDoor
