/- A range over an iterator of lines, whose body is evaluated. No conditions. -/
import Derived.Test.YtklfnbckoaphpaaGreatDoorEvZr
import Derived.Lib.Bytealg
set_option linter.unusedVariables false
set_option linter.unusedSimpArgs false
namespace Go.Proofs.YtklfnbckoaphpaaGreatDoor
open Go Go.RowKit

section
variable {B B' : Base} {σ : St} {tm : Array Value} {w w' : World} {H : Nat → Option Value} {φ : Nat → Nat → Prop}
/-- the frame begins anew: in a world in which none but the special blocks have turned -/
theorem Rel.rebase (h : Rel B σ tm w H φ) {Sp : Nat → Prop} (hP : B'.P = B.P) (hw0 : B'.w0 = w') (hR' : B'.R = NoB) (hio : ∀ n, B'.io n = none) (hZ' : ∀ b, ¬ Sp b → B'.Z0 b) (hX' : ∀ n b, φ n b → B'.X0 b)
    (hpar : ∀ n, look n σ.blks ≠ none → B'.par.contains n = true) (hsz : w.heap.size ≤ w'.heap.size) (hsame : ∀ b, b < w.heap.size → ¬ Sp b → w'.heap[b]? = w.heap[b]?) (hz : ∀ b, zone B w φ b → ¬ Sp b) (hn : ∀ n b, φ n b → ¬ Sp b) : Rel B' σ tm w' H φ := by
  have ag : Agree (zone B w φ) w w' := ⟨hsz, fun b hb hzb => hsame b hb (hz b hzb)⟩
  have hzz : ∀ b, b < w.heap.size → zone B w φ b → zone B' w' φ b := fun b hb hzb => ⟨.inl (hZ' b (hz b hzb)), Nat.lt_of_lt_of_le hb hsz, (by rw [hR']; exact fun f => f), hzb.2.2.2⟩
  have hle : (B.cx w H φ (lenOf σ.blks)).Le (B'.cx w' H φ (lenOf σ.blks)) := ⟨hP, ag, hzz, fun _ _ h => h, fun _ _ h => h⟩
  have hnn : ∀ n b, φ n b → look n σ.blks ≠ none := fun n b hb e => h.mem.fdom n e b hb
  refine ⟨⟨?_, h.mem.hdom, h.mem.fdom, fun n b hb => ⟨.inl ⟨hpar n (hnn n b hb), hX' n b hb⟩, Nat.lt_of_lt_of_le (h.mem.fsub n b hb).2 hsz⟩, h.mem.fdis, fun n b _ => (by rw [hR']; exact fun f => f), fun b hb => (by rw [hR'] at hb; exact hb.elim), fun n v hv => (by rw [hio] at hv; cases hv), fun n b hb => ?_⟩, h.tmp.mono (ARel.le hle)⟩
  · rw [hw0]; exact Fr.refl _ _
  · obtain ⟨v, hv, hr⟩ := h.mem.blk n b hb
    exact ⟨v, hv, BRel.keep (C := B.cx w H φ (lenOf σ.blks)) (C' := B'.cx w' H φ (lenOf σ.blks)) hP hzz ag (CellRel.le hle) (fun _ h => h) ⟨hsz, fun i hi hf => hsame i hi (hn n i hf)⟩ hr⟩
end

/-- between two rounds: what is named, at a frame that begins here; Sp: the iterator's and the loop's own blocks -/
structure LM (P : Program) (par : List Nat) (Sp : Nat → Prop) (n₀ : Nat) (σ : St) (tm : Array Value) (w : World) : Prop where
  ex : ∃ (B : Base) (H : Nat → Option Value) (φ : Nat → Nat → Prop), B.P = P ∧ B.par = par ∧ B.R = NoB ∧ (∀ n, B.io n = none) ∧ B.w0 = w ∧ (∀ b, B.Z0 b ↔ ¬ Sp b) ∧ (∀ b, B.X0 b → n₀ ≤ b ∧ ¬ Sp b) ∧ Rel B σ tm w H φ

/-- a frame that begins anew -/
theorem LM.next {P : Program} {par : List Nat} {Sp : Nat → Prop} {n₀ : Nat} {σ : St} {tm : Array Value} {w w1 w' : World} {B : Base} {H : Nat → Option Value} {φ : Nat → Nat → Prop} (hP : B.P = P) (hpr : B.par = par) (hR : B.R = NoB) (hw0 : B.w0 = w) (hZ : ∀ b, B.Z0 b ↔ ¬ Sp b) (hX : ∀ b, B.X0 b → n₀ ≤ b ∧ ¬ Sp b)
    (h : Rel B σ tm w1 H φ) (hSp : ∀ b, Sp b → n₀ ≤ b ∧ b < w.heap.size) (hn0 : nGlob ≤ n₀) (hnw : n₀ ≤ w.heap.size) (hpar : ∀ n, look n σ.blks ≠ none → par.contains n = true) (hsz : w1.heap.size ≤ w'.heap.size) (hsame : ∀ b, b < w1.heap.size → ¬ Sp b → w'.heap[b]? = w1.heap[b]?) :
    LM P par Sp n₀ σ tm w' := by
  have hsp1 : ∀ n b, φ n b → n₀ ≤ b ∧ ¬ Sp b := fun n b hb => by
    rcases (h.mem.fsub n b hb).1 with ⟨_, hx⟩ | hge
    · exact hX b hx
    · rw [hw0] at hge
      exact ⟨Nat.le_trans hnw hge, fun hs => by have := (hSp b hs).2; omega⟩
  have htabs : Tabs P w' := by
    have ht : Tabs P w1 := by have := h.mem.tabs; rw [hP] at this; exact this
    refine ht.keep hsz fun b hb => ?_
    have hb1 : b < w1.heap.size := Nat.lt_of_lt_of_le hb ht.2.1
    exact hsame b hb1 fun hs => by have := (hSp b hs).1; omega
  refine ⟨⟨{ P := P, Z0 := fun b => ¬ Sp b, X0 := fun b => ∃ n, φ n b, w0 := w', par := par, R := NoB, io := fun _ => none, iok := (fun _ _ h => by cases h), parok := hpr ▸ B.parok, tabs := htabs, x0 := fun b ⟨n, hb⟩ => Nat.le_trans hn0 (hsp1 n b hb).1 }, H, φ, rfl, rfl, rfl, fun _ => rfl, rfl, fun _ => Iff.rfl, fun b ⟨n, hb⟩ => hsp1 n b hb, ?_⟩⟩
  refine Rel.rebase (Sp := Sp) h hP.symm rfl rfl (fun _ => rfl) (fun _ h => h) (fun n b hb => ⟨n, hb⟩) hpar hsz hsame (fun b hb => ?_) (fun n b hb => (hsp1 n b hb).2)
  rcases hb.1 with hz | hge
  · exact (hZ b).1 hz
  · rw [hw0] at hge
    exact fun hs => by have := (hSp b hs).2; omega

/-- none but the special blocks turn -/
theorem LM.step {P : Program} {par : List Nat} {Sp : Nat → Prop} {n₀ : Nat} {σ : St} {tm : Array Value} {w w' : World} (h : LM P par Sp n₀ σ tm w) (hSp : ∀ b, Sp b → n₀ ≤ b) (hn0 : nGlob ≤ n₀) (hpar : ∀ n, look n σ.blks ≠ none → par.contains n = true) (hsz : w.heap.size ≤ w'.heap.size) (hsame : ∀ b, b < w.heap.size → ¬ Sp b → w'.heap[b]? = w.heap[b]?) :
    LM P par Sp n₀ σ tm w' := by
  obtain ⟨B, H, φ, hP, hpr, hR, hio, hw0, hZ, hX, hr⟩ := h.ex
  have hsp1 : ∀ n b, φ n b → n₀ ≤ b ∧ ¬ Sp b := fun n b hb => by
    rcases (hr.mem.fsub n b hb).1 with ⟨_, hx⟩ | hge
    · exact hX b hx
    · rw [hw0] at hge
      have := (hr.mem.fsub n b hb).2
      omega
  have htabs : Tabs P w' := by
    have ht : Tabs P w := by have := hr.mem.tabs; rw [hP] at this; exact this
    refine ht.keep hsz fun b hb => ?_
    have hb1 : b < w.heap.size := Nat.lt_of_lt_of_le hb ht.2.1
    exact hsame b hb1 fun hs => by have := hSp b hs; omega
  refine ⟨⟨{ P := P, Z0 := fun b => ¬ Sp b, X0 := fun b => ∃ n, φ n b, w0 := w', par := par, R := NoB, io := fun _ => none, iok := (fun _ _ h => by cases h), parok := hpr ▸ B.parok, tabs := htabs, x0 := fun b ⟨n, hb⟩ => Nat.le_trans hn0 (hsp1 n b hb).1 }, H, φ, rfl, rfl, rfl, fun _ => rfl, rfl, fun _ => Iff.rfl, fun b ⟨n, hb⟩ => hsp1 n b hb, ?_⟩⟩
  refine Rel.rebase (Sp := Sp) hr hP.symm rfl rfl (fun _ => rfl) (fun _ h => h) (fun n b hb => ⟨n, hb⟩) hpar hsz hsame (fun b hb => ?_) (fun n b hb => (hsp1 n b hb).2)
  rcases hb.1 with hz | hge
  · exact (hZ b).1 hz
  · rw [hw0] at hge
    have := hb.2.1
    omega

/-! ### patterns -/
theorem encB_cons (b : Nat × PatB) (r : List (Nat × PatB)) (l : List Dat) : encB (b :: r) l = [] ∨ ∃ x l', encB (b :: r) l = (b.1, x) :: encB r l' := by
  obtain ⟨m, k⟩ := b
  cases k with
  | row d t =>
    cases l with
    | nil => exact .inl rfl
    | cons q l =>
      obtain ⟨t', x⟩ := q
      cases t' <;> first | exact .inl rfl | exact .inr ⟨_, _, rfl⟩
  | mix t =>
    cases l with
    | nil => exact .inl rfl
    | cons q l =>
      obtain ⟨t', x⟩ := q
      cases l with
      | nil => cases t' <;> exact .inl rfl
      | cons q2 l =>
        obtain ⟨t2, y⟩ := q2
        cases t' <;> first | exact .inl rfl | (cases t2 <;> first | exact .inl rfl | exact .inr ⟨_, _, rfl⟩)
  | box cs => exact .inr ⟨_, _, rfl⟩
  | map kt t =>
    cases l with
    | nil => exact .inl rfl
    | cons q l =>
      obtain ⟨t', x⟩ := q
      cases t' <;> first | exact .inl rfl | exact .inr ⟨_, _, rfl⟩
theorem encB_keys {n : Nat} : ∀ {bs : List (Nat × PatB)} {l : List Dat}, look n (encB bs l) ≠ none → ∃ b ∈ bs, b.1 = n
  | [], l, h => by simp [encB, look] at h
  | b :: r, l, h => by
    rcases encB_cons b r l with e | ⟨x, l', e⟩
    · rw [e] at h; simp [look] at h
    · rw [e] at h
      simp only [look] at h
      by_cases en : b.1 = n
      · exact ⟨_, List.mem_cons_self .., en⟩
      · rw [show (b.1 == n) = false by simpa using en] at h
        obtain ⟨b', hb, hn⟩ := encB_keys (bs := r) (l := l') h
        exact ⟨b', List.mem_cons_of_mem _ hb, hn⟩
theorem enc_par {pat : Pat} {par : List Nat} (h : pat.blks.all (fun b => par.contains b.1) = true) (s : pat.den) {n : Nat} (hn : look n (pat.enc s).blks ≠ none) : par.contains n = true := by
  obtain ⟨b, hb, rfl⟩ := encB_keys (bs := pat.blks) (n := n) hn
  exact List.all_eq_true.1 h b hb

theorem encT_at : ∀ (ks : List PatK) (l : List Dat), (encT ks l).1.length = ks.length ∧ ∀ t : Nat, ks[t]? = some PatK.any → (encT ks l).1[t]? = some A.any
  | [], l => ⟨rfl, fun t h => by simp at h⟩
  | k :: ks, l => by
    have ih := encT_at ks (encK k l).2
    refine ⟨by simp only [encT, List.length_cons, ih.1], fun t h => ?_⟩
    cases t with
    | zero =>
      simp at h
      subst h
      simp [encT, encK]
    | succ t => simpa [encT] using ih.2 t (by simpa using h)

/-- nothing of T is kept -/
def tfree (T : List Nat) (pat : Pat) : Bool := T.all fun t => match pat.tmps[t]? with | some PatK.any => true | none => true | _ => false
theorem all2_back {C : Cx} : ∀ (xs : List A) (ys zs : List Value), All2 (ARel C) xs ys → zs.length = xs.length → (∀ (t : Nat) (x : A), xs[t]? = some x → x = A.any ∨ ys[t]? = zs[t]?) → All2 (ARel C) xs zs
  | [], [], [], _, _, _ => trivial
  | [], _ :: _, _, h, _, _ => h.elim
  | _ :: _, [], _, h, _, _ => h.elim
  | [], [], _ :: _, _, h, _ => by simp at h
  | _ :: _, _ :: _, [], _, h, _ => by simp at h
  | x :: xs, y :: ys, z :: zs, h, hl, hk => by
    refine ⟨?_, all2_back xs ys zs h.2 (by simpa using hl) fun t x hx => by simpa using hk (t + 1) x (by simpa using hx)⟩
    rcases hk 0 x rfl with e | e
    · subst e; trivial
    · obtain rfl : y = z := by simpa using e
      exact h.1
theorem Rel.back {B : Base} {pat : Pat} {s : pat.den} {tm tm' : Array Value} {w : World} {H : Nat → Option Value} {φ : Nat → Nat → Prop} {T : List Nat} (h : Rel B (pat.enc s) tm' w H φ) (hf : tfree T pat = true) (hl : tm.size = pat.tmps.length) (hk : ∀ t, t ∉ T → tm'[t]? = tm[t]?) : Rel B (pat.enc s) tm w H φ := by
  have e := encT_at pat.tmps (Dn.toL pat.tys s)
  refine ⟨h.mem, all2_back _ _ _ h.tmp (by show tm.toList.length = (encT pat.tmps _).1.length; rw [e.1]; simpa using hl) fun t x hx => ?_⟩
  by_cases ht : t ∈ T
  · left
    have := List.all_eq_true.1 hf t ht
    cases hp : pat.tmps[t]? with
    | none =>
      have h1 : t < (pat.enc s).tmps.length := (List.getElem?_eq_some_iff.1 hx).1
      have h2 : (pat.enc s).tmps.length = pat.tmps.length := e.1
      rw [List.getElem?_eq_none_iff] at hp
      omega
    | some k =>
      rw [hp] at this
      cases k with
      | any =>
        have := e.2 t hp
        exact Option.some.inj (hx.symm.trans this)
      | _ => cases this
  · exact .inr (by simpa using hk t ht)

/-! ### an iterator -/
/-- blocks of S turn -/
structure StepS (S : Nat → Prop) (W W' : World) : Prop where
  size : W'.heap.size = W.heap.size
  same : ∀ b, ¬ S b → W'.heap[b]? = W.heap[b]?
  os : W'.os = W.os
  tape : W'.tape = W.tape
  output : W'.output = W.output

/-- an iterator that hands out the parts of a text: what it keeps lies in blocks of S; I: how they begin -/
def IterOK (P : Program) (f : Nat) (caps : Array Value) (S : Nat → Prop) (I : World → Prop) (parts : List ByteArray) : Prop :=
  ∀ (n l : Nat) (J Jx : List ByteArray → World → Prop) (W : World),
    (∀ pre A C, J pre A → StepS S A C → J pre C) →
    (∀ (m : Nat) pre x post W1, J pre W1 → parts = pre ++ x :: post →
      YieldAt Fence.wide m P l #[.string x] W1 fun e W' => (e = .returned (.bool true) ∧ J (pre ++ [x]) W' ∧ ∀ b, S b → W'.heap[b]? = W1.heap[b]?) ∨ (e = .returned (.bool false) ∧ Jx (pre ++ [x]) W')) →
    I W → J [] W →
    CallsIn Fence.wide n P f (#[.func (.yield l) #[] #[]] ++ caps) W fun e W' => (∃ v, e = .returned v) ∧ (J parts W' ∨ ∃ pre x post, parts = pre ++ x :: post ∧ Jx (pre ++ [x]) W')

/-- the body of the first range over a function -/
def rfBody : Code → Code
  | .rangeFunc _ _ _ b => b
  | .seq a b => match rfBody a with | .skip => rfBody b | c => c
  | .block _ b => rfBody b
  | _ => .skip

/-- round by round -/
def foldL {S : Type} (stp : S → ByteArray → Option (S ⊕ S)) : S → List ByteArray → Option (S ⊕ S)
  | s, [] => some (.inl s)
  | s, x :: xs => match stp s x with
    | none => none
    | some (.inl s') => foldL stp s' xs
    | some (.inr o) => some (.inr o)
theorem foldL_app {S : Type} {stp : S → ByteArray → Option (S ⊕ S)} : ∀ (pre : List ByteArray) (s : S) (post : List ByteArray), foldL stp s (pre ++ post) = match foldL stp s pre with | none => none | some (.inl s') => foldL stp s' post | some (.inr o) => some (.inr o)
  | [], s, post => rfl
  | x :: pre, s, post => by
    simp only [List.cons_append, foldL]
    cases stp s x with
    | none => rfl
    | some r =>
      cases r with
      | inl s' => exact foldL_app pre s' post
      | inr o => rfl

theorem arel_str {C : Cx} (x : ByteArray) : ARel C (.c (.str x)) (.string x) := rfl
theorem zip1 (pt : Nat) (x : Value) (tm : Array Value) : Array.foldl (fun t (q : Nat × Value) => match q with | (p, v) => t.setIfInBounds p v) tm ((#[pt] : Array Nat).zip #[x]) = tm.setIfInBounds pt x := by
  simp

/-- the assignment at a round's begin -/
theorem assign_ok {l n : Nat} {P : Program} {id d pt : Nat} {ty : TypeId} {pos : String} {a : Act} {W : World} {K : Act → World → Prop} (h : K (a.put (some d) (a.tmps.getD pt undef)) W) :
    (Code.region id #[{ dst := some d, op := .assign (.tmp pt), type := ty, pos := pos, after := #[], guard := none }] false).wpIn (FR l) n P (Exit.then K fun _ _ _ => False) a W := by
  refine wpIn_region_list ?_
  show wpListIn _ _ _ _ _ [_] _ _
  unfold wpListIn
  rw [if_pos (show Region.wanted _ _ = true from rfl)]
  refine oper_in (fun c e => by cases e) (wp_val (v := a.tmps.getD pt undef) (w' := W) rfl ?_)
  exact h

theorem wp_iter {P : Program} {E : Env} {Λ : Nat → Option Loop} {par : List Nat} (hm : P.follows .mixedOrders = true) (hE : EnvOK P E) (hEp : E.par = par) {T : List Nat} {assign body : Code} (hokb : okR T body = true) {pat : Pat}
    (hpar : pat.blks.all (fun b => par.contains b.1) = true) {pt d : Nat} (hfree : tfree (pt :: d :: T) pat = true) {id : Nat}
    (hassign : ∀ (l n : Nat) (a : Act) (W : World) (K : Act → World → Prop), K (a.put (some d) (a.tmps.getD pt undef)) W → assign.wpIn (FR l) n P (Exit.then K fun _ _ _ => False) a W)
    {f : Nat} {caps : Array Value} {S : Nat → Prop} {I : World → Prop} {parts : List ByteArray} (it : IterOK P f caps S I parts) (hI : ∀ A C : World, (∀ b, S b → C.heap[b]? = A.heap[b]?) → I A → I C) (ef : ∀ args w, (callFunc f args).run P w = .ok (.enter f args) w)
    {a : Act} (ha : a.defers = []) (hal : a.tmps.size = pat.tmps.length) (hpt : pt < a.tmps.size) {w : World} {g : Operand} (hg : a.eval g = .func (.func f) #[] caps) (hS : ∀ b, S b → b < w.heap.size) (hI0 : I w)
    {n₀ : Nat} (hn0 : nGlob ≤ n₀) (hn1 : ∀ b, S b → n₀ ≤ b) (hn2 : n₀ ≤ w.heap.size) {stp : pat.den → ByteArray → Option (pat.den ⊕ pat.den)}
    (hstp : ∀ s x r, stp s x = some r → ev E Λ body (((pat.enc s).set pt (.c (.str x))).set d (.c (.str x))) (kstep pat [(.exit id, pat)]) = some r)
    {s0 : pat.den} {Sp : Nat → Prop} (hSpd : ∀ b, Sp b ↔ (S b ∨ b = w.heap.size ∨ b = w.heap.size + 1)) (h0 : LM P par Sp n₀ (pat.enc s0) a.tmps w) {r : pat.den ⊕ pat.den} (hr : foldL stp s0 parts = some r) {n : Nat} {Q : Exit → Act → World → Prop}
    (hQ : ∀ s' W', Below n₀ w W' → LM P par Sp n₀ (pat.enc s') a.tmps W' → W'.heap[w.heap.size]? = some (.deferred (some [])) → w.heap.size + 1 < W'.heap.size →
      (r = .inl s' → Q .normal { a with defers := [{ target := .collected w.heap.size, args := #[] }] } W') ∧ (r = .inr s' → Q (.exit id) { a with defers := [{ target := .collected w.heap.size, args := #[] }] } W')) :
    (Code.rangeFunc g #[pt] assign body).wpIn Fence.wide n P Q a w := by
  have hSp : ∀ b, Sp b → n₀ ≤ b := fun b hb => by
    rcases (hSpd b).1 hb with h | rfl | rfl
    · exact hn1 b h
    · exact hn2
    · omega
  have hP' : ∀ (s : pat.den) n, look n (pat.enc s).blks ≠ none → par.contains n = true := fun s n hn => enc_par hpar s hn
  refine wpIn_rangeFunc ?_
  intro fn hfn
  obtain ⟨rec, hrec⟩ : ∃ rec : LoopState → Option Code → Go.Loop, rec = fun st pe => { state := st, pending := pe, fn, tmps := a.tmps, params := #[pt], assign, body, defers := w.heap.size } := ⟨_, rfl⟩
  obtain ⟨W1, hW1⟩ : ∃ W1, (w.alloc (.deferred (some []))).alloc (.loop (rec .ready none)) = W1 := ⟨_, rfl⟩
  have hL1 : W1.heap[w.heap.size + 1]? = some (.loop (rec .ready none)) := by
    rw [← hW1]; have := World.alloc_heap_new (w.alloc (.deferred (some []))) (.loop (rec .ready none)); rwa [World.size_alloc] at this
  have hK1 : W1.heap[w.heap.size]? = some (.deferred (some [])) := by
    rw [← hW1]; exact (Below.heap_alloc _ _ _ (by simp)).trans (World.alloc_heap_new w _)
  have hold : ∀ k, k < w.heap.size → W1.heap[k]? = w.heap[k]? := fun k hk => by
    rw [← hW1]; exact (Below.heap_alloc _ _ _ (by simp; omega)).trans (Below.heap_alloc _ _ _ hk)
  have hs1 : W1.heap.size = w.heap.size + 2 := by rw [← hW1]; simp
  have hb1 : Below n₀ w W1 := by
    rw [← hW1]; exact (((Below.refl _ w).alloc (by omega) _).alloc (by simp; omega) _)
  have hI1 : I W1 := hI w W1 (fun b hb => hold b (hS b hb)) hI0
  have hLM1 : LM P par Sp n₀ (pat.enc s0) a.tmps W1 := h0.step hSp hn0 (hP' s0) (by omega) (fun b hb _ => hold b hb)
  refine ⟨w.heap.size + 1, [{ target := .collected w.heap.size, args := #[] }], W1, { target := .fn (.func f) caps, args := #[.func (.yield (w.heap.size + 1)) #[] #[]] }, W1, f,
    #[.func (.yield (w.heap.size + 1)) #[] #[]] ++ caps, W1, ?_, ?_, ?_, ?_, (fun h => by cases h), ?_⟩
  · rw [← hW1, hrec]; exact run_enterLoop_outer _ _ _ _ _
  · simp only [resolve, hg]
    simp [go_sem]
  · intro f' hf'; trivial
  · simp [invoke, go_sem, ef]
  have J_step : ∀ {A C : World} {s : pat.den} {st : LoopState} {pe : Option Code}, StepS S A C → LM P par Sp n₀ (pat.enc s) a.tmps A ∧ Below n₀ w A ∧ A.heap[w.heap.size + 1]? = some (.loop (rec st pe)) ∧ A.heap[w.heap.size]? = some (.deferred (some [])) →
      LM P par Sp n₀ (pat.enc s) a.tmps C ∧ Below n₀ w C ∧ C.heap[w.heap.size + 1]? = some (.loop (rec st pe)) ∧ C.heap[w.heap.size]? = some (.deferred (some [])) := by
    rintro A C s st pe hst ⟨h1, h2, h3, h4⟩
    have hne : ∀ b, ¬ Sp b → ¬ S b := fun b hb e => hb ((hSpd b).2 (.inl e))
    have hlo : ∀ k, w.heap.size ≤ k → ¬ S k := fun k hk hs => by have := hS k hs; omega
    exact ⟨h1.step hSp hn0 (hP' s) (by rw [hst.size]; exact Nat.le_refl _) (fun b _ hb => hst.same b (hne b hb)),
      h2.trans ⟨hst.os, hst.tape, hst.output, by rw [hst.size]; exact Nat.le_refl _, fun k hk => hst.same k fun hs => by have := hn1 k hs; omega⟩,
      (hst.same _ (hlo _ (by omega))).trans h3, (hst.same _ (hlo _ (by omega))).trans h4⟩
  refine (it (n - 1) (w.heap.size + 1)
    (fun pre W => ∃ s, foldL stp s0 pre = some (.inl s) ∧ LM P par Sp n₀ (pat.enc s) a.tmps W ∧ Below n₀ w W ∧ W.heap[w.heap.size + 1]? = some (.loop (rec .ready none)) ∧ W.heap[w.heap.size]? = some (.deferred (some [])))
    (fun pre W => ∃ s, foldL stp s0 pre = some (.inr s) ∧ LM P par Sp n₀ (pat.enc s) a.tmps W ∧ Below n₀ w W ∧ W.heap[w.heap.size + 1]? = some (.loop (rec .done (some (.exit id)))) ∧ W.heap[w.heap.size]? = some (.deferred (some [])))
    W1 (fun pre A C hJ hst => by obtain ⟨s, hs, hrest⟩ := hJ; exact ⟨s, hs, J_step hst hrest⟩) ?_ hI1 ⟨s0, rfl, hLM1, hb1, hL1, hK1⟩).mono ?_
  · -- one round
    rintro m pre x rest W ⟨s, hs, hLM, hbel, hl, hk⟩ hlines
    have hlt : w.heap.size + 1 < W.heap.size := (Array.getElem?_eq_some_iff.1 hl).1
    have hfold := hr
    rw [hlines, foldL_app, hs] at hfold
    simp only [foldL] at hfold
    cases hx : stp s x with
    | none => rw [hx] at hfold; cases hfold
    | some r1 =>
    have hev := hstp s x r1 hx
    have hy := run_yield (P := P) (args := #[.string x]) hl (by rw [hrec]; rfl)
    rw [hrec] at hy
    refine ⟨fn, _, assign, body, hy, roundIn_of_wpIn (F := Fence.wide) hfn (hassign _ _ _ W _ ⟨_, run_beginRound hl (by rw [hrec]), ?_⟩)⟩
    have hgd : (a.tmps.setIfInBounds pt (.string x)).getD pt undef = .string x := by
      rw [Array.getD_eq_getD_getElem?, Array.getElem?_setIfInBounds, if_pos rfl, if_pos hpt]; rfl
    obtain ⟨W2, hW2⟩ : ∃ W2, W.putObj (w.heap.size + 1) (.loop { rec .ready none with state := .busy }) = W2 := ⟨_, rfl⟩
    have hW2' : W.putObj (w.heap.size + 1) (.loop { (rec .ready none : Go.Loop) with state := .busy }) = W2 := hW2
    have hl2 : W2.heap[w.heap.size + 1]? = some (.loop { rec .ready none with state := .busy }) := by rw [← hW2]; exact World.putObj_heap_same hlt
    have ho2 : ∀ k, k ≠ w.heap.size + 1 → W2.heap[k]? = W.heap[k]? := fun k hk => by rw [← hW2]; exact World.putObj_heap_other hk
    have hsz2 : W2.heap.size = W.heap.size := by rw [← hW2]; simp
    have hb2 : Below n₀ w W2 := hbel.trans (by rw [← hW2]; exact ⟨rfl, rfl, rfl, by simp, fun k hk => World.putObj_heap_other (by omega)⟩)
    have hLM2 : LM P par Sp n₀ (pat.enc s) a.tmps W2 := hLM.step hSp hn0 (hP' s) (by omega) (fun b _ hb => ho2 b fun e => hb ((hSpd b).2 (.inr (.inr e))))
    have hSp2 : ∀ b, Sp b → n₀ ≤ b ∧ b < W2.heap.size := fun b hb => ⟨hSp b hb, by
      rcases (hSpd b).1 hb with h | rfl | rfl
      · have := hS b h; omega
      · omega
      · omega⟩
    obtain ⟨B, H, φ, hP, hpr, hR, hio, hw0, hZ, hX, hrel⟩ := hLM2.ex
    subst hP
    -- what the body does
    have fin : ∀ (s' : pat.den) (a' : Act) (w' : World) (jump : Option Code) (H' : Nat → Option Value) (φ' : Nat → Nat → Prop), Rel B (pat.enc s') a'.tmps w' H' φ' → KeepT T { tmps := (a.tmps.setIfInBounds pt (.string x)).setIfInBounds d (.string x), defers := [] } a' →
        (Instr.endRound (w.heap.size + 1) jump).run B.P w' = .ok (.bool jump.isNone) (w'.putObj (w.heap.size + 1) (.loop (rec (if jump.isNone then .ready else .done) jump))) ∧
        LM B.P par Sp n₀ (pat.enc s') a.tmps (w'.putObj (w.heap.size + 1) (.loop (rec (if jump.isNone then .ready else .done) jump))) ∧ Below n₀ w (w'.putObj (w.heap.size + 1) (.loop (rec (if jump.isNone then .ready else .done) jump))) ∧
        (w'.putObj (w.heap.size + 1) (.loop (rec (if jump.isNone then .ready else .done) jump))).heap[w.heap.size + 1]? = some (.loop (rec (if jump.isNone then .ready else .done) jump)) ∧
        (w'.putObj (w.heap.size + 1) (.loop (rec (if jump.isNone then .ready else .done) jump))).heap[w.heap.size]? = some (.deferred (some [])) ∧
        ∀ b, S b → (w'.putObj (w.heap.size + 1) (.loop (rec (if jump.isNone then .ready else .done) jump))).heap[b]? = W.heap[b]? := by
      intro s' a' w' jump H' φ' hr' hkt
      have hfr := hr'.mem.fr
      rw [hw0] at hfr
      have hsp : ∀ b, Sp b → w'.heap[b]? = W2.heap[b]? := fun b hb => hfr.block b (hSp2 b hb).2 fun hx => (hX b hx).2 hb
      have hl3 : w'.heap[w.heap.size + 1]? = some (.loop { rec .ready none with state := .busy }) := (hsp _ ((hSpd _).2 (.inr (.inr rfl)))).trans hl2
      have hk3 : w'.heap[w.heap.size]? = some (.deferred (some [])) := (hsp _ ((hSpd _).2 (.inr (.inl rfl)))).trans ((ho2 _ (by omega)).trans hk)
      have hlt3 := (Array.getElem?_eq_some_iff.1 hl3).1
      have hb3 : ∀ b, S b → w'.heap[b]? = W.heap[b]? := fun b hb => (hsp _ ((hSpd _).2 (.inl hb))).trans (ho2 _ (by have := hS b hb; omega))
      have hend := run_endRound (P := B.P) jump hl3
      have hrb : Rel B (pat.enc s') a.tmps w' H' φ' := Rel.back hr' hfree hal fun t ht => by
        have h1 := hkt t fun h => ht (List.mem_cons_of_mem _ (List.mem_cons_of_mem _ h))
        rw [h1]
        show ((a.tmps.setIfInBounds pt (.string x)).setIfInBounds d (.string x))[t]? = _
        rw [Array.getElem?_setIfInBounds, if_neg (fun (e : d = t) => ht (by subst e; simp)), Array.getElem?_setIfInBounds, if_neg (fun (e : pt = t) => ht (by subst e; simp))]
      refine ⟨by rw [hrec] at hend ⊢; exact hend, ?_, ?_, World.putObj_heap_same hlt3, (World.putObj_heap_other (by omega)).trans hk3, fun b hb => (World.putObj_heap_other (by have := hS b hb; omega)).trans (hb3 b hb)⟩
      · exact LM.next rfl hpr hR hw0 hZ hX hrb hSp2 hn0 (by omega) (hP' s') (by simp) (fun b _ hb => World.putObj_heap_other fun e => hb ((hSpd b).2 (.inr (.inr e))))
      · refine hb2.trans ⟨hfr.os, hfr.tape, hfr.output, by simpa using hfr.size, fun k hk => ?_⟩
        exact (World.putObj_heap_other (by omega)).trans (hfr.block k (by omega) fun hx => by have := (hX k hx).1; omega)
    have hA : RelA B (((pat.enc s).set pt (.c (.str x))).set d (.c (.str x))) { tmps := (a.tmps.setIfInBounds pt (.string x)).setIfInBounds d (.string x), defers := [] } W2 :=
      ⟨rfl, H, φ, Rel.set (x := .c (.str x)) (v := .string x) (Rel.set (x := .c (.str x)) (v := .string x) hrel pt (arel_str x)) d (arel_str x)⟩
    have key := ev_round (l := w.heap.size + 1) (n := m) hm hE (by rw [hEp, hpr]) hR body hokb _ _ _ _ _ r1 (roundPost B.P (w.heap.size + 1) fun e W' => (e = .returned (.bool true) ∧ (∃ s, foldL stp s0 (pre ++ [x]) = some (.inl s) ∧ LM B.P par Sp n₀ (pat.enc s) a.tmps W' ∧ Below n₀ w W' ∧ W'.heap[w.heap.size + 1]? = some (.loop (rec .ready none)) ∧ W'.heap[w.heap.size]? = some (.deferred (some []))) ∧ ∀ b, S b → W'.heap[b]? = W.heap[b]?) ∨
        (e = .returned (.bool false) ∧ ∃ s, foldL stp s0 (pre ++ [x]) = some (.inr s) ∧ LM B.P par Sp n₀ (pat.enc s) a.tmps W' ∧ Below n₀ w W' ∧ W'.heap[w.heap.size + 1]? = some (.loop (rec .done (some (.exit id)))) ∧ W'.heap[w.heap.size]? = some (.deferred (some []))))
      (fun _ _ h => h) (KeepT.refl T _) hA hev ?_
    · have hact : ({ tmps := Array.foldl (fun t (q : Nat × Value) => match q with | (p, v) => t.setIfInBounds p v) a.tmps ((#[pt] : Array Nat).zip #[.string x]), defers := [] } : Act).put (some d) (Array.getD (Array.foldl (fun t (q : Nat × Value) => match q with | (p, v) => t.setIfInBounds p v) a.tmps ((#[pt] : Array Nat).zip #[.string x])) pt undef) = { tmps := (a.tmps.setIfInBounds pt (.string x)).setIfInBounds d (.string x), defers := [] } := by
        rw [zip1]
        show ({ tmps := (a.tmps.setIfInBounds pt (.string x)).setIfInBounds d ((a.tmps.setIfInBounds pt (.string x)).getD pt undef), defers := [] } : Act) = _
        rw [hgd]
      rw [hW2', hact]
      exact key
    · intro e σ' a' w' hk' hA' hkt
      obtain ⟨hdf, H1, φ1, hr1⟩ := hA'
      have app : ∀ q, foldL stp s0 (pre ++ [x]) = some q ↔ (match r1 with | .inl s' => some (.inl s') | .inr o => some (.inr o)) = some q := fun q => by
        rw [foldL_app, hs]
        simp only [foldL, hx]
        cases r1 <;> rfl
      cases e with
      | normal =>
        simp only [kstep] at hk'
        split at hk'
        · rename_i s' hd
          obtain rfl := Option.some.inj hk'
          obtain ⟨H2, φ2, hr2⟩ := dec_ok hr1 hd
          obtain ⟨f1, f2, f3, f4, f5, f6⟩ := fin s' a' w' none H2 φ2 hr2 hkt
          exact ⟨_, _, f1, .inl ⟨rfl, ⟨s', (app _).2 rfl, f2, f3, f4, f5⟩, f6⟩⟩
        · cases hk'
      | exit id' =>
        simp only [kstep, Outs.inj, sameExit] at hk'
        split at hk'
        · rename_i o ho
          obtain rfl := Option.some.inj hk'
          obtain ⟨hid, hd⟩ := bif_none ho
          obtain rfl : id = id' := by simpa using hid
          obtain ⟨H2, φ2, hr2⟩ := dec_ok hr1 hd
          obtain ⟨f1, f2, f3, f4, f5, f6⟩ := fin o a' w' (some (.exit id)) H2 φ2 hr2 hkt
          exact ⟨_, _, f1, .inr ⟨rfl, o, (app _).2 rfl, f2, f3, f4, f5⟩⟩
        · cases hk'
      | ret => simp [kstep, Outs.inj, sameExit] at hk'
      | goto t => simp [kstep, Outs.inj, sameExit] at hk'
      | panic c => simp [kstep, Outs.inj, sameExit] at hk'
      | outgrown => simp [kstep, Outs.inj, sameExit] at hk'
  · -- behind the iterator
    rintro e W2 ⟨⟨v, rfl⟩, (⟨s, hs, hLM, hbel, hl, hk⟩ | ⟨pre, x, post, hlines, s, hs, hLM, hbel, hl, hk⟩)⟩
    · obtain rfl : r = .inl s := Option.some.inj (hr.symm.trans hs)
      have hlt := (Array.getElem?_eq_some_iff.1 hl).1
      have hend := run_endLoop (P := P) hl (by rw [hrec]; simp)
      rw [hrec] at hend
      have ho : ∀ (o : Obj) k, k ≠ w.heap.size + 1 → (W2.putObj (w.heap.size + 1) o).heap[k]? = W2.heap[k]? := fun o k hk => World.putObj_heap_other hk
      refine ⟨none, _, hend, ?_⟩
      rw [ha]
      have nx : ∀ o : Obj, Below n₀ w (W2.putObj (w.heap.size + 1) o) ∧ LM P par Sp n₀ (pat.enc s) a.tmps (W2.putObj (w.heap.size + 1) o) ∧ (W2.putObj (w.heap.size + 1) o).heap[w.heap.size]? = some (.deferred (some [])) := fun o =>
        ⟨hbel.trans ⟨rfl, rfl, rfl, by simp, fun k hk => ho o k (by omega)⟩, hLM.step hSp hn0 (hP' s) (by simp) (fun b _ hb => ho o b fun e => hb ((hSpd b).2 (.inr (.inr e)))), (ho o _ (by omega)).trans hk⟩
      exact (hQ s _ (nx _).1 (nx _).2.1 (nx _).2.2 (by simpa using hlt)).1 rfl
    · have hr2 : r = .inr s := by
        rw [hlines, show pre ++ x :: post = (pre ++ [x]) ++ post by simp, foldL_app, hs] at hr
        exact (Option.some.inj hr).symm
      subst hr2
      have hlt := (Array.getElem?_eq_some_iff.1 hl).1
      have hend := run_endLoop (P := P) hl (by rw [hrec]; simp)
      rw [hrec] at hend
      have ho : ∀ (o : Obj) k, k ≠ w.heap.size + 1 → (W2.putObj (w.heap.size + 1) o).heap[k]? = W2.heap[k]? := fun o k hk => World.putObj_heap_other hk
      refine ⟨some (.exit id), _, hend, ?_⟩
      rw [ha]
      have nx : ∀ o : Obj, Below n₀ w (W2.putObj (w.heap.size + 1) o) ∧ LM P par Sp n₀ (pat.enc s) a.tmps (W2.putObj (w.heap.size + 1) o) ∧ (W2.putObj (w.heap.size + 1) o).heap[w.heap.size]? = some (.deferred (some [])) := fun o =>
        ⟨hbel.trans ⟨rfl, rfl, rfl, by simp, fun k hk => ho o k (by omega)⟩, hLM.step hSp hn0 (hP' s) (by simp) (fun b _ hb => ho o b fun e => hb ((hSpd b).2 (.inr (.inr e)))), (ho o _ (by omega)).trans hk⟩
      exact wpIn_exit ((hQ s _ (nx _).1 (nx _).2.1 (nx _).2.2 (by simpa using hlt)).2 rfl)
end Go.Proofs.YtklfnbckoaphpaaGreatDoor
