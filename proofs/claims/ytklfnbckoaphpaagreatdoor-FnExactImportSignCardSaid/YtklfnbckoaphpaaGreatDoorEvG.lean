/- Cells read as data. No conditions. -/
import Derived.Test.YtklfnbckoaphpaaGreatDoorEvF
set_option linter.unusedVariables false
namespace Go.Proofs.YtklfnbckoaphpaaGreatDoor
open Go

theorem Ty.cast?_spec {a b : Ty} {x : a.den} {y : b.den} (h : Ty.cast? a b x = some y) : ∃ e : a = b, y = e ▸ x := by
  unfold Ty.cast? at h
  split at h
  · rename_i e _
    simp at h
    exact ⟨e, h.symm⟩
  · cases h
theorem ikEq_self (k : IntKind) : ikEq k k = some ⟨rfl⟩ := by cases k <;> rfl
theorem Ty.eq?_self : ∀ t : Ty, Ty.eq? t t = some ⟨rfl⟩
  | .int k => by simp [Ty.eq?, ikEq_self]
  | .bool => rfl
  | .str => rfl
  | .unit => rfl
  | .slice e => by simp [Ty.eq?, Ty.eq?_self e]
  | .st e => by simp [Ty.eq?, Ty.eq?_self e]
  | .ptr e => by simp [Ty.eq?, Ty.eq?_self e]
  | .pair a b => by simp [Ty.eq?, Ty.eq?_self a, Ty.eq?_self b]
  | .fn a b => by simp [Ty.eq?, Ty.eq?_self a, Ty.eq?_self b]
  | .map a b => by simp [Ty.eq?, Ty.eq?_self a, Ty.eq?_self b]
theorem Ty.castL?_self {t : Ty} (x : List t.den) : Ty.castL? t t x = some x := by simp [Ty.castL?, Ty.eq?_self]
theorem Ty.castL?_spec {a b : Ty} {x : List a.den} {y : List b.den} (h : Ty.castL? a b x = some y) : ∃ e : a = b, y = e ▸ x := by
  unfold Ty.castL? at h
  split at h
  · rename_i e _
    simp at h
    exact ⟨e, h.symm⟩
  · cases h

/-- what may be read out of blocks bs: their memory lies in Zr -/
structure Reads (C : Cx) (bs : List (Nat × Blk)) (Zr : Nat → Prop) : Prop where
  Z : ∀ b, b < C.w.heap.size → C.Z b → Zr b
  blk : ∀ n b, look n bs = some b → ∃ v, ∃ F : Nat → Prop, C.H n = some v ∧ BRel C F v b ∧ ∀ i, i < C.w.heap.size → F i → Zr i
  len : ∀ n d t xs, look n bs = some (.row d t xs) → C.L n = some (xs.length, t.cells)

theorem Reads.nil {C : Cx} : Reads C [] C.Z := ⟨fun _ _ h => h, fun _ _ h => by simp [look] at h, fun _ _ _ _ h => by simp [look] at h⟩
theorem Reads.nil' {C : Cx} {Z : Nat → Prop} (h : ∀ b, b < C.w.heap.size → C.Z b → Z b) : Reads C [] Z := ⟨h, fun _ _ h => by simp [look] at h, fun _ _ _ _ h => by simp [look] at h⟩

theorem DatRel.rd {C : Cx} {t : Ty} {x : t.den} {v : Value} (h : DatRel C t x 0 v) : RdC C.P (.ptr t) C.w C.Z [v] x := by
  obtain ⟨b, o', e, hb, hz, us, hl, h1, h2⟩ := h
  exact ⟨b, o', us, by rw [e]; simp, hb, hz, hl, h1, h2⟩

theorem unflat_rel {C : Cx} {bs : List (Nat × Blk)} {Zr : Nat → Prop} (hR : Reads C bs Zr) : ∀ (t : Ty) (cs : List Cell) (x : t.den) (r : List Cell) (us : List Value),
    t.unflat bs cs = some (x, r) → All2 (CellRel C) cs us → ∃ u1 u2, us = u1 ++ u2 ∧ RdC C.P t C.w Zr u1 x ∧ All2 (CellRel C) r u2
  | .unit, cs, x, r, us, h, ha => by
    simp [Ty.unflat] at h
    subst h
    exact ⟨[], us, rfl, rfl, ha⟩
  | .st a, cs, x, r, us, h, ha => unflat_rel hR a cs x r us (by simpa [Ty.unflat] using h) ha
  | .pair a b, cs, x, r, us, h, ha => by
    simp only [Ty.unflat] at h
    split at h
    · rename_i x1 r1 h1
      split at h
      · rename_i y r2 h2
        simp only [Option.some.injEq, Prod.mk.injEq] at h
        obtain ⟨rfl, rfl⟩ := h
        obtain ⟨u1, u2, rfl, k1, k2⟩ := unflat_rel hR a cs x1 r1 us h1 ha
        obtain ⟨u3, u4, rfl, k3, k4⟩ := unflat_rel hR b r1 y r2 u2 h2 k2
        exact ⟨u1 ++ u3, u4, by simp, ⟨u1, u3, rfl, k1, k3⟩, k4⟩
      · cases h
    · cases h
  | .int k, [], x, r, us, h, ha => by simp [Ty.unflat] at h
  | .bool, [], x, r, us, h, ha => by simp [Ty.unflat] at h
  | .str, [], x, r, us, h, ha => by simp [Ty.unflat] at h
  | .slice e, [], x, r, us, h, ha => by simp [Ty.unflat] at h
  | .ptr e, [], x, r, us, h, ha => by simp [Ty.unflat] at h
  | .fn a b, [], x, r, us, h, ha => by simp [Ty.unflat] at h
  | .map a b, [], x, r, us, h, ha => by simp [Ty.unflat] at h
  | .int k, c :: cs, x, r, [], h, ha => ha.elim
  | .bool, c :: cs, x, r, [], h, ha => ha.elim
  | .str, c :: cs, x, r, [], h, ha => ha.elim
  | .slice e, c :: cs, x, r, [], h, ha => ha.elim
  | .ptr e, c :: cs, x, r, [], h, ha => ha.elim
  | .fn a b, c :: cs, x, r, [], h, ha => ha.elim
  | .map a b, c :: cs, x, r, [], h, ha => ha.elim
  | .int k, c :: cs, x, r, u :: us, h, ha => by
    cases c <;> simp only [Ty.unflat] at h <;> try (cases h; done)
    split at h
    · rename_i e _
      simp only [Option.some.injEq, Prod.mk.injEq] at h
      obtain ⟨rfl, rfl⟩ := h
      obtain ⟨e⟩ := e
      subst e
      exact ⟨[u], us, rfl, by rw [show u = _ from ha.1]; rfl, ha.2⟩
    · cases h
  | .bool, c :: cs, x, r, u :: us, h, ha => by
    cases c <;> simp only [Ty.unflat] at h <;> try (cases h; done)
    simp only [Option.some.injEq, Prod.mk.injEq] at h
    obtain ⟨rfl, rfl⟩ := h
    exact ⟨[u], us, rfl, by rw [show u = _ from ha.1]; rfl, ha.2⟩
  | .str, c :: cs, x, r, u :: us, h, ha => by
    cases c <;> simp only [Ty.unflat] at h <;> try (cases h; done)
    simp only [Option.some.injEq, Prod.mk.injEq] at h
    obtain ⟨rfl, rfl⟩ := h
    exact ⟨[u], us, rfl, by rw [show u = _ from ha.1]; rfl, ha.2⟩
  | .slice e, c :: cs, x, r, u :: us, h, ha => by
    cases c <;> simp only [Ty.unflat] at h <;> try (cases h; done)
    case sl t ys =>
      split at h
      · rename_i zs hc
        simp only [Option.some.injEq, Prod.mk.injEq] at h
        obtain ⟨rfl, rfl⟩ := h
        obtain ⟨rfl, rfl⟩ := Ty.castL?_spec hc
        exact ⟨[u], us, rfl, RdC.mono hR.Z ha.1, ha.2⟩
      · cases h
    case nil =>
      simp only [Option.some.injEq, Prod.mk.injEq] at h
      obtain ⟨rfl, rfl⟩ := h
      obtain ⟨A, e1⟩ := ha.1
      exact ⟨[u], us, rfl, ⟨A, 0, by rw [e1]; rfl, by simp, fun h => absurd h (by simp)⟩, ha.2⟩
    case own n =>
      split at h
      · rename_i d t ys hl
        split at h
        · rename_i zs hc
          simp only [Option.some.injEq, Prod.mk.injEq] at h
          obtain ⟨rfl, rfl⟩ := h
          obtain ⟨rfl, rfl⟩ := Ty.castL?_spec hc
          obtain ⟨v, F, hv, hb, hF⟩ := hR.blk n _ hl
          have : v = u := by have := ha.1.1; rw [hv] at this; exact Option.some.inj this
          subst this
          exact ⟨[v], us, rfl, RowOf.read hb hR.Z hF, ha.2⟩
        · cases h
      · cases h
    case sub n o l =>
      split at h
      · rename_i d t ys hl
        split at h
        · rename_i zs hc
          simp only [Option.some.injEq, Prod.mk.injEq] at h
          obtain ⟨rfl, rfl⟩ := h
          obtain ⟨rfl, rfl⟩ := Ty.castL?_spec hc
          obtain ⟨v, F, hv, hb, hF⟩ := hR.blk n _ hl
          obtain ⟨A, c, L, s, h1, h2, h3, A', c', rfl, h4, h5, _⟩ := ha.1
          rw [hR.len n _ _ _ hl] at h1
          simp only [Option.some.injEq, Prod.mk.injEq] at h1
          obtain ⟨rfl, rfl⟩ := h1
          rw [hv] at h2
          obtain rfl := Option.some.inj h2
          have hrd := RowOf.read hb hR.Z hF
          obtain ⟨A2, c2, e2, _, h6⟩ := hrd
          simp only [List.cons.injEq, Value.slice.injEq, and_true] at e2
          obtain ⟨rfl, _, rfl⟩ := e2
          have hlen : ((ys.drop o).take l).length = l := by simp; omega
          refine ⟨[.slice A' l c'], us, rfl, ⟨A', c', by rw [hlen], by rw [hlen]; exact h4, fun hp => ?_⟩, ha.2⟩
          rw [hlen] at hp
          obtain ⟨g, eA, eA'⟩ := h5 hp
          obtain ⟨b, o2, eb, hb1, hb2, h7⟩ := h6 (by omega)
          rw [eA] at eb
          simp only [Option.some.injEq, Addr.mk.injEq, and_true] at eb
          obtain ⟨rfl, rfl⟩ := eb
          refine ⟨g, o * t.cells, eA', hb1, hb2, fun i hi => ?_⟩
          have hi' : i < l := by rw [hlen] at hi; exact hi
          obtain ⟨ws, k1, k2, k3⟩ := h7 (o + i) (by omega)
          refine ⟨ws, k1, ?_, ?_⟩
          · have : ((ys.drop o).take l)[i] = ys[o + i]'(by omega) := by simp
            rw [this]; exact k2
          · have : 0 + (o + i) * t.cells = o * t.cells + i * t.cells := by rw [Nat.zero_add, Nat.add_mul]
            rw [← this]; exact k3
        · cases h
      · cases h
  | .ptr e, c :: cs, x, r, u :: us, h, ha => by
    cases c
    case dptr t y off =>
      cases off with
      | succ k => simp [Ty.unflat] at h
      | zero =>
        simp only [Ty.unflat] at h
        split at h
        · rename_i zs hc
          simp only [Option.some.injEq, Prod.mk.injEq] at h
          obtain ⟨rfl, rfl⟩ := h
          obtain ⟨rfl, rfl⟩ := Ty.cast?_spec hc
          exact ⟨[u], us, rfl, RdC.mono hR.Z (DatRel.rd ha.1), ha.2⟩
        · cases h
    case ptr n off =>
      cases off with
      | succ k => simp [Ty.unflat] at h
      | zero =>
        simp only [Ty.unflat] at h
        split at h
        · rename_i bcs hl
          split at h
          · rename_i y hu
            simp only [Option.some.injEq, Prod.mk.injEq] at h
            obtain ⟨rfl, rfl⟩ := h
            obtain ⟨v, F, hv, hb, hF⟩ := hR.blk n _ hl
            obtain ⟨g, gs, ety, rfl, hg, hh, hal⟩ := hb
            obtain ⟨g', hg', rfl⟩ := ha.1
            rw [hv] at hg'
            simp only [Option.some.injEq, Value.pointer.injEq, Addr.mk.injEq, and_true] at hg'
            subst hg'
            obtain ⟨u1, u2, eu, k1, k2⟩ := unflat_rel hR e bcs y [] gs.toList hu hal
            have : u2 = [] := by cases u2 with | nil => rfl | cons _ _ => exact k2.elim
            subst this
            have hlt : g < C.w.heap.size := (Array.getElem?_eq_some_iff.1 hh).1
            refine ⟨[.pointer (some ⟨g, 0, none⟩)], us, rfl, ⟨g, 0, u1, rfl, hlt, hF g hlt hg, (RdC.cells e u1 y k1).1, k1, ?_⟩, ha.2⟩
            intro j w hj
            rw [cell_of_row C.w g _ gs ety _ hh, ← Array.getElem?_toList, eu]
            simpa using hj
          · cases h
        · cases h
    all_goals (simp [Ty.unflat] at h)
  | .fn a b, c :: cs, x, r, u :: us, h, ha => by
    cases c <;> simp only [Ty.unflat] at h <;> try (cases h; done)
    split at h
    · rename_i zs hc
      simp only [Option.some.injEq, Prod.mk.injEq] at h
      obtain ⟨rfl, rfl⟩ := h
      obtain ⟨e, rfl⟩ := Ty.cast?_spec hc
      cases e
      exact ⟨[u], us, rfl, RdC.mono hR.Z ha.1, ha.2⟩
    · cases h
  | .map k t, c :: cs, x, r, u :: us, h, ha => by
    cases c
    case mdat k' t' es =>
      simp only [Ty.unflat] at h
      split at h
      · rename_i zs hc
        simp only [Option.some.injEq, Prod.mk.injEq] at h
        obtain ⟨rfl, rfl⟩ := h
        obtain ⟨e, rfl⟩ := Ty.cast?_spec hc
        cases e
        exact ⟨[u], us, rfl, RdC.mono hR.Z ha.1, ha.2⟩
      · cases h
    case mp n =>
      simp only [Ty.unflat] at h
      split at h
      · rename_i k' t' es hl
        split at h
        · rename_i zs hc
          simp only [Option.some.injEq, Prod.mk.injEq] at h
          obtain ⟨rfl, rfl⟩ := h
          obtain ⟨e, rfl⟩ := Ty.cast?_spec hc
          cases e
          obtain ⟨v, F, hv, hb, hF⟩ := hR.blk n _ hl
          obtain ⟨g, ents, clock, rfl, hg, hh, hr⟩ := hb
          have hu : u = .map (some g) := by
            have := ha.1.1
            rw [hv] at this
            exact (Option.some.inj this).symm
          subst hu
          have hlt : g < C.w.heap.size := (Array.getElem?_eq_some_iff.1 hh).1
          exact ⟨[.map (some g)], us, rfl, ⟨g, ents, clock, rfl, hlt, hF g hlt hg, hh, hr⟩, ha.2⟩
        · cases h
      · cases h
    all_goals (simp [Ty.unflat] at h)

theorem read_cell {C : Cx} {bs : List (Nat × Blk)} {Zr : Nat → Prop} (hR : Reads C bs Zr) {t : Ty} (ht : ∀ a, t ≠ .st a) {y : Cell} {d : t.den} {v : Value} (h : (match t.unflat bs [y] with | some (d, []) => some d | _ => none) = some d) (ha : CellRel C y v) : RdV C.P t C.w Zr v d := by
  split at h
  · rename_i z hu
    simp only [Option.some.injEq] at h
    subst h
    obtain ⟨u1, u2, eu, k1, k2⟩ := unflat_rel hR t [y] z [] [v] hu ⟨ha, trivial⟩
    have : u2 = [] := by cases u2 with | nil => rfl | cons _ _ => exact k2.elim
    subst this
    simp only [List.append_nil] at eu
    subst eu
    refine ⟨[v], ?_, k1⟩
    cases t <;> first | rfl | exact absurd rfl (ht _)
  · cases h

/-- one value as data -/
theorem read_rel {C : Cx} {bs : List (Nat × Blk)} {Zr : Nat → Prop} (hR : Reads C bs Zr) {t : Ty} {x : A} {d : t.den} {v : Value} (h : A.read bs t x = some d) (ha : ARel C x v) : RdV C.P t C.w Zr v d := by
  cases t with
  | st a =>
    cases x with
    | agg cs =>
      simp only [A.read] at h
      split at h
      · rename_i y hu
        simp only [Option.some.injEq] at h
        subst h
        obtain ⟨us, rfl, hal⟩ := ha
        obtain ⟨u1, u2, eu, k1, k2⟩ := unflat_rel hR a cs y [] us.toList hu hal
        have : u2 = [] := by cases u2 with | nil => rfl | cons _ _ => exact k2.elim
        subst this
        simp only [List.append_nil] at eu
        subst eu
        exact ⟨us.toList, by simp [Boxed], k1⟩
      · cases h
    | _ => simp [A.read] at h
  | pair a b => cases x <;> simp [A.read] at h
  | unit => cases x <;> simp [A.read] at h
  | int k => cases x with
    | c y => exact read_cell hR (by simp) h ha
    | _ => simp [A.read] at h
  | bool => cases x with
    | c y => exact read_cell hR (by simp) h ha
    | _ => simp [A.read] at h
  | str => cases x with
    | c y => exact read_cell hR (by simp) h ha
    | _ => simp [A.read] at h
  | slice e => cases x with
    | c y => exact read_cell hR (by simp) h ha
    | _ => simp [A.read] at h
  | ptr e => cases x with
    | c y => exact read_cell hR (by simp) h ha
    | _ => simp [A.read] at h
  | fn e f => cases x with
    | c y => exact read_cell hR (by simp) h ha
    | _ => simp [A.read] at h
  | map e f => cases x with
    | c y => exact read_cell hR (by simp) h ha
    | _ => simp [A.read] at h

theorem Sig.hd_mk (p : PK × Ty) (r : List (PK × Ty)) (x : p.2.den) (y : Sig.den r) : Sig.hd p r (Sig.mk p r x y) = x := by cases r <;> rfl
theorem Sig.tl_mk (p : PK × Ty) (r : List (PK × Ty)) (x : p.2.den) (y : Sig.den r) : Sig.tl p r (Sig.mk p r x y) = y := by cases r <;> rfl

theorem readCaps_rel {C : Cx} {bs : List (Nat × Blk)} {Zr : Nat → Prop} (hR : Reads C bs Zr) : ∀ (ts : List Ty) (caps : List Cap) (vs : List Value) (kx : Sig.den (ts.map fun t => (PK.val, Ty.ptr t))),
    readCaps bs ts caps = some kx → All2 (CapRel C) caps vs → Holds C.P C.w Zr NoB (ts.map fun t => (PK.val, Ty.ptr t)) vs kx
  | [], [], vs, kx, h, ha => by cases vs with | nil => rfl | cons _ _ => exact ha.elim
  | [], c :: cs, vs, kx, h, ha => by simp [readCaps] at h
  | t :: ts, [], vs, kx, h, ha => by simp [readCaps] at h
  | t :: ts, c :: cs, [], kx, h, ha => ha.elim
  | t :: ts, c :: cs, v :: vs, kx, h, ha => by
    simp only [readCaps] at h
    split at h
    · rename_i x y h1 h2
      simp only [Option.some.injEq] at h
      subst h
      refine ⟨v, vs, rfl, ?_, ?_⟩
      · rw [Sig.hd_mk]
        cases c with
        | p n => exact read_rel hR h1 (show ARel C (.c (.ptr n 0)) v from ha.1)
        | d t' z =>
          obtain ⟨rfl, rfl⟩ := Ty.cast?_spec h1
          exact ⟨[v], rfl, RdC.mono hR.Z (DatRel.rd ha.1)⟩
      · rw [Sig.tl_mk]
        exact readCaps_rel hR ts cs vs y h2 ha.2
    · cases h

theorem holds_agree {P : Program} {w w' : World} {Z Z' : Nat → Prop} (hz : ∀ b, b < w.heap.size → Z b → Z' b) (ha : Agree Z w w') : ∀ (ps : List (PK × Ty)) (F : Nat → Prop) (vs : List Value) (x : Sig.den ps),
    Agree F w w' → Holds P w Z F ps vs x → Holds P w' Z' F ps vs x
  | [], F, vs, x, hF, h => h
  | (.val, t) :: ps, F, vs, x, hF, h => by
    obtain ⟨v, r, e, h1, h2⟩ := h
    exact ⟨v, r, e, RdV.agree ha hz h1, holds_agree hz ha ps F r _ hF h2⟩
  | (.io d, t) :: ps, F, vs, x, hF, h => by
    obtain ⟨v, r, F1, F2, e, s1, s2, s3, h1, h2⟩ := h
    exact ⟨v, r, F1, F2, e, s1, s2, s3, OwTop.agree hz ha (fun _ h => h) (hF.mono fun i _ hi => s1 i hi) h1, holds_agree hz ha ps F2 r _ (hF.mono fun i _ hi => s2 i hi) h2⟩
  | (.eat d, t) :: ps, F, vs, x, hF, h => by
    obtain ⟨v, r, F1, F2, e, s1, s2, s3, h1, h2⟩ := h
    exact ⟨v, r, F1, F2, e, s1, s2, s3, OwTop.agree hz ha (fun _ h => h) (hF.mono fun i _ hi => s1 i hi) h1, holds_agree hz ha ps F2 r _ (hF.mono fun i _ hi => s2 i hi) h2⟩

theorem agree_none (w w' : World) (h : w.heap.size ≤ w'.heap.size) : Agree NoB w w' := ⟨h, fun _ _ f => f.elim⟩

/-- a value or a function value of this call as data -/
theorem readF_rel {C : Cx} {E : Env} (hE : EnvOK C.P E) {bs : List (Nat × Blk)} {Zr : Nat → Prop} (hR : Reads C bs Zr) {t : Ty} {x : A} {d : t.den} {v : Value} (h : A.readF E bs t x = some d) (ha : ARel C x v) : RdV C.P t C.w Zr v d := by
  unfold A.readF at h
  split at h
  · rename_i f caps a r
    split at h
    · rename_i cc hcc
      split at h
      · rename_i kx hk
        obtain ⟨vs, rfl, hal⟩ := ha
        obtain ⟨e, rfl⟩ := Ty.cast?_spec h
        cases e
        have ok := hE.clo f cc hcc
        have hh := readCaps_rel hR cc.caps caps vs.toList kx hk hal
        refine ⟨[_], rfl, _, rfl, rfl, fun w' hw' ht vals cs x y hc hr hφ => ?_⟩
        refine ⟨f, vs, rfl, ok.enters, ?_⟩
        have := ok.calls w' (fun _ => True) vals vs.toList cs kx x y hφ hc hr (holds_agree (fun _ _ _ => trivial) hw' _ _ _ _ (agree_none _ _ hw'.1) hh) ht
        simpa using this
      · cases h
    · cases h
  · exact read_rel hR h ha

theorem readArgs_rel {C : Cx} {E : Env} (hE : EnvOK C.P E) {bs : List (Nat × Blk)} {Zr : Nat → Prop} (hR : Reads C bs Zr) : ∀ (a : Ty) (xs : List A) (vs : List Value) (x : a.den),
    readArgs E bs a xs = some x → All2 (ARel C) xs vs → ∃ cs, ArgCells a vs cs ∧ RdC C.P a C.w Zr cs x
  | .pair a b, x :: xs, v :: vs, d, h, ha => by
    simp only [readArgs] at h
    split at h
    · rename_i u v' h1 h2
      simp only [Option.some.injEq] at h
      subst h
      obtain ⟨c1, k1, k2⟩ := readF_rel hE hR h1 ha.1
      obtain ⟨c2, k3, k4⟩ := readArgs_rel hE hR b xs vs v' h2 ha.2
      exact ⟨c1 ++ c2, ⟨v, vs, c1, c2, rfl, rfl, (RdC.cells a c1 u k2).1, k1, k3⟩, c1, c2, rfl, k2, k4⟩
    · cases h
  | .pair a b, x :: xs, [], d, h, ha => ha.elim
  | .pair a b, [], vs, d, h, ha => by simp [readArgs] at h
  | .unit, [], vs, d, h, ha => by
    cases vs with
    | nil => exact ⟨[], ⟨rfl, rfl⟩, rfl⟩
    | cons _ _ => exact ha.elim
  | .unit, _ :: _, vs, d, h, ha => by simp [readArgs] at h
  | .int k, [x], [v], d, h, ha => let ⟨cs, k1, k2⟩ := readF_rel hE hR (by simpa [readArgs] using h) ha.1; ⟨cs, ⟨v, rfl, k1⟩, k2⟩
  | .bool, [x], [v], d, h, ha => let ⟨cs, k1, k2⟩ := readF_rel hE hR (by simpa [readArgs] using h) ha.1; ⟨cs, ⟨v, rfl, k1⟩, k2⟩
  | .str, [x], [v], d, h, ha => let ⟨cs, k1, k2⟩ := readF_rel hE hR (by simpa [readArgs] using h) ha.1; ⟨cs, ⟨v, rfl, k1⟩, k2⟩
  | .slice e, [x], [v], d, h, ha => let ⟨cs, k1, k2⟩ := readF_rel hE hR (by simpa [readArgs] using h) ha.1; ⟨cs, ⟨v, rfl, k1⟩, k2⟩
  | .st e, [x], [v], d, h, ha => let ⟨cs, k1, k2⟩ := readF_rel hE hR (by simpa [readArgs] using h) ha.1; ⟨cs, ⟨v, rfl, k1⟩, k2⟩
  | .ptr e, [x], [v], d, h, ha => let ⟨cs, k1, k2⟩ := readF_rel hE hR (by simpa [readArgs] using h) ha.1; ⟨cs, ⟨v, rfl, k1⟩, k2⟩
  | .fn e f, [x], [v], d, h, ha => let ⟨cs, k1, k2⟩ := readF_rel hE hR (by simpa [readArgs] using h) ha.1; ⟨cs, ⟨v, rfl, k1⟩, k2⟩
  | .map e f, [x], [v], d, h, ha => let ⟨cs, k1, k2⟩ := readF_rel hE hR (by simpa [readArgs] using h) ha.1; ⟨cs, ⟨v, rfl, k1⟩, k2⟩
  | .int k, [], _, d, h, ha => by simp [readArgs] at h
  | .bool, [], _, d, h, ha => by simp [readArgs] at h
  | .str, [], _, d, h, ha => by simp [readArgs] at h
  | .slice e, [], _, d, h, ha => by simp [readArgs] at h
  | .st e, [], _, d, h, ha => by simp [readArgs] at h
  | .ptr e, [], _, d, h, ha => by simp [readArgs] at h
  | .fn e f, [], _, d, h, ha => by simp [readArgs] at h
  | .map e f, [], _, d, h, ha => by simp [readArgs] at h
  | .int k, _ :: _ :: _, _, d, h, ha => by simp [readArgs] at h
  | .bool, _ :: _ :: _, _, d, h, ha => by simp [readArgs] at h
  | .str, _ :: _ :: _, _, d, h, ha => by simp [readArgs] at h
  | .slice e, _ :: _ :: _, _, d, h, ha => by simp [readArgs] at h
  | .st e, _ :: _ :: _, _, d, h, ha => by simp [readArgs] at h
  | .ptr e, _ :: _ :: _, _, d, h, ha => by simp [readArgs] at h
  | .fn e f, _ :: _ :: _, _, d, h, ha => by simp [readArgs] at h
  | .map e f, _ :: _ :: _, _, d, h, ha => by simp [readArgs] at h
  | .int k, [x], [], d, h, ha => ha.elim
  | .bool, [x], [], d, h, ha => ha.elim
  | .str, [x], [], d, h, ha => ha.elim
  | .slice e, [x], [], d, h, ha => ha.elim
  | .st e, [x], [], d, h, ha => ha.elim
  | .ptr e, [x], [], d, h, ha => ha.elim
  | .fn e f, [x], [], d, h, ha => ha.elim
  | .map e f, [x], [], d, h, ha => ha.elim
  | .int k, [x], _ :: _ :: _, d, h, ha => ha.2.elim
  | .bool, [x], _ :: _ :: _, d, h, ha => ha.2.elim
  | .str, [x], _ :: _ :: _, d, h, ha => ha.2.elim
  | .slice e, [x], _ :: _ :: _, d, h, ha => ha.2.elim
  | .st e, [x], _ :: _ :: _, d, h, ha => ha.2.elim
  | .ptr e, [x], _ :: _ :: _, d, h, ha => ha.2.elim
  | .fn e f, [x], _ :: _ :: _, d, h, ha => ha.2.elim
  | .map e f, [x], _ :: _ :: _, d, h, ha => ha.2.elim

end Go.Proofs.YtklfnbckoaphpaaGreatDoor
