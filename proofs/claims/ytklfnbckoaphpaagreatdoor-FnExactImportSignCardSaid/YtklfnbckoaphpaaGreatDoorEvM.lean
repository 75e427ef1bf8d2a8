/- Blocks that come, go and change: what keeps the relation. No conditions. -/
import Derived.Test.YtklfnbckoaphpaaGreatDoorEvL
set_option linter.unusedVariables false
set_option linter.unusedSimpArgs false
namespace Go.Proofs.YtklfnbckoaphpaaGreatDoor
open Go

/-! ### A name given up -/
structure Cx.But (n : Nat) (C C' : Cx) : Prop where
  P : C'.P = C.P
  w : C'.w = C.w
  Z : ∀ b, b < C.w.heap.size → C.Z b → C'.Z b
  H : ∀ m, m ≠ n → C'.H m = C.H m
  L : ∀ m, m ≠ n → C'.L m = C.L m

theorem PtrRel.but {n : Nat} {C C' : Cx} (h : C.But n C') {m o : Nat} (hm : m ≠ n) {v : Value} (hr : PtrRel C m o v) : PtrRel C' m o v :=
  let ⟨g, h1, h2⟩ := hr
  ⟨g, by rw [h.H m hm]; exact h1, h2⟩
theorem DatRel.but {n : Nat} {C C' : Cx} (h : C.But n C') {t : Ty} {x : t.den} {o : Nat} {v : Value} (hr : DatRel C t x o v) : DatRel C' t x o v := by
  obtain ⟨b, o', e, hb, hz, us, hl, h1, h2⟩ := hr
  refine ⟨b, o', e, by rw [h.w]; exact hb, h.Z b hb hz, us, hl, ?_, by rw [h.w]; exact h2⟩
  rw [h.P, h.w]; exact RdC.mono h.Z h1
theorem caps_but {n : Nat} {C C' : Cx} (h : C.But n C') : ∀ {caps : List Cap} {vs : List Value}, caps.any (Cap.has n) = false → All2 (CapRel C) caps vs → All2 (CapRel C') caps vs
  | [], [], _, _ => trivial
  | [], _ :: _, _, ha => ha.elim
  | _ :: _, [], _, ha => ha.elim
  | c :: caps, v :: vs, hc, ha => by
    simp only [List.any_cons, Bool.or_eq_false_iff] at hc
    refine ⟨?_, caps_but h hc.2 ha.2⟩
    cases c with
    | p m => exact PtrRel.but h (by simpa [Cap.has] using hc.1) ha.1
    | d t x => exact DatRel.but h ha.1

theorem Cell.swap_rel {n : Nat} {C C' : Cx} (h : C.But n C') {g : Cell → Cell}
    (h1 : ∀ v, CellRel C (.own n) v → CellRel C' (g (.own n)) v) (h2 : ∀ o l v, CellRel C (.sub n o l) v → CellRel C' (g (.sub n o l)) v)
    (h3 : ∀ o v, CellRel C (.ptr n o) v → CellRel C' (g (.ptr n o)) v) (h4 : ∀ i o v, CellRel C (.eptr n i o) v → CellRel C' (g (.eptr n i o)) v) (h5 : ∀ v, CellRel C (.mp n) v → CellRel C' (g (.mp n)) v) : ∀ (c : Cell) (v : Value), CellRel C c v → CellRel C' (c.swap n g) v
  | .any, v, hr => hr
  | .int _ _, v, hr => hr
  | .bool _, v, hr => hr
  | .str _, v, hr => hr
  | .nil, v, hr => hr
  | .sl t xs, v, hr => by
    show RdC C'.P _ _ _ _ _
    rw [h.P, h.w]; exact RdC.mono h.Z hr
  | .clo a r φ, v, hr => by
    show RdC C'.P _ _ _ _ _
    rw [h.P, h.w]; exact RdC.mono h.Z hr
  | .mdat k t es, v, hr => by
    show RdC C'.P _ _ _ _ _
    rw [h.P, h.w]; exact RdC.mono h.Z hr
  | .mp m, v, hr => by
    by_cases hm : m = n
    · subst hm; simpa [Cell.swap] using h5 v hr
    · have e : (m == n) = false := by simp [hm]
      simp only [Cell.swap, e, cond_false]
      exact ⟨by rw [h.H m hm]; exact hr.1, hr.2⟩
  | .dptr t x o, v, hr => DatRel.but h hr
  | .own m, v, hr => by
    by_cases hm : m = n
    · subst hm; simpa [Cell.swap] using h1 v hr
    · have e : (m == n) = false := by simp [hm]
      simp only [Cell.swap, e, cond_false]
      exact ⟨by rw [h.H m hm]; exact hr.1, hr.2⟩
  | .sub m o l, v, hr => by
    by_cases hm : m = n
    · subst hm; simpa [Cell.swap] using h2 o l v hr
    · have e : (m == n) = false := by simp [hm]
      simp only [Cell.swap, e, cond_false]
      obtain ⟨A, c, L, s, e1, e2, e3⟩ := hr
      exact ⟨A, c, L, s, by rw [h.L m hm]; exact e1, by rw [h.H m hm]; exact e2, e3⟩
  | .ptr m o, v, hr => by
    by_cases hm : m = n
    · subst hm; simpa [Cell.swap] using h3 o v hr
    · have e : (m == n) = false := by simp [hm]
      simp only [Cell.swap, e, cond_false]
      exact PtrRel.but h hm hr
  | .eptr m i o, v, hr => by
    by_cases hm : m = n
    · subst hm; simpa [Cell.swap] using h4 i o v hr
    · have e : (m == n) = false := by simp [hm]
      simp only [Cell.swap, e, cond_false]
      obtain ⟨g', L, s, c, e1, e2, e3, e4⟩ := hr
      exact ⟨g', L, s, c, by rw [h.L m hm]; exact e1, e2, by rw [h.H m hm]; exact e3, e4⟩
  | .fn f caps, v, hr => by
    obtain ⟨vs, e, hal⟩ := hr
    cases hc : caps.any (Cap.has n) with
    | true => simp only [Cell.swap, hc, cond_true]; subst e; rfl
    | false => simp only [Cell.swap, hc, cond_false]; exact ⟨vs, e, caps_but h hc hal⟩

theorem swapA_rel {n : Nat} {C C' : Cx} {g : Cell → Cell} (hc : ∀ (c : Cell) (v : Value), CellRel C c v → CellRel C' (c.swap n g) v) : ∀ (x : A) (v : Value), ARel C x v → ARel C' (x.swap n g) v
  | .any, v, _ => trivial
  | .c x, v, hr => hc x v hr
  | .agg cs, v, hr => by
    obtain ⟨us, e, hal⟩ := hr
    exact ⟨us, e, All2.map_left (hal.mono hc)⟩
  | .tup xs, v, hr => by
    obtain ⟨us, e, hal⟩ := hr
    refine ⟨us, e, All2.map_left (hal.mono fun p v hp => ?_)⟩
    obtain ⟨b, cs⟩ := p
    cases b with
    | true => obtain ⟨ws, e, hal⟩ := hp; exact ⟨ws, e, All2.map_left (hal.mono hc)⟩
    | false =>
      match cs, hp with
      | [c], hp => exact hc c v hp

theorem zone.but {B : Base} {R1 : Nat → Prop} {w : World} {φ : Nat → Nat → Prop} (n : Nat) (hR : ∀ b, R1 b → B.R b ∨ φ n b) {b : Nat} (h : zone B w φ b) : zone (B.on R1) w (fun m b => m ≠ n ∧ φ m b) b :=
  ⟨h.1, h.2.1, fun hr => (hR b hr).elim h.2.2.1 (h.2.2.2 n), fun m hm => h.2.2.2 m hm.2⟩

theorem look_swap (n m : Nat) (g : Cell → Cell) (bs : List (Nat × Blk)) : look m ((blkDel n bs).map fun p => (p.1, p.2.swap n g)) = if m = n then none else (look m bs).map (Blk.swap n g) := by
  rw [look_map]
  by_cases hm : m = n
  · subst hm; simp [look_del_same]
  · simp [hm, look_del_other hm]
theorem lenOf_swap (n m : Nat) (g : Cell → Cell) (bs : List (Nat × Blk)) (hm : m ≠ n) : lenOf ((blkDel n bs).map fun p => (p.1, p.2.swap n g)) m = lenOf bs m := by
  unfold lenOf
  rw [look_swap, if_neg hm]
  cases look m bs with
  | none => rfl
  | some b => cases b <;> rfl

section
variable {B : Base} {σ : St} {tm : Array Value} {w : World} {H : Nat → Option Value} {φ : Nat → Nat → Prop}

theorem Rel.swap (h : Rel B σ tm w H φ) (n : Nat) {g : Cell → Cell} (R1 : Nat → Prop) (hR : ∀ b, R1 b → B.R b ∨ φ n b)
    (hc : ∀ C', C' = (B.on R1).cx w (fun m => if m = n then none else H m) (fun m b => m ≠ n ∧ φ m b) (lenOf (σ.swap n g).blks) → (B.at σ w H φ).But n C' → ∀ (c : Cell) (v : Value), CellRel (B.at σ w H φ) c v → CellRel C' (c.swap n g) v) :
    Rel (B.on R1) (σ.swap n g) tm w (fun m => if m = n then none else H m) (fun m b => m ≠ n ∧ φ m b) := by
  have hbut : (B.at σ w H φ).But n ((B.on R1).cx w (fun m => if m = n then none else H m) (fun m b => m ≠ n ∧ φ m b) (lenOf (σ.swap n g).blks)) :=
    ⟨rfl, rfl, fun b _ hz => zone.but n hR hz, fun m hm => by simp [Base.cx, hm], fun m hm => lenOf_swap n m g σ.blks hm⟩
  have hcell := hc _ rfl hbut
  refine ⟨⟨h.mem.fr, fun m hm => ?_, fun m hm b hb => ?_, fun m b hb => h.mem.fsub m b hb.2, fun m k hmk b hb hb' => h.mem.fdis m k hmk b hb.2 hb'.2, fun m b hb hr => ?_, fun b hr => ?_, fun m u hm => ?_, fun m b hb => ?_⟩, ?_⟩
  · have e := look_swap n m g σ.blks
    simp only [St.swap] at hm
    rw [e] at hm
    by_cases hmn : m = n
    · simp [hmn]
    · simp only [hmn, if_false] at hm ⊢
      exact h.mem.hdom m (by simpa using hm)
  · have e := look_swap n m g σ.blks
    simp only [St.swap] at hm
    rw [e] at hm
    simp only [hb.1, if_false] at hm
    exact h.mem.fdom m (by simpa using hm) b hb.2
  · rcases hR b hr with hr | hr
    · exact h.mem.rdis m b hb.2 hr
    · exact h.mem.fdis m n hb.1 b hb.2 hr
  · rcases hR b hr with hr | hr
    · exact h.mem.rsub b hr
    · refine ⟨?_, (h.mem.fsub n b hr).2⟩
      rcases (h.mem.fsub n b hr).1 with hx | hx
      · exact .inl hx.2
      · exact .inr hx
  · by_cases e : m = n
    · exact .inl (by simp [e])
    · simpa [e] using h.mem.keep m u hm
  · have e := look_swap n m g σ.blks
    simp only [St.swap] at hb
    rw [e] at hb
    by_cases hmn : m = n
    · simp [hmn] at hb
    · simp only [hmn, if_false] at hb
      cases hl : look m σ.blks with
      | none => simp [hl] at hb
      | some b0 =>
        simp only [hl, Option.map_some, Option.some.injEq] at hb
        subst hb
        obtain ⟨v, hv, hr⟩ := h.mem.blk m b0 hl
        refine ⟨v, by simp [hmn, hv], ?_⟩
        rw [Blk.swap_mapC]
        exact BRel.map (C := B.at σ w H φ) (C' := (B.on R1).cx w (fun m => if m = n then none else H m) (fun m b => m ≠ n ∧ φ m b) (lenOf (σ.swap n g).blks)) rfl (fun b _ hz => zone.but n hR hz) (Agree.refl _ _) hcell (fun b hb => ⟨hmn, hb⟩) (Agree.refl _ _) hr
  · exact All2.map_left (h.tmp.mono (swapA_rel hcell))

/-- a block given up, its memory being about to be written -/
theorem Rel.killR (h : Rel B σ tm w H φ) (n : Nat) {b : Blk} (hl : look n σ.blks = some b) : Rel (B.on fun i => B.R i ∨ φ n i) (σ.kill n) tm w (fun m => if m = n then none else H m) (fun m b => m ≠ n ∧ φ m b) := by
  have e : σ.kill n = σ.swap n fun _ => .any := by simp [St.kill, hl]
  rw [e]
  exact h.swap n _ (fun b hb => hb) fun C' _ hb c v hr => Cell.swap_rel (g := fun _ => .any) hb (fun v hr => CellRel.one _ v hr) (fun o l v hr => CellRel.one _ v hr) (fun o v hr => CellRel.one _ v hr) (fun i o v hr => CellRel.one _ v hr) (fun v hr => CellRel.one _ v hr) c v hr

/-- a block given up: its memory is nobody's any more -/
theorem Rel.kill (h : Rel B σ tm w H φ) (n : Nat) : ∃ H' φ', Rel B (σ.kill n) tm w H' φ' ∧ look n (σ.kill n).blks = none ∧ (∀ m, m ≠ n → H' m = H m ∧ ∀ b, φ' m b ↔ φ m b) ∧ (∀ m, m ≠ n → (look m (σ.kill n).blks = none ↔ look m σ.blks = none)) ∧ (∀ m b, φ' m b → φ m b) := by
  cases hl : look n σ.blks with
  | none =>
    have e : σ.kill n = σ := by simp [St.kill, hl]
    rw [e]
    exact ⟨H, φ, h, hl, fun _ _ => ⟨rfl, fun _ => Iff.rfl⟩, fun _ _ => Iff.rfl, fun _ _ h => h⟩
  | some b =>
    have e : σ.kill n = σ.swap n fun _ => .any := by simp [St.kill, hl]
    rw [e]
    refine ⟨_, _, h.swap n B.R (fun b hb => .inl hb) fun C' _ hb c v hr => Cell.swap_rel (g := fun _ => .any) hb (fun v hr => CellRel.one _ v hr) (fun o l v hr => CellRel.one _ v hr) (fun o v hr => CellRel.one _ v hr) (fun i o v hr => CellRel.one _ v hr) (fun v hr => CellRel.one _ v hr) c v hr, ?_, fun m hm => ⟨by simp [hm], fun b => ⟨fun hb => hb.2, fun hb => ⟨hm, hb⟩⟩⟩, fun m hm => ?_, fun m b hb => hb.2⟩
    · simp only [St.swap]; rw [look_swap]; simp
    · simp only [St.swap]; rw [look_swap]; simp [hm]

/-- a row that isn't written any more -/
theorem Rel.freeze (h : Rel B σ tm w H φ) (n : Nat) : ∃ H' φ', Rel B (σ.freeze B.par n) tm w H' φ' := by
  unfold St.freeze
  cases hp : B.par.contains n with
  | true => exact ⟨H, φ, by simpa using h⟩
  | false =>
    simp only [cond_false]
    split
    · rename_i d t xs hl
      refine ⟨_, _, h.swap n B.R (fun b hb => .inl hb) fun C' eC hbut c v hr => ?_⟩
      obtain ⟨v0, hv0, hrow⟩ := h.mem.blk n _ hl
      have hzr : ∀ b, b < w.heap.size → φ n b → C'.Z b := fun b hb hφ => by
        subst eC
        refine ⟨?_, hb, h.mem.rdis n b hφ, fun m hm => h.mem.fdis m n hm.1 b hm.2 hφ⟩
        rcases (h.mem.fsub n b hφ).1 with hx | hx
        · rw [hp] at hx; exact absurd hx.1 (by simp)
        · exact .inr hx
      have hR : Reads (B.at σ w H φ) [(n, .row d t xs)] C'.Z := by
        refine ⟨hbut.Z, fun m b hm => ?_, fun m d' t' xs' hm => ?_⟩
        · simp only [look] at hm
          cases e : (n == m) with
          | false => simp [e] at hm
          | true =>
            have : n = m := by simpa using e
            subst this
            simp only [e, cond_true, Option.some.injEq] at hm
            subst hm
            exact ⟨v0, φ n, hv0, hrow, fun i hi hf => hzr i hi hf⟩
        · simp only [look] at hm
          cases e : (n == m) with
          | false => simp [e] at hm
          | true =>
            have : n = m := by simpa using e
            subst this
            simp only [e, cond_true, Option.some.injEq, Blk.row.injEq] at hm
            show lenOf σ.blks n = _
            obtain ⟨_, rfl, h3⟩ := hm
            simp only [heq_eq_eq] at h3
            subst h3
            simp [lenOf, hl]
      have e0 : ∀ e' : Ty, ∀ ys : List e'.den, Ty.castL? e' e' ys = some ys := fun e' ys => Ty.castL?_self ys
      refine Cell.swap_rel (g := thaw t xs) hbut (fun v hr => ?_) (fun o l v hr => ?_) (fun o v hr => CellRel.one _ v hr) (fun i o v hr => CellRel.one _ v hr) (fun v hr => CellRel.one _ v hr) c v hr
      · have hu : Ty.unflat [(n, .row d t xs)] (.slice t) [.own n] = some (xs, []) := by simp [Ty.unflat, look, e0]
        obtain ⟨u1, u2, eu, k1, k2⟩ := unflat_rel hR (.slice t) [.own n] xs [] [v] hu ⟨hr, trivial⟩
        have : u2 = [] := by cases u2 with | nil => rfl | cons _ _ => exact k2.elim
        subst this
        simp only [List.append_nil] at eu
        subst eu
        show RdC C'.P _ _ _ _ _
        rw [hbut.P, hbut.w]; exact k1
      · have hu : Ty.unflat [(n, .row d t xs)] (.slice t) [.sub n o l] = some ((xs.drop o).take l, []) := by simp [Ty.unflat, look, e0]
        obtain ⟨u1, u2, eu, k1, k2⟩ := unflat_rel hR (.slice t) [.sub n o l] _ [] [v] hu ⟨hr, trivial⟩
        have : u2 = [] := by cases u2 with | nil => rfl | cons _ _ => exact k2.elim
        subst this
        simp only [List.append_nil] at eu
        subst eu
        show RdC C'.P _ _ _ _ _
        rw [hbut.P, hbut.w]; exact k1
    · exact ⟨H, φ, h⟩

theorem alloc_fr (w : World) (o : Obj) : Fr NoB w (w.alloc o) := ⟨rfl, rfl, rfl, by simp, fun b hb _ => heap_alloc_old w o b hb, fun b _ hb => heap_alloc_old w o b hb⟩
theorem drew_fr (w : World) : Fr NoB w w.drew := ⟨rfl, rfl, rfl, Nat.le_refl _, fun b _ _ => rfl, fun _ _ _ => rfl⟩
theorem setRow_fr (w : World) (g : Nat) (cs : Array Value) (hg : nGlob ≤ g) : Fr (fun b => b = g) w (w.setRow g cs) := ⟨rfl, rfl, rfl, by simp, fun b _ hb => setRow_other w g b cs hb, fun b hb _ => setRow_other w g b cs (by omega)⟩
theorem Fr.le {X : Nat → Prop} {a b : World} (h : Fr NoB a b) : Fr X a b := ⟨h.os, h.tape, h.output, h.size, fun i hi _ => h.block i hi (fun f => f), h.glob⟩

theorem lenOf_setBlk_other {n m : Nat} {b : Blk} {bs : List (Nat × Blk)} (h : m ≠ n) : lenOf (blkSet n b bs) m = lenOf bs m := by simp [lenOf, look_set_other b h]

/-- a new block under a name that was free: the world has grown by it (and perhaps by others), or it lies where one lay that has been given up -/
theorem Rel.fresh {R1 : Nat → Prop} (h : Rel (B.on R1) σ tm w H φ) (hR : ∀ b, B.R b → R1 b) {n : Nat} (hn : look n σ.blks = none) (hio : B.io n = none) {w' : World} (hw : Fr (fun i => R1 i ∧ ¬ B.R i) w w') {b : Blk} {v : Value} {F : Nat → Prop}
    (hF : ∀ i, F i → (w.heap.size ≤ i ∨ (R1 i ∧ ¬ B.R i ∧ ((B.par.contains n = true ∧ B.X0 i) ∨ B.w0.heap.size ≤ i))) ∧ i < w'.heap.size)
    (hb : ∀ C', ((B.on R1).at σ w H φ).Le C' → C'.w = w' → C'.P = B.P → (∀ i, i < w'.heap.size → (B.Z0 i ∧ i < w.heap.size ∨ B.w0.heap.size ≤ i) → (∀ m, ¬ φ m i) → ¬ B.R i → ¬ F i → C'.Z i) → BRel C' F v b) :
    Rel B (σ.setBlk n b) tm w' (fun m => if m = n then some v else H m) (fun m i => (m = n ∧ F i) ∨ (m ≠ n ∧ φ m i)) := by
  have hlt := h.mem.fr.size
  have hφn : ∀ i, ¬ φ n i := h.mem.fdom n hn
  have hHn : H n = none := h.mem.hdom n hn
  have hLn : lenOf σ.blks n = none := by simp [lenOf, hn]
  have hzone : Agree (zone (B.on R1) w φ) w w' := hw.agree _ fun i _ hz hf => hz.2.2.1 hf.1
  have hFφ : ∀ m i, φ m i → ¬ F i := fun m i hm hf => by
    have h1 := (h.mem.fsub m i hm).2
    rcases (hF i hf).1 with h2 | h2
    · omega
    · exact h.mem.rdis m i hm h2.1
  have up := h.mem.upd (bs' := blkSet n b σ.blks) (w' := w') (H' := fun m => if m = n then some v else H m) (φ' := fun m i => (m = n ∧ F i) ∨ (m ≠ n ∧ φ m i)) (fun m => m = n) (fun b _ h => .inr (hR b h))
    (h.mem.fr.trans hw (fun i hi hf => by
      rcases (h.mem.rsub i hf.1).1 with h1 | h1
      · exact h1
      · have h1' : B.w0.heap.size ≤ i := h1
        have hi' : i < B.w0.heap.size := hi
        omega)) hzone
    (fun m i hm hi => by
      rcases hm with ⟨rfl, hf⟩ | ⟨_, hf⟩
      · rcases (hF i hf).1 with h2 | h2
        · omega
        · exact .inr h2.1
      · exact .inl ⟨m, hf⟩)
    (fun m i hm hr => by
      rcases hm with ⟨rfl, hf⟩ | ⟨_, hf⟩
      · rcases (hF i hf).1 with h2 | h2
        · have := (h.mem.rsub i (hR i hr)).2; omega
        · exact h2.2.1 hr
      · exact h.mem.rdis m i hf (hR i hr))
    (fun i hr => let k := h.mem.rsub i (hR i hr); ⟨k.1, Nat.lt_of_lt_of_le k.2 hw.size⟩)
    (fun m u hm => by
      by_cases e : m = n
      · subst e; rw [hio] at hm; cases hm
      · simpa [e] using h.mem.keep m u hm)
    (fun m hm => by
      by_cases e : m = n
      · subst e; rw [look_set_same] at hm; cases hm
      · rw [look_set_other b e] at hm; simp [e, h.mem.hdom m hm])
    (fun m hm i hi => by
      by_cases e : m = n
      · subst e; rw [look_set_same] at hm; cases hm
      · rw [look_set_other b e] at hm
        rcases hi with ⟨e', _⟩ | ⟨_, hf⟩
        · exact e e'
        · exact h.mem.fdom m hm i hf)
    (fun m i hi => by
      rcases hi with ⟨rfl, hf⟩ | ⟨_, hf⟩
      · have := hF i hf
        refine ⟨?_, this.2⟩
        rcases this.1 with h2 | h2
        · exact .inr (by have h1' : B.w0.heap.size ≤ w.heap.size := hlt; omega)
        · exact h2.2.2
      · have := h.mem.fsub m i hf; exact ⟨this.1, Nat.lt_of_lt_of_le this.2 hw.size⟩)
    (fun m k hmk i hi hk => by
      rcases hi with ⟨rfl, hf⟩ | ⟨h1, hf⟩ <;> rcases hk with ⟨e2, hf'⟩ | ⟨h2, hf'⟩
      · exact hmk e2.symm
      · exact hFφ k i hf' hf
      · exact hFφ m i hf hf'
      · exact h.mem.fdis m k hmk i hf hf')
    (fun m u hm => by
      by_cases e : m = n
      · subst e; rw [hHn] at hm; cases hm
      · simp [e, hm])
    (fun m p hm => by
      by_cases e : m = n
      · subst e; rw [hLn] at hm; cases hm
      · rw [lenOf_setBlk_other e]; exact hm)
    (fun m hm => ⟨look_set_other b hm _, by simp [hm], fun i => ⟨fun hi => by rcases hi with ⟨e, _⟩ | ⟨_, hf⟩; exact absurd e hm; exact hf, fun hf => .inr ⟨hm, hf⟩⟩, hw.agree _ fun i _ hi hf => h.mem.rdis m i hi hf.1⟩)
    (fun m b' hm hb' => by
      subst hm
      rw [look_set_same] at hb'
      obtain rfl := Option.some.inj hb'
      refine ⟨v, by simp, ?_⟩
      have hle : ((B.on R1).at σ w H φ).Le (B.cx w' (fun k => if k = m then some v else H k) (fun k i => (k = m ∧ F i) ∨ (k ≠ m ∧ φ k i)) (lenOf (blkSet m b σ.blks))) :=
        ⟨rfl, hzone, fun i hi hz => ⟨hz.1, Nat.lt_of_lt_of_le hi hw.size, fun hr => hz.2.2.1 (hR i hr), fun k hk => by
            rcases hk with ⟨rfl, hf⟩ | ⟨_, hf⟩
            · rcases (hF i hf).1 with h2 | h2
              · have hi' : i < w.heap.size := hi; omega
              · exact hz.2.2.1 h2.1
            · exact hz.2.2.2 k hf⟩,
          fun k u hk => by
            by_cases e : k = m
            · subst e; have : H k = some u := hk; rw [hHn] at this; cases this
            · show (if k = m then some v else H k) = some u; simp [e]; exact hk,
          fun k p hk => by
            by_cases e : k = m
            · subst e; have : lenOf σ.blks k = some p := hk; rw [hLn] at this; cases this
            · show lenOf (blkSet m b σ.blks) k = some p; rw [lenOf_setBlk_other e]; exact hk⟩
      have hbr := hb _ hle rfl rfl (fun i hi h0 hφ hnR hnF => ⟨by rcases h0 with h0 | h0; exact .inl h0.1; exact .inr h0, hi, hnR, fun k hk => by
        rcases hk with ⟨_, hf⟩ | ⟨_, hf⟩
        · exact hnF hf
        · exact hφ k hf⟩)
      exact BRel.sub hbr (fun i hi => .inl ⟨rfl, hi⟩))
  exact ⟨up.1, h.tmp.mono (ARel.le up.2)⟩

/-- the memory of one name written: its value, and where it lies, stay -/
theorem Rel.write (h : Rel B σ tm w H φ) {n : Nat} {b0 b : Blk} (hn : look n σ.blks = some b0) {w' : World} (hw : Fr (φ n) w w')
    (hlen : lenOf (blkSet n b σ.blks) n = lenOf σ.blks n)
    (hb : ∀ v C', H n = some v → (B.at σ w H φ).Le C' → C'.w = w' → C'.P = B.P → BRel C' (φ n) v b) : Rel B (σ.setBlk n b) tm w' H φ := by
  have hzone : Agree (zone B w φ) w w' := hw.agree _ fun i _ hz hf => hz.2.2.2 n hf
  have hlen' : ∀ m, lenOf (blkSet n b σ.blks) m = lenOf σ.blks m := fun m => by
    by_cases e : m = n
    · subst e; exact hlen
    · exact lenOf_setBlk_other e
  have hle : (B.at σ w H φ).Le (B.cx w' H φ (lenOf (blkSet n b σ.blks))) :=
    ⟨rfl, hzone, fun i hi hz => ⟨hz.1, Nat.lt_of_lt_of_le hi hw.size, hz.2.2.1, hz.2.2.2⟩, fun _ _ h => h, fun m p hm => by show lenOf (blkSet n b σ.blks) m = _; rw [hlen']; exact hm⟩
  obtain ⟨v, hv, _⟩ := h.mem.blk n b0 hn
  have up := h.mem.upd (bs' := blkSet n b σ.blks) (w' := w') (H' := H) (φ' := φ) (R1 := B.R) (fun m => m = n) (fun _ _ h => .inr h)
    (h.mem.fr.trans hw (fun i hi hf => by
      rcases (h.mem.fsub n i hf).1 with hx | hx
      · exact hx.2
      · omega)) hzone (fun m i hm _ => .inl ⟨m, hm⟩) h.mem.rdis (fun b hr => let k := h.mem.rsub b hr; ⟨k.1, Nat.lt_of_lt_of_le k.2 hw.size⟩) h.mem.keep
    (fun m hm => by
      by_cases e : m = n
      · subst e; rw [look_set_same] at hm; cases hm
      · rw [look_set_other b e] at hm; exact h.mem.hdom m hm)
    (fun m hm => by
      by_cases e : m = n
      · subst e; rw [look_set_same] at hm; cases hm
      · rw [look_set_other b e] at hm; exact h.mem.fdom m hm)
    (fun m i hi => let k := h.mem.fsub m i hi; ⟨k.1, Nat.lt_of_lt_of_le k.2 hw.size⟩) h.mem.fdis (fun _ _ h => h) (fun m p hm => by rw [hlen']; exact hm)
    (fun m hm => ⟨look_set_other b hm _, rfl, fun _ => Iff.rfl, hw.agree _ fun i _ hi hf => h.mem.fdis m n hm i hi hf⟩)
    (fun m b' hm hb' => by
      subst hm
      rw [look_set_same] at hb'
      obtain rfl := Option.some.inj hb'
      exact ⟨v, hv, hb v _ hv hle rfl rfl⟩)
  exact ⟨up.1, h.tmp.mono (ARel.le up.2)⟩

end
end Go.Proofs.YtklfnbckoaphpaaGreatDoor
