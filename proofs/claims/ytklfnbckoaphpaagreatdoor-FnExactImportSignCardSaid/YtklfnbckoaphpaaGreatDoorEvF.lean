/- What keeps the relation between an abstract state and the machine's memory; cells as data. No conditions. -/
import Derived.Test.YtklfnbckoaphpaaGreatDoorEvD
set_option linter.unusedVariables false
namespace Go.Proofs.YtklfnbckoaphpaaGreatDoor
open Go

theorem bif_none {α : Type} {b : Bool} {x : Option α} {y : α} (h : (bif b then x else none) = some y) : b = true ∧ x = some y := by
  cases b <;> simp_all
theorem and_b {a b : Bool} (h : (a && b) = true) : a = true ∧ b = true := by simpa using h

/-! ### From one world to another -/
structure Cx.Le (C C' : Cx) : Prop where
  P : C'.P = C.P
  agree : Agree C.Z C.w C'.w
  Z : ∀ b, b < C.w.heap.size → C.Z b → C'.Z b
  H : ∀ n v, C.H n = some v → C'.H n = some v
  L : ∀ n p, C.L n = some p → C'.L n = some p

theorem PtrRel.le {C C' : Cx} (h : C.Le C') {n o : Nat} {v : Value} (hr : PtrRel C n o v) : PtrRel C' n o v :=
  let ⟨g, h1, h2⟩ := hr
  ⟨g, h.H _ _ h1, h2⟩
theorem DatRel.le {C C' : Cx} (h : C.Le C') {t : Ty} {x : t.den} {o : Nat} {v : Value} (hr : DatRel C t x o v) : DatRel C' t x o v := by
  obtain ⟨b, o', e, hb, hz, us, hl, h1, h2⟩ := hr
  exact ⟨b, o', e, Nat.lt_of_lt_of_le hb h.agree.1, h.Z b hb hz, us, hl, by rw [h.P]; exact RdC.agree h.agree h.Z _ _ _ h1, h2.agree hz h.agree⟩
theorem CapRel.le {C C' : Cx} (h : C.Le C') : ∀ (c : Cap) (v : Value), CapRel C c v → CapRel C' c v
  | .p _, _, hr => PtrRel.le h hr
  | .d _ _, _, hr => DatRel.le h hr
theorem CellRel.le {C C' : Cx} (h : C.Le C') : ∀ (x : Cell) (v : Value), CellRel C x v → CellRel C' x v
  | .any, _, hr => hr
  | .int _ _, _, hr => hr
  | .bool _, _, hr => hr
  | .str _, _, hr => hr
  | .sl t xs, v, hr => by
    show RdC C'.P _ _ _ _ _
    rw [h.P]; exact RdC.agree h.agree h.Z _ _ _ hr
  | .nil, _, hr => hr
  | .own n, v, hr => ⟨h.H _ _ hr.1, hr.2⟩
  | .sub n o l, v, hr => by
    obtain ⟨A, c, L, s, h1, h2, h3⟩ := hr
    exact ⟨A, c, L, s, h.L _ _ h1, h.H _ _ h2, h3⟩
  | .ptr n o, v, hr => PtrRel.le h hr
  | .dptr t x o, v, hr => DatRel.le h hr
  | .eptr n i o, v, hr => by
    obtain ⟨g, L, s, c, h1, h2, h3, h4⟩ := hr
    exact ⟨g, L, s, c, h.L _ _ h1, h2, h.H _ _ h3, h4⟩
  | .fn f caps, v, hr => by
    obtain ⟨vs, e, h1⟩ := hr
    exact ⟨vs, e, h1.mono (CapRel.le h)⟩
  | .clo a r φ, v, hr => by
    show RdC C'.P _ _ _ _ _
    rw [h.P]; exact RdC.agree h.agree h.Z _ _ _ hr
  | .mp n, v, hr => ⟨h.H _ _ hr.1, hr.2⟩
  | .mdat k t es, v, hr => by
    show RdC C'.P _ _ _ _ _
    rw [h.P]; exact RdC.agree h.agree h.Z _ _ _ hr
theorem PartRel.le {C C' : Cx} (h : C.Le C') : ∀ (p : Bool × List Cell) (v : Value), PartRel C p v → PartRel C' p v
  | (true, cs), v, hr => let ⟨us, e, h1⟩ := hr; ⟨us, e, h1.mono (CellRel.le h)⟩
  | (false, [c]), v, hr => CellRel.le h c v hr
  | (false, []), v, hr => hr
  | (false, _ :: _ :: _), v, hr => hr
theorem ARel.le {C C' : Cx} (h : C.Le C') : ∀ (x : A) (v : Value), ARel C x v → ARel C' x v
  | .any, _, _ => trivial
  | .c x, v, hr => CellRel.le h x v hr
  | .agg cs, v, hr => let ⟨us, e, h1⟩ := hr; ⟨us, e, h1.mono (CellRel.le h)⟩
  | .tup xs, v, hr => let ⟨us, e, h1⟩ := hr; ⟨us, e, h1.mono (PartRel.le h)⟩

theorem CellRel.one {C : Cx} : ∀ (x : Cell) (v : Value), CellRel C x v → v.oneCell' = true
  | .any, _, hr => hr
  | .int _ _, _, hr => by rw [show _ = _ from hr]; rfl
  | .bool _, _, hr => by rw [show _ = _ from hr]; rfl
  | .str _, _, hr => by rw [show _ = _ from hr]; rfl
  | .sl t xs, v, hr => by obtain ⟨A, c, e, _⟩ := hr; simp at e; rw [e]; rfl
  | .nil, _, hr => by obtain ⟨A, e⟩ := hr; rw [e]; rfl
  | .own n, v, hr => by obtain ⟨_, A, l, c, e⟩ := hr; rw [e]; rfl
  | .sub n o l, v, hr => by obtain ⟨A, c, L, s, h1, h2, h3, A', c', e, _⟩ := hr; rw [e]; rfl
  | .ptr n o, v, hr => by obtain ⟨g, _, e⟩ := hr; rw [e]; rfl
  | .dptr t x o, v, hr => by obtain ⟨b, o', e, _⟩ := hr; rw [e]; rfl
  | .eptr n i o, v, hr => by obtain ⟨g, L, s, c, h1, h2, h3, e⟩ := hr; rw [e]; rfl
  | .fn f caps, v, hr => by obtain ⟨vs, e, _⟩ := hr; rw [e]; rfl
  | .clo a r φ, v, hr => by obtain ⟨u, e, h1, _⟩ := hr; simp at e; rw [e]; exact h1
  | .mp n, v, hr => by obtain ⟨_, b, e⟩ := hr; rw [e]; rfl
  | .mdat k t es, v, hr => by obtain ⟨b, ents, c, e, _⟩ := hr; simp at e; rw [e]; rfl

theorem All2.one {C : Cx} : ∀ {cs : List Cell} {us : List Value}, All2 (CellRel C) cs us → ∀ u ∈ us, u.oneCell' = true
  | [], [], _, u, hu => by cases hu
  | c :: cs, v :: us, h, u, hu => by
    rcases List.mem_cons.1 hu with rfl | hu
    · exact CellRel.one c _ h.1
    · exact All2.one h.2 u hu

/-- the cells of a value -/
theorem ARel.cells {C : Cx} : ∀ {x : A} {v : Value}, ARel C x v → (∀ xs, x ≠ .tup xs) → x ≠ .any → All2 (CellRel C) x.cells v.cells.toList
  | .any, v, h, _, h2 => absurd rfl h2
  | .c y, v, h, _, _ => by
    have h1 := CellRel.one y v h
    have : v.cells = #[v] := by cases v <;> simp_all [Value.cells, Value.oneCell']
    rw [this]
    exact ⟨h, trivial⟩
  | .agg cs, v, h, _, _ => by
    obtain ⟨us, rfl, h1⟩ := h
    exact h1
  | .tup xs, v, h, h1, _ => absurd rfl (h1 xs)

/-! ### The blocks' names -/
theorem look_set_same (n : Nat) (b : Blk) : ∀ bs, look n (blkSet n b bs) = some b
  | [] => by simp [blkSet, look]
  | (m, c) :: r => by
    unfold blkSet
    by_cases h : m = n
    · subst h; simp [look]
    · have : (m == n) = false := by simp [h]
      simp [this, look, look_set_same n b r]
theorem blkSet_self {n : Nat} {b : Blk} : ∀ {bs : List (Nat × Blk)}, look n bs = some b → blkSet n b bs = bs
  | [], h => by simp [look] at h
  | (m, c) :: r, h => by
    simp only [look] at h
    by_cases hm : m = n
    · subst hm
      simp at h
      subst h
      simp [blkSet]
    · have e : (m == n) = false := by simp [hm]
      simp only [e, cond_false] at h
      simp only [blkSet, e, cond_false, blkSet_self h]
theorem look_set_other {n m : Nat} (b : Blk) (h : m ≠ n) : ∀ bs, look m (blkSet n b bs) = look m bs
  | [] => by have : (n == m) = false := by simp [Ne.symm h]
             simp [blkSet, look, this]
  | (k, c) :: r => by
    unfold blkSet
    by_cases hk : k = n
    · subst hk
      have : (k == m) = false := by simp [Ne.symm h]
      simp [look, this]
    · have : (k == n) = false := by simp [hk]
      simp only [this, cond_false, look, look_set_other b h r]
theorem look_del_same (n : Nat) : ∀ bs, look n (blkDel n bs) = none
  | [] => rfl
  | (m, c) :: r => by
    unfold blkDel
    by_cases h : m = n
    · subst h; simp [look_del_same m r]
    · have : (m == n) = false := by simp [h]
      simp [this, look, look_del_same n r]
theorem look_del_other {n m : Nat} (h : m ≠ n) : ∀ bs, look m (blkDel n bs) = look m bs
  | [] => rfl
  | (k, c) :: r => by
    unfold blkDel
    by_cases hk : k = n
    · subst hk
      have : (k == m) = false := by simp [Ne.symm h]
      simp [look, this, look_del_other h r]
    · have : (k == n) = false := by simp [hk]
      simp only [this, cond_false, look, look_del_other h r]
theorem look_map (f : Blk → Blk) (n : Nat) : ∀ bs : List (Nat × Blk), look n (bs.map fun p => (p.1, f p.2)) = (look n bs).map f
  | [] => rfl
  | (k, c) :: r => by
    simp only [List.map_cons, look]
    cases k == n <;> simp [look_map f n r]
theorem look_filter (p : Nat → Bool) (n : Nat) : ∀ bs : List (Nat × Blk), look n (bs.filter fun b => p b.1) = if p n then look n bs else none
  | [] => by simp [look]
  | (k, c) :: r => by
    simp only [List.filter_cons, look]
    by_cases hk : k = n
    · subst hk
      cases hp : p k <;> simp [look, look_filter p k r, hp]
    · have : (k == n) = false := by simp [hk]
      cases hp : p k <;> simp [look, this, look_filter p n r]

/-! ### The state as a whole -/
/-- the same frame, but for the blocks that are about to be written -/
abbrev Base.on (B : Base) (R : Nat → Prop) : Base := { B with R := R }

theorem zone.mono {B : Base} {R1 : Nat → Prop} {w w' : World} {φ φ' : Nat → Nat → Prop} (hs : w.heap.size ≤ w'.heap.size) (hR : ∀ b, b < w.heap.size → B.R b → (∃ m, φ m b) ∨ R1 b) (hφ : ∀ n b, φ' n b → b < w.heap.size → (∃ m, φ m b) ∨ R1 b) {b : Nat} (hb : b < w.heap.size) (h : zone (B.on R1) w φ b) : zone B w' φ' b :=
  ⟨h.1, Nat.lt_of_lt_of_le hb hs, fun hr => (hR b hb hr).elim (fun ⟨m, hm⟩ => h.2.2.2 m hm) h.2.2.1, fun n hn => (hφ n b hn hb).elim (fun ⟨m, hm⟩ => h.2.2.2 m hm) h.2.2.1⟩

/-! ### What a block holds, in another frame -/
def Blk.mapC (s : Cell → Cell) : Blk → Blk
  | .box cs => .box (cs.map s)
  | .opn t xs k i cs => .opn t xs k i (cs.map (OCell.map s))
  | b => b
theorem Blk.swap_mapC (n : Nat) (g : Cell → Cell) (b : Blk) : b.swap n g = b.mapC (Cell.swap n g) := by cases b <;> rfl
theorem OCell.map_id : OCell.map id = id := by funext x; cases x <;> rfl
theorem Blk.mapC_id (b : Blk) : b.mapC id = b := by cases b <;> simp [Blk.mapC, OCell.map_id]
theorem lt_of_block {w : World} {g : Nat} {o : Obj} (h : w.heap[g]? = some o) : g < w.heap.size := (Array.getElem?_eq_some_iff.1 h).1

theorem OList.map {C C' : Cx} {s : Cell → Cell} (hP : C'.P = C.P) (hZ : ∀ b, b < C.w.heap.size → C.Z b → C'.Z b) (ha : Agree C.Z C.w C'.w) (hc : ∀ c v, CellRel C c v → CellRel C' (s c) v) :
    ∀ (cs : List OCell) (vs : List Value) (F F' : Nat → Prop), (∀ b, F b → F' b) → Agree F C.w C'.w → OList C F cs vs → OList C' F' (cs.map (OCell.map s)) vs
  | [], [], _, _, _, _, _ => trivial
  | [], _ :: _, _, _, _, _, h => h.elim
  | .c x :: cs, [], _, _, _, _, h => h.elim
  | .kid e ys :: cs, [], _, _, _, _, h => h.elim
  | .c x :: cs, v :: vs, F, F', hF, hf, h => ⟨hc x v h.1, OList.map hP hZ ha hc cs vs F F' hF hf h.2⟩
  | .kid e ys :: cs, v :: vs, F, F', hF, hf, h => by
    obtain ⟨F1, F2, s1, s2, s3, h1, h2⟩ := h
    refine ⟨F1, F2, fun b hb => hF b (s1 b hb), fun b hb => hF b (s2 b hb), s3, ?_, OList.map hP hZ ha hc cs vs F2 F2 (fun _ h => h) (hf.mono fun i _ hi => s2 i hi) h2⟩
    rw [hP]
    exact RowOf.agree h1 hZ ha (fun _ h => h) (hf.mono fun i _ hi => s1 i hi)

theorem BRel.map {C C' : Cx} {s : Cell → Cell} (hP : C'.P = C.P) (hZ : ∀ b, b < C.w.heap.size → C.Z b → C'.Z b) (ha : Agree C.Z C.w C'.w) (hc : ∀ c v, CellRel C c v → CellRel C' (s c) v)
    {F F' : Nat → Prop} (hF : ∀ b, F b → F' b) (hf : Agree F C.w C'.w) {v : Value} {b : Blk} (h : BRel C F v b) : BRel C' F' v (b.mapC s) := by
  cases b with
  | row d t xs =>
    show RowOf C'.P _ _ _ _ _ _ _ _
    rw [hP]
    exact RowOf.agree h hZ ha hF hf
  | map k t es =>
    obtain ⟨g, ents, clock, e, hg, hh, hr⟩ := h
    exact ⟨g, ents, clock, e, hF g hg, (hf.2 g (Array.getElem?_eq_some_iff.1 hh).1 hg).trans hh, hr⟩
  | box cs =>
    obtain ⟨g, us, ety, e, hg, hh, hal⟩ := h
    exact ⟨g, us, ety, e, hF g hg, (hf.2 g (lt_of_block hh) hg).trans hh, All2.map_left (hal.mono hc)⟩
  | mix t xs k =>
    refine RowOwn.map h hF (fun g hg hs => ?_) fun i G us y hG hy => ?_
    · have : g < C.w.heap.size := by
        rcases Nat.lt_or_ge g C.w.heap.size with h' | h'
        · exact h'
        · rw [Array.getElem?_eq_none h'] at hs; simp at hs
      exact hf.2 g this hg
    · rw [hP]
      exact OwC.agree hZ ha t G G us y (fun _ h => h) (hf.mono fun i _ hi => hG i hi) hy
  | opn t xs k i cs =>
    obtain ⟨g, cap, cur, ety, Fs, e, h1, h2, h3, h4, h5, h6, h7, h8, h9⟩ := h
    refine ⟨g, cap, cur, ety, Fs, e, h1, h2, hF g h3, (hf.2 g (lt_of_block h4) h3).trans h4, h5, fun j b hb => ⟨hF b (h6 j b hb).1, (h6 j b hb).2⟩, h7, fun j hj hji => ?_, OList.map hP hZ ha hc cs _ _ _ (fun _ h => h) (hf.mono fun b _ hb => (h6 i b hb).1) h9⟩
    rw [hP]
    exact OwC.agree hZ ha t (Fs j) (Fs j) _ _ (fun _ h => h) (hf.mono fun b _ hb => (h6 j b hb).1) (h8 j hj hji)
theorem BRel.keep {C C' : Cx} (hP : C'.P = C.P) (hZ : ∀ b, b < C.w.heap.size → C.Z b → C'.Z b) (ha : Agree C.Z C.w C'.w) (hc : ∀ c v, CellRel C c v → CellRel C' c v)
    {F F' : Nat → Prop} (hF : ∀ b, F b → F' b) (hf : Agree F C.w C'.w) {v : Value} {b : Blk} (h : BRel C F v b) : BRel C' F' v b := by
  have := BRel.map (s := id) hP hZ ha hc hF hf h
  rwa [Blk.mapC_id] at this
theorem BRel.sub {C : Cx} {F F' : Nat → Prop} {v : Value} {b : Blk} (h : BRel C F v b) (hF : ∀ i, F i → F' i) : BRel C F' v b :=
  BRel.keep rfl (fun _ _ h => h) (Agree.refl _ _) (fun _ _ h => h) hF (Agree.refl _ _) h

/-- one world for another: the names of S have turned, the rest is as it was -/
theorem BlkRel.upd {B : Base} {R1 : Nat → Prop} {bs bs' : List (Nat × Blk)} {w w' : World} {H H' : Nat → Option Value} {φ φ' : Nat → Nat → Prop} (h : BlkRel (B.on R1) bs w H φ) (S : Nat → Prop) (hR : ∀ b, b < w.heap.size → B.R b → (∃ m, φ m b) ∨ R1 b)
    (fr : Fr B.X0 B.w0 w') (ag : Agree (zone (B.on R1) w φ) w w') (hφ : ∀ n b, φ' n b → b < w.heap.size → (∃ m, φ m b) ∨ R1 b)
    (rdis : ∀ n b, φ' n b → ¬ B.R b) (rsub : ∀ b, B.R b → (B.X0 b ∨ B.w0.heap.size ≤ b) ∧ b < w'.heap.size) (keep : ∀ n v, B.io n = some v → H' n = none ∨ H' n = some v)
    (hdom : ∀ n, look n bs' = none → H' n = none) (fdom : ∀ n, look n bs' = none → ∀ b, ¬ φ' n b)
    (fsub : ∀ n b, φ' n b → ((B.par.contains n = true ∧ B.X0 b) ∨ B.w0.heap.size ≤ b) ∧ b < w'.heap.size) (fdis : ∀ n m, n ≠ m → ∀ b, φ' n b → ¬ φ' m b)
    (hH : ∀ n v, H n = some v → H' n = some v) (hL : ∀ n p, lenOf bs n = some p → lenOf bs' n = some p)
    (same : ∀ n, ¬ S n → look n bs' = look n bs ∧ H' n = H n ∧ (∀ b, φ' n b ↔ φ n b) ∧ Agree (φ n) w w')
    (new : ∀ n b, S n → look n bs' = some b → ∃ v, H' n = some v ∧ BRel (B.cx w' H' φ' (lenOf bs')) (φ' n) v b) :
    BlkRel B bs' w' H' φ' ∧ ((B.on R1).cx w H φ (lenOf bs)).Le (B.cx w' H' φ' (lenOf bs')) := by
  have hz : ∀ b, b < w.heap.size → zone (B.on R1) w φ b → zone B w' φ' b := fun b hb hz => zone.mono ag.1 hR hφ hb hz
  have hle : ((B.on R1).cx w H φ (lenOf bs)).Le (B.cx w' H' φ' (lenOf bs')) := ⟨rfl, ag, hz, hH, hL⟩
  refine ⟨⟨fr, hdom, fdom, fsub, fdis, rdis, rsub, keep, fun n b hb => ?_⟩, hle⟩
  by_cases hS : S n
  · exact new n b hS hb
  · obtain ⟨e1, e2, e3, e4⟩ := same n hS
    rw [e1] at hb
    obtain ⟨v, hv, hr⟩ := h.blk n b hb
    refine ⟨v, by rw [e2]; exact hv, ?_⟩
    exact BRel.keep (C := (B.on R1).cx w H φ (lenOf bs)) (C' := B.cx w' H' φ' (lenOf bs')) rfl hz ag (CellRel.le hle) (fun b hb => (e3 b).2 hb) e4 hr

theorem All2.set {α β : Type} {R : α → β → Prop} : ∀ {l : List α} {m : List β}, All2 R l m → ∀ (i : Nat) {a : α} {b : β}, R a b → All2 R (l.set i a) (m.set i b)
  | [], [], _, i, _, _, _ => by simp [All2]
  | _ :: _, _ :: _, h, 0, _, _, hr => ⟨hr, h.2⟩
  | _ :: _, _ :: _, h, i + 1, _, _, hr => ⟨h.1, All2.set h.2 i hr⟩

/-! ### The temporaries -/
theorem Tm.length : ∀ {n : Nat} (t : Tm n), t.toList.length = n
  | _, .base l => rfl
  | _, .upd t i h v => by simp only [Tm.toList, List.length_set]; exact Tm.length t
theorem Tm.get_is : ∀ {n : Nat} (t : Tm n) (i : Nat), t.get i = t.toList.getD i .any
  | _, .base l, i => rfl
  | n, .upd t j h v, i => by
    have hl := Tm.length t
    have hj : j < n := by rw [Nat.blt_eq] at h; exact h
    simp only [Tm.get, Tm.toList]
    cases hb : Nat.beq j i with
    | true =>
      obtain rfl := Nat.eq_of_beq_eq_true hb
      simp [List.getD, hl, hj]
    | false =>
      have hne : j ≠ i := fun e => by rw [e, Nat.beq_refl] at hb; cases hb
      rw [cond_false, Tm.get_is t i]
      simp [List.getD, hne]
theorem St.get_eq (σ : St) (t : Nat) : σ.get t = σ.tmps.getD t .any := Tm.get_is _ _
theorem St.set_tmps (σ : St) (d : Nat) (v : A) : (σ.set d v).tmps = σ.tmps.set d v := by
  unfold St.tmps St.set Tms.set
  simp only
  split
  · rfl
  · rename_i h
    have hl := Tm.length σ.tm.t
    have hd : ¬ d < σ.tm.n := fun e => by rw [← Nat.blt_eq] at e; rw [e] at h; cases h
    rw [List.set_eq_of_length_le (by omega)]

theorem Rel.set {B : Base} {σ : St} {tm : Array Value} {w : World} {H : Nat → Option Value} {φ : Nat → Nat → Prop} (h : Rel B σ tm w H φ) (d : Nat) {x : A} {v : Value} (hr : ARel (B.cx w H φ (lenOf σ.blks)) x v) : Rel B (σ.set d x) (tm.setIfInBounds d v) w H φ :=
  ⟨h.mem, by rw [St.set_tmps, Array.toList_setIfInBounds]; exact All2.set h.tmp d hr⟩
theorem Rel.put {B : Base} {σ : St} {a : Act} {w : World} {H : Nat → Option Value} {φ : Nat → Nat → Prop} (h : Rel B σ a.tmps w H φ) (d : Option Nat) {x : A} {v : Value} (hr : ARel (B.cx w H φ (lenOf σ.blks)) x v) : Rel B (σ.put d x) (a.put d v).tmps w H φ := by
  cases d with
  | none => exact h
  | some d => exact Rel.set h d hr

theorem Rel.get {B : Base} {σ : St} {tm : Array Value} {w : World} {H : Nat → Option Value} {φ : Nat → Nat → Prop} (h : Rel B σ tm w H φ) (t : Nat) : ARel (B.cx w H φ (lenOf σ.blks)) (σ.get t) (tm.getD t undef) := by
  rw [St.get_eq]
  cases ht : σ.tmps[t]? with
  | none => simp [List.getD, ht, ARel]
  | some x =>
    obtain ⟨v, hv, hr⟩ := All2.get h.tmp t x ht
    have : tm[t]? = some v := by simpa using hv
    simp only [List.getD, ht, Option.getD_some, Array.getD_eq_getD_getElem?, this]
    exact hr

theorem Rel.setSame {B : Base} {σ : St} {tm : Array Value} {w : World} {H : Nat → Option Value} {φ : Nat → Nat → Prop} (h : Rel B σ tm w H φ) {d : Nat} {b : Bool} (hb : σ.get d = .c (.bool b)) : Rel B (σ.set d (.c (.bool b))) tm w H φ := by
  have hg := h.get d
  rw [hb] at hg
  have hv : tm.getD d undef = .bool b := hg
  have hs := Rel.set h d (x := .c (.bool b)) (v := .bool b) rfl
  have e : tm.setIfInBounds d (.bool b) = tm := by
    apply Array.ext_getElem?
    intro i
    rw [Array.getElem?_setIfInBounds]
    by_cases hi : d = i
    · subst hi
      rw [if_pos rfl]
      split
      · rename_i hlt
        rw [Array.getD_eq_getD_getElem?, Array.getElem?_eq_getElem hlt] at hv
        rw [Array.getElem?_eq_getElem hlt]
        exact congrArg some hv.symm
      · rename_i hlt
        rw [Array.getElem?_eq_none (by omega)]
    · rw [if_neg hi]
  rwa [e] at hs
theorem RelA.setSame {B : Base} {σ : St} {a : Act} {w : World} (h : RelA B σ a w) {d : Nat} {b : Bool} (hb : σ.get d = .c (.bool b)) : RelA B (σ.set d (.c (.bool b))) a w :=
  let ⟨hd, H, φ, hr⟩ := h
  ⟨hd, H, φ, hr.setSame hb⟩

theorem Rel.eval {B : Base} {σ : St} {a : Act} {w : World} {H : Nat → Option Value} {φ : Nat → Nat → Prop} (h : Rel B σ a.tmps w H φ) (x : Operand) : ARel (B.cx w H φ (lenOf σ.blks)) (σ.eval x) (a.eval x) := by
  cases x with
  | tmp t => exact h.get t
  | const v =>
    simp only [St.eval, Act.eval]
    unfold constA
    split
    · rfl
    · rfl
    · rfl
    · exact ⟨none, rfl⟩
    · trivial
  | func f => exact ⟨#[], rfl, trivial⟩
  | global g => trivial

end Go.Proofs.YtklfnbckoaphpaaGreatDoor
