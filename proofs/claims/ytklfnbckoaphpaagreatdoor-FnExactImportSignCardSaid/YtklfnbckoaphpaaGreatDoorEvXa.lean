/- Elements that lie open: what is taken out, written, and taken in again. No conditions. -/
import Derived.Test.YtklfnbckoaphpaaGreatDoorEvX
set_option linter.unusedVariables false
set_option linter.unusedSimpArgs false
namespace Go.Proofs.YtklfnbckoaphpaaGreatDoor
open Go

theorem odrop_eq : ∀ (n : Nat) (l : List OCell), odrop n l = l.drop n
  | 0, l => rfl
  | _ + 1, [] => rfl
  | n + 1, _ :: l => odrop_eq n l

section
variable {C : Cx}

theorem olist_plain {F : Nat → Prop} : ∀ {cs : List Cell} {us : List Value}, All2 (CellRel C) cs us → OList C F (cs.map OCell.c) us
  | [], [], _ => trivial
  | _ :: _, _ :: _, h => ⟨h.1, olist_plain h.2⟩
theorem OList.sub : ∀ {cs : List OCell} {us : List Value} {F F' : Nat → Prop}, (∀ b, F b → F' b) → OList C F cs us → OList C F' cs us
  | [], [], _, _, _, _ => trivial
  | [], _ :: _, _, _, _, h => h.elim
  | .c x :: cs, [], _, _, _, h => h.elim
  | .kid e ys :: cs, [], _, _, _, h => h.elim
  | .c x :: cs, v :: vs, F, F', hF, h => ⟨h.1, OList.sub hF h.2⟩
  | .kid e ys :: cs, v :: vs, F, F', hF, h => by
    obtain ⟨F1, F2, s1, s2, s3, h1, h2⟩ := h
    exact ⟨F1, F2, fun b hb => hF b (s1 b hb), fun b hb => hF b (s2 b hb), s3, h1, h2⟩
theorem OList.length : ∀ {cs : List OCell} {us : List Value} {F : Nat → Prop}, OList C F cs us → cs.length = us.length
  | [], [], _, _ => rfl
  | [], _ :: _, _, h => h.elim
  | .c x :: cs, [], _, h => h.elim
  | .kid e ys :: cs, [], _, h => h.elim
  | .c x :: cs, v :: vs, F, h => by simp [OList.length h.2]
  | .kid e ys :: cs, v :: vs, F, h => by
    obtain ⟨F1, F2, s1, s2, s3, h1, h2⟩ := h
    simp [OList.length h2]

theorem flatO_rel : ∀ (t : Ty) (x : t.den) (us rs : List Value) (r : List OCell) (F G K : Nat → Prop), OwC C.P true t C.w C.Z F us x → OList C G r rs → (∀ b, F b → K b) → (∀ b, G b → K b) → (∀ b, F b → ¬ G b) → OList C K (t.flatO x r) (us ++ rs)
  | .int k, n, us, rs, r, F, G, K, h, hr, s1, s2, s3 => by
    have e : us = [.int k n] := h
    subst e; exact ⟨rfl, OList.sub s2 hr⟩
  | .bool, n, us, rs, r, F, G, K, h, hr, s1, s2, s3 => by
    have e : us = [.bool n] := h
    subst e; exact ⟨rfl, OList.sub s2 hr⟩
  | .str, n, us, rs, r, F, G, K, h, hr, s1, s2, s3 => by
    have e : us = [.string n] := h
    subst e; exact ⟨rfl, OList.sub s2 hr⟩
  | .unit, n, us, rs, r, F, G, K, h, hr, s1, s2, s3 => by
    have e : us = [] := h
    subst e; exact OList.sub s2 hr
  | .slice e, xs, us, rs, r, F, G, K, h, hr, s1, s2, s3 => by
    obtain ⟨v, rfl, h⟩ := h
    exact ⟨F, G, s1, s2, s3, h, hr⟩
  | .st a, x, us, rs, r, F, G, K, h, hr, s1, s2, s3 => flatO_rel a x us rs r F G K h hr s1 s2 s3
  | .pair a b, x, us, rs, r, F, G, K, h, hr, s1, s2, s3 => by
    obtain ⟨v1, v2, F1, F2, rfl, p1, p2, p3, h1, h2⟩ := h
    rw [List.append_assoc]
    refine flatO_rel a x.1 v1 (v2 ++ rs) _ F1 (fun i => F2 i ∨ G i) K h1 (flatO_rel b x.2 v2 rs r F2 G (fun i => F2 i ∨ G i) h2 hr (fun _ h => .inl h) (fun _ h => .inr h) (fun i hi => s3 i (p2 i hi))) (fun i hi => s1 i (p1 i hi)) (fun i hi => hi.elim (fun q => s1 i (p2 i q)) (s2 i)) ?_
    rintro i hi (q | q)
    · exact p3 i hi q
    · exact s3 i (p1 i hi) q
  | .ptr a, x, us, rs, r, F, G, K, h, hr, s1, s2, s3 => by
    obtain ⟨b, o, vs, rfl, hb, hz, hl, h1, h2⟩ := h
    exact ⟨⟨b, o, by simp, hb, hz, vs, hl, h1, h2⟩, OList.sub s2 hr⟩
  | .fn a b, φ, us, rs, r, F, G, K, h, hr, s1, s2, s3 => by
    have h' : RdC C.P (.fn a b) C.w C.Z us φ := h
    obtain ⟨v, rfl, h1⟩ := id h'
    exact ⟨h', OList.sub s2 hr⟩
  | .map k t, es, us, rs, r, F, G, K, h, hr, s1, s2, s3 => by
    have h' : RdC C.P (.map k t) C.w C.Z us es := h
    obtain ⟨b, ents, clock, rfl, h1⟩ := id h'
    exact ⟨h', OList.sub s2 hr⟩

theorem oput_rel : ∀ (off : Nat) (vs : List Cell) (cs cs' : List OCell) (us ws : List Value) (F : Nat → Prop), oput off vs cs = some cs' → OList C F cs us → All2 (CellRel C) vs ws →
    off + ws.length ≤ us.length ∧ OList C F cs' (us.take off ++ ws ++ us.drop (off + ws.length))
  | 0, [], cs, cs', us, ws, F, h, ho, ha => by
    simp only [oput, Option.some.injEq] at h
    subst h
    cases ws with
    | nil => simpa using ho
    | cons _ _ => exact ha.elim
  | 0, v :: vs, [], cs', us, ws, F, h, ho, ha => by simp [oput] at h
  | 0, v :: vs, x :: l, cs', us, ws, F, h, ho, ha => by
    simp only [oput] at h
    split at h
    · rename_i r hr
      simp only [Option.some.injEq] at h
      subst h
      cases ws with
      | nil => exact ha.elim
      | cons w1 ws =>
        cases us with
        | nil => cases x <;> exact ho.elim
        | cons u us =>
          have ⟨F', hF', ho'⟩ : ∃ F', (∀ b, F' b → F b) ∧ OList C F' l us := by
            cases x with
            | c x => exact ⟨F, fun _ h => h, ho.2⟩
            | kid e ys =>
              obtain ⟨F1, F2, s1, s2, s3, h1, h2⟩ := ho
              exact ⟨F2, s2, h2⟩
          obtain ⟨i1, i2⟩ := oput_rel 0 vs l r us ws F' hr ho' ha.2
          refine ⟨by simp only [List.length_cons]; omega, ?_⟩
          have e : (u :: us).take 0 ++ w1 :: ws ++ (u :: us).drop (0 + (w1 :: ws).length) = w1 :: (us.take 0 ++ ws ++ us.drop (0 + ws.length)) := by
            simp
          rw [e]
          exact ⟨ha.1, OList.sub hF' i2⟩
    · cases h
  | n + 1, vs, [], cs', us, ws, F, h, ho, ha => by simp [oput] at h
  | n + 1, vs, x :: l, cs', us, ws, F, h, ho, ha => by
    simp only [oput] at h
    split at h
    · rename_i r hr
      simp only [Option.some.injEq] at h
      subst h
      cases us with
      | nil => cases x <;> exact ho.elim
      | cons u us =>
        have e : (u :: us).take (n + 1) ++ ws ++ (u :: us).drop (n + 1 + ws.length) = u :: (us.take n ++ ws ++ us.drop (n + ws.length)) := by
          rw [show n + 1 + ws.length = (n + ws.length) + 1 by omega]; simp
        rw [e]
        cases x with
        | c x =>
          obtain ⟨i1, i2⟩ := oput_rel n vs l r us ws F hr ho.2 ha
          exact ⟨by simp only [List.length_cons]; omega, ho.1, i2⟩
        | kid e' ys =>
          obtain ⟨F1, F2, s1, s2, s3, h1, h2⟩ := ho
          obtain ⟨i1, i2⟩ := oput_rel n vs l r us ws F2 hr h2 ha
          exact ⟨by simp only [List.length_cons]; omega, F1, F2, s1, s2, s3, h1, i2⟩
    · cases h

theorem plainN_rel : ∀ (n : Nat) (cs : List OCell) (ys : List Cell) (us : List Value) (F : Nat → Prop), plainN n cs = some ys → OList C F cs us → All2 (CellRel C) ys (us.take n) ∧ ys.length = n
  | 0, cs, ys, us, F, h, ho => by
    simp only [plainN, Option.some.injEq] at h
    subst h; exact ⟨trivial, rfl⟩
  | n + 1, [], ys, us, F, h, ho => by simp [plainN] at h
  | n + 1, .kid e zs :: r, ys, us, F, h, ho => by simp [plainN] at h
  | n + 1, .c x :: r, ys, us, F, h, ho => by
    simp only [plainN] at h
    split at h
    · rename_i l hl
      simp only [Option.some.injEq] at h
      subst h
      cases us with
      | nil => exact ho.elim
      | cons u us =>
        obtain ⟨i1, i2⟩ := plainN_rel n r l us F hl ho.2
        exact ⟨⟨ho.1, i1⟩, by simp [i2]⟩
    · cases h
theorem OList.drop : ∀ (n : Nat) {cs : List OCell} {us : List Value} {F : Nat → Prop}, OList C F cs us → ∃ F', (∀ b, F' b → F b) ∧ OList C F' (cs.drop n) (us.drop n)
  | 0, cs, us, F, h => ⟨F, fun _ h => h, h⟩
  | n + 1, [], [], F, h => ⟨F, fun _ h => h, trivial⟩
  | n + 1, [], _ :: _, F, h => h.elim
  | n + 1, .c x :: cs, [], F, h => h.elim
  | n + 1, .kid e ys :: cs, [], F, h => h.elim
  | n + 1, .c x :: cs, v :: vs, F, h => OList.drop n h.2
  | n + 1, .kid e ys :: cs, v :: vs, F, h => by
    obtain ⟨F1, F2, s1, s2, s3, h1, h2⟩ := h
    obtain ⟨F', i1, i2⟩ := OList.drop n h2
    exact ⟨F', fun b hb => s2 b (i1 b hb), i2⟩

/-- a row taken out of an element -/
theorem OList.out : ∀ (off : Nat) {cs : List OCell} {us : List Value} {F : Nat → Prop} {e : Ty} {ys : List e.den} {r : List OCell} {m : Nat}, OList C F cs us → odrop off cs = .kid e ys :: r →
    ∃ u, ∃ F1 F2 : Nat → Prop, us[off]? = some u ∧ (∀ b, F1 b → F b) ∧ (∀ b, F2 b → F b) ∧ (∀ b, F1 b → ¬ F2 b) ∧ RowOf C.P false true e C.w C.Z F1 u ys ∧
      ∀ C' : Cx, C'.P = C.P → C'.w = C.w → (∀ b, b < C.w.heap.size → C.Z b → C'.Z b) → (∀ c v, CellRel C c v → CellRel C' c v) → CellRel C' (.own m) u → OList C' F2 (oset off (.c (.own m)) cs) us
  | 0, [], us, F, e, ys, r, m, h, hd => by simp [odrop] at hd
  | 0, x :: cs, us, F, e, ys, r, m, h, hd => by
    simp only [odrop, List.cons.injEq] at hd
    obtain ⟨rfl, rfl⟩ := hd
    cases us with
    | nil => exact h.elim
    | cons u us =>
      obtain ⟨F1, F2, s1, s2, s3, h1, h2⟩ := h
      refine ⟨u, F1, F2, rfl, s1, s2, s3, h1, fun C' hP hw hZ hc hown => ⟨hown, ?_⟩⟩
      have := OList.map (s := id) hP hZ (by rw [hw]; exact Agree.refl _ _) hc cs us F2 F2 (fun _ h => h) (by rw [hw]; exact Agree.refl _ _) h2
      simpa [OCell.map_id] using this
  | off + 1, [], us, F, e, ys, r, m, h, hd => by simp [odrop] at hd
  | off + 1, .c x :: cs, us, F, e, ys, r, m, h, hd => by
    cases us with
    | nil => exact h.elim
    | cons u us =>
      obtain ⟨u', F1, F2, k1, k2, k3, k4, k5, k6⟩ := OList.out off (m := m) h.2 (show odrop off cs = .kid e ys :: r from hd)
      exact ⟨u', F1, F2, k1, k2, k3, k4, k5, fun C' hP hw hZ hc hown => ⟨hc x u h.1, k6 C' hP hw hZ hc hown⟩⟩
  | off + 1, .kid e' zs :: cs, us, F, e, ys, r, m, h, hd => by
    cases us with
    | nil => exact h.elim
    | cons u us =>
      obtain ⟨G1, G2, s1, s2, s3, h1, h2⟩ := h
      obtain ⟨u', F1, F2, k1, k2, k3, k4, k5, k6⟩ := OList.out off (m := m) h2 (show odrop off cs = .kid e ys :: r from hd)
      refine ⟨u', F1, fun b => G1 b ∨ F2 b, k1, fun b hb => s2 b (k2 b hb), fun b hb => hb.elim (s1 b) fun q => s2 b (k3 b q), fun b hb hq => ?_, k5, fun C' hP hw hZ hc hown => ⟨G1, F2, fun _ h => .inl h, fun _ h => .inr h, fun b hb hq => s3 b hb (k3 b hq), ?_, k6 C' hP hw hZ hc hown⟩⟩
      · rcases hq with q | q
        · exact s3 b q (k2 b hb)
        · exact k4 b hb q
      · rw [hP, hw]
        exact RowOf.agree h1 hZ (Agree.refl _ _) (fun _ h => h) (Agree.refl _ _)

/-- the cells of an element that is closed -/
theorem unO_rel {bs : List (Nat × Blk)} {φ : Nat → Nat → Prop} (hbs : ∀ m e (ys : List e.den), look m bs = some (.row true e ys) → ∃ v, C.H m = some v ∧ RowOf C.P false true e C.w C.Z (φ m) v ys) (hdis : ∀ m m', m ≠ m' → ∀ b, φ m b → ¬ φ m' b) :
    ∀ (t : Ty) (cs : List OCell) (x : t.den) (ms : List Nat) (r : List OCell) (us : List Value) (F0 : Nat → Prop), unO bs t cs = some (x, ms, r) → OList C F0 cs us → ms.Nodup → (∀ m ∈ ms, ∀ b, φ m b → ¬ F0 b) →
      ∃ u1 u2, ∃ F1 F2 : Nat → Prop, us = u1 ++ u2 ∧ OwC C.P true t C.w C.Z (fun b => F1 b ∨ ∃ m ∈ ms, φ m b) u1 x ∧ OList C F2 r u2 ∧ (∀ b, F1 b → F0 b) ∧ (∀ b, F2 b → F0 b) ∧ (∀ b, F1 b → ¬ F2 b)
  | .int k, cs, x, ms, r, us, F0, h, ho, hn, hd => by
    cases cs with
    | nil => simp [unO] at h
    | cons c cs =>
      cases c with
      | kid _ _ => simp [unO] at h
      | c c =>
        cases c <;> simp only [unO] at h <;> try (cases h; done)
        split at h
        · rename_i k' n q hq
          simp only [Option.some.injEq, Prod.mk.injEq] at h
          obtain ⟨rfl, rfl, rfl⟩ := h
          obtain rfl := ikEq_spec hq
          cases us with
          | nil => exact ho.elim
          | cons u us => exact ⟨[u], us, NoB, F0, rfl, by rw [show u = _ from ho.1]; rfl, ho.2, fun _ f => f.elim, fun _ h => h, fun _ f => f.elim⟩
        · cases h
  | .bool, cs, x, ms, r, us, F0, h, ho, hn, hd => by
    cases cs with
    | nil => simp [unO] at h
    | cons c cs =>
      cases c with
      | kid _ _ => simp [unO] at h
      | c c =>
        cases c <;> simp only [unO] at h <;> try (cases h; done)
        simp only [Option.some.injEq, Prod.mk.injEq] at h
        obtain ⟨rfl, rfl, rfl⟩ := h
        cases us with
        | nil => exact ho.elim
        | cons u us => exact ⟨[u], us, NoB, F0, rfl, by rw [show u = _ from ho.1]; rfl, ho.2, fun _ f => f.elim, fun _ h => h, fun _ f => f.elim⟩
  | .str, cs, x, ms, r, us, F0, h, ho, hn, hd => by
    cases cs with
    | nil => simp [unO] at h
    | cons c cs =>
      cases c with
      | kid _ _ => simp [unO] at h
      | c c =>
        cases c <;> simp only [unO] at h <;> try (cases h; done)
        simp only [Option.some.injEq, Prod.mk.injEq] at h
        obtain ⟨rfl, rfl, rfl⟩ := h
        cases us with
        | nil => exact ho.elim
        | cons u us => exact ⟨[u], us, NoB, F0, rfl, by rw [show u = _ from ho.1]; rfl, ho.2, fun _ f => f.elim, fun _ h => h, fun _ f => f.elim⟩
  | .unit, cs, x, ms, r, us, F0, h, ho, hn, hd => by
    have h' : some ((), ([] : List Nat), cs) = some (x, ms, r) := by cases cs <;> exact h
    simp only [Option.some.injEq, Prod.mk.injEq] at h'
    obtain ⟨_, rfl, rfl⟩ := h'
    exact ⟨[], us, NoB, F0, rfl, rfl, ho, fun _ f => f.elim, fun _ h => h, fun _ f => f.elim⟩
  | .slice e, cs, x, ms, r, us, F0, h, ho, hn, hd => by
    cases cs with
    | nil => simp [unO] at h
    | cons c cs =>
      cases us with
      | nil => cases c <;> exact ho.elim
      | cons u us =>
        cases c with
        | kid e' ys =>
          simp only [unO] at h
          split at h
          · rename_i zs hz
            simp only [Option.some.injEq, Prod.mk.injEq] at h
            obtain ⟨rfl, rfl, rfl⟩ := h
            obtain ⟨rfl, rfl⟩ := Ty.castL?_spec hz
            obtain ⟨G1, G2, s1, s2, s3, h1, h2⟩ := ho
            exact ⟨[u], us, G1, G2, rfl, ⟨u, rfl, RowOf.agree h1 (fun _ _ h => h) (Agree.refl _ _) (fun _ h => .inl h) (Agree.refl _ _)⟩, h2, s1, s2, s3⟩
          · cases h
        | c c =>
          cases c <;> simp only [unO] at h <;> try (cases h; done)
          · simp only [Option.some.injEq, Prod.mk.injEq] at h
            obtain ⟨rfl, rfl, rfl⟩ := h
            obtain ⟨A, e1⟩ := ho.1
            exact ⟨[u], us, NoB, F0, rfl, ⟨u, rfl, A, 0, by rw [e1]; rfl, Nat.le_refl _, .inl rfl⟩, ho.2, fun _ f => f.elim, fun _ h => h, fun _ f => f.elim⟩
          · rename_i n
            split at h
            · rename_i e' ys hl
              split at h
              · rename_i zs hz
                simp only [Option.some.injEq, Prod.mk.injEq] at h
                obtain ⟨rfl, rfl, rfl⟩ := h
                obtain ⟨rfl, rfl⟩ := Ty.castL?_spec hz
                obtain ⟨v, hv, hr⟩ := hbs n _ _ hl
                have : v = u := by have e1 := ho.1.1; rw [hv] at e1; exact Option.some.inj e1
                subst this
                exact ⟨[v], us, NoB, F0, rfl, ⟨v, rfl, RowOf.agree hr (fun _ _ h => h) (Agree.refl _ _) (fun b hb => .inr ⟨n, by simp, hb⟩) (Agree.refl _ _)⟩, ho.2, fun _ f => f.elim, fun _ h => h, fun _ f => f.elim⟩
              · cases h
            · cases h
  | .st a, cs, x, ms, r, us, F0, h, ho, hn, hd => by
    have h' : unO bs a cs = some (x, ms, r) := by cases cs <;> exact h
    exact unO_rel hbs hdis a cs x ms r us F0 h' ho hn hd
  | .pair a b, cs, x, ms, r, us, F0, h, ho, hn, hd => by
    have h' : (match unO bs a cs with
      | some (x, ms, r) => (match unO bs b r with | some (y, ms', r') => some ((x, y), ms ++ ms', r') | none => none)
      | none => none) = some (x, ms, r) := by cases cs <;> exact h
    split at h'
    · rename_i x1 m1 r1 q1
      split at h'
      · rename_i y1 m2 r2 q2
        simp only [Option.some.injEq, Prod.mk.injEq] at h'
        obtain ⟨rfl, rfl, rfl⟩ := h'
        obtain ⟨n1, n2, n3⟩ := List.nodup_append.1 hn
        obtain ⟨u1, u2, F1, F2, rfl, k1, k2, k3, k4, k5⟩ := unO_rel hbs hdis a cs x1 m1 r1 us F0 q1 ho n1 (fun m hm => hd m (List.mem_append.2 (.inl hm)))
        obtain ⟨v1, v2, G1, G2, rfl, j1, j2, j3, j4, j5⟩ := unO_rel hbs hdis b r1 y1 m2 r2 u2 F2 q2 k2 n2 (fun m hm c hc hf => hd m (List.mem_append.2 (.inr hm)) c hc (k4 c hf))
        refine ⟨u1 ++ v1, v2, fun c => F1 c ∨ G1 c, G2, by rw [List.append_assoc], ⟨u1, v1, _, _, rfl, ?_, ?_, ?_, k1, j1⟩, j2, ?_, fun c hc => k4 c (j4 c hc), ?_⟩
        · rintro c (q | ⟨m, hm, q⟩)
          · exact .inl (.inl q)
          · exact .inr ⟨m, List.mem_append.2 (.inl hm), q⟩
        · rintro c (q | ⟨m, hm, q⟩)
          · exact .inl (.inr q)
          · exact .inr ⟨m, List.mem_append.2 (.inr hm), q⟩
        · rintro c (q | ⟨m, hm, q⟩) (q' | ⟨m', hm', q'⟩)
          · exact k5 c q (j3 c q')
          · exact hd m' (List.mem_append.2 (.inr hm')) c q' (k3 c q)
          · exact hd m (List.mem_append.2 (.inl hm)) c q (k4 c (j3 c q'))
          · exact hdis m m' (n3 m hm m' hm') c q q'
        · rintro c (q | q)
          · exact k3 c q
          · exact k4 c (j3 c q)
        · rintro c (q | q) hc
          · exact k5 c q (j4 c hc)
          · exact j5 c q hc
      · cases h'
    · cases h'
  | .ptr a, cs, x, ms, r, us, F0, h, ho, hn, hd => by cases cs <;> simp [unO] at h
  | .fn a b, cs, x, ms, r, us, F0, h, ho, hn, hd => by cases cs <;> simp [unO] at h
  | .map a b, cs, x, ms, r, us, F0, h, ho, hn, hd => by cases cs <;> simp [unO] at h
theorem unO_look {bs : List (Nat × Blk)} : ∀ (t : Ty) (cs : List OCell) (x : t.den) (ms : List Nat) (r : List OCell), unO bs t cs = some (x, ms, r) → ∀ m ∈ ms, look m bs ≠ none
  | .int k, cs, x, ms, r, h => by
    cases cs with
    | nil => simp [unO] at h
    | cons c cs =>
      cases c with
      | kid _ _ => simp [unO] at h
      | c c =>
        cases c <;> simp only [unO] at h <;> try (cases h; done)
        split at h
        · simp only [Option.some.injEq, Prod.mk.injEq] at h
          obtain ⟨rfl, rfl, rfl⟩ := h
          simp
        · cases h
  | .bool, cs, x, ms, r, h => by
    cases cs with
    | nil => simp [unO] at h
    | cons c cs =>
      cases c with
      | kid _ _ => simp [unO] at h
      | c c =>
        cases c <;> simp only [unO] at h <;> try (cases h; done)
        simp only [Option.some.injEq, Prod.mk.injEq] at h
        obtain ⟨rfl, rfl, rfl⟩ := h
        simp
  | .str, cs, x, ms, r, h => by
    cases cs with
    | nil => simp [unO] at h
    | cons c cs =>
      cases c with
      | kid _ _ => simp [unO] at h
      | c c =>
        cases c <;> simp only [unO] at h <;> try (cases h; done)
        simp only [Option.some.injEq, Prod.mk.injEq] at h
        obtain ⟨rfl, rfl, rfl⟩ := h
        simp
  | .unit, cs, x, ms, r, h => by
    have h' : some ((), ([] : List Nat), cs) = some (x, ms, r) := by cases cs <;> exact h
    simp only [Option.some.injEq, Prod.mk.injEq] at h'
    obtain ⟨_, rfl, rfl⟩ := h'
    simp
  | .slice e, cs, x, ms, r, h => by
    cases cs with
    | nil => simp [unO] at h
    | cons c cs =>
      cases c with
      | kid e' ys =>
        simp only [unO] at h
        split at h
        · simp only [Option.some.injEq, Prod.mk.injEq] at h
          obtain ⟨_, rfl, rfl⟩ := h
          simp
        · cases h
      | c c =>
        cases c <;> simp only [unO] at h <;> try (cases h; done)
        · simp only [Option.some.injEq, Prod.mk.injEq] at h
          obtain ⟨_, rfl, rfl⟩ := h
          simp
        · rename_i n
          split at h
          · rename_i e' ys hl
            split at h
            · simp only [Option.some.injEq, Prod.mk.injEq] at h
              obtain ⟨_, rfl, rfl⟩ := h
              simp [hl]
            · cases h
          · cases h
  | .st a, cs, x, ms, r, h => by
    have h' : unO bs a cs = some (x, ms, r) := by cases cs <;> exact h
    exact unO_look a cs x ms r h'
  | .pair a b, cs, x, ms, r, h => by
    have h' : (match unO bs a cs with
      | some (x, ms, r) => (match unO bs b r with | some (y, ms', r') => some ((x, y), ms ++ ms', r') | none => none)
      | none => none) = some (x, ms, r) := by cases cs <;> exact h
    split at h'
    · rename_i x1 m1 r1 q1
      split at h'
      · rename_i y1 m2 r2 q2
        simp only [Option.some.injEq, Prod.mk.injEq] at h'
        obtain ⟨rfl, rfl, rfl⟩ := h'
        intro m hm
        rcases List.mem_append.1 hm with hm | hm
        · exact unO_look a cs x1 m1 r1 q1 m hm
        · exact unO_look b r1 y1 m2 r2 q2 m hm
      · cases h'
    · cases h'
  | .ptr a, cs, x, ms, r, h => by cases cs <;> simp [unO] at h
  | .fn a b, cs, x, ms, r, h => by cases cs <;> simp [unO] at h
  | .map a b, cs, x, ms, r, h => by cases cs <;> simp [unO] at h
end
end Go.Proofs.YtklfnbckoaphpaaGreatDoor
