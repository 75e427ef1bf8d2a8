/- Calls: the results; the call as a whole. No conditions. -/
import Derived.Test.YtklfnbckoaphpaaGreatDoorEvU
set_option linter.unusedVariables false
set_option linter.unusedSimpArgs false
namespace Go.Proofs.YtklfnbckoaphpaaGreatDoor
open Go

/-- data whose one row bears a name -/
theorem flatN_rel {P : Program} {w : World} {Z : Nat → Prop} : ∀ (t : Ty) (x : t.den) (us : List Value) (F : Nat → Prop) (n : Nat), OwC P true t w Z F us x →
    (t.nsl = 0 → t.kid1 x = none ∧ ∀ (C : Cx) (r : List Cell) (rs : List Value), All2 (CellRel C) r rs → All2 (CellRel C) (t.flatN x n r) (us ++ rs)) ∧
    (t.nsl = 1 → ∃ (u : Value) (e : Ty) (ys : List e.den), t.kid1 x = some (.row true e ys) ∧ RowOf P false true e w Z F u ys ∧ ∀ (C : Cx) (r : List Cell) (rs : List Value), CellRel C (.own n) u → All2 (CellRel C) r rs → All2 (CellRel C) (t.flatN x n r) (us ++ rs))
  | .int k, x, us, F, n, h => by
    have e : us = [.int k x] := h
    subst e
    exact ⟨fun _ => ⟨rfl, fun C r rs hr => ⟨rfl, hr⟩⟩, fun h => by simp [Ty.nsl] at h⟩
  | .bool, x, us, F, n, h => by
    have e : us = [.bool x] := h
    subst e
    exact ⟨fun _ => ⟨rfl, fun C r rs hr => ⟨rfl, hr⟩⟩, fun h => by simp [Ty.nsl] at h⟩
  | .str, x, us, F, n, h => by
    have e : us = [.string x] := h
    subst e
    exact ⟨fun _ => ⟨rfl, fun C r rs hr => ⟨rfl, hr⟩⟩, fun h => by simp [Ty.nsl] at h⟩
  | .unit, x, us, F, n, h => by
    have e : us = [] := h
    subst e
    exact ⟨fun _ => ⟨rfl, fun C r rs hr => hr⟩, fun h => by simp [Ty.nsl] at h⟩
  | .slice e, xs, us, F, n, h => by
    obtain ⟨v, rfl, h⟩ := h
    exact ⟨fun h => by simp [Ty.nsl] at h, fun _ => ⟨v, e, xs, rfl, h, fun C r rs ho hr => ⟨ho, hr⟩⟩⟩
  | .st a, x, us, F, n, h => flatN_rel a x us F n h
  | .pair a b, x, us, F, n, h => by
    obtain ⟨v1, v2, F1, F2, rfl, p1, p2, p3, h1, h2⟩ := h
    obtain ⟨a0, a1⟩ := flatN_rel a x.1 v1 F1 n h1
    obtain ⟨b0, b1⟩ := flatN_rel b x.2 v2 F2 n h2
    refine ⟨fun hn => ?_, fun hn => ?_⟩
    · have hn' : a.nsl + b.nsl = 0 := hn
      obtain ⟨k1, k2⟩ := a0 (by omega)
      obtain ⟨j1, j2⟩ := b0 (by omega)
      refine ⟨by simp only [Ty.kid1, k1, j1], fun C r rs hr => ?_⟩
      rw [List.append_assoc]
      exact k2 C _ _ (j2 C r rs hr)
    · have hn' : a.nsl + b.nsl = 1 := hn
      by_cases ha : a.nsl = 1
      · obtain ⟨u, e, ys, k1, k2, k3⟩ := a1 ha
        obtain ⟨j1, j2⟩ := b0 (by omega)
        refine ⟨u, e, ys, by simp only [Ty.kid1, k1], RowOf.agree k2 (fun _ _ h => h) (Agree.refl _ _) p1 (Agree.refl _ _), fun C r rs ho hr => ?_⟩
        rw [List.append_assoc]
        exact k3 C _ _ ho (j2 C r rs hr)
      · obtain ⟨k1, k2⟩ := a0 (by omega)
        obtain ⟨u, e, ys, j1, j2, j3⟩ := b1 (by omega)
        refine ⟨u, e, ys, by simp only [Ty.kid1, k1, j1], RowOf.agree j2 (fun _ _ h => h) (Agree.refl _ _) p2 (Agree.refl _ _), fun C r rs ho hr => ?_⟩
        rw [List.append_assoc]
        exact k2 C _ _ (j3 C r rs ho hr)
  | .ptr a, x, us, F, n, h => ⟨fun h => by simp [Ty.nsl] at h, fun h => by simp [Ty.nsl] at h⟩
  | .fn a b, x, us, F, n, h => ⟨fun h => by simp [Ty.nsl] at h, fun h => by simp [Ty.nsl] at h⟩
  | .map a b, x, us, F, n, h => ⟨fun h => by simp [Ty.nsl] at h, fun h => by simp [Ty.nsl] at h⟩

section
variable {ρ : Type} {B : Base} {E : Env} {σ : St} {a : Act} {tm : Array Value} {w w' : World} {H : Nat → Option Value} {φ : Nat → Nat → Prop}

/-- one result: the state behind it, and its value in every later state that has kept its name -/
theorem mkRes_ok {Fc F1 F2 Z' : Nat → Prop} {n : Nat} {p : PK × Ty} {x : p.2.den} {v : Value} {A' : A} {σ' : St} (h : Rel (B.on Fc) σ tm w H φ) (hm : mkRes p x n σ = some (A', σ')) (hn : n % 64 < 63)
    (s1 : ∀ b, F1 b → Fc b) (s2 : ∀ b, F2 b → Fc b) (s3 : ∀ b, F1 b → ¬ F2 b)
    (hF : ∀ b, F1 b → B.w0.heap.size ≤ b ∨ (B.par.contains n = true ∧ B.X0 b))
    (hZ : ∀ b, b < w.heap.size → Z' b → (B.Z0 b ∨ B.w0.heap.size ≤ b) ∧ ¬ Fc b ∧ ∀ m, ¬ φ m b)
    (hx : (∃ t, ∃ e : p = (.val, t), RdV B.P t w Z' v (cast (by rw [e]) x)) ∨ ∃ d t, ∃ e : p = (.io d, t), OwTop B.P d t w Z' F1 v (cast (by rw [e]) x)) :
    ∃ H' φ', Rel (B.on F2) σ' tm w H' φ' ∧ (∀ m u, m < n → H m = some u → H' m = some u) ∧ (∀ m i, φ' m i → (∃ k, φ k i) ∨ F1 i) ∧
      ∀ C : Cx, C.P = B.P → C.w = w → (∀ b, b < w.heap.size → Z' b → C.Z b) → (∀ u, H' n = some u → C.H n = some u) → ARel C A' v := by
  have hdrop : Rel (B.on F2) σ tm w H φ := (Rel.step (B := B) h (Fr.refl Fc w) (fun i hi => ⟨.inl (s2 i hi), (h.mem.rsub i (s2 i hi)).2⟩)).1
  have hscal : ∀ (t : Ty) (d : Bool) (y : t.den), t.scal = true → (∃ cs, Boxed t v cs ∧ OwC B.P d t w Z' F1 cs y) → ∀ C : Cx, C.P = B.P → ARel C (t.toA y) v := by
    intro t d y ht ⟨cs, h1, h2⟩ C hP
    exact toA_rel ⟨cs, h1, (RdC.scal t ht cs y).2 ((OwC.scal t ht cs y).1 h2)⟩
  have hio : B.io n = none := by
    cases hq : B.io n with
    | none => rfl
    | some v => have := B.iok _ _ hq; omega
  have fresh : ∀ (b : Blk) (v : Value), (∀ C' : Cx, C'.w = w → C'.P = B.P → (∀ i, i < w.heap.size → Z' i → C'.Z i) → BRel C' F1 v b) →
      ∃ H' φ', Rel (B.on F2) (σ.new n b) tm w H' φ' ∧ (∀ m u, m < n → H m = some u → H' m = some u) ∧ (∀ m i, φ' m i → (∃ k, φ k i) ∨ F1 i) ∧ H' n = some v := by
    intro b v hb
    obtain ⟨H1, φ1, hk, hkn, hkH, _, hkφ⟩ := h.kill n
    have hf := Rel.fresh (B := B.on F2) (R1 := Fc) hk (fun i hi => s2 i hi) hkn hio (w' := w) (b := b) (v := v) (F := F1) (Fr.refl _ w)
      (fun i hi => ⟨.inr ⟨s1 i hi, s3 i hi, (hF i hi).symm⟩, (h.mem.rsub i (s1 i hi)).2⟩)
      (fun C' hle hw hP hz => hb C' hw hP fun i hi hzi => by
        obtain ⟨q1, q2, q3⟩ := hZ i hi hzi
        exact hz i hi (q1.imp (fun q => ⟨q, hi⟩) id) (fun m hm => q3 m (hkφ m i hm)) (fun h2 => q2 (s2 i h2)) (fun h1 => q2 (s1 i h1)))
    refine ⟨_, _, hf, fun m u hm hu => ?_, fun m i hi => ?_, by simp⟩
    · have : m ≠ n := by omega
      simp only [this, if_false]
      rw [(hkH m this).1]; exact hu
    · rcases hi with ⟨_, h1⟩ | ⟨_, h1⟩
      · exact .inr h1
      · exact .inl ⟨m, hkφ m i h1⟩
  have same : σ' = σ → (∀ C : Cx, C.P = B.P → C.w = w → (∀ b, b < w.heap.size → Z' b → C.Z b) → ARel C A' v) → ∃ H' φ', Rel (B.on F2) σ' tm w H' φ' ∧ (∀ m u, m < n → H m = some u → H' m = some u) ∧ (∀ m i, φ' m i → (∃ k, φ k i) ∨ F1 i) ∧
      ∀ C : Cx, C.P = B.P → C.w = w → (∀ b, b < w.heap.size → Z' b → C.Z b) → (∀ u, H' n = some u → C.H n = some u) → ARel C A' v := by
    intro e hr
    subst e
    exact ⟨H, φ, hdrop, fun _ _ _ h => h, fun m i hi => .inl ⟨m, hi⟩, fun C h1 h2 h3 _ => hr C h1 h2 h3⟩
  obtain ⟨k, t⟩ := p
  cases k with
  | val =>
    simp only [mkRes, Option.some.injEq, Prod.mk.injEq] at hm
    obtain ⟨rfl, e⟩ := hm
    refine same e.symm fun C hP hw hz => ?_
    rcases hx with ⟨t', e, hr⟩ | ⟨d, t', e, _⟩
    · cases e
      refine toA_rel ?_
      rw [hP, hw]
      exact RdV.agree (Agree.refl _ _) hz hr
    · cases e
  | eat d => simp [mkRes] at hm
  | io d =>
    have ho : OwTop B.P d t w Z' F1 v x := by
      rcases hx with ⟨t', e, hr⟩ | ⟨d', t', e, hr⟩
      · cases e
      · cases e; exact hr
    cases t with
    | slice e =>
      simp only [mkRes, Option.some.injEq, Prod.mk.injEq] at hm
      obtain ⟨rfl, rfl⟩ := hm
      obtain ⟨H', φ', k1, k2, k3, k4⟩ := fresh (.row (d || e.scal) e x) v (fun C' hw hP hz => by
        show RowOf C'.P (mkd _ _) _ _ C'.w C'.Z F1 _ _
        rw [hP, hw, mkd_or]
        have h1 : RowOf B.P false d e w C'.Z F1 v x := RowOf.agree ho hz (Agree.refl _ _) (fun _ h => h) (Agree.refl _ _)
        cases d with
        | true => exact h1
        | false => cases hs : e.scal with
          | true => exact RowOf.flag hs h1
          | false => exact h1)
      refine ⟨H', φ', k1, k2, k3, fun C _ _ _ hC => ?_⟩
      obtain ⟨A0, cap, e0, _⟩ := ho
      exact ⟨hC v k4, A0, _, cap, e0⟩
    | ptr a =>
      simp only [mkRes] at hm
      obtain ⟨hs, hm⟩ := bif_none hm
      simp only [Option.some.injEq, Prod.mk.injEq] at hm
      obtain ⟨rfl, rfl⟩ := hm
      obtain ⟨g, us, ety, F', ep, hg, hh1, hs', ho'⟩ := ho
      obtain ⟨H', φ', k1, k2, k3, k4⟩ := fresh (.box (a.flat x [])) _ (fun C' hw hP hz => by
        refine ⟨g, us, ety, ep, hg, by rw [hw]; exact hh1, ?_⟩
        have hr : RdC C'.P a C'.w C'.Z us.toList x := (RdC.scal a hs us.toList x).2 ((OwC.scal a hs us.toList x).1 ho')
        exact flat_rel' hr)
      refine ⟨H', φ', k1, k2, k3, fun C _ _ _ hC => ?_⟩
      exact ⟨g, by rw [hC v k4, ep], ep⟩
    | st a =>
      simp only [mkRes] at hm
      cases hs : a.scal with
      | true =>
        rw [hs] at hm
        simp only [cond_true, Option.some.injEq, Prod.mk.injEq] at hm
        obtain ⟨rfl, e⟩ := hm
        exact same e.symm fun C hP _ _ => hscal (.st a) d x hs ho C hP
      | false =>
        rw [hs] at hm
        simp only [cond_false] at hm
        have hm0 := bif_none hm
        clear hm
        obtain ⟨hg, hm⟩ := hm0
        obtain ⟨hd, hn1⟩ := and_b hg
        have hd' : d = true := hd
        subst hd'
        split at hm
        · rename_i b hb
          simp only [Option.some.injEq, Prod.mk.injEq] at hm
          obtain ⟨rfl, rfl⟩ := hm
          obtain ⟨cs, hbox, hoc⟩ := ho
          obtain ⟨u, e, ys, hk, hr, hall⟩ := (flatN_rel a x cs F1 n hoc).2 (by simpa using hn1)
          rw [hb] at hk
          obtain rfl := Option.some.inj hk
          obtain ⟨H', φ', k1, k2, k3, k4⟩ := fresh (.row true e ys) u (fun C' hw hP hz => by
            show RowOf C'.P (mkd _ _) _ _ C'.w C'.Z F1 _ _
            rw [hP, hw]
            exact RowOf.agree hr hz (Agree.refl _ _) (fun _ h => h) (Agree.refl _ _))
          refine ⟨H', φ', k1, k2, k3, fun C _ _ _ hC => ?_⟩
          obtain ⟨A0, cap, e0, _⟩ := hr
          refine ⟨cs.toArray, hbox, ?_⟩
          have := hall C [] [] ⟨hC u k4, A0, _, cap, e0⟩ trivial
          simpa using this
        · cases hm
    | int k =>
      simp only [mkRes, Option.some.injEq, Prod.mk.injEq] at hm
      obtain ⟨rfl, e⟩ := hm
      exact same e.symm fun C hP _ _ => hscal (.int k) d x rfl ho C hP
    | bool =>
      simp only [mkRes, Option.some.injEq, Prod.mk.injEq] at hm
      obtain ⟨rfl, e⟩ := hm
      exact same e.symm fun C hP _ _ => hscal .bool d x rfl ho C hP
    | str =>
      simp only [mkRes, Option.some.injEq, Prod.mk.injEq] at hm
      obtain ⟨rfl, e⟩ := hm
      exact same e.symm fun C hP _ _ => hscal .str d x rfl ho C hP
    | unit => simp [mkRes] at hm
    | pair a b => simp [mkRes] at hm
    | fn a r => simp [mkRes] at hm
    | map kt vt =>
      simp only [mkRes, Option.some.injEq, Prod.mk.injEq] at hm
      obtain ⟨rfl, rfl⟩ := hm
      obtain ⟨g, ents, clock, ep, hg, hh, hr⟩ := ho
      obtain ⟨H', φ', k1, k2, k3, k4⟩ := fresh (.map kt vt x) v (fun C' hw hP hz => ⟨g, ents, clock, ep, hg, by rw [hw]; exact hh, hr⟩)
      exact ⟨H', φ', k1, k2, k3, fun C _ _ _ hC => ⟨hC v k4, g, ep⟩⟩

/-- the results -/
theorem mkRess_ok (hB : B.R = NoB) {Z' : Nat → Prop} : ∀ (rs : List (PK × Ty)) (z : Sig.den rs) (vs : List Value) (n : Nat) (σ : St) (H : Nat → Option Value) (φ : Nat → Nat → Prop) (Fc : Nat → Prop) (xs : List A) (σ' : St),
    Rel (B.on Fc) σ tm w H φ → mkRess rs z n σ = some (xs, σ') → n % 64 + rs.length ≤ 63 → Holds B.P w Z' Fc rs vs z →
    (rs ≠ [] → ∀ b, Fc b → B.w0.heap.size ≤ b ∨ (rs.length ≤ 1 ∧ B.par.contains n = true ∧ B.X0 b)) →
    (∀ b, b < w.heap.size → Z' b → (B.Z0 b ∨ B.w0.heap.size ≤ b) ∧ ¬ Fc b ∧ ∀ m, ¬ φ m b) →
    ∃ H' φ', Rel B σ' tm w H' φ' ∧ (∀ m u, m < n → H m = some u → H' m = some u) ∧ (∀ m i, φ' m i → (∃ k, φ k i) ∨ Fc i) ∧ All2 (ARel (B.at σ' w H' φ')) xs vs
  | [], z, vs, n, σ, H, φ, Fc, xs, σ', h, hm, hn, hh, hF, hZ => by
    simp only [mkRess, Option.some.injEq, Prod.mk.injEq] at hm
    obtain ⟨rfl, rfl⟩ := hm
    obtain rfl : vs = [] := hh
    have := (Rel.dropR h (fun b hb => by rw [hB] at hb; exact hb.elim)).1
    exact ⟨H, φ, this, fun _ _ _ h => h, fun m i hi => .inl ⟨m, hi⟩, trivial⟩
  | p :: rs, z, vs, n, σ, H, φ, Fc, xs, σ', h, hm, hn, hh, hF, hZ => by
    simp only [mkRess] at hm
    split at hm
    · cases hm
    rename_i A1 σ1 hm1
    split at hm
    · cases hm
    rename_i xs1 σ2 hm2
    simp only [Option.some.injEq, Prod.mk.injEq] at hm
    obtain ⟨rfl, rfl⟩ := hm
    simp only [List.length_cons] at hn
    -- the parts of what is held
    have parts : ∃ v r, ∃ F1 F2 : Nat → Prop, vs = v :: r ∧ (∀ b, F1 b → Fc b) ∧ (∀ b, F2 b → Fc b) ∧ (∀ b, F1 b → ¬ F2 b) ∧
        ((∃ t, ∃ e : p = (.val, t), RdV B.P t w Z' v (cast (by rw [e]) (Sig.hd p rs z))) ∨ ∃ d t, ∃ e : p = (.io d, t), OwTop B.P d t w Z' F1 v (cast (by rw [e]) (Sig.hd p rs z))) ∧ Holds B.P w Z' F2 rs r (Sig.tl p rs z) := by
      obtain ⟨k, t⟩ := p
      cases k with
      | val =>
        obtain ⟨v, r, e, h1, h2⟩ := hh
        exact ⟨v, r, NoB, Fc, e, fun _ f => f.elim, fun _ h => h, fun _ f => f.elim, .inl ⟨t, rfl, h1⟩, h2⟩
      | io d =>
        obtain ⟨v, r, F1, F2, e, s1, s2, s3, h1, h2⟩ := hh
        exact ⟨v, r, F1, F2, e, s1, s2, s3, .inr ⟨d, t, rfl, h1⟩, h2⟩
      | eat d => simp [mkRes] at hm1
    obtain ⟨v, r, F1, F2, rfl, s1, s2, s3, hx, hrest⟩ := parts
    obtain ⟨H1, φ1, k1, k2, k3, k4⟩ := mkRes_ok h hm1 (by omega) s1 s2 s3 (fun b hb => (hF (List.cons_ne_nil _ _) b (s1 b hb)).imp id fun q => q.2) hZ hx
    obtain ⟨H', φ', i1, i2, i3, i4⟩ := mkRess_ok hB rs _ r (n + 1) σ1 H1 φ1 F2 xs1 σ2 k1 hm2 (by omega) hrest
      (fun hne b hb => by
        rcases hF (List.cons_ne_nil _ _) b (s2 b hb) with q | ⟨q1, q2, q3⟩
        · exact .inl q
        · exact absurd (List.eq_nil_of_length_eq_zero (by simp only [List.length_cons] at q1; omega)) hne)
      (fun b hb hz => by
        obtain ⟨q1, q2, q3⟩ := hZ b hb hz
        refine ⟨q1, fun hf => q2 (s2 b hf), fun m hm => ?_⟩
        rcases k3 m b hm with ⟨j, hj⟩ | hj
        · exact q3 j hj
        · exact q2 (s1 b hj))
    refine ⟨H', φ', i1, fun m u hm hu => i2 m u (by omega) (k2 m u hm hu), fun m i hi => ?_, ?_, i4⟩
    · rcases i3 m i hi with ⟨j, hj⟩ | hj
      · exact (k3 j i hj).imp id (s1 i)
      · exact .inr (s2 i hj)
    · refine k4 _ rfl rfl (fun b hb hz => ?_) (fun u hu => i2 n u (by omega) hu)
      obtain ⟨q1, q2, q3⟩ := hZ b hb hz
      refine ⟨q1, hb, fun hr => by rw [hB] at hr; exact hr.elim, fun m hm => ?_⟩
      rcases i3 m b hm with ⟨j, hj⟩ | hj
      · rcases k3 j b hj with ⟨l, hl⟩ | hl
        · exact q3 l hl
        · exact q2 (s1 b hl)
      · exact q2 (s2 b hj)

end
end Go.Proofs.YtklfnbckoaphpaaGreatDoor
