/- Regions whose order is open. No conditions. -/
import Derived.Test.YtklfnbckoaphpaaGreatDoorEvYb
import Derived.Deep.RegionHeld3
set_option linter.unusedVariables false
set_option linter.unusedSimpArgs false
namespace Go.Proofs.YtklfnbckoaphpaaGreatDoor
open Go

abbrev isValS (p : PK × Ty) : Bool := match p with | (.val, t) => t.scal | _ => false

def valsL : (rs : List (PK × Ty)) → Sig.den rs → List Value
  | [], _ => []
  | (k, t) :: rs, z => t.valV (Sig.hd (k, t) rs z) :: valsL rs (Sig.tl (k, t) rs z)
def packV : List Value → Value
  | [x] => x
  | xs => .tuple xs.toArray

theorem Tupled.eq : ∀ {vs : List Value} {v : Value}, Tupled vs v → v = packV vs
  | [], _, h => h
  | [_], _, h => h
  | _ :: _ :: _, _, h => h
theorem tupled_packV : ∀ (vs : List Value), Tupled vs (packV vs)
  | [] => rfl
  | [_] => rfl
  | _ :: _ :: _ => rfl

theorem holds_valsL {P : Program} {w : World} {Z : Nat → Prop} : ∀ (rs : List (PK × Ty)) (F : Nat → Prop) (vs : List Value) (z : Sig.den rs), rs.all isValS = true → Holds P w Z F rs vs z → vs = valsL rs z
  | [], F, vs, z, _, h => h
  | (.val, t) :: rs, F, vs, z, hs, h => by
    obtain ⟨v, r, rfl, h1, h2⟩ := h
    have hs' : t.scal = true ∧ rs.all isValS = true := by simpa using hs
    rw [h1.valV hs'.1, holds_valsL rs F r _ hs'.2 h2]
    rfl
  | (.io d, t) :: rs, F, vs, z, hs, h => by simp [isValS] at hs
  | (.eat d, t) :: rs, F, vs, z, hs, h => by simp [isValS] at hs

theorem mkRess_val {C : Cx} : ∀ (rs : List (PK × Ty)) (z : Sig.den rs) (n : Nat) (σ σ' : St) (xs : List A), rs.all isValS = true → mkRess rs z n σ = some (xs, σ') → All2 (ARel C) xs (valsL rs z)
  | [], z, n, σ, σ', xs, _, h => by
    simp only [mkRess, Option.some.injEq, Prod.mk.injEq] at h
    obtain ⟨rfl, _⟩ := h
    trivial
  | (.val, t) :: rs, z, n, σ, σ', xs, hs, h => by
    have hs' : t.scal = true ∧ rs.all isValS = true := by simpa using hs
    simp only [mkRess, mkRes] at h
    split at h
    · cases h
    rename_i xs1 σ2 hm2
    simp only [Option.some.injEq, Prod.mk.injEq] at h
    obtain ⟨rfl, _⟩ := h
    exact ⟨toA_valV hs'.1 _, mkRess_val rs _ (n + 1) σ _ _ hs'.2 hm2⟩
  | (.io d, t) :: rs, z, n, σ, σ', xs, hs, h => by simp [isValS] at hs
  | (.eat d, t) :: rs, z, n, σ, σ', xs, hs, h => by simp [isValS] at hs

section
variable {ρ : Type} {B : Base} {E : Env} {σ : St} {a : Act} {w : World} {H : Nat → Option Value} {φ : Nat → Nat → Prop}

/-- behind one operation of such a region -/
abbrev NextQ (B : Base) (k : St → Option ρ) (r : ρ) (w : World) (H : Nat → Option Value) (φ : Nat → Nat → Prop) (ds : List Deferred) : Act → Prop := fun a' => ∃ σ', k σ' = some r ∧ Rel B σ' a'.tmps w H φ ∧ a'.defers = ds

theorem evOpQ_ok (hE : EnvOK B.P E) (h : Rel B σ a.tmps w H φ) {o : Oper} {k : St → Option ρ} {r : ρ} (hv : evOpQ E o σ k = some r) : o.quiet B.P a (fun w' => Fr NoB w w') (NextQ B k r w H φ a.defers) := by
  have fin : ∀ (v : Value) (x : A), k (σ.put o.dst x) = some r → ARel (B.at σ w H φ) x v → (∀ w', Fr NoB w w' → o.quietAt B.P a (fun w' => Fr NoB w w') w' v) → o.quiet B.P a (fun w' => Fr NoB w w') (NextQ B k r w H φ a.defers) :=
    fun v x hk hx hq => ⟨v, hq, _, hk, Rel.put h o.dst hx, put_defers a o.dst v⟩
  unfold evOpQ at hv
  split at hv
  · rename_i g v ho
    obtain ⟨rfl, hv⟩ := bif_none hv
    obtain ⟨u, hr, hrun⟩ := opVal_ok hE h o ho
    refine fin u v hv hr fun w' hw' => ?_
    unfold Oper.quietAt
    rw [hrun w' (fun _ => hw')]
    exact ⟨rfl, rfl⟩
  rename_i hnone
  clear hnone
  split at hv
  · rename_i c x y ho
    split at hv
    · rename_i b hc
      have hb := h.bool hc
      cases b with
      | true =>
        refine fin (a.eval x) _ hv (h.eval x) fun w' _ => ?_
        simp [Oper.quietAt, Oper.quietUpon, execOp, ho, hb, asBool]
      | false =>
        refine fin (a.eval y) _ hv (h.eval y) fun w' _ => ?_
        simp [Oper.quietAt, Oper.quietUpon, execOp, ho, hb, asBool]
    · cases hv
  · rename_i t x i ho
    obtain ⟨y, hk, u, hr, hrun⟩ := splitIdx_ok hE h ho hv
    refine fin u y hk hr fun w' hw' => ?_
    unfold Oper.quietAt
    rw [hrun w' (fun _ => hw')]
    exact ⟨rfl, rfl⟩
  · rename_i f xs ts ho
    split at hv
    · rename_i g caps ef
      split at hv
      · cases hv
      rename_i c hc
      obtain ⟨hg, hv⟩ := bif_none hv
      obtain ⟨hrs, hps⟩ := and_b hg
      have hrs : c.rs.all isValS = true := hrs
      have hps : c.ps.all isVal = true := hps
      split at hv
      · cases hv
      rename_i x hx
      split at hv
      · cases hv
      rename_i y hy
      split at hv
      · cases hv
      rename_i vs σ1 hmk
      split at hv
      · cases hv
      rename_i v hpk
      have hf := h.eval f
      rw [ef] at hf
      obtain ⟨cv, hf1, hf2⟩ := hf
      have hok := hE.con g c hc
      have hargs : All2 (ARel (B.at σ w H φ)) (xs.toList.map σ.eval ++ caps.map capA) (xs.toList.map a.eval ++ cv.toList) := (evals h xs.toList).append (capA_rel hf2)
      have hh := handed_vals c.ps (xs.toList.map σ.eval ++ caps.map capA) hps
      obtain ⟨hold, _⟩ := readPs_rel (Zc := fun _ => True) hE h (fun _ _ _ => trivial) h.reads c.ps _ _ x (by rw [hh]; rfl) hx hargs
      rw [hh] at hold
      have hz : (writePs c.ps (xs.toList.map σ.eval ++ caps.map capA) c.rs y σ).2 = Sig.snd (Sig.ios c.ps) c.rs y := by
        rw [writePs_none c.ps _ c.rs y σ hh (readPs_length hx)]
      rw [hz] at hmk
      refine fin (packV (valsL c.rs (Sig.snd (Sig.ios c.ps) c.rs y))) v hv (packA_rel hpk (mkRess_val c.rs _ 0 σ _ _ hrs hmk) (tupled_packV _)) fun w' hw' => ?_
      unfold Oper.quietAt
      rw [run_call_value ho hf1 hok.enters]
      refine ⟨rfl, ?_⟩
      have e : (xs.toList.map a.eval ++ cv.toList).toArray = xs.map a.eval ++ cv := by
        apply Array.ext'; simp
      have hold' : Holds B.P w' (fun _ => True) NoB c.ps (xs.toList.map a.eval ++ cv.toList) x := by
        have h1 : Holds B.P w (fun _ => True) NoB c.ps (xs.toList.map a.eval ++ cv.toList) x := by
          have : (fun b => ∃ n ∈ ([] : List Nat), φ n b) = NoB := by funext b; simp
          rw [← this]; exact hold
        exact holds_agree (fun _ _ _ => trivial) (hw'.agree _ fun _ _ _ f => f) _ _ _ _ (agree_none _ _ hw'.size) h1
      have := hok.calls w' (fun _ => True) NoB _ x y hy (fun _ f => f.elim) (fun _ f => f.elim) hold' (hw'.tabs h.mem.tabs) (fun _ f => f.elim)
      rw [e] at this
      refine this.mono ?_
      rintro e' w'' ⟨v', vs', F, G, rfl, htup, _, hfr, _, _, _, _, hres⟩
      rw [htup.eq, holds_valsL c.rs F vs' _ hrs hres]
      exact ⟨rfl, hw'.trans hfr (fun _ _ f => f)⟩
    · rename_i ta tr ψ ef
      obtain ⟨hs, hv⟩ := bif_none hv
      split at hv
      · cases hv
      rename_i x hx
      split at hv
      · cases hv
      rename_i y hy
      have hf := h.eval f
      rw [ef] at hf
      obtain ⟨v, e1, _, hcall⟩ := hf
      simp only [List.cons.injEq, and_true] at e1
      subst e1
      obtain ⟨cs, hcs, hrd⟩ := readArgs_rel (C := B.at σ w H φ) hE h.reads ta (xs.toList.map σ.eval) (xs.toList.map a.eval) x hx (evals h xs.toList)
      obtain ⟨g, caps, ev, he, _⟩ := hcall w (Agree.refl _ _) h.mem.tabs _ cs x y hcs hrd hy
      refine fin (tr.valV y) _ hv (toA_valV hs y) fun w' hw' => ?_
      obtain ⟨g', caps', ev', he', hc'⟩ := hcall w' (hw'.agree _ fun _ _ _ f => f) (hw'.tabs h.mem.tabs) _ cs x y hcs (RdC.agree (Z' := fun _ => True) (hw'.agree _ fun _ _ _ f => f) (fun _ _ _ => trivial) _ _ _ hrd) hy
      unfold Oper.quietAt
      rw [run_call_value (P := B.P) ho ev' he']
      refine ⟨rfl, ?_⟩
      have e : (xs.toList.map a.eval).toArray = xs.map a.eval := by
        apply Array.ext'; simp
      rw [e] at hc'
      exact hc'.mono fun e' w'' ⟨h1, h2⟩ => ⟨h1, hw'.trans h2 (fun _ _ f => f)⟩
    · cases hv
  · cases hv

/-- the operations of such a region -/
theorem evOpsQ_ok (hE : EnvOK B.P E) {ops : Array Oper} {k : St → Option ρ} {r : ρ} {ds : List Deferred} {Q : Act → Prop} (hQ : ∀ σ' a', k σ' = some r → Rel B σ' a'.tmps w H φ → a'.defers = ds → Q a') :
    ∀ (rest : List Oper) (σ : St) (a : Act), Rel B σ a.tmps w H φ → a.defers = ds → evOpsG (evOpQ E) ops.toList rest σ k = some r → wpQuiet B.P ops (fun w' => Fr NoB w w') Q rest a
  | [], σ, a, h, hd, hv => hQ σ a hv h hd
  | o :: rest, σ, a, h, hd, hv => by
    have go : ∀ σ : St, Rel B σ a.tmps w H φ → Region.wanted o (yielded ops a.tmps) = true → evOpQ E o σ (fun σ' => evOpsG (evOpQ E) ops.toList rest σ' k) = some r → wpQuiet B.P ops (fun w' => Fr NoB w w') Q (o :: rest) a := by
      intro σ h hw hv
      unfold wpQuiet
      rw [if_pos hw]
      exact Oper.quiet_mono (fun a' ⟨σ', hk, hr, hd'⟩ => evOpsQ_ok hE hQ rest σ' a' hr (hd'.trans hd) hk) (evOpQ_ok hE h hv)
    have skip : ∀ σ : St, Rel B σ a.tmps w H φ → Region.wanted o (yielded ops a.tmps) = false → evOpsG (evOpQ E) ops.toList rest (σ.put o.dst (.tup [])) k = some r → wpQuiet B.P ops (fun w' => Fr NoB w w') Q (o :: rest) a := by
      intro σ h hw hv
      unfold wpQuiet
      rw [if_neg (by simp [hw])]
      exact evOpsQ_ok hE hQ rest _ _ (Rel.put h o.dst undefRel) ((put_defers a o.dst undef).trans hd) hv
    simp only [evOpsG] at hv
    split at hv
    · rename_i hg
      exact go _ h (by simp [Region.wanted, hg]) hv
    · rename_i j want hg
      split at hv
      · cases hv
      rename_i d hd'
      split at hv
      · rename_i b hb
        have hy := yielded_bool h hd' hb
        cases b with
        | true =>
          simp only [cond_true] at hv
          have h := h.setSame hb
          cases want with
          | true => exact go _ h (by simp [Region.wanted, hg, hy]) hv
          | false => exact skip _ h (by simp [Region.wanted, hg, hy]) hv
        | false =>
          simp only [cond_false] at hv
          have h := h.setSame hb
          cases want with
          | true => exact skip _ h (by simp [Region.wanted, hg, hy]) hv
          | false => exact go _ h (by simp [Region.wanted, hg, hy]) hv
      · rename_i hb
        have hy := yielded_tup h hd' hb
        exact skip _ h (by simp [Region.wanted, hg, hy]) hv
      · cases hv

theorem evOpT_ok (hE : EnvOK B.P E) (h : Rel B σ a.tmps w H φ) {o : Oper} {k : St → Option ρ} {r : ρ} (hv : evOpT E o σ k = some r) :
    ∃ u σ', k σ' = some r ∧ Rel B σ' (a.put o.dst u).tmps w H φ ∧ ∀ w', (memRead o.op = true → Fr NoB w w') → (execOp a.eval o).run B.P w' = .ok (.value u) w' := by
  unfold evOpT at hv
  split at hv
  · rename_i g v ho
    obtain ⟨rfl, hv⟩ := bif_none hv
    obtain ⟨u, hr, hrun⟩ := opVal_ok hE h o ho
    exact ⟨u, _, hv, Rel.put h o.dst hr, hrun⟩
  · split at hv
    · rename_i c x y ho
      split at hv
      · rename_i b hc
        have hb := h.bool hc
        cases b with
        | true => exact ⟨a.eval x, _, hv, Rel.put h o.dst (h.eval x), fun w' _ => by simp [execOp, ho, hb, asBool]⟩
        | false => exact ⟨a.eval y, _, hv, Rel.put h o.dst (h.eval y), fun w' _ => by simp [execOp, ho, hb, asBool]⟩
      · cases hv
    · rename_i t x i ho
      obtain ⟨y, hk, u, hr, hrun⟩ := splitIdx_ok hE h ho hv
      exact ⟨u, _, hk, Rel.put h o.dst hr, hrun⟩
    · cases hv

/-- one operation that writes nothing of what was there -/
theorem evOpS_ok (hE : EnvOK B.P E) (hpar : E.par = B.par) (hB : B.R = NoB) (hA : RelA B σ a w) {o : Oper} {k : St → Option ρ} {r : ρ} (hv : evOpS E o σ k = some r) (Q : Exit → Act → World → Prop) : o.wp B.P a w (fun a' w' => Next B k r a' w' ∧ Fr NoB w w') Q := by
  have plain : evOpT E o σ k = some r → o.wp B.P a w (fun a' w' => Next B k r a' w' ∧ Fr NoB w w') Q := by
    intro hv
    obtain ⟨hdef, H, φ, h⟩ := hA
    obtain ⟨u, σ', hk, hr, hrun⟩ := evOpT_ok hE h hv
    exact wp_val (hrun w (fun _ => Fr.refl _ _)) ⟨⟨σ', hk, by rw [put_defers]; exact hdef, H, φ, hr⟩, Fr.refl _ _⟩
  unfold evOpS at hv
  split at hv
  · rename_i t len parts ho
    have hv0 : (bif deepT E t then none else evOp E o σ k) = some r := hv
    have hdt : deepT E t = false := by
      cases hq : deepT E t with
      | false => rfl
      | true => rw [hq] at hv0; cases hv0
    rw [hdt] at hv0
    simp only [cond_false] at hv0
    have hv' := hv0
    unfold evOp at hv'
    split at hv'
    · rename_i g v hov
      rw [ho] at hov
      simp [opVal] at hov
    · rw [ho] at hv'
      simp only at hv'
      split at hv'
      · rename_i d ti hd ht
        split at hv'
        · rename_i e hdesc
          split at hv'
          · rename_i te ty he hty
            obtain ⟨hg, hv'⟩ := bif_none hv'
            obtain ⟨hsz, hbig⟩ := and_b hg
            split at hv'
            · rename_i z hz
              split at hv'
              · rename_i zs hzs
                obtain ⟨hzl, hv'⟩ := bif_none hv'
                split at hv'
                · rename_i cs hf
                  have hdE : deepE E e = false := by simpa [deepT, ht, hdesc] using hdt
                  rw [hdE] at hv'
                  simp only [cond_false] at hv'
                  split at hv'
                  · rename_i xs hu
                    cases hem : empE E && len == 0 with
                    | true =>
                      rw [hem] at hv'
                      obtain ⟨_, hl0⟩ := and_b hem
                      exact eo_buildNil hE hA ho hd ht hdesc he (by simpa using hsz) (of_decide_eq_true hbig) hz hzs (by simpa using hzl) hf hu (by simpa using hl0) hv' Q
                    | false =>
                      rw [hem] at hv'
                      exact eo_buildSlice hE hA ho hd ht hdesc he (by simpa using hsz) (of_decide_eq_true hbig) hz hzs (by simpa using hzl) hf hu hv' Q
                  · cases hv'
                · cases hv'
              · cases hv'
            · cases hv'
          · cases hv'
        · cases hv'
      · cases hv'
  · rename_i f xs ts ho
    obtain ⟨hq, hv⟩ := bif_none hv
    unfold evOp at hv
    split at hv
    · rename_i g v hov
      rw [ho] at hov
      simp [opVal] at hov
    · rw [ho] at hv
      simp only at hv
      split at hv
      · rename_i d hd
        exact Oper.wp_next (fun _ _ h => ⟨h.1, h.2 hq⟩) (eo_call hE hpar hB hA ho hd hv Q)
      · cases hv
  · exact plain hv

end

/-! ### Calls that are held back -/
/-- how many operations are left -/
def unlL : List Bool → Nat
  | [] => 0
  | b :: r => (if b then 0 else 1) + unlL r
def unl (listed : Array Bool) : Nat := unlL listed.toList
theorem unlL_set : ∀ (l : List Bool) (i : Nat), l.getD i true = false → unlL (l.set i true) + 1 = unlL l
  | [], i, h => by simp at h
  | b :: r, 0, h => by
    have : b = false := by simpa using h
    subst this
    simp [unlL]; omega
  | b :: r, i + 1, h => by
    have := unlL_set r i (by simpa using h)
    simp only [List.set_cons_succ, unlL]
    omega
theorem getD_toList (l : Array Bool) (i : Nat) (d : Bool) : l.getD i d = l.toList.getD i d := by
  simp [Array.getD_eq_getD_getElem?, List.getD_eq_getElem?_getD]
theorem unl_set {listed : Array Bool} {i : Nat} (h : listed.getD i true = false) : unl (listed.setIfInBounds i true) + 1 = unl listed := by
  unfold unl
  rw [Array.toList_setIfInBounds]
  exact unlL_set _ _ (by rw [← getD_toList]; exact h)
theorem unl_ready {ops : Array Oper} {listed : Array Bool} {i : Nat} (h : i ∈ Region.ready .any ops listed) : unl (listed.setIfInBounds i true) + 1 = unl listed := unl_set (mem_ready.1 h).1

theorem mark_get : ∀ (S : List Nat) (l : Array Bool) (i : Nat), (mark l S)[i]? = (l[i]?).map fun b => b || S.contains i
  | [], l, i => by simp [mark]
  | s :: S, l, i => by
    have e : mark l (s :: S) = mark (l.setIfInBounds s true) S := rfl
    rw [e, mark_get S, Array.getElem?_setIfInBounds]
    by_cases h : s = i
    · subst h
      by_cases hb : s < l.size
      · simp [hb]
      · simp [hb, Array.getElem?_eq_none (Nat.le_of_not_lt hb)]
    · have h' : ¬ i = s := fun e => h e.symm
      simp [h, h']
theorem mark_ext {l : Array Bool} {S S' : List Nat} (h : ∀ i, S.contains i = S'.contains i) : mark l S = mark l S' := by
  apply Array.ext_getElem?
  intro i
  rw [mark_get, mark_get, h i]
theorem mark_set (l : Array Bool) (S : List Nat) (i : Nat) : (mark l S).setIfInBounds i true = mark (l.setIfInBounds i true) S := by
  apply Array.ext_getElem?
  intro j
  rw [Array.getElem?_setIfInBounds, mark_get, mark_get, Array.getElem?_setIfInBounds]
  by_cases h : i = j
  · subst h
    have hs : (mark l S).size = l.size := by
      induction S generalizing l with
      | nil => rfl
      | cons s S ih => have := ih (l.setIfInBounds s true); simpa [mark] using this
    by_cases hb : i < l.size
    · simp [hb, hs]
    · simp [hb, hs]
  · simp [h]
theorem mark_more {l : Array Bool} {C : List Nat} {p : Nat → Bool} {c : Nat} (hc : c ∈ C) : (mark l (C.filter p)).setIfInBounds c true = mark l (C.filter fun i => p i || i == c) := by
  have e : (mark l (C.filter p)).setIfInBounds c true = mark l (c :: C.filter p) := mark_set l _ c
  rw [e]
  refine mark_ext fun i => ?_
  rw [Bool.eq_iff_iff]
  simp only [List.contains_iff_mem, List.mem_cons, List.mem_filter, Bool.or_eq_true, beq_iff_eq]
  constructor
  · rintro (rfl | ⟨h1, h2⟩)
    · exact ⟨hc, .inr rfl⟩
    · exact ⟨h1, .inl h2⟩
  · rintro ⟨h1, h2 | h2⟩
    · exact .inr ⟨h1, h2⟩
    · exact .inl h2
theorem filter_mem_subs (p : Nat → Bool) : ∀ C : List Nat, C.filter p ∈ subs C
  | [] => by simp [subs]
  | c :: r => by
    cases hp : p c with
    | true => simp [List.filter_cons, hp, subs, filter_mem_subs p r]
    | false => simp [List.filter_cons, hp, subs, filter_mem_subs p r]
theorem filter_le {p q : Nat → Bool} (h : ∀ i, q i = true → p i = true) : ∀ C : List Nat, (C.filter q).length ≤ (C.filter p).length
  | [] => by simp
  | x :: C => by
    have ih := filter_le h C
    simp only [List.filter_cons]
    cases hq : q x with
    | true => rw [h x hq]; simpa using ih
    | false => cases p x <;> simp <;> omega
theorem filter_lt {p q : Nat → Bool} (h : ∀ i, q i = true → p i = true) {c : Nat} (hp : p c = true) (hq : q c = false) : ∀ C : List Nat, c ∈ C → (C.filter q).length < (C.filter p).length
  | [], hc => by cases hc
  | x :: C, hc => by
    have le := filter_le h C
    rcases List.mem_cons.1 hc with rfl | hc
    · simp only [List.filter_cons, hp, hq]; simp; omega
    · have ih := filter_lt h hp hq C hc
      simp only [List.filter_cons]
      cases hx : q x with
      | true => rw [h x hx]; simpa using ih
      | false => cases p x <;> simp <;> omega
theorem filter_less {C : List Nat} {p : Nat → Bool} {c : Nat} (hc : c ∈ C) (hp : p c = false) : (C.filter fun i => !(p i || i == c)).length < (C.filter fun i => !p i).length :=
  filter_lt (fun i h => by revert h; cases p i <;> simp) (by simp [hp]) (by simp) C hc

theorem forgetL_rel {C : Cx} (ds : List Nat) : ∀ (l : List A) (vs : List Value) (i : Nat), All2 (ARel C) l vs → All2 (ARel C) (forgetL ds i l) vs
  | [], [], _, _ => trivial
  | [], _ :: _, _, h => h.elim
  | _ :: _, [], _, h => h.elim
  | x :: l, v :: vs, i, h => ⟨by
      show ARel C (bif ds.contains i then .any else x) v
      cases ds.contains i with
      | true => trivial
      | false => exact h.1, forgetL_rel ds l vs (i + 1) h.2⟩
theorem forgetL_set {C : Cx} (ds : List Nat) (v : Value) : ∀ (l : List A) (vs : List Value) (i d : Nat), ds.contains (i + d) = true → All2 (ARel C) (forgetL ds i l) vs → All2 (ARel C) (forgetL ds i l) (vs.set d v)
  | [], [], _, _, _, h => by simp [forgetL, All2]
  | [], _ :: _, _, _, _, h => h.elim
  | _ :: _, [], _, _, _, h => h.elim
  | x :: l, u :: vs, i, 0, hd, h => ⟨by
      show ARel C (bif ds.contains i then .any else x) v
      rw [show ds.contains i = true from hd]
      trivial, h.2⟩
  | x :: l, u :: vs, i, d + 1, hd, h => ⟨h.1, forgetL_set ds v l vs (i + 1) d (by rw [← hd]; congr 1; omega) h.2⟩

section
variable {ρ : Type} {B : Base} {E : Env} {σ : St} {a : Act} {tm : Array Value} {w w' : World} {H : Nat → Option Value} {φ : Nat → Nat → Prop}

theorem Rel.forget (h : Rel B σ tm w H φ) (ds : List Nat) : Rel B (forget ds σ) tm w H φ := ⟨h.mem, forgetL_rel ds _ _ 0 h.tmp⟩
theorem Rel.forgotten {ds : List Nat} (h : Rel B (Go.Proofs.YtklfnbckoaphpaaGreatDoor.forget ds σ) tm w H φ) {d : Nat} (hd : d ∈ ds) (v : Value) : Rel B (Go.Proofs.YtklfnbckoaphpaaGreatDoor.forget ds σ) (tm.setIfInBounds d v) w H φ :=
  ⟨h.mem, by
    rw [Array.toList_setIfInBounds]
    exact forgetL_set ds v _ _ 0 d (by simpa using hd) h.tmp⟩

/-- a call that is held back and has been carried out -/
structure HeldAt (P : Program) (hd : Held) (a : Act) (w : World) (s : Nat) (F : Nat → Prop) : Prop where
  ex : ∃ v vs, a.tmps.setIfInBounds hd.d v = a.tmps ∧ Tupled vs v ∧ Holds P w NoB F hd.rs vs hd.z
  sub : ∀ b, F b → s ≤ b ∧ b < w.heap.size

theorem HeldAt.step {P : Program} {hd : Held} {a a' : Act} {s : Nat} {F : Nat → Prop} (h : HeldAt P hd a w s F) (hsz : w.heap.size ≤ w'.heap.size) (hF : ∀ b, b < w.heap.size → F b → w'.heap[b]? = w.heap[b]?) {e : Option Nat} {u : Value} (htm : a'.tmps = (a.put e u).tmps) (he : ∀ d, e = some d → d ≠ hd.d) : HeldAt P hd a' w' s F := by
  obtain ⟨⟨v, vs, h1, h2, h3⟩, h4⟩ := h
  refine ⟨⟨v, vs, ?_, h2, holds_agree (fun _ _ f => f.elim) (agree_none _ _ hsz) _ _ _ _ ⟨hsz, hF⟩ h3⟩, fun b hb => ⟨(h4 b hb).1, Nat.lt_of_lt_of_le (h4 b hb).2 hsz⟩⟩
  rw [htm]
  cases e with
  | none => exact h1
  | some d =>
    show (a.tmps.setIfInBounds d u).setIfInBounds hd.d v = a.tmps.setIfInBounds d u
    rw [Array.setIfInBounds_comm _ _ (he d rfl), h1]

/-- a call that is held back, ready to be carried out -/
def RunOK (P : Program) (ops : Array Oper) (a0 : Act) (w0 : World) (hd : Held) : Prop := ∃ o, ops[hd.j]? = some o ∧ o.dst = some hd.d ∧ o.guard = none ∧ hd.rs.length ≤ 63 ∧
  ∀ (a' : Act) (w' : World) (Q : Exit → Act → World → Prop), (∀ t ∈ opUses o.op, a'.tmps.getD t undef = a0.tmps.getD t undef) → (hd.free = false → Fr NoB w0 w') →
      o.wp P a' w' (fun a'' w'' => ∃ v vs, ∃ F : Nat → Prop, a'' = a'.put o.dst v ∧ Tupled vs v ∧ Fr NoB w' w'' ∧ (∀ b, F b → w'.heap.size ≤ b ∧ b < w''.heap.size) ∧ Holds P w'' NoB F hd.rs vs hd.z) Q

theorem heldAll_ok (hE : EnvOK B.P E) (h : Rel B σ a.tmps w H φ) {ops : Array Oper} : ∀ (C : List Nat) {k : List Held → Option ρ} {r : ρ}, heldAll E σ ops C k = some r → ∃ hs, k hs = some r ∧ hs.map Held.j = C ∧ ∀ hd ∈ hs, RunOK B.P ops a w hd
  | [], k, r, hv => ⟨[], hv, rfl, fun _ h => by cases h⟩
  | j :: C, k, r, hv => by
    simp only [heldAll] at hv
    split at hv
    · rename_i o ho
      obtain ⟨hd, hk, hj, hdst, hg, hl, hrun⟩ := heldOne_ok hE h hv
      obtain ⟨hs, hk', hC, hall⟩ := heldAll_ok hE h C hk
      refine ⟨hd :: hs, hk', by simp [hj, hC], fun x hx => ?_⟩
      rcases List.mem_cons.1 hx with rfl | hx
      · exact ⟨o, by rw [hj]; exact ho, hdst, hg, hl, hrun⟩
      · exact hall x hx
    · cases hv

theorem mem_heldUses {ops : Array Oper} {o : Oper} {j t : Nat} : ∀ {C : List Nat}, j ∈ C → ops[j]? = some o → t ∈ opUses o.op → t ∈ heldUses ops C
  | [], h, _, _ => by cases h
  | c :: C, h, ho, ht => by
    rw [heldUses, List.mem_append]
    rcases List.mem_cons.1 h with rfl | h
    · exact .inl (by rw [ho]; exact ht)
    · exact .inr (mem_heldUses h ho ht)

/-- while calls are held back -/
structure Inv (B : Base) (hs : List Held) (us ds : List Nat) (a0 : Act) (w0 : World) (p : Nat → Bool) (σ : St) (a : Act) (w : World) : Prop where
  defers : a.defers = []
  size : w0.heap.size ≤ w.heap.size
  fr : (∃ h ∈ hs, h.free = false) → Fr NoB w0 w
  uses : ∀ t ∈ us, a.tmps.getD t undef = a0.tmps.getD t undef
  rel : ∃ (Fs : Nat → Nat → Prop) (H : Nat → Option Value) (φ : Nat → Nat → Prop), Rel (B.on fun b => ∃ h ∈ hs, p h.j = true ∧ Fs h.j b) (forget ds σ) a.tmps w H φ ∧
    (∀ h ∈ hs, p h.j = true → HeldAt B.P h a w w0.heap.size (Fs h.j)) ∧ ∀ h ∈ hs, ∀ h' ∈ hs, h.j ≠ h'.j → p h.j = true → p h'.j = true → ∀ b, Fs h.j b → ¬ Fs h'.j b

theorem getD_put {a : Act} {e : Option Nat} {u : Value} {t : Nat} (h : ∀ d, e = some d → d ≠ t) : (a.put e u).tmps.getD t undef = a.tmps.getD t undef := by
  cases e with
  | none => rfl
  | some d =>
    show (a.tmps.setIfInBounds d u).getD t undef = _
    rw [Array.getD_eq_getD_getElem?, Array.getElem?_setIfInBounds, if_neg (h d rfl), ← Array.getD_eq_getD_getElem?]

/-- one of the calls that are held back comes up -/
theorem inv_call {ops : Array Oper} {hs : List Held} {us ds : List Nat} {a0 : Act} {w0 : World} {p : Nat → Bool} (hrun : ∀ hd ∈ hs, RunOK B.P ops a0 w0 hd) (hus : ∀ hd ∈ hs, ∀ o, ops[hd.j]? = some o → ∀ t ∈ opUses o.op, t ∈ us) (hds : ∀ hd ∈ hs, hd.d ∈ ds) (hdj : ∀ h ∈ hs, ∀ h' ∈ hs, h.j ≠ h'.j → h.d ≠ h'.d) (hjj : ∀ h ∈ hs, ∀ h' ∈ hs, h.j = h'.j → h = h') (hud : ∀ d ∈ ds, d ∉ us)
    (hI : Inv B hs us ds a0 w0 p σ a w) {hd : Held} (hm : hd ∈ hs) (hp : p hd.j = false) (Q : Exit → Act → World → Prop) :
    wpOp B.P ops Q hd.j (fun a' w' => Fr NoB w w' ∧ Inv B hs us ds a0 w0 (fun i => p i || i == hd.j) σ a' w') a w := by
  obtain ⟨o, ho, hdst, hg, hl, hr⟩ := hrun hd hm
  obtain ⟨hdef, hsz, hfr, huses, Fs, H, φ, hrel, hat, hdis⟩ := hI
  unfold wpOp
  rw [ho]
  simp only
  rw [if_pos (by simp [Region.wanted, hg])]
  refine .inl (Oper.wp_next ?_ (hr a w Q (fun t ht => huses t (hus hd hm o ho t ht)) (fun hf => hfr ⟨hd, hm, hf⟩)))
  rintro a'' w'' ⟨v, vs, F, rfl, ht, hfr', hF, hh⟩
  refine ⟨hfr', by rw [put_defers]; exact hdef, Nat.le_trans hsz hfr'.size, fun he => (hfr he).trans hfr' (fun _ _ f => f), fun t ht => ?_, fun j b => if j = hd.j then F b else Fs j b, H, φ, ?_, fun h hh' hp' => ?_, ?_⟩
  · rw [getD_put fun d e e' => ?_]
    · exact huses t ht
    · rw [hdst] at e
      obtain rfl := Option.some.inj e
      subst e'
      exact hud _ (hds hd hm) ht
  · have h1 : Rel (B.on fun b => ∃ h ∈ hs, (p h.j || h.j == hd.j) = true ∧ (if h.j = hd.j then F b else Fs h.j b)) (forget ds σ) a.tmps w'' H φ := (Rel.step (B := B) hrel hfr'.le (fun i hi => by
      obtain ⟨h, hh1, hp1, hf⟩ := hi
      by_cases e : h.j = hd.j
      · rw [if_pos e] at hf
        exact ⟨.inr (hF i hf).1, (hF i hf).2⟩
      · rw [if_neg e] at hf
        have hp2 : p h.j = true := by simpa [e] using hp1
        have hi' : ∃ h ∈ hs, p h.j = true ∧ Fs h.j i := ⟨h, hh1, hp2, hf⟩
        exact ⟨.inl hi', Nat.lt_of_lt_of_le (hrel.mem.rsub i hi').2 hfr'.size⟩)).1
    rw [hdst]
    exact Rel.forgotten h1 (hds hd hm) v
  · by_cases e : h.j = hd.j
    · obtain rfl := hjj h hh' hd hm e
      have eF : (fun b => if h.j = h.j then F b else Fs h.j b) = F := by funext b; simp
      show HeldAt B.P h _ _ _ (fun b => if h.j = h.j then F b else Fs h.j b)
      rw [eF]
      refine ⟨⟨v, vs, ?_, ht, hh⟩, fun b hb => ⟨Nat.le_trans hsz (hF b hb).1, (hF b hb).2⟩⟩
      rw [hdst]
      show (a.tmps.setIfInBounds h.d v).setIfInBounds h.d v = _
      rw [Array.setIfInBounds_setIfInBounds]
      rfl
    · have eF : (fun b => if h.j = hd.j then F b else Fs h.j b) = Fs h.j := by funext b; simp [e]
      show HeldAt B.P h _ _ _ (fun b => if h.j = hd.j then F b else Fs h.j b)
      rw [eF]
      have hp2 : p h.j = true := by simpa [e] using hp'
      exact (hat h hh' hp2).step hfr'.size (fun b hb _ => hfr'.block b hb (fun f => f)) rfl fun d e' => by
        rw [hdst] at e'
        obtain rfl := Option.some.inj e'
        exact hdj hd hm h hh' (fun e'' => e e''.symm)
  · intro h h1 h' h2 hne hp1 hp2 b hb hb'
    by_cases e : h.j = hd.j
    · rw [if_pos e] at hb
      have e2 : h'.j ≠ hd.j := fun e2 => hne (e.trans e2.symm)
      rw [if_neg e2] at hb'
      have hp2' : p h'.j = true := by simpa [e2] using hp2
      have := ((hat h' h2 hp2').sub b hb').2
      have := (hF b hb).1
      omega
    · rw [if_neg e] at hb
      have hp1' : p h.j = true := by simpa [e] using hp1
      by_cases e2 : h'.j = hd.j
      · rw [if_pos e2] at hb'
        have := ((hat h h1 hp1').sub b hb).2
        have := (hF b hb').1
        omega
      · rw [if_neg e2] at hb'
        have hp2' : p h'.j = true := by simpa [e2] using hp2
        exact hdis h h1 h' h2 hne hp1' hp2' b hb hb'

theorem finAll_ok (hB : B.R = NoB) {s : Nat} (hs0 : B.w0.heap.size ≤ s) {Fs : Nat → Nat → Prop} {k : St → Option ρ} {r : ρ} : ∀ (l : List Held) (σ : St) (H : Nat → Option Value) (φ : Nat → Nat → Prop),
    (l.map Held.j).Nodup → (∀ h ∈ l, HeldAt B.P h a w s (Fs h.j) ∧ h.rs.length ≤ 63) → (∀ h ∈ l, ∀ h' ∈ l, h.j ≠ h'.j → ∀ b, Fs h.j b → ¬ Fs h'.j b) → Rel (B.on fun b => ∃ h ∈ l, Fs h.j b) σ a.tmps w H φ → finAll l σ k = some r →
    ∃ σ', k σ' = some r ∧ ∃ H' φ', Rel B σ' a.tmps w H' φ'
  | [], σ, H, φ, _, _, _, h, hv => ⟨σ, hv, H, φ, (Rel.dropR h (fun b hb => by rw [hB] at hb; exact hb.elim)).1⟩
  | hd :: l, σ, H, φ, hn, hat, hdis, h, hv => by
    simp only [List.map_cons, List.nodup_cons] at hn
    obtain ⟨⟨⟨v, vs, h1, h2, h3⟩, h4⟩, hl⟩ := hat hd (List.mem_cons_self ..)
    have e : (fun b => ∃ h ∈ hd :: l, Fs h.j b) = fun b => Fs hd.j b ∨ ∃ h ∈ l, Fs h.j b := by
      funext b; simp
    rw [e] at h
    have hne : ∀ h' ∈ l, hd.j ≠ h'.j := fun h' hh' e => hn.1 (e ▸ List.mem_map.2 ⟨h', hh', rfl⟩)
    obtain ⟨σ1, hk, H1, φ1, hr1⟩ := finOne_ok (F := Fs hd.j) (R0 := fun b => ∃ h ∈ l, Fs h.j b) h hl h2 h3 (fun b hb ⟨h', hh', hb'⟩ => hdis hd (List.mem_cons_self ..) h' (List.mem_cons_of_mem _ hh') (hne h' hh') b hb hb') (fun b hb => Nat.le_trans hs0 (h4 b hb).1) hv
    rw [h1] at hr1
    exact finAll_ok hB hs0 l σ1 H1 φ1 hn.2 (fun h hh => hat h (List.mem_cons_of_mem _ hh)) (fun h hh h' hh' => hdis h (List.mem_cons_of_mem _ hh) h' (List.mem_cons_of_mem _ hh')) hr1 hk

theorem wrote_nil {E : Env} {ops : Array Oper} {q : Nat} {o : Oper} {σ : St} (ho : ops[q]? = some o) (h : wrote E ops q = false) (hn : nilOk E ops q o σ = true) : writesOp E o.op = false ∨ (nilFirst σ o.op && makesE E o.op) = true := by
  unfold wrote at h
  rw [ho] at h
  simp only at h
  unfold nilOk at hn
  cases hw : writesOp E o.op with
  | false => exact .inl rfl
  | true =>
    rw [hw] at h
    right
    cases hna : nilApp E ops q with
    | false => rw [hna] at h; cases h
    | true => rw [hna] at hn; simpa using hn
theorem not_wrote {E : Env} {ops : Array Oper} {j : Nat} {o : Oper} (ho : ops[j]? = some o) (h : takeOp o.op = true) : wrote E ops j = false := by
  unfold wrote
  rw [ho]
  show (writesOp E o.op && !nilApp E ops j) = false
  suffices h : writesOp E o.op = false by rw [h]; rfl
  unfold takeOp at h
  unfold writesOp
  split at h <;> simp_all

theorem evMany_ok (hE : EnvOK B.P E) (hpar : E.par = B.par) {ops : Array Oper} (hsel : Region.noSelect ops = true) {hs : List Held} {C us ds : List Nat} {fr : Bool} (hallfree : fr = true → ∀ h ∈ hs, h.free = true) {a0 : Act} {w0 : World} (hC : hs.map Held.j = C)
    (hrun : ∀ hd ∈ hs, RunOK B.P ops a0 w0 hd) (hus : ∀ hd ∈ hs, ∀ o, ops[hd.j]? = some o → ∀ t ∈ opUses o.op, t ∈ us) (hds : ∀ hd ∈ hs, hd.d ∈ ds) (hds' : ∀ d ∈ ds, ∃ hd ∈ hs, hd.d = d) (hdj : ∀ h ∈ hs, ∀ h' ∈ hs, h.j ≠ h'.j → h.d ≠ h'.d) (hjj : ∀ h ∈ hs, ∀ h' ∈ hs, h.j = h'.j → h = h') (hud : ∀ d ∈ ds, d ∉ us)
    {k : Array Bool → St → Option ρ} {r : ρ} {Q : Exit → Act → World → Prop}
    (hK : ∀ listed σ a w, k listed (forget ds σ) = some r → Inv B hs us ds a0 w0 (fun _ => true) σ a w → Closed ops (mark listed C) → ∀ N, unl (mark listed C) ≤ N → wpAnyZ E B.P ops (NoPanic Q) (mark listed C) (fun w' => Fr NoB w w') N (mark listed C) a w) :
    ∀ (n m : Nat) (listed : Array Bool) (σ : St) (p : Nat → Bool) (a : Act) (w : World), (C.filter fun i => !p i).length ≤ m → evMany E ops C us ds fr n listed (forget ds σ) k = some r → Inv B hs us ds a0 w0 p σ a w →
      Closed ops (mark listed (C.filter p)) → ∀ N, unl (mark listed (C.filter p)) ≤ N → wpAnyZ E B.P ops (NoPanic Q) (mark listed (C.filter p)) (fun w' => Fr NoB w w') N (mark listed (C.filter p)) a w
  | 0, m, listed, σ, p, a, w, hm, hv, hI, hcl, N, hN => by simp [evMany] at hv
  | n + 1, m, listed, σ, p, a, w, hm, hv, hI, hcl, N, hN => by
    have hv0 := hv
    have callQ : ∀ c, c ∈ C → p c = false → c ∈ Region.ready .any ops (mark listed (C.filter p)) → ∀ N', N = N' + 1 →
        wpOp B.P ops (NoPanic Q) c (fun a' w' => (Clean E ops (mark listed (C.filter p)) ((mark listed (C.filter p)).setIfInBounds c true) → Fr NoB w w') ∧ wpAnyZ E B.P ops (NoPanic Q) (mark listed (C.filter p)) (fun w' => Fr NoB w w') N' ((mark listed (C.filter p)).setIfInBounds c true) a' w') a w := by
      intro c hc hpc hr N' hN'
      rw [← hC] at hc
      obtain ⟨hd, hmem, rfl⟩ := List.mem_map.1 hc
      rw [hC] at hc
      refine wpOp_mono (fun a' w' h => ⟨fun _ => h.1, ?_⟩) (inv_call hrun hus hds hdj hjj hud hI hmem hpc (NoPanic Q))
      obtain ⟨hfr, hI'⟩ := h
      refine wpAnyZ_S (LeL.set (LeL.refl _) _) (fun w2 _ h2 => hfr.trans h2 (fun _ _ f => f)) _ _ _ _ (LeL.refl _) ?_
      have hless := filter_less hc hpc
      have hcl' := hcl.set hr
      rw [mark_more hc] at hcl' ⊢
      match m, hm with
      | 0, hm => omega
      | m + 1, hm =>
        refine evMany_ok hE hpar hsel hallfree hC hrun hus hds hds' hdj hjj hud hK (n + 1) m listed σ _ a' w' (by omega) hv0 hI' hcl' N' ?_
        rw [← mark_more hc]
        have := unl_ready hr
        omega
    have put : ∀ {o : Oper} {σ' : St} {a' : Act} {w' : World} {u : Value} {Fs : Nat → Nat → Prop} {H' : Nat → Option Value} {φ' : Nat → Nat → Prop}, dstOk us ds o = true → a'.tmps = (a.put o.dst u).tmps → a'.defers = [] → (fr = false → Fr NoB w w') → KeepR (B.on fun b => ∃ h ∈ hs, p h.j = true ∧ Fs h.j b) w w' →
        Rel (B.on fun b => ∃ h ∈ hs, p h.j = true ∧ Fs h.j b) σ' a'.tmps w' H' φ' → (∀ h ∈ hs, p h.j = true → HeldAt B.P h a w w0.heap.size (Fs h.j)) → (∀ h ∈ hs, ∀ h' ∈ hs, h.j ≠ h'.j → p h.j = true → p h'.j = true → ∀ b, Fs h.j b → ¬ Fs h'.j b) →
        Inv B hs us ds a0 w0 p σ' a' w' := by
      intro o σ' a' w' u Fs H' φ' hdo htm hdef hfr hkeep hrel hat hdis
      have hne : ∀ d, o.dst = some d → d ∉ us ∧ d ∉ ds := fun d e => by
        unfold dstOk at hdo
        rw [e] at hdo
        simpa using hdo
      refine ⟨hdef, Nat.le_trans hI.size hkeep.1, fun he => (hI.fr he).trans (hfr ?_) (fun _ _ f => f), fun t ht => ?_, Fs, H', φ', Rel.forget hrel ds, fun h hh hp => (hat h hh hp).step hkeep.1 (fun b hb hf => hkeep.2 b hb ⟨h, hh, hp, hf⟩) htm fun d e e' => (hne d e).2 (e' ▸ hds h hh), hdis⟩
      · obtain ⟨h, hh, hf⟩ := he
        cases hq : fr with
        | false => rfl
        | true => have := hallfree hq h hh; rw [hf] at this; cases this
      · rw [htm, getD_put fun d e e' => (hne d e).1 (e' ▸ ht)]
        exact hI.uses t ht
    simp only [evMany] at hv
    split at hv
    · -- nothing else comes up
      obtain ⟨hok, hv⟩ := bif_none hv
      have hok := List.all_eq_true.1 hok _ (filter_mem_subs p C)
      rw [Bool.or_eq_true] at hok
      rcases hok with hfull | hok
      · have hall : ∀ c ∈ C, p c = true := by
          have : (C.filter p).length = C.length := by simpa using hfull
          exact List.length_filter_eq_length_iff.1 this
        have e1 : C.filter p = C := List.filter_eq_self.2 hall
        rw [e1] at hN hcl ⊢
        refine hK listed σ a w hv ⟨hI.defers, hI.size, hI.fr, hI.uses, ?_⟩ hcl N hN
        obtain ⟨Fs, H, φ, h1, h2, h3⟩ := hI.rel
        have hp : ∀ h ∈ hs, p h.j = true := fun h hh => hall _ (hC ▸ List.mem_map.2 ⟨h, hh, rfl⟩)
        refine ⟨Fs, H, φ, ?_, fun h hh _ => h2 h hh (hp h hh), fun h hh h' hh' hne _ _ => h3 h hh h' hh' hne (hp h hh) (hp h' hh')⟩
        have e2 : (fun b => ∃ h ∈ hs, (fun _ => true) h.j = true ∧ Fs h.j b) = fun b => ∃ h ∈ hs, p h.j = true ∧ Fs h.j b := by
          funext b
          exact propext ⟨fun ⟨h, hh, _, hf⟩ => ⟨h, hh, hp h hh, hf⟩, fun ⟨h, hh, _, hf⟩ => ⟨h, hh, rfl, hf⟩⟩
        rw [e2]
        exact h1
      · obtain ⟨hne, hsub⟩ := and_b hok
        have hne' : Region.ready .any ops (mark listed (C.filter p)) ≠ [] := by simpa using hne
        obtain ⟨i0, hi0⟩ := List.exists_mem_of_ne_nil _ hne'
        have hu := unl_ready hi0
        obtain ⟨N', rfl⟩ : ∃ N', N = N' + 1 := ⟨N - 1, by omega⟩
        refine wpAnyZ_all hne' fun q hq => ?_
        have hq' := List.all_eq_true.1 hsub q hq
        obtain ⟨hqC, hqp⟩ := and_b hq'
        have hqC : q ∈ C := by simpa using hqC
        have hqp : p q = false := by
          cases e : p q with
          | false => rfl
          | true =>
            have : q ∈ C.filter p := List.mem_filter.2 ⟨hqC, e⟩
            simp [this] at hqp
        exact callQ q hqC hqp hq N' rfl
    · rename_i i rs hrest
      split at hv
      · rename_i j hj
        have htk := List.find?_some hj
        have htk := List.all_eq_true.1 htk _ (filter_mem_subs p C)
        obtain ⟨htk, hrd⟩ := and_b htk
        have hrd' : j ∈ Region.ready .any ops (mark listed (C.filter p)) := by simpa using hrd
        unfold takeB at htk
        obtain ⟨hfree, htk⟩ := and_b htk
        have hu := unl_ready hrd'
        obtain ⟨N', rfl⟩ : ∃ N', N = N' + 1 := ⟨N - 1, by omega⟩
        split at hv
        · rename_i o ho
          rw [ho] at htk
          simp only at htk
          obtain ⟨hgd, hwait⟩ := and_b htk
          obtain ⟨hgd, htko⟩ := and_b hgd
          have hgd : o.guard = none := by simpa using hgd
          obtain ⟨hdo, hv⟩ := bif_none hv
          obtain ⟨Fs, H, φ, h1, h2, h3⟩ := hI.rel
          obtain ⟨u, σ', hk, hrel, hrun'⟩ := evOpT_ok (B := B.on fun b => ∃ h ∈ hs, p h.j = true ∧ Fs h.j b) hE h1 hv
          refine wpAnyZ_take ho hsel hcl (not_wrote ho htko) hwait hfree hrd' (fun _ _ _ h => h) (by simp [Region.wanted, hgd]) (fun w' hw' => hrun' w' hw') (Fr.refl _ _) ?_
          refine wpAnyZ_S (LeL.set (LeL.refl _) _) (fun w2 _ h2 => h2) _ _ _ _ (LeL.refl _) ?_
          have hcl' := hcl.set hrd'
          rw [mark_set] at hu hcl' ⊢
          exact evMany_ok hE hpar hsel hallfree hC hrun hus hds hds' hdj hjj hud hK n m _ σ' p _ w hm hk (put (Fs := Fs) hdo rfl (by rw [put_defers]; exact hI.defers) (fun _ => Fr.refl _ _) ((Fr.refl _ _).keepR _) hrel h2 h3) hcl' N' (by omega)
        · cases hv
      · obtain ⟨hok, hv⟩ := bif_none hv
        obtain ⟨hnw, hok⟩ := and_b hok
        have hok := List.all_eq_true.1 hok _ (filter_mem_subs p C)
        obtain ⟨hin, hsub⟩ := and_b hok
        have hin' : i ∈ Region.ready .any ops (mark listed (C.filter p)) := by simpa using hin
        have hu := unl_ready hin'
        obtain ⟨N', rfl⟩ : ∃ N', N = N' + 1 := ⟨N - 1, by omega⟩
        split at hv
        · rename_i o ho
          have hv1 := bif_none hv
          clear hv
          obtain ⟨hg, hv⟩ := hv1
          obtain ⟨hg, hnk⟩ := and_b hg
          obtain ⟨hgd, hdo⟩ := and_b hg
          have hgd : o.guard = none := by simpa using hgd
          refine wpAnyZ_all (List.ne_nil_of_mem hin') fun q hq => ?_
          have hq' := List.all_eq_true.1 hsub q hq
          rw [Bool.or_eq_true] at hq'
          rcases hq' with hqi | hqc
          · have hqi : q = i := by simpa using hqi
            subst hqi
            unfold wpOp
            rw [ho]
            simp only
            rw [if_pos (by simp [Region.wanted, hgd])]
            obtain ⟨Fs, H, φ, h1, h2, h3⟩ := hI.rel
            refine .inl (Oper.wp_next (fun a' w' hn => ?_) (Oper.wp_put (evOpM_ok (B := B.on fun b => ∃ h ∈ hs, p h.j = true ∧ Fs h.j b) hE hpar ⟨hI.defers, H, φ, h1⟩ hv (NoPanic Q))))
            obtain ⟨⟨⟨σ', hk, hdef', H', φ', hrel⟩, hfr, hkeep⟩, u, htm⟩ := hn
            have hwr : wrote E ops q = false → writesOp E o.op = false ∨ nilFirst (forget ds σ) o.op = true := fun h => (wrote_nil ho h hnk).imp id fun h => (and_b h).1
            have nw : Clean E ops (mark listed (C.filter p)) ((mark listed (C.filter p)).setIfInBounds q true) → Fr NoB w w' := fun hc => hfr (hwr (clean_not (mem_ready.1 hin').1 hc))
            have hfr' : fr = false → Fr NoB w w' := fun hf => by
              rw [hf, Bool.or_false] at hnw
              exact hfr (hwr (by simpa using hnw))
            refine ⟨nw, wpAnyZ_S (LeL.set (LeL.refl _) _) (fun w2 hc h2 => (nw hc).trans h2 (fun _ _ f => f)) _ _ _ _ (LeL.refl _) ?_⟩
            have hcl' := hcl.set hin'
            rw [mark_set] at hu hcl' ⊢
            exact evMany_ok hE hpar hsel hallfree hC hrun hus hds hds' hdj hjj hud hK n m _ σ' p _ w' hm hk (put hdo htm hdef' hfr' hkeep hrel h2 h3) hcl' N' (by omega)
          · obtain ⟨hqC, hqp⟩ := and_b hqc
            have hqC : q ∈ C := by simpa using hqC
            have hqp : p q = false := by
              cases e : p q with
              | false => rfl
              | true =>
                have : q ∈ C.filter p := List.mem_filter.2 ⟨hqC, e⟩
                simp [this] at hqp
            exact callQ q hqC hqp hq N' rfl
        · cases hv
termination_by n m => (n, m)

theorem nodup_map_inj {α β : Type} {f : α → β} : ∀ {l : List α}, (l.map f).Nodup → ∀ x ∈ l, ∀ y ∈ l, f x = f y → x = y
  | [], _, x, hx, _, _, _ => by cases hx
  | z :: l, hn, x, hx, y, hy, e => by
    simp only [List.map_cons, List.nodup_cons] at hn
    rcases List.mem_cons.1 hx with ex | hx <;> rcases List.mem_cons.1 hy with ey | hy
    · rw [ex, ey]
    · exact absurd (List.mem_map.2 ⟨y, hy, by rw [← e, ex]⟩) hn.1
    · exact absurd (List.mem_map.2 ⟨x, hx, by rw [e, ey]⟩) hn.1
    · exact nodup_map_inj hn.2 x hx y hy e
theorem nodup_two {α β γ : Type} {f : α → β} {g : α → γ} : ∀ {l : List α}, (l.map f).Nodup → (l.map g).Nodup → ∀ x ∈ l, ∀ y ∈ l, f x ≠ f y → g x ≠ g y
  | l, hf, hg, x, hx, y, hy, hne => fun e => hne (by rw [nodup_map_inj hg x hx y hy e])
theorem nodupB_nd : ∀ {l : List Nat}, nodupB l = true → l.Nodup
  | [], _ => List.nodup_nil
  | n :: l, h => by
    obtain ⟨h1, h2⟩ := and_b h
    exact List.nodup_cons.2 ⟨by simpa using h1, nodupB_nd h2⟩

theorem evOpS1_ok (hE : EnvOK B.P E) (hpar : E.par = B.par) (hB : B.R = NoB) (hA : RelA B σ a w) {o : Oper} {k : St → Option ρ} {r : ρ} (hv : evOpS1 E o σ k = some r) (Q : Exit → Act → World → Prop) : o.wp B.P a w (fun a' w' => Next B k r a' w' ∧ (writesOp E o.op = false ∨ (nilFirst σ o.op && makesE E o.op) = true → Fr NoB w w')) Q := by
  unfold evOpS1 at hv
  cases hw : writesOp E o.op with
  | true =>
    rw [hw] at hv
    cases hnf : nilFirst σ o.op && makesE E o.op with
    | true =>
      obtain ⟨h1, h2⟩ := and_b hnf
      exact Oper.wp_next (fun _ _ h => ⟨h.1, fun _ => h.2.1⟩) (evOp_nil hE hA h2 h1 hv Q)
    | false => exact Oper.wp_next (fun _ _ h => ⟨h, fun h => by rcases h with h | h <;> cases h⟩) (evOp_ok hE hpar hB hA hv Q)
  | false =>
    rw [hw] at hv
    simp only [cond_false] at hv
    cases hal : isAlloc o.op with
    | true =>
      rw [hal] at hv
      exact Oper.wp_next (fun _ _ h => ⟨h.1, fun _ => h.2.1 (.inl hw)⟩) (evOpM_ok hE hpar hA hv Q)
    | false =>
      rw [hal] at hv
      exact Oper.wp_next (fun _ _ h => ⟨h.1, fun _ => h.2⟩) (evOpS_ok hE hpar hB hA hv Q)

theorem bif_not {b : Bool} {x : Option ρ} {r : ρ} (h : (bif !b then none else x) = some r) : b = true ∧ x = some r := by cases b with | true => exact ⟨rfl, h⟩ | false => cases h
theorem evGrd_ok {ops : Array Oper} {o : Oper} (hA : RelA B σ a w) {go skip : St → Option ρ} {r : ρ} (hv : evGrd ops.toList o σ go skip = some r) :
    (∃ σ', RelA B σ' a w ∧ Region.wanted o (yielded ops a.tmps) = true ∧ go σ' = some r) ∨ (∃ σ', Region.wanted o (yielded ops a.tmps) = false ∧ RelA B σ' (a.put o.dst undef) w ∧ skip σ' = some r) := by
  obtain ⟨hdef, H, φ, h⟩ := id hA
  have hsk : ∀ σ : St, RelA B σ a w → RelA B (σ.put o.dst (.tup [])) (a.put o.dst undef) w := fun σ ⟨hdef, H, φ, h⟩ => ⟨by rw [put_defers]; exact hdef, H, φ, Rel.put h o.dst undefRel⟩
  unfold evGrd at hv
  split at hv
  · rename_i hg
    exact .inl ⟨σ, hA, by simp [Region.wanted, hg], hv⟩
  · rename_i j want hg
    split at hv
    · cases hv
    rename_i d hd
    split at hv
    · rename_i b hb
      have hy := yielded_bool h hd hb
      cases b with
      | true =>
        simp only [cond_true] at hv
        have hA := hA.setSame hb
        cases want with
        | true => exact .inl ⟨_, hA, by simp [Region.wanted, hg, hy], hv⟩
        | false => exact .inr ⟨_, by simp [Region.wanted, hg, hy], hsk _ hA, hv⟩
      | false =>
        simp only [cond_false] at hv
        have hA := hA.setSame hb
        cases want with
        | true => exact .inr ⟨_, by simp [Region.wanted, hg, hy], hsk _ hA, hv⟩
        | false => exact .inl ⟨_, hA, by simp [Region.wanted, hg, hy], hv⟩
    · rename_i hb
      have hy := yielded_tup h hd hb
      exact .inr ⟨_, by simp [Region.wanted, hg, hy], hsk _ hA, hv⟩
    · cases hv

/-- what the load yields behind another operation -/
theorem sameOwn_load (hE : EnvOK B.P E) {om : Oper} {t : Nat} {x d : Nat} (eop : om.op = .load t (.tmp x)) (ed : om.dst = some d) (hxd : x ≠ d) {σ2 : St} {a' : Act} {w' : World} {u : Value} (hso : sameOwn E om σ2 = true) (hA2 : RelA B σ2 (a'.put om.dst u) w') :
    ∀ w2, Fr NoB w' w2 → (execOp a'.eval om).run B.P w2 = .ok (.value u) w2 := by
  obtain ⟨_, H2, φ2, h2⟩ := hA2
  have fin : ∀ y u2, opVal E σ2 om.op = some (true, y) → (∀ w3, (memRead om.op = true → Fr NoB w' w3) → (execOp (a'.put om.dst u).eval om).run B.P w3 = .ok (.value u2) w3) → u2 = (a'.put om.dst u).eval (.tmp d) → (a'.put om.dst u).eval (.tmp d) ≠ undef → ∀ w2, Fr NoB w' w2 → (execOp a'.eval om).run B.P w2 = .ok (.value u) w2 := by
    intro y u2 eo hrun2 euu hne w2 hw2
    have eu : (a'.put om.dst u).eval (.tmp d) = u := by
      rw [ed] at hne ⊢
      simp only [Act.eval, Act.put, Array.getD_eq_getD_getElem?, Array.getElem?_setIfInBounds] at hne ⊢
      by_cases hd : d < a'.tmps.size
      · simp [hd]
      · exact absurd (by simp [hd, Array.getElem?_eq_none (Nat.le_of_not_lt hd)]) hne
    have hex : execOp (a'.put om.dst u).eval om = execOp a'.eval om := by
      have : (a'.put om.dst u).eval (.tmp x) = a'.eval (.tmp x) := getD_put fun d' hd' => by rw [ed] at hd'; obtain rfl := Option.some.inj hd'; exact Ne.symm hxd
      unfold execOp
      rw [eop]
      simp only [this]
    have := hrun2 w2 fun _ => hw2
    rw [hex, euu, eu] at this
    exact this
  unfold sameOwn at hso
  rw [ed] at hso
  simp only at hso
  split at hso
  · rename_i p q' eo et
    have epq : p = q' := by simpa using hso
    subst epq
    obtain ⟨u2, hu2, hrun2⟩ := opVal_ok hE h2 om eo
    have hu1 := h2.eval (.tmp d)
    rw [et] at hu1
    obtain ⟨e1, A1, l1, c1, e2⟩ := hu1
    obtain ⟨e3, _⟩ := hu2
    exact fin _ u2 eo hrun2 (Option.some.inj (e3.symm.trans e1)) (by rw [e2]; simp [undef])
  · rename_i k1 z1 k2 z2 eo et
    split at hso
    rotate_left
    · cases hso
    rename_i pk _
    obtain ⟨rfl⟩ := pk
    have ezz : z1 = z2 := by simpa using hso
    subst ezz
    obtain ⟨u2, hu2, hrun2⟩ := opVal_ok hE h2 om eo
    have hu1 := h2.eval (.tmp d)
    rw [et] at hu1
    have e2 : (a'.put om.dst u).eval (.tmp d) = .int k1 z1 := hu1
    have hu2 : u2 = .int k1 z1 := hu2
    exact fin _ u2 eo hrun2 (hu2.trans e2.symm) (by rw [e2]; simp [undef])
  · rename_i s1 s2 eo et
    have ess : s1.toList = s2.toList := by simpa using hso
    rw [ByteArray.toList_eq, ByteArray.toList_eq] at ess
    have ess : s1 = s2 := ByteArray.ext (Array.ext' ess)
    subst ess
    obtain ⟨u2, hu2, hrun2⟩ := opVal_ok hE h2 om eo
    have hu1 := h2.eval (.tmp d)
    rw [et] at hu1
    have e2 : (a'.put om.dst u).eval (.tmp d) = .string s1 := hu1
    have hu2 : u2 = .string s1 := hu2
    exact fin _ u2 eo hrun2 (hu2.trans e2.symm) (by rw [e2]; simp [undef])
  · cases hso

theorem others_mem {ops : Array Oper} {listed : Array Bool} {m c : Nat} (h : othersOf ops listed m = [c]) : c ∈ Region.ready .any ops listed ∧ c ≠ m ∧ ∀ q ∈ Region.ready .any ops listed, q = m ∨ q = c := by
  have hc : c ∈ othersOf ops listed m := by rw [h]; exact List.mem_cons_self ..
  obtain ⟨h1, h2⟩ := List.mem_filter.1 hc
  refine ⟨h1, by simpa using h2, fun q hq => ?_⟩
  by_cases e : q = m
  · exact .inl e
  · have : q ∈ othersOf ops listed m := List.mem_filter.2 ⟨hq, by simpa using e⟩
    rw [h] at this
    exact .inr (by simpa using this)

/-- the load has been: the rest, one by one -/
theorem evSw_m (hE : EnvOK B.P E) (hpar : E.par = B.par) (hB : B.R = NoB) {ops : Array Oper} {m : Nat} {om : Oper} {k : Array Bool → St → Option ρ} {r : ρ} {Q : Exit → Act → World → Prop}
    (IH : ∀ listed' σ2 a2 w2, k listed' σ2 = some r → RelA B σ2 a2 w2 → Closed ops listed' → ∀ N, unl listed' ≤ N → wpAnyZ E B.P ops (NoPanic Q) listed' (fun w' => Fr NoB w2 w') N listed' a2 w2) :
    ∀ (n : Nat) (listed : Array Bool) (σ : St) (a : Act) (w : World), evSw E ops m om n listed σ k = some r → RelA B σ a w → m ∈ Region.ready .any ops listed → Closed ops listed → ∀ N, unl (listed.setIfInBounds m true) ≤ N →
      wpAnyZ E B.P ops (NoPanic Q) (listed.setIfInBounds m true) (fun w' => Fr NoB w w') N (listed.setIfInBounds m true) a w
  | 0, listed, σ, a, w, hv, hA, hm, hcl, N, hN => by cases hv
  | n + 1, listed, σ, a, w, hv, hA, hm, hcl, N, hN => by
    unfold evSw at hv
    cases htk : takeB E ops listed m with
    | true =>
      rw [htk] at hv
      exact IH _ _ _ _ hv hA (hcl.set hm) N hN
    | false =>
      rw [htk] at hv
      simp only [cond_false] at hv
      split at hv
      · rename_i c hoth
        obtain ⟨hc, hcm, _⟩ := others_mem hoth
        obtain ⟨hsn, hv⟩ := bif_none hv
        unfold swNext at hsn
        obtain ⟨hsn, hall⟩ := and_b hsn
        obtain ⟨hgc, hfree⟩ := and_b hsn
        split at hv
        · rename_i oc hoc
          rw [hoc] at hgc
          have hgc : oc.guard = none := by simpa using hgc
          have hcr : c ∈ Region.ready .any ops (listed.setIfInBounds m true) := ready_mono hc hcm
          have hu := unl_ready hcr
          obtain ⟨N', rfl⟩ : ∃ N', N = N' + 1 := ⟨N - 1, by omega⟩
          refine wpAnyZ_all (List.ne_nil_of_mem hcr) fun q hq => ?_
          have hqc : q = c := by simpa using List.all_eq_true.1 hall q hq
          subst hqc
          unfold wpOp
          rw [hoc]
          simp only
          rw [if_pos (by simp [Region.wanted, hgc])]
          have nw : Clean E ops (listed.setIfInBounds m true) ((listed.setIfInBounds m true).setIfInBounds q true) → writesOp E oc.op = false ∨ (nilFirst σ oc.op && makesE E oc.op) = true := fun hc' => wrote_nil hoc (clean_not (mem_ready.1 hcr).1 hc') (bif_not hv).1
          refine .inl (Oper.wp_next (fun a' w' hn => ?_) (evOpS1_ok hE hpar hB hA (bif_not hv).2 (NoPanic Q)))
          obtain ⟨⟨σ2, hk2, hA2⟩, hfr⟩ := hn
          obtain ⟨_, hk2⟩ := bif_none hk2
          refine ⟨fun hc' => hfr (nw hc'), wpAnyZ_S (LeL.set (LeL.refl _) _) (fun w2 hc' h2 => (hfr (nw hc')).trans h2 (fun _ _ f => f)) _ _ _ _ (LeL.refl _) ?_⟩
          have hr := evSw_m hE hpar hB IH n (listed.setIfInBounds q true) σ2 a' w' hk2 hA2 (ready_mono hm (Ne.symm hcm)) (hcl.set hc) N' (by rw [Array.setIfInBounds_comm _ _ hcm]; omega)
          rw [Array.setIfInBounds_comm _ _ hcm] at hr
          exact hr
        · cases hv
      · cases hv

/-- a load, and what else may come up, in whichever order -/
theorem evSw_ok (hE : EnvOK B.P E) (hpar : E.par = B.par) (hB : B.R = NoB) {ops : Array Oper} (hs : Region.noSelect ops = true) {m : Nat} {om : Oper} (hom : ops[m]? = some om) (hld : swapLd ops m = true) {k : Array Bool → St → Option ρ} {r : ρ} {Q : Exit → Act → World → Prop} {u : Value}
    (IH : ∀ listed' σ2 a2 w2, k listed' σ2 = some r → RelA B σ2 a2 w2 → Closed ops listed' → ∀ N, unl listed' ≤ N → wpAnyZ E B.P ops (NoPanic Q) listed' (fun w' => Fr NoB w2 w') N listed' a2 w2) :
    ∀ (n : Nat) (listed : Array Bool) (σ : St) (a : Act) (w : World), evSw E ops m om n listed σ k = some r → RelA B σ (a.put om.dst u) w → (∀ w2, Fr NoB w w2 → (execOp a.eval om).run B.P w2 = .ok (.value u) w2) → m ∈ Region.ready .any ops listed → Closed ops listed → ∀ N, unl listed ≤ N →
      wpAnyZ E B.P ops (NoPanic Q) listed (fun w' => Fr NoB w w') N listed a w
  | 0, listed, σ, a, w, hv, hA, hload, hm, hcl, N, hN => by cases hv
  | n + 1, listed, σ, a, w, hv, hA, hload, hm, hcl, N, hN => by
    have hld0 := hld
    unfold swapLd at hld0
    rw [hom] at hld0
    simp only at hld0
    obtain ⟨hgm, hld0⟩ := and_b hld0
    have hgm : om.guard = none := by simpa using hgm
    obtain ⟨t, x, d, eop, ed, hxd⟩ : ∃ t x d, om.op = .load t (.tmp x) ∧ om.dst = some d ∧ x ≠ d := by
      split at hld0
      · rename_i t x d e1 e2
        exact ⟨t, x, d, e1, e2, by simpa using hld0⟩
      · cases hld0
    have hum := unl_ready hm
    obtain ⟨N', rfl⟩ : ∃ N', N = N' + 1 := ⟨N - 1, by omega⟩
    have hv0 := hv
    unfold evSw at hv
    cases htk : takeB E ops listed m with
    | true =>
      rw [htk] at hv
      simp only [cond_true] at hv
      unfold takeB at htk
      obtain ⟨hfree2, htk⟩ := and_b htk
      rw [hom] at htk
      simp only at htk
      obtain ⟨htk, hwait⟩ := and_b htk
      obtain ⟨_, htko⟩ := and_b htk
      refine wpAnyZ_take hom hs hcl (not_wrote hom htko) hwait hfree2 hm (fun _ _ _ h => h) (by simp [Region.wanted, hgm]) (fun w2 hw2 => hload w2 (hw2 (by rw [eop]; rfl))) (Fr.refl _ _) ?_
      exact wpAnyZ_S (LeL.set (LeL.refl _) _) (fun w2 _ h2 => h2) _ _ _ _ (LeL.refl _) (IH _ _ _ _ hv hA (hcl.set hm) N' (by omega))
    | false =>
      rw [htk] at hv
      simp only [cond_false] at hv
      split at hv
      rotate_left
      · cases hv
      rename_i c hoth
      obtain ⟨hc, hcm, hr⟩ := others_mem hoth
      obtain ⟨hsn, hv⟩ := bif_none hv
      unfold swNext at hsn
      obtain ⟨hsn, hall⟩ := and_b hsn
      obtain ⟨hgc, hfree⟩ := and_b hsn
      split at hv
      rotate_left
      · cases hv
      rename_i oc hoc
      rw [hoc] at hgc
      have hgc : oc.guard = none := by simpa using hgc
      have hm0 := (mem_ready.1 hm).1
      have hc0 := (mem_ready.1 hc).1
      have huc := unl_ready hc
      refine wpAnyZ_all (List.ne_nil_of_mem hm) fun q hq => ?_
      rcases hr q hq with rfl | rfl
      · unfold wpOp
        rw [hom]
        simp only
        rw [if_pos (by simp [Region.wanted, hgm])]
        refine .inl (wp_val (hload w (Fr.refl _ _)) ⟨fun _ => Fr.refl _ _, ?_⟩)
        exact wpAnyZ_S (LeL.set (LeL.refl _) _) (fun w2 _ h2 => h2) _ _ _ _ (LeL.refl _) (evSw_m hE hpar hB IH (n + 1) listed σ _ w hv0 hA hm hcl N' (by omega))
      · have hcall := evOpS1_ok hE hpar hB hA (bif_not hv).2 (NoPanic Q)
        have hy : YieldsIf B.P ops (fun w' => Fr NoB w w') om u a := .inl ⟨by simp [Region.wanted, hgm], fun w' h' => hload w' h'⟩
        have hnot : ∀ e ∈ oc.after, Region.binds .any e = true → e.on ≠ m := fun e he hb heq => by
          obtain ⟨_, o', ho', hal⟩ := mem_ready.1 hc
          rw [hoc] at ho'
          obtain rfl := Option.some.inj ho'
          have h1 := hal e he hb
          rw [heq] at h1
          rcases Nat.lt_or_ge m listed.size with h' | h'
          · simp [h'] at hm0 h1; rw [hm0] at h1; cases h1
          · simp [Array.getElem?_eq_none h'] at h1
        have hap := Region.free_spec hom hfree q oc hoc hcm hc0 hnot
        have h1 : wpOp B.P ops (NoPanic Q) q (fun a' w' => Next B (fun σ2 => bif sameOwn E om σ2 then evSw E ops m om n (listed.setIfInBounds q true) σ2 k else none) r a' w' ∧ (writesOp E oc.op = false ∨ (nilFirst σ oc.op && makesE E oc.op) = true → Fr NoB w w')) (a.put om.dst u) w := by
          unfold wpOp
          rw [hoc]
          simp only
          rw [if_pos (by simp [Region.wanted, hgc])]
          exact .inl hcall
        have hsel := Region.noSelect_spec hs
        have h2 := wpOp_putIf hoc hap (fun cs b => hsel m om cs b hom) (fun cs b => hsel q oc cs b hoc) (fun _ _ _ h => h) hy h1
        refine wpOp_mono (fun a' w' h3 => ?_) h2
        obtain ⟨_, ⟨σ2, hk2, hA2⟩, hfr⟩ := h3
        obtain ⟨hso, hk2⟩ := bif_none hk2
        have hm' : m ∈ Region.ready .any ops (listed.setIfInBounds q true) := ready_mono hm (Ne.symm hcm)
        have nw : Clean E ops listed (listed.setIfInBounds q true) → writesOp E oc.op = false ∨ (nilFirst σ oc.op && makesE E oc.op) = true := fun hc' => wrote_nil hoc (clean_not (mem_ready.1 hc).1 hc') (bif_not hv).1
        refine ⟨fun hc' => hfr (nw hc'), wpAnyZ_S (LeL.set (LeL.refl _) _) (fun w2 hc' h2 => (hfr (nw hc')).trans h2 (fun _ _ f => f)) _ _ _ _ (LeL.refl _) ?_⟩
        exact evSw_ok hE hpar hB hs hom hld IH n (listed.setIfInBounds q true) σ2 a' w' hk2 hA2 (sameOwn_load hE eop ed hxd hso hA2) hm' (hcl.set hc) N' (by omega)

/-- a region whose order is open, with operations that make memory -/
theorem resolve_get {g : Nat} {b : Bool} {ops : Array Oper} (i : Nat) : (resolveG g b ops)[i]? = (ops[i]?).map (resolveO g b) := by
  unfold resolveG
  rw [List.getElem?_toArray, List.getElem?_map, Array.getElem?_toList]
theorem resolve_after (g : Nat) (b : Bool) (o : Oper) : (resolveO g b o).after = o.after ∧ (resolveO g b o).dst = o.dst := by
  unfold resolveO
  split
  · rename_i j want hg
    cases j == g <;> cases want == b <;> exact ⟨rfl, rfl⟩
  · exact ⟨rfl, rfl⟩
theorem resolve_op (g : Nat) (b : Bool) (o : Oper) : (resolveO g b o).op = o.op ∨ (resolveO g b o).op = .move (.const undef) := by
  unfold resolveO
  split
  · rename_i j want hg
    cases j == g <;> cases want == b <;> first | exact .inl rfl | exact .inr rfl
  · exact .inl rfl
theorem resolve_ready {g : Nat} {b : Bool} {ops : Array Oper} {listed : Array Bool} {i : Nat} : i ∈ Region.ready .any (resolveG g b ops) listed ↔ i ∈ Region.ready .any ops listed := by
  rw [mem_ready, mem_ready, resolve_get]
  constructor
  · rintro ⟨h1, o, ho, h2⟩
    obtain ⟨o', ho', rfl⟩ := Option.map_eq_some_iff.1 ho
    exact ⟨h1, o', ho', by rw [(resolve_after g b o').1] at h2; exact h2⟩
  · rintro ⟨h1, o, ho, h2⟩
    exact ⟨h1, resolveO g b o, by rw [ho]; rfl, by rw [(resolve_after g b o).1]; exact h2⟩
theorem resolve_nil {g : Nat} {b : Bool} {ops : Array Oper} {listed : Array Bool} : Region.ready .any (resolveG g b ops) listed = [] ↔ Region.ready .any ops listed = [] := by
  rw [List.eq_nil_iff_forall_not_mem, List.eq_nil_iff_forall_not_mem]
  exact ⟨fun h i hi => h i (resolve_ready.2 hi), fun h i hi => h i (resolve_ready.1 hi)⟩
theorem resolve_closed {g : Nat} {b : Bool} {ops : Array Oper} {listed : Array Bool} (h : Closed ops listed) : Closed (resolveG g b ops) listed := by
  intro j o ho hj
  rw [resolve_get] at ho
  obtain ⟨o', ho', rfl⟩ := Option.map_eq_some_iff.1 ho
  rw [(resolve_after g b o').1]
  exact h j o' ho' hj
theorem resolve_noSelect {g : Nat} {b : Bool} {ops : Array Oper} (h : Region.noSelect ops = true) : Region.noSelect (resolveG g b ops) = true := by
  unfold Region.noSelect at h ⊢
  rw [Array.all_eq_true_iff_forall_mem] at h ⊢
  intro o ho
  obtain ⟨i, hi, e⟩ := Array.mem_iff_getElem.1 ho
  have h1 : (resolveG g b ops)[i]? = some o := by rw [Array.getElem?_eq_getElem hi, e]
  rw [resolve_get] at h1
  obtain ⟨o', ho', rfl⟩ := Option.map_eq_some_iff.1 h1
  have h2 := h o' (Array.mem_of_getElem? ho')
  rcases resolve_op g b o' with e | e
  · rw [e]; exact h2
  · rw [e]
theorem resolve_any {g : Nat} {b : Bool} {ops : Array Oper} {t : Nat} (h : (ops.any fun q => q.guard.isNone && q.dst == some t && (match q.op with | .buildSlice _ 0 _ => true | _ => false)) = true) :
    ((resolveG g b ops).any fun q => q.guard.isNone && q.dst == some t && (match q.op with | .buildSlice _ 0 _ => true | _ => false)) = true := by
  rw [Array.any_eq_true'] at h ⊢
  obtain ⟨q, hq, h⟩ := h
  refine ⟨q, ?_, h⟩
  have hg : q.guard = none := by
    obtain ⟨h, _⟩ := and_b h
    obtain ⟨h, _⟩ := and_b h
    simpa using h
  obtain ⟨i, hi⟩ := Array.mem_iff_getElem?.1 hq
  refine Array.mem_iff_getElem?.2 ⟨i, ?_⟩
  rw [resolve_get, hi]
  simp [resolveO, hg]
theorem resolve_wrote {g : Nat} {b : Bool} {ops : Array Oper} {j : Nat} (h : wrote E (resolveG g b ops) j = true) : wrote E ops j = true := by
  unfold wrote at h ⊢
  rw [resolve_get] at h
  cases ho : ops[j]? with
  | none => rw [ho] at h; cases h
  | some o =>
    rw [ho] at h
    simp only [Option.map_some] at h
    obtain ⟨h1, h2⟩ := and_b h
    have hop : (resolveO g b o).op = o.op := by
      unfold resolveO at h1 ⊢
      split at h1
      · rename_i i want hg
        cases hi : i == g <;> rw [hi] at h1 <;> simp only [cond_true, cond_false] at h1 ⊢
        cases hw : want == b <;> rw [hw] at h1 <;> simp only [cond_true, cond_false] at h1 ⊢
        cases h1
      · rfl
    rw [hop] at h1
    simp only [h1, Bool.true_and, Bool.not_eq_true']
    cases hna : nilApp E ops j with
    | false => rfl
    | true =>
      exfalso
      have : nilApp E (resolveG g b ops) j = true := by
        unfold nilApp at hna ⊢
        obtain ⟨he, hna⟩ := and_b hna
        rw [he, Bool.true_and]
        rw [resolve_get, ho]
        rw [ho] at hna
        simp only [Option.map_some] at hna ⊢
        rw [hop]
        split at hna
        · split at hna
          · exact resolve_any hna
          · cases hna
        · cases hna
      rw [this] at h2
      cases h2
theorem wpAnyZ_resolve {P : Program} {ops : Array Oper} {Q : Exit → Act → World → Prop} {L0 : Array Bool} {S : World → Prop} {g d : Nat} {b : Bool} {og : Oper} (hg : ops[g]? = some og) (hd : og.dst = some d) (hdst : ∀ j o, ops[j]? = some o → j ≠ g → o.dst ≠ some d) :
    ∀ (fuel : Nat) (listed : Array Bool) (a : Act) (w : World), listed.getD g false = true → a.tmps[d]? = some (.bool b) → wpAnyZ E P (resolveG g b ops) Q L0 S fuel listed a w → wpAnyZ E P ops Q L0 S fuel listed a w
  | 0, listed, a, w, hl, ha, h => ⟨resolve_nil.1 h.1, h.2⟩
  | fuel + 1, listed, a, w, hl, ha, h => by
    refine ⟨fun h0 => h.1 (resolve_nil.2 h0), fun i hi => ?_⟩
    have h2 := h.2 i (resolve_ready.2 hi)
    have hig : i ≠ g := by
      rintro rfl
      have h1 := (mem_ready.1 hi).1
      rw [Array.getD_eq_getD_getElem?] at h1 hl
      cases hq : listed[i]? with
      | none => rw [hq] at hl; cases hl
      | some c => rw [hq] at h1 hl; simp_all
    have hl' : (listed.setIfInBounds i true).getD g false = true := getD_set_true hl
    have up : ∀ (e : Option Nat) (u : Value) (a' : Act), e ≠ some d → a'.tmps = (a.put e u).tmps → a'.tmps[d]? = some (.bool b) := by
      intro e u a' he ht
      rw [ht]
      cases e with
      | none => exact ha
      | some e =>
        show (a.tmps.setIfInBounds e u)[d]? = _
        rw [Array.getElem?_setIfInBounds, if_neg (fun (q : e = d) => he (by rw [q]))]
        exact ha
    have rest : ∀ (a' : Act) (w' : World), a'.tmps[d]? = some (.bool b) → ((Clean E (resolveG g b ops) L0 (listed.setIfInBounds i true) → S w') ∧ wpAnyZ E P (resolveG g b ops) Q L0 S fuel (listed.setIfInBounds i true) a' w') →
        ((Clean E ops L0 (listed.setIfInBounds i true) → S w') ∧ wpAnyZ E P ops Q L0 S fuel (listed.setIfInBounds i true) a' w') := fun a' w' ha' hh =>
      ⟨fun hc => hh.1 fun j hj => hc j (resolve_wrote hj), wpAnyZ_resolve hg hd hdst fuel _ a' w' hl' ha' hh.2⟩
    unfold wpOp at h2 ⊢
    rw [resolve_get] at h2
    cases ho : ops[i]? with
    | none =>
      rw [ho] at h2
      exact rest a w ha h2
    | some o =>
      rw [ho] at h2
      simp only [Option.map_some] at h2
      simp only
      have hod := hdst i o ho hig
      have hy : yielded ops a.tmps g = some b := by
        unfold yielded
        rw [hg]
        simp only [Option.bind_some, hd, ha]
      -- the operation as it is
      have same : (o.wp P a w (fun a' w' => (Clean E (resolveG g b ops) L0 (listed.setIfInBounds i true) → S w') ∧ wpAnyZ E P (resolveG g b ops) Q L0 S fuel (listed.setIfInBounds i true) a' w') Q ∨ o.asks P a w ∧ LetsOut Q) →
          (o.wp P a w (fun a' w' => (Clean E ops L0 (listed.setIfInBounds i true) → S w') ∧ wpAnyZ E P ops Q L0 S fuel (listed.setIfInBounds i true) a' w') Q ∨ o.asks P a w ∧ LetsOut Q) := fun hh => by
        refine hh.imp (fun hh => ?_) id
        refine Oper.wp_mono ?_ (Oper.wp_put hh)
        rintro a' w' ⟨h1, u, hu⟩
        exact rest a' w' (up o.dst u a' hod hu) h1
      cases hgd : o.guard with
      | none =>
        have e : resolveO g b o = o := by unfold resolveO; rw [hgd]
        rw [e] at h2
        have hw : ∀ y, Region.wanted o y = true := fun y => by simp [Region.wanted, hgd]
        rw [if_pos (hw _)] at h2 ⊢
        exact same h2
      | some q =>
        obtain ⟨j, want⟩ := q
        by_cases hj : j = g
        · subst hj
          cases hwb : want == b with
          | true =>
            have hwb' : want = b := by simpa using hwb
            subst hwb'
            have e : resolveO j want o = { o with guard := none } := by unfold resolveO; rw [hgd]; simp
            rw [e] at h2
            have hw : Region.wanted o (yielded ops a.tmps) = true := by simp [Region.wanted, hgd, hy]
            rw [if_pos (by simp [Region.wanted])] at h2
            rw [if_pos hw]
            exact same h2
          | false =>
            have e : resolveO j b o = { o with guard := none, op := .move (.const undef) } := by unfold resolveO; rw [hgd]; simp [hwb]
            rw [e] at h2
            have hw : Region.wanted o (yielded ops a.tmps) = false := by
              simp only [Region.wanted, hgd, hy]
              cases want <;> cases b <;> simp_all
            rw [if_pos (by simp [Region.wanted])] at h2
            rw [if_neg (by simp [hw])]
            rcases h2 with h2 | ⟨h2, _⟩
            · exact rest _ w (up o.dst undef _ hod rfl) h2
            · have hh : noRoomEvent ∈ (#[] : Array _) := h2.1
              simp at hh
        · have e : resolveO g b o = o := by
            unfold resolveO
            rw [hgd]
            simp only [show (j == g) = false by simpa using hj, cond_false]
          rw [e] at h2
          have hyy : yielded (resolveG g b ops) a.tmps = yielded ops a.tmps := by
            funext k
            unfold yielded
            rw [resolve_get]
            cases hk : ops[k]? with
            | none => rfl
            | some ok => simp only [Option.map_some, Option.bind_some, (resolve_after g b ok).2]
          rw [hyy] at h2
          by_cases hw : Region.wanted o (yielded ops a.tmps) = true
          · rw [if_pos hw] at h2 ⊢
            exact same h2
          · rw [if_neg hw] at h2 ⊢
            exact rest _ w (up o.dst undef _ hod rfl) h2
theorem guardOf_spec {ops : Array Oper} {listed : Array Bool} {rs : List Nat} {g d : Nat} (h : guardOf ops listed rs = some (g, d)) : ∃ og, ops[g]? = some og ∧ og.dst = some d ∧ listed.getD g false = true ∧ ∀ j o, ops[j]? = some o → j ≠ g → o.dst ≠ some d := by
  unfold guardOf at h
  split at h
  · split at h
    · rename_i og ho
      split at h
      · rename_i d' hd
        have h0 := bif_none h
        clear h
        obtain ⟨hc, h⟩ := h0
        obtain ⟨h1, h2⟩ := and_b hc
        simp only [Option.some.injEq, Prod.mk.injEq] at h
        obtain ⟨rfl, rfl⟩ := h
        refine ⟨og, ho, hd, h1, fun j o hj hne hdj => ?_⟩
        have hlt : j < ops.size := (Array.getElem?_eq_some_iff.1 hj).1
        have h3 := List.all_eq_true.1 h2 j (List.mem_range.2 hlt)
        simp only [hj, hdj] at h3
        simp [hne] at h3
      · cases h
    · cases h
  · cases h

theorem evH_ok (hE : EnvOK B.P E) (hpar : E.par = B.par) (hB : B.R = NoB) {ops : Array Oper} (hs : Region.noSelect ops = true) {k : St → Option ρ} {r : ρ} {Q : Exit → Act → World → Prop} (hQ : ∀ σ' a' w', k σ' = some r → RelA B σ' a' w' → Q .normal a' w') :
    ∀ (n : Nat) (listed : Array Bool) (σ : St) (a : Act) (w : World), RelA B σ a w → evH E ops n listed σ k = some r → Closed ops listed → ∀ N, unl listed ≤ N → wpAnyZ E B.P ops (NoPanic Q) listed (fun w' => Fr NoB w w') N listed a w
  | 0, listed, σ, a, w, hA, hv, hcl, N, hN => by
    unfold evH at hv
    split at hv
    · rename_i hr
      exact wpAnyZ_done hr (NoPanic.normal (hQ σ a w hv hA)) N
    · cases hv
  | n + 1, listed, σ, a, w, hA, hv, hcl, N, hN => by
    unfold evH at hv
    split at hv
    · rename_i hr
      exact wpAnyZ_done hr (NoPanic.normal (hQ σ a w hv hA)) _
    · rename_i i rs hr
      have hi0 : i ∈ Region.ready .any ops listed := by rw [hr]; exact List.mem_cons_self ..
      have hu0 := unl_ready hi0
      obtain ⟨N', rfl⟩ : ∃ N', N = N' + 1 := ⟨N - 1, by omega⟩
      split at hv
      · rename_i j hj
        have hmem := List.mem_of_find?_eq_some hj
        have htk := List.find?_some hj
        unfold takeB at htk
        obtain ⟨hfree, htk⟩ := and_b htk
        have hmem' : j ∈ Region.ready .any ops listed := by rw [hr]; exact hmem
        split at hv
        · rename_i o ho
          rw [ho] at htk
          simp only at htk
          obtain ⟨hgd, hwait⟩ := and_b htk
          obtain ⟨hgd, htko⟩ := and_b hgd
          have hgd : o.guard = none := by simpa using hgd
          obtain ⟨hdef, H, φ, h⟩ := hA
          obtain ⟨u, σ', hk, hrel, hrun⟩ := evOpT_ok hE h hv
          refine wpAnyZ_take ho hs hcl (not_wrote ho htko) hwait hfree hmem' (fun _ _ _ h => h) (by simp [Region.wanted, hgd]) (fun w' hw' => hrun w' hw') (Fr.refl _ _) ?_
          refine wpAnyZ_S (LeL.set (LeL.refl _) _) (fun w2 _ h2 => h2) _ _ _ _ (LeL.refl _) ?_
          have hu := unl_ready hmem'
          exact evH_ok hE hpar hB hs hQ n _ σ' _ w ⟨by rw [put_defers]; exact hdef, H, φ, hrel⟩ hk (hcl.set hmem') N' (by omega)
        · cases hv
      · split at hv
        · split at hv
          · rename_i o ho
            refine wpAnyZ_all (by rw [hr]; simp) (fun q hq => ?_)
            rw [hr] at hq
            have hqi : q = i := by simpa using hq
            subst hqi
            unfold wpOp
            rw [ho]
            simp only
            have nw : ∀ σ0, nilOk E ops q o σ0 = true → Clean E ops listed (listed.setIfInBounds q true) → writesOp E o.op = false ∨ (nilFirst σ0 o.op && makesE E o.op) = true := fun σ0 hnk hc => wrote_nil ho (clean_not (mem_ready.1 hi0).1 hc) hnk
            rcases evGrd_ok hA hv with ⟨σ0, hA0, hw, hv⟩ | ⟨σ0, hw, hA0, hv⟩
            · rw [if_pos hw]
              refine .inl (Oper.wp_next (fun a' w' hn => ?_) (evOpS1_ok hE hpar hB hA0 (bif_not hv).2 (NoPanic Q)))
              obtain ⟨⟨σ', hk, hA'⟩, hfr⟩ := hn
              refine ⟨fun hc => hfr (nw σ0 (bif_not hv).1 hc), wpAnyZ_S (LeL.set (LeL.refl _) _) (fun w2 hc h2 => (hfr (nw σ0 (bif_not hv).1 hc)).trans h2 (fun _ _ f => f)) _ _ _ _ (LeL.refl _) ?_⟩
              exact evH_ok hE hpar hB hs hQ n _ σ' a' w' hA' hk (hcl.set hi0) N' (by omega)
            · rw [if_neg (by simp [hw])]
              refine ⟨fun _ => Fr.refl _ _, wpAnyZ_S (LeL.set (LeL.refl _) _) (fun w2 _ h2 => h2) _ _ _ _ (LeL.refl _) ?_⟩
              exact evH_ok hE hpar hB hs hQ n _ σ0 _ w hA0 hv (hcl.set hi0) N' (by omega)
          · cases hv
        · split at hv
          · rename_i g d hgo
            obtain ⟨og, hog, hogd, hlg, hdst⟩ := guardOf_spec hgo
            split at hv
            · rename_i b hb
              obtain ⟨hdef, H, φ, h⟩ := id hA
              have hbt : a.tmps[d]? = some (.bool b) := by
                have := yielded_bool h (ops := ops) (j := g) (d := d) (by simp [dstOf, hog, hogd]) hb
                unfold yielded at this
                rw [hog] at this
                simp only [Option.bind_some, hogd] at this
                split at this
                · rename_i b' hb'
                  rw [hb', Option.some.inj this]
                · cases this
              have hu := unl_ready hi0
              cases b with
              | true =>
                simp only [cond_true] at hv
                exact wpAnyZ_resolve hog hogd hdst _ _ _ _ hlg hbt (evH_ok (ops := resolveG g true ops) hE hpar hB (resolve_noSelect hs) hQ n listed _ a w (hA.setSame hb) hv (resolve_closed hcl) (N' + 1) hN)
              | false =>
                simp only [cond_false] at hv
                exact wpAnyZ_resolve hog hogd hdst _ _ _ _ hlg hbt (evH_ok (ops := resolveG g false ops) hE hpar hB (resolve_noSelect hs) hQ n listed _ a w (hA.setSame hb) hv (resolve_closed hcl) (N' + 1) hN)
            · cases hv
          split at hv
          · rename_i m j hmj
            split at hv
            · rename_i om hom
              have hsp : swapB E ops listed m j = true ∧ m ∈ Region.ready .any ops listed := by
                rw [hr]
                unfold swapOf at hmj
                split at hmj
                · rename_i x y e
                  rw [e]
                  cases h1 : swapB E ops listed x y with
                  | true =>
                    rw [h1] at hmj
                    simp only [cond_true, Option.some.injEq, Prod.mk.injEq] at hmj
                    obtain ⟨rfl, rfl⟩ := hmj
                    exact ⟨h1, by simp⟩
                  | false =>
                    rw [h1] at hmj
                    simp only [cond_false] at hmj
                    cases h2 : swapB E ops listed y x with
                    | true =>
                      rw [h2] at hmj
                      simp only [cond_true, Option.some.injEq, Prod.mk.injEq] at hmj
                      obtain ⟨rfl, rfl⟩ := hmj
                      exact ⟨h2, by simp⟩
                    | false =>
                      rw [h2] at hmj
                      cases hmj
                · cases hmj
              obtain ⟨q1, q3⟩ := hsp
              unfold swapB at q1
              obtain ⟨q1, _⟩ := and_b q1
              obtain ⟨hld, _⟩ := and_b q1
              obtain ⟨hdef, H, φ, h⟩ := hA
              obtain ⟨u, σ1, hk, hrel, hrun⟩ := evOpT_ok hE h hv
              exact evSw_ok hE hpar hB hs hom hld (fun listed' σ2 a2 w2 hk2 hA2 hcl2 N hN => evH_ok hE hpar hB hs hQ n listed' σ2 a2 w2 hA2 hk2 hcl2 N hN) ops.size listed σ1 a w hk ⟨by rw [put_defers]; exact hdef, H, φ, hrel⟩ (fun w2 hw2 => hrun w2 fun _ => hw2) q3 hcl (N' + 1) hN
            · cases hv
          split at hv
          · cases hv
          · rename_i c C hC
            obtain ⟨hdef, H, φ, h⟩ := hA
            obtain ⟨hl, hk, hCl, hrun⟩ := heldAll_ok hE h (c :: C) hv
            have hk0 := bif_none hk
            clear hk
            obtain ⟨hg, hk⟩ := hk0
            obtain ⟨hg, hud⟩ := and_b hg
            obtain ⟨hn1, hn2⟩ := and_b hg
            have hn1 := nodupB_nd hn1
            have hn2 := nodupB_nd hn2
            have hn1' : (hl.map Held.j).Nodup := by rw [hCl]; exact hn1
            have hud' : ∀ d ∈ hl.map Held.d, d ∉ heldUses ops (c :: C) := fun d hd => by simpa using List.all_eq_true.1 hud d hd
            have e0 : mark listed ((c :: C).filter fun _ => false) = listed := by
              have : (c :: C).filter (fun _ => false) = [] := List.filter_eq_nil_iff.2 (by simp)
              rw [this]; rfl
            have key := evMany_ok (B := B) (a0 := a) (w0 := w) (fr := hl.all Held.free) hE hpar hs (fun h => by simpa using h) hCl hrun (fun hd hh o ho t ht => mem_heldUses (hCl ▸ List.mem_map.2 ⟨hd, hh, rfl⟩) ho ht) (fun hd hh => List.mem_map.2 ⟨hd, hh, rfl⟩) (fun d hd => by obtain ⟨x, hx, e⟩ := List.mem_map.1 hd; exact ⟨x, hx, e⟩)
              (nodup_two hn1' hn2) (nodup_map_inj hn1') hud' (Q := Q)
              (k := fun listed' σ' => finAll hl σ' fun σ2 => evH E ops n (mark listed' (c :: C)) σ2 k) (r := r)
              (fun listed' σ' a' w' hfin hI hcl' N hN => by
                obtain ⟨Fs, H', φ', g1, g2, g3⟩ := hI.rel
                have e1 : (fun b => ∃ h ∈ hl, (fun _ => true) h.j = true ∧ Fs h.j b) = fun b => ∃ h ∈ hl, Fs h.j b := by
                  funext b; simp
                rw [e1] at g1
                obtain ⟨σ2, hk2, H2, φ2, hr2⟩ := finAll_ok hB h.mem.fr.size hl _ H' φ' hn1' (fun x hx => ⟨g2 x hx rfl, by obtain ⟨_, _, _, _, q, _⟩ := hrun x hx; exact q⟩) (fun x hx y hy hne => g3 x hx y hy hne rfl rfl) g1 hfin
                exact evH_ok hE hpar hB hs hQ n _ σ2 a' w' ⟨hI.defers, H2, φ2, hr2⟩ hk2 hcl' N hN)
              ops.size _ listed σ (fun _ => false) a w (Nat.le_refl _) hk ⟨hdef, Nat.le_refl _, fun _ => Fr.refl _ _, fun _ _ => rfl, fun _ _ => False, H, φ, Rel.forget ((Rel.step (B := B) (R1 := B.R) (R2 := fun b => ∃ h ∈ hl, (fun _ => false) h.j = true ∧ False) h (Fr.refl _ _) (fun i hi => by obtain ⟨_, _, hf, _⟩ := hi; cases hf)).1) _, (fun _ _ hf => by cases hf), (fun _ _ _ _ _ hf => by cases hf)⟩ (by rw [e0]; exact hcl) (N' + 1) (by rw [e0]; omega)
            rw [e0] at key
            exact key

theorem unl_rep (n : Nat) : unl (Array.replicate n false) = n := by
  unfold unl
  rw [Array.toList_replicate]
  induction n with
  | zero => rfl
  | succ n ih => rw [List.replicate_succ, unlL, ih]; simp; omega

/-- a region -/
theorem evRegion_ok (hm : B.P.follows .mixedOrders = true) (hE : EnvOK B.P E) (hpar : E.par = B.par) (hB : B.R = NoB) {id : Nat} {ops : Array Oper} {draw : Bool} {k : St → Option ρ} {r : ρ} {Q : Exit → Act → World → Prop} (hQ : ∀ σ' a' w', k σ' = some r → RelA B σ' a' w' → Q .normal a' w')
    (hA : RelA B σ a w) (hv : (bif draw then (bif ops.toList.all (quietOp E) then (bif lexF ops then evOpsG (evOpQ E) ops.toList ops.toList σ k else none)
        else (bif Region.noSelect ops then evH E ops (ops.size + ops.size) (Array.replicate ops.size false) σ k else none)) else evOpsG (evOp E) ops.toList ops.toList σ fun σ' => closeAll E (opnNames σ'.blks) σ' fun σ2 => settleAll E id σ2 k) = some r) : (Code.region id ops draw).wp B.P Q a w := by
  cases draw with
  | false =>
    refine wp_region_list (evOps_ok hE hpar hB (fun σ' a' w' hk hA' => ?_) ops.toList σ a w hA hv)
    obtain ⟨hdef, H, φ, h⟩ := hA'
    obtain ⟨σ2, H2, φ2, hk2, h2⟩ := closeAll_ok hpar _ h hk
    obtain ⟨σ3, hk3, h3⟩ := settleAll_ok h2 hk2
    exact hQ σ3 a' w' hk3 ⟨hdef, H2, φ2, h3⟩
  | true =>
    simp only [cond_true] at hv
    cases hq : ops.toList.all (quietOp E) with
    | true =>
      rw [hq] at hv
      simp only [cond_true] at hv
      obtain ⟨hB', hv⟩ := bif_none hv
      have hB' := lexF_ok hB'
      obtain ⟨hdef, H, φ, h⟩ := hA
      refine wp_region_quiet (C := fun w' => Fr NoB w w') hm hB' ⟨rfl, rfl, rfl, Nat.le_refl _, fun _ _ _ => rfl, fun _ _ _ => rfl⟩ ?_
      refine evOpsQ_ok hE (ds := []) (fun σ' a' hk hr hd w' hw' => hQ σ' a' w' hk ⟨hd, H, φ, ?_⟩) ops.toList σ a h hdef hv
      exact (Rel.step (B := B) (R1 := B.R) (R2 := B.R) hr (by rw [hB]; exact hw') (fun i hi => by rw [hB] at hi; exact hi.elim)).1
    | false =>
      rw [hq] at hv
      simp only [cond_false] at hv
      obtain ⟨hs, hv⟩ := bif_none hv
      obtain ⟨hdef, H, φ, h⟩ := hA
      refine wp_region_noPanic (wp_region_Z (E := E) (L0 := Array.replicate ops.size false) (S := fun w' => Fr NoB w.drew w') hm ?_)
      refine evH_ok hE hpar hB hs hQ _ _ σ a w.drew ⟨hdef, H, φ, ?_⟩ hv (closed_start _) _ (by rw [unl_rep]; exact Nat.le_refl _)
      exact (Rel.step (B := B) (R1 := B.R) (R2 := B.R) h (by rw [hB]; exact drew_fr w) (fun i hi => by rw [hB] at hi; exact hi.elim)).1

end
end Go.Proofs.YtklfnbckoaphpaaGreatDoor
