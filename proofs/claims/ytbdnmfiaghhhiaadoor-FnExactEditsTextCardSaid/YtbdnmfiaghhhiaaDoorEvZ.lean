/- Regions whose order is open. No conditions. -/
import Derived.Test.YtbdnmfiaghhhiaaDoorEvY
set_option linter.unusedVariables false
set_option linter.unusedSimpArgs false
namespace Go.Proofs.YtbdnmfiaghhhiaaDoor
open Go

theorem toA_valV {C : Cx} {t : Ty} (ht : t.scal = true) (y : t.den) : ARel C (t.toA y) (t.valV y) := by
  cases t with
  | st t => exact toA_rel ⟨_, rfl, (RdC.scal (.st t) ht _ y).2 (by simp [Ty.vals])⟩
  | int kk => exact toA_rel ⟨_, rfl, (RdC.scal (.int kk) ht _ y).2 rfl⟩
  | bool => exact toA_rel ⟨_, rfl, (RdC.scal .bool ht _ y).2 rfl⟩
  | str => exact toA_rel ⟨_, rfl, (RdC.scal .str ht _ y).2 rfl⟩
  | unit => trivial
  | pair _ _ => trivial
  | slice _ => simp [Ty.scal] at ht
  | ptr _ => simp [Ty.scal] at ht
  | fn _ _ => simp [Ty.scal] at ht

theorem RdV.valV {P : Program} {w : World} {Z : Nat → Prop} {t : Ty} (ht : t.scal = true) {v : Value} {x : t.den} (h : RdV P t w Z v x) : v = t.valV x := by
  obtain ⟨cs, h1, h2⟩ := h
  have e := (RdC.scal t ht cs x).1 h2
  subst e
  cases t with
  | st t => exact h1
  | int kk => simpa [Boxed, Ty.vals, Ty.valV, eq_comm] using h1
  | bool => simpa [Boxed, Ty.vals, Ty.valV, eq_comm] using h1
  | str => simpa [Boxed, Ty.vals, Ty.valV, eq_comm] using h1
  | unit => simp [Boxed, Ty.vals] at h1
  | pair a b =>
    have h1 : (Ty.pair a b).vals x = [v] := h1
    simp [Ty.valV, h1]
  | slice _ => simp [Ty.scal] at ht
  | ptr _ => simp [Ty.scal] at ht
  | fn _ _ => simp [Ty.scal] at ht

abbrev isVal (p : PK × Ty) : Bool := match p with | (.val, _) => true | _ => false
abbrev isValS (p : PK × Ty) : Bool := match p with | (.val, t) => t.scal | _ => false

def valsL : (rs : List (PK × Ty)) → Sig.den rs → List Value
  | [], _ => []
  | (k, t) :: rs, z => t.valV (Sig.hd (k, t) rs z) :: valsL rs (Sig.tl (k, t) rs z)
def packV : List Value → Value
  | [x] => x
  | xs => .tuple xs.toArray

theorem Tupled.eq : ∀ {vs : List Value} {v : Value}, Tupled vs v → v = packV vs
  | [], _, h => h
  | [_], _, h => h
  | _ :: _ :: _, _, h => h
theorem tupled_packV : ∀ (vs : List Value), Tupled vs (packV vs)
  | [] => rfl
  | [_] => rfl
  | _ :: _ :: _ => rfl

theorem holds_valsL {P : Program} {w : World} {Z : Nat → Prop} : ∀ (rs : List (PK × Ty)) (F : Nat → Prop) (vs : List Value) (z : Sig.den rs), rs.all isValS = true → Holds P w Z F rs vs z → vs = valsL rs z
  | [], F, vs, z, _, h => h
  | (.val, t) :: rs, F, vs, z, hs, h => by
    obtain ⟨v, r, rfl, h1, h2⟩ := h
    have hs' : t.scal = true ∧ rs.all isValS = true := by simpa using hs
    rw [h1.valV hs'.1, holds_valsL rs F r _ hs'.2 h2]
    rfl
  | (.io d, t) :: rs, F, vs, z, hs, h => by simp [isValS] at hs
  | (.eat d, t) :: rs, F, vs, z, hs, h => by simp [isValS] at hs

theorem mkRess_val {C : Cx} : ∀ (rs : List (PK × Ty)) (z : Sig.den rs) (n : Nat) (σ σ' : St) (xs : List A), rs.all isValS = true → mkRess rs z n σ = some (xs, σ') → All2 (ARel C) xs (valsL rs z)
  | [], z, n, σ, σ', xs, _, h => by
    simp only [mkRess, Option.some.injEq, Prod.mk.injEq] at h
    obtain ⟨rfl, _⟩ := h
    trivial
  | (.val, t) :: rs, z, n, σ, σ', xs, hs, h => by
    have hs' : t.scal = true ∧ rs.all isValS = true := by simpa using hs
    simp only [mkRess, mkRes] at h
    split at h
    · cases h
    rename_i xs1 σ2 hm2
    simp only [Option.some.injEq, Prod.mk.injEq] at h
    obtain ⟨rfl, _⟩ := h
    exact ⟨toA_valV hs'.1 _, mkRess_val rs _ (n + 1) σ _ _ hs'.2 hm2⟩
  | (.io d, t) :: rs, z, n, σ, σ', xs, hs, h => by simp [isValS] at hs
  | (.eat d, t) :: rs, z, n, σ, σ', xs, hs, h => by simp [isValS] at hs

theorem handed_vals : ∀ (ps : List (PK × Ty)) (xs : List A), ps.all isVal = true → handed ps xs = []
  | [], xs, _ => by cases xs <;> rfl
  | (.val, t) :: ps, [], h => by simp [handed]
  | (.val, t) :: ps, x :: xs, h => handed_vals ps xs (by simpa using h)
  | (.io d, t) :: ps, xs, h => by simp [isVal] at h
  | (.eat d, t) :: ps, xs, h => by simp [isVal] at h

section
variable {ρ : Type} {B : Base} {E : Env} {σ : St} {a : Act} {w : World} {H : Nat → Option Value} {φ : Nat → Nat → Prop}

/-- behind one operation of such a region -/
abbrev NextQ (B : Base) (k : St → Option ρ) (r : ρ) (w : World) (H : Nat → Option Value) (φ : Nat → Nat → Prop) (ds : List Deferred) : Act → Prop := fun a' => ∃ σ', k σ' = some r ∧ Rel B σ' a'.tmps w H φ ∧ a'.defers = ds

theorem evOpQ_ok (hE : EnvOK B.P E) (h : Rel B σ a.tmps w H φ) {o : Oper} {k : St → Option ρ} {r : ρ} (hv : evOpQ E o σ k = some r) : o.quiet B.P a (fun w' => Fr NoB w w') (NextQ B k r w H φ a.defers) := by
  have fin : ∀ (v : Value) (x : A), k (σ.put o.dst x) = some r → ARel (B.at σ w H φ) x v → (∀ w', Fr NoB w w' → o.quietAt B.P a (fun w' => Fr NoB w w') w' v) → o.quiet B.P a (fun w' => Fr NoB w w') (NextQ B k r w H φ a.defers) :=
    fun v x hk hx hq => ⟨v, hq, _, hk, Rel.put h o.dst hx, put_defers a o.dst v⟩
  unfold evOpQ at hv
  split at hv
  · rename_i g v ho
    obtain ⟨rfl, hv⟩ := bif_none hv
    obtain ⟨u, hr, hrun⟩ := opVal_ok hE h o ho
    refine fin u v hv hr fun w' hw' => ?_
    unfold Oper.quietAt
    rw [hrun w' hw']
    exact ⟨rfl, rfl⟩
  rename_i hnone
  clear hnone
  split at hv
  · rename_i c x y ho
    split at hv
    · rename_i b hc
      have hb := h.bool hc
      cases b with
      | true =>
        refine fin (a.eval x) _ hv (h.eval x) fun w' _ => ?_
        simp [Oper.quietAt, Oper.quietUpon, execOp, ho, hb, asBool]
      | false =>
        refine fin (a.eval y) _ hv (h.eval y) fun w' _ => ?_
        simp [Oper.quietAt, Oper.quietUpon, execOp, ho, hb, asBool]
    · cases hv
  · rename_i f xs ts ho
    split at hv
    · rename_i g caps ef
      split at hv
      · cases hv
      rename_i c hc
      obtain ⟨hg, hv⟩ := bif_none hv
      obtain ⟨hrs, hps⟩ := and_b hg
      have hrs : c.rs.all isValS = true := hrs
      have hps : c.ps.all isVal = true := hps
      split at hv
      · cases hv
      rename_i x hx
      split at hv
      · cases hv
      rename_i y hy
      split at hv
      · cases hv
      rename_i vs σ1 hmk
      split at hv
      · cases hv
      rename_i v hpk
      have hf := h.eval f
      rw [ef] at hf
      obtain ⟨cv, hf1, hf2⟩ := hf
      have hok := hE.con g c hc
      have hargs : All2 (ARel (B.at σ w H φ)) (xs.toList.map σ.eval ++ caps.map capA) (xs.toList.map a.eval ++ cv.toList) := (evals h xs.toList).append (capA_rel hf2)
      have hh := handed_vals c.ps (xs.toList.map σ.eval ++ caps.map capA) hps
      obtain ⟨hold, _⟩ := readPs_rel (Zc := fun _ => True) hE h (fun _ _ _ => trivial) h.reads c.ps _ _ x (by rw [hh]; simp) hx hargs
      rw [hh] at hold
      have hz : (writePs c.ps (xs.toList.map σ.eval ++ caps.map capA) c.rs y σ).2 = Sig.snd (Sig.ios c.ps) c.rs y := by
        rw [writePs_none c.ps _ c.rs y σ hh (readPs_length hx)]
      rw [hz] at hmk
      refine fin (packV (valsL c.rs (Sig.snd (Sig.ios c.ps) c.rs y))) v hv (packA_rel hpk (mkRess_val c.rs _ 0 σ _ _ hrs hmk) (tupled_packV _)) fun w' hw' => ?_
      unfold Oper.quietAt
      rw [run_call_value ho hf1 hok.enters]
      refine ⟨rfl, ?_⟩
      have e : (xs.toList.map a.eval ++ cv.toList).toArray = xs.map a.eval ++ cv := by
        apply Array.ext'; simp
      have hold' : Holds B.P w' (fun _ => True) NoB c.ps (xs.toList.map a.eval ++ cv.toList) x := by
        have h1 : Holds B.P w (fun _ => True) NoB c.ps (xs.toList.map a.eval ++ cv.toList) x := by
          have : (fun b => ∃ n ∈ ([] : List Nat), φ n b) = NoB := by funext b; simp
          rw [← this]; exact hold
        exact holds_agree (fun _ _ _ => trivial) (hw'.agree _ fun _ _ _ f => f) _ _ _ _ (agree_none _ _ hw'.size) h1
      have := hok.calls w' (fun _ => True) NoB _ x y hy (fun _ f => f.elim) (fun _ f => f.elim) hold' (hw'.tabs h.mem.tabs) (fun _ f => f.elim)
      rw [e] at this
      refine this.mono ?_
      rintro e' w'' ⟨v', vs', F, G, rfl, htup, _, hfr, _, _, _, _, hres⟩
      rw [htup.eq, holds_valsL c.rs F vs' _ hrs hres]
      exact ⟨rfl, hw'.trans hfr (fun _ _ f => f)⟩
    · rename_i ta tr ψ ef
      obtain ⟨hs, hv⟩ := bif_none hv
      split at hv
      · cases hv
      rename_i x hx
      split at hv
      · cases hv
      rename_i y hy
      have hf := h.eval f
      rw [ef] at hf
      obtain ⟨v, e1, _, hcall⟩ := hf
      simp only [List.cons.injEq, and_true] at e1
      subst e1
      obtain ⟨cs, hcs, hrd⟩ := readArgs_rel (C := B.at σ w H φ) hE h.reads ta (xs.toList.map σ.eval) (xs.toList.map a.eval) x hx (evals h xs.toList)
      obtain ⟨g, caps, ev, he, _⟩ := hcall w (Agree.refl _ _) h.mem.tabs _ cs x y hcs hrd hy
      refine fin (tr.valV y) _ hv (toA_valV hs y) fun w' hw' => ?_
      obtain ⟨g', caps', ev', he', hc'⟩ := hcall w' (hw'.agree _ fun _ _ _ f => f) (hw'.tabs h.mem.tabs) _ cs x y hcs (RdC.agree (Z' := fun _ => True) (hw'.agree _ fun _ _ _ f => f) (fun _ _ _ => trivial) _ _ _ hrd) hy
      unfold Oper.quietAt
      rw [run_call_value (P := B.P) ho ev' he']
      refine ⟨rfl, ?_⟩
      have e : (xs.toList.map a.eval).toArray = xs.map a.eval := by
        apply Array.ext'; simp
      rw [e] at hc'
      exact hc'.mono fun e' w'' ⟨h1, h2⟩ => ⟨h1, hw'.trans h2 (fun _ _ f => f)⟩
    · cases hv
  · cases hv

/-- the operations of such a region -/
theorem evOpsQ_ok (hE : EnvOK B.P E) {ops : Array Oper} {k : St → Option ρ} {r : ρ} {ds : List Deferred} {Q : Act → Prop} (hQ : ∀ σ' a', k σ' = some r → Rel B σ' a'.tmps w H φ → a'.defers = ds → Q a') :
    ∀ (rest : List Oper) (σ : St) (a : Act), Rel B σ a.tmps w H φ → a.defers = ds → evOpsG (evOpQ E) ops.toList rest σ k = some r → wpQuiet B.P ops (fun w' => Fr NoB w w') Q rest a
  | [], σ, a, h, hd, hv => hQ σ a hv h hd
  | o :: rest, σ, a, h, hd, hv => by
    have go : Region.wanted o (yielded ops a.tmps) = true → evOpQ E o σ (fun σ' => evOpsG (evOpQ E) ops.toList rest σ' k) = some r → wpQuiet B.P ops (fun w' => Fr NoB w w') Q (o :: rest) a := by
      intro hw hv
      unfold wpQuiet
      rw [if_pos hw]
      exact Oper.quiet_mono (fun a' ⟨σ', hk, hr, hd'⟩ => evOpsQ_ok hE hQ rest σ' a' hr (hd'.trans hd) hk) (evOpQ_ok hE h hv)
    have skip : Region.wanted o (yielded ops a.tmps) = false → evOpsG (evOpQ E) ops.toList rest (σ.put o.dst (.tup [])) k = some r → wpQuiet B.P ops (fun w' => Fr NoB w w') Q (o :: rest) a := by
      intro hw hv
      unfold wpQuiet
      rw [if_neg (by simp [hw])]
      exact evOpsQ_ok hE hQ rest _ _ (Rel.put h o.dst undefRel) ((put_defers a o.dst undef).trans hd) hv
    simp only [evOpsG] at hv
    split at hv
    · rename_i hg
      exact go (by simp [Region.wanted, hg]) hv
    · rename_i j want hg
      split at hv
      · cases hv
      rename_i d hd'
      split at hv
      · rename_i b hb
        have hy := yielded_bool h hd' hb
        cases b with
        | true =>
          simp only [cond_true, St.set_get hb] at hv
          cases want with
          | true => exact go (by simp [Region.wanted, hg, hy]) hv
          | false => exact skip (by simp [Region.wanted, hg, hy]) hv
        | false =>
          simp only [cond_false, St.set_get hb] at hv
          cases want with
          | true => exact skip (by simp [Region.wanted, hg, hy]) hv
          | false => exact go (by simp [Region.wanted, hg, hy]) hv
      · rename_i hb
        have hy := yielded_tup h hd' hb
        exact skip (by simp [Region.wanted, hg, hy]) hv
      · cases hv

/-- a region -/
theorem evRegion_ok (hm : B.P.follows .mixedOrders = true) (hE : EnvOK B.P E) (hpar : E.par = B.par) (hB : B.R = NoB) {id : Nat} {ops : Array Oper} {draw : Bool} {k : St → Option ρ} {r : ρ} {Q : Exit → Act → World → Prop} (hQ : ∀ σ' a' w', k σ' = some r → RelA B σ' a' w' → Q .normal a' w')
    (hA : RelA B σ a w) (hv : (bif draw then (bif Region.lexB .any ops then evOpsG (evOpQ E) ops.toList ops.toList σ k else none) else evOpsG (evOp E) ops.toList ops.toList σ k) = some r) : (Code.region id ops draw).wp B.P Q a w := by
  cases draw with
  | false => exact wp_region_list (evOps_ok hE hpar hB hQ ops.toList σ a w hA hv)
  | true =>
    obtain ⟨hB', hv⟩ := bif_none hv
    obtain ⟨hdef, H, φ, h⟩ := hA
    refine wp_region_quiet (C := fun w' => Fr NoB w w') hm hB' ⟨rfl, rfl, rfl, Nat.le_refl _, fun _ _ _ => rfl, fun _ _ _ => rfl⟩ ?_
    refine evOpsQ_ok hE (ds := []) (fun σ' a' hk hr hd w' hw' => hQ σ' a' w' hk ⟨hd, H, φ, ?_⟩) ops.toList σ a h hdef hv
    exact (Rel.step (B := B) (R1 := B.R) (R2 := B.R) hr (by rw [hB]; exact hw') (fun i hi => by rw [hB] at hi; exact hi.elim)).1

end
end Go.Proofs.YtbdnmfiaghhhiaaDoor
