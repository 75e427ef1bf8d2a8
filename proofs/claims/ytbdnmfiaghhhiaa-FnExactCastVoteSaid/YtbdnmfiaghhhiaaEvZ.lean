/- Regions whose order is open. No conditions. -/
import Derived.Test.YtbdnmfiaghhhiaaEvY
import Derived.Deep.RegionHeld3
set_option linter.unusedVariables false
set_option linter.unusedSimpArgs false
namespace Go.Proofs.Ytbdnmfiaghhhiaa
open Go

theorem toA_valV {C : Cx} {t : Ty} (ht : t.scal = true) (y : t.den) : ARel C (t.toA y) (t.valV y) := by
  cases t with
  | st t => exact toA_rel ⟨_, rfl, (RdC.scal (.st t) ht _ y).2 (by simp [Ty.vals])⟩
  | int kk => exact toA_rel ⟨_, rfl, (RdC.scal (.int kk) ht _ y).2 rfl⟩
  | bool => exact toA_rel ⟨_, rfl, (RdC.scal .bool ht _ y).2 rfl⟩
  | str => exact toA_rel ⟨_, rfl, (RdC.scal .str ht _ y).2 rfl⟩
  | unit => trivial
  | pair _ _ => trivial
  | slice _ => simp [Ty.scal] at ht
  | ptr _ => simp [Ty.scal] at ht
  | fn _ _ => simp [Ty.scal] at ht

theorem RdV.valV {P : Program} {w : World} {Z : Nat → Prop} {t : Ty} (ht : t.scal = true) {v : Value} {x : t.den} (h : RdV P t w Z v x) : v = t.valV x := by
  obtain ⟨cs, h1, h2⟩ := h
  have e := (RdC.scal t ht cs x).1 h2
  subst e
  cases t with
  | st t => exact h1
  | int kk => simpa [Boxed, Ty.vals, Ty.valV, eq_comm] using h1
  | bool => simpa [Boxed, Ty.vals, Ty.valV, eq_comm] using h1
  | str => simpa [Boxed, Ty.vals, Ty.valV, eq_comm] using h1
  | unit => simp [Boxed, Ty.vals] at h1
  | pair a b =>
    have h1 : (Ty.pair a b).vals x = [v] := h1
    simp [Ty.valV, h1]
  | slice _ => simp [Ty.scal] at ht
  | ptr _ => simp [Ty.scal] at ht
  | fn _ _ => simp [Ty.scal] at ht

abbrev isValS (p : PK × Ty) : Bool := match p with | (.val, t) => t.scal | _ => false

def valsL : (rs : List (PK × Ty)) → Sig.den rs → List Value
  | [], _ => []
  | (k, t) :: rs, z => t.valV (Sig.hd (k, t) rs z) :: valsL rs (Sig.tl (k, t) rs z)
def packV : List Value → Value
  | [x] => x
  | xs => .tuple xs.toArray

theorem Tupled.eq : ∀ {vs : List Value} {v : Value}, Tupled vs v → v = packV vs
  | [], _, h => h
  | [_], _, h => h
  | _ :: _ :: _, _, h => h
theorem tupled_packV : ∀ (vs : List Value), Tupled vs (packV vs)
  | [] => rfl
  | [_] => rfl
  | _ :: _ :: _ => rfl

theorem holds_valsL {P : Program} {w : World} {Z : Nat → Prop} : ∀ (rs : List (PK × Ty)) (F : Nat → Prop) (vs : List Value) (z : Sig.den rs), rs.all isValS = true → Holds P w Z F rs vs z → vs = valsL rs z
  | [], F, vs, z, _, h => h
  | (.val, t) :: rs, F, vs, z, hs, h => by
    obtain ⟨v, r, rfl, h1, h2⟩ := h
    have hs' : t.scal = true ∧ rs.all isValS = true := by simpa using hs
    rw [h1.valV hs'.1, holds_valsL rs F r _ hs'.2 h2]
    rfl
  | (.io d, t) :: rs, F, vs, z, hs, h => by simp [isValS] at hs
  | (.eat d, t) :: rs, F, vs, z, hs, h => by simp [isValS] at hs

theorem mkRess_val {C : Cx} : ∀ (rs : List (PK × Ty)) (z : Sig.den rs) (n : Nat) (σ σ' : St) (xs : List A), rs.all isValS = true → mkRess rs z n σ = some (xs, σ') → All2 (ARel C) xs (valsL rs z)
  | [], z, n, σ, σ', xs, _, h => by
    simp only [mkRess, Option.some.injEq, Prod.mk.injEq] at h
    obtain ⟨rfl, _⟩ := h
    trivial
  | (.val, t) :: rs, z, n, σ, σ', xs, hs, h => by
    have hs' : t.scal = true ∧ rs.all isValS = true := by simpa using hs
    simp only [mkRess, mkRes] at h
    split at h
    · cases h
    rename_i xs1 σ2 hm2
    simp only [Option.some.injEq, Prod.mk.injEq] at h
    obtain ⟨rfl, _⟩ := h
    exact ⟨toA_valV hs'.1 _, mkRess_val rs _ (n + 1) σ _ _ hs'.2 hm2⟩
  | (.io d, t) :: rs, z, n, σ, σ', xs, hs, h => by simp [isValS] at hs
  | (.eat d, t) :: rs, z, n, σ, σ', xs, hs, h => by simp [isValS] at hs

section
variable {ρ : Type} {B : Base} {E : Env} {σ : St} {a : Act} {w : World} {H : Nat → Option Value} {φ : Nat → Nat → Prop}

/-- behind one operation of such a region -/
abbrev NextQ (B : Base) (k : St → Option ρ) (r : ρ) (w : World) (H : Nat → Option Value) (φ : Nat → Nat → Prop) (ds : List Deferred) : Act → Prop := fun a' => ∃ σ', k σ' = some r ∧ Rel B σ' a'.tmps w H φ ∧ a'.defers = ds

theorem evOpQ_ok (hE : EnvOK B.P E) (h : Rel B σ a.tmps w H φ) {o : Oper} {k : St → Option ρ} {r : ρ} (hv : evOpQ E o σ k = some r) : o.quiet B.P a (fun w' => Fr NoB w w') (NextQ B k r w H φ a.defers) := by
  have fin : ∀ (v : Value) (x : A), k (σ.put o.dst x) = some r → ARel (B.at σ w H φ) x v → (∀ w', Fr NoB w w' → o.quietAt B.P a (fun w' => Fr NoB w w') w' v) → o.quiet B.P a (fun w' => Fr NoB w w') (NextQ B k r w H φ a.defers) :=
    fun v x hk hx hq => ⟨v, hq, _, hk, Rel.put h o.dst hx, put_defers a o.dst v⟩
  unfold evOpQ at hv
  split at hv
  · rename_i g v ho
    obtain ⟨rfl, hv⟩ := bif_none hv
    obtain ⟨u, hr, hrun⟩ := opVal_ok hE h o ho
    refine fin u v hv hr fun w' hw' => ?_
    unfold Oper.quietAt
    rw [hrun w' hw']
    exact ⟨rfl, rfl⟩
  rename_i hnone
  clear hnone
  split at hv
  · rename_i c x y ho
    split at hv
    · rename_i b hc
      have hb := h.bool hc
      cases b with
      | true =>
        refine fin (a.eval x) _ hv (h.eval x) fun w' _ => ?_
        simp [Oper.quietAt, Oper.quietUpon, execOp, ho, hb, asBool]
      | false =>
        refine fin (a.eval y) _ hv (h.eval y) fun w' _ => ?_
        simp [Oper.quietAt, Oper.quietUpon, execOp, ho, hb, asBool]
    · cases hv
  · rename_i f xs ts ho
    split at hv
    · rename_i g caps ef
      split at hv
      · cases hv
      rename_i c hc
      obtain ⟨hg, hv⟩ := bif_none hv
      obtain ⟨hrs, hps⟩ := and_b hg
      have hrs : c.rs.all isValS = true := hrs
      have hps : c.ps.all isVal = true := hps
      split at hv
      · cases hv
      rename_i x hx
      split at hv
      · cases hv
      rename_i y hy
      split at hv
      · cases hv
      rename_i vs σ1 hmk
      split at hv
      · cases hv
      rename_i v hpk
      have hf := h.eval f
      rw [ef] at hf
      obtain ⟨cv, hf1, hf2⟩ := hf
      have hok := hE.con g c hc
      have hargs : All2 (ARel (B.at σ w H φ)) (xs.toList.map σ.eval ++ caps.map capA) (xs.toList.map a.eval ++ cv.toList) := (evals h xs.toList).append (capA_rel hf2)
      have hh := handed_vals c.ps (xs.toList.map σ.eval ++ caps.map capA) hps
      obtain ⟨hold, _⟩ := readPs_rel (Zc := fun _ => True) hE h (fun _ _ _ => trivial) h.reads c.ps _ _ x (by rw [hh]; simp) hx hargs
      rw [hh] at hold
      have hz : (writePs c.ps (xs.toList.map σ.eval ++ caps.map capA) c.rs y σ).2 = Sig.snd (Sig.ios c.ps) c.rs y := by
        rw [writePs_none c.ps _ c.rs y σ hh (readPs_length hx)]
      rw [hz] at hmk
      refine fin (packV (valsL c.rs (Sig.snd (Sig.ios c.ps) c.rs y))) v hv (packA_rel hpk (mkRess_val c.rs _ 0 σ _ _ hrs hmk) (tupled_packV _)) fun w' hw' => ?_
      unfold Oper.quietAt
      rw [run_call_value ho hf1 hok.enters]
      refine ⟨rfl, ?_⟩
      have e : (xs.toList.map a.eval ++ cv.toList).toArray = xs.map a.eval ++ cv := by
        apply Array.ext'; simp
      have hold' : Holds B.P w' (fun _ => True) NoB c.ps (xs.toList.map a.eval ++ cv.toList) x := by
        have h1 : Holds B.P w (fun _ => True) NoB c.ps (xs.toList.map a.eval ++ cv.toList) x := by
          have : (fun b => ∃ n ∈ ([] : List Nat), φ n b) = NoB := by funext b; simp
          rw [← this]; exact hold
        exact holds_agree (fun _ _ _ => trivial) (hw'.agree _ fun _ _ _ f => f) _ _ _ _ (agree_none _ _ hw'.size) h1
      have := hok.calls w' (fun _ => True) NoB _ x y hy (fun _ f => f.elim) (fun _ f => f.elim) hold' (hw'.tabs h.mem.tabs) (fun _ f => f.elim)
      rw [e] at this
      refine this.mono ?_
      rintro e' w'' ⟨v', vs', F, G, rfl, htup, _, hfr, _, _, _, _, hres⟩
      rw [htup.eq, holds_valsL c.rs F vs' _ hrs hres]
      exact ⟨rfl, hw'.trans hfr (fun _ _ f => f)⟩
    · rename_i ta tr ψ ef
      obtain ⟨hs, hv⟩ := bif_none hv
      split at hv
      · cases hv
      rename_i x hx
      split at hv
      · cases hv
      rename_i y hy
      have hf := h.eval f
      rw [ef] at hf
      obtain ⟨v, e1, _, hcall⟩ := hf
      simp only [List.cons.injEq, and_true] at e1
      subst e1
      obtain ⟨cs, hcs, hrd⟩ := readArgs_rel (C := B.at σ w H φ) hE h.reads ta (xs.toList.map σ.eval) (xs.toList.map a.eval) x hx (evals h xs.toList)
      obtain ⟨g, caps, ev, he, _⟩ := hcall w (Agree.refl _ _) h.mem.tabs _ cs x y hcs hrd hy
      refine fin (tr.valV y) _ hv (toA_valV hs y) fun w' hw' => ?_
      obtain ⟨g', caps', ev', he', hc'⟩ := hcall w' (hw'.agree _ fun _ _ _ f => f) (hw'.tabs h.mem.tabs) _ cs x y hcs (RdC.agree (Z' := fun _ => True) (hw'.agree _ fun _ _ _ f => f) (fun _ _ _ => trivial) _ _ _ hrd) hy
      unfold Oper.quietAt
      rw [run_call_value (P := B.P) ho ev' he']
      refine ⟨rfl, ?_⟩
      have e : (xs.toList.map a.eval).toArray = xs.map a.eval := by
        apply Array.ext'; simp
      rw [e] at hc'
      exact hc'.mono fun e' w'' ⟨h1, h2⟩ => ⟨h1, hw'.trans h2 (fun _ _ f => f)⟩
    · cases hv
  · cases hv

/-- the operations of such a region -/
theorem evOpsQ_ok (hE : EnvOK B.P E) {ops : Array Oper} {k : St → Option ρ} {r : ρ} {ds : List Deferred} {Q : Act → Prop} (hQ : ∀ σ' a', k σ' = some r → Rel B σ' a'.tmps w H φ → a'.defers = ds → Q a') :
    ∀ (rest : List Oper) (σ : St) (a : Act), Rel B σ a.tmps w H φ → a.defers = ds → evOpsG (evOpQ E) ops.toList rest σ k = some r → wpQuiet B.P ops (fun w' => Fr NoB w w') Q rest a
  | [], σ, a, h, hd, hv => hQ σ a hv h hd
  | o :: rest, σ, a, h, hd, hv => by
    have go : Region.wanted o (yielded ops a.tmps) = true → evOpQ E o σ (fun σ' => evOpsG (evOpQ E) ops.toList rest σ' k) = some r → wpQuiet B.P ops (fun w' => Fr NoB w w') Q (o :: rest) a := by
      intro hw hv
      unfold wpQuiet
      rw [if_pos hw]
      exact Oper.quiet_mono (fun a' ⟨σ', hk, hr, hd'⟩ => evOpsQ_ok hE hQ rest σ' a' hr (hd'.trans hd) hk) (evOpQ_ok hE h hv)
    have skip : Region.wanted o (yielded ops a.tmps) = false → evOpsG (evOpQ E) ops.toList rest (σ.put o.dst (.tup [])) k = some r → wpQuiet B.P ops (fun w' => Fr NoB w w') Q (o :: rest) a := by
      intro hw hv
      unfold wpQuiet
      rw [if_neg (by simp [hw])]
      exact evOpsQ_ok hE hQ rest _ _ (Rel.put h o.dst undefRel) ((put_defers a o.dst undef).trans hd) hv
    simp only [evOpsG] at hv
    split at hv
    · rename_i hg
      exact go (by simp [Region.wanted, hg]) hv
    · rename_i j want hg
      split at hv
      · cases hv
      rename_i d hd'
      split at hv
      · rename_i b hb
        have hy := yielded_bool h hd' hb
        cases b with
        | true =>
          simp only [cond_true, St.set_get hb] at hv
          cases want with
          | true => exact go (by simp [Region.wanted, hg, hy]) hv
          | false => exact skip (by simp [Region.wanted, hg, hy]) hv
        | false =>
          simp only [cond_false, St.set_get hb] at hv
          cases want with
          | true => exact skip (by simp [Region.wanted, hg, hy]) hv
          | false => exact go (by simp [Region.wanted, hg, hy]) hv
      · rename_i hb
        have hy := yielded_tup h hd' hb
        exact skip (by simp [Region.wanted, hg, hy]) hv
      · cases hv

theorem evOpT_ok (hE : EnvOK B.P E) (h : Rel B σ a.tmps w H φ) {o : Oper} {k : St → Option ρ} {r : ρ} (hv : evOpT E o σ k = some r) :
    ∃ u σ', k σ' = some r ∧ Rel B σ' (a.put o.dst u).tmps w H φ ∧ ∀ w', Fr NoB w w' → (execOp a.eval o).run B.P w' = .ok (.value u) w' := by
  unfold evOpT at hv
  split at hv
  · rename_i g v ho
    obtain ⟨rfl, hv⟩ := bif_none hv
    obtain ⟨u, hr, hrun⟩ := opVal_ok hE h o ho
    exact ⟨u, _, hv, Rel.put h o.dst hr, hrun⟩
  · split at hv
    · rename_i c x y ho
      split at hv
      · rename_i b hc
        have hb := h.bool hc
        cases b with
        | true => exact ⟨a.eval x, _, hv, Rel.put h o.dst (h.eval x), fun w' _ => by simp [execOp, ho, hb, asBool]⟩
        | false => exact ⟨a.eval y, _, hv, Rel.put h o.dst (h.eval y), fun w' _ => by simp [execOp, ho, hb, asBool]⟩
      · cases hv
    · cases hv

/-- one operation that writes nothing of what was there -/
theorem evOpS_ok (hE : EnvOK B.P E) (hpar : E.par = B.par) (hB : B.R = NoB) (hA : RelA B σ a w) {o : Oper} {k : St → Option ρ} {r : ρ} (hv : evOpS E o σ k = some r) (Q : Exit → Act → World → Prop) : o.wp B.P a w (fun a' w' => Next B k r a' w' ∧ Fr NoB w w') Q := by
  have plain : evOpT E o σ k = some r → o.wp B.P a w (fun a' w' => Next B k r a' w' ∧ Fr NoB w w') Q := by
    intro hv
    obtain ⟨hdef, H, φ, h⟩ := hA
    obtain ⟨u, σ', hk, hr, hrun⟩ := evOpT_ok hE h hv
    exact wp_val (hrun w (Fr.refl _ _)) ⟨⟨σ', hk, by rw [put_defers]; exact hdef, H, φ, hr⟩, Fr.refl _ _⟩
  unfold evOpS at hv
  split at hv
  · rename_i t len parts ho
    have hv0 : (bif deepT E t then none else evOp E o σ k) = some r := hv
    have hdt : deepT E t = false := by
      cases hq : deepT E t with
      | false => rfl
      | true => rw [hq] at hv0; cases hv0
    rw [hdt] at hv0
    simp only [cond_false] at hv0
    have hv' := hv0
    unfold evOp at hv'
    split at hv'
    · rename_i g v hov
      rw [ho] at hov
      simp [opVal] at hov
    · rw [ho] at hv'
      simp only at hv'
      split at hv'
      · rename_i d ti hd ht
        split at hv'
        · rename_i e hdesc
          split at hv'
          · rename_i te ty he hty
            obtain ⟨hg, hv'⟩ := bif_none hv'
            obtain ⟨hsz, hbig⟩ := and_b hg
            split at hv'
            · rename_i z hz
              split at hv'
              · rename_i zs hzs
                obtain ⟨hzl, hv'⟩ := bif_none hv'
                split at hv'
                · rename_i cs hf
                  have hdE : deepE E e = false := by simpa [deepT, ht, hdesc] using hdt
                  rw [hdE] at hv'
                  simp only [cond_false] at hv'
                  split at hv'
                  · rename_i xs hu
                    exact eo_buildSlice hE hA ho hd ht hdesc he (by simpa using hsz) (of_decide_eq_true hbig) hz hzs (by simpa using hzl) hf hu hv' Q
                  · cases hv'
                · cases hv'
              · cases hv'
            · cases hv'
          · cases hv'
        · cases hv'
      · cases hv'
  · rename_i f xs ts ho
    obtain ⟨hq, hv⟩ := bif_none hv
    unfold evOp at hv
    split at hv
    · rename_i g v hov
      rw [ho] at hov
      simp [opVal] at hov
    · rw [ho] at hv
      simp only at hv
      split at hv
      · rename_i d hd
        exact Oper.wp_next (fun _ _ h => ⟨h.1, h.2 hq⟩) (eo_call hE hpar hB hA ho hd hv Q)
      · cases hv
  · exact plain hv

/-- a region whose order is open, with operations that make memory -/
theorem evH_ok (hE : EnvOK B.P E) (hpar : E.par = B.par) (hB : B.R = NoB) {ops : Array Oper} (hs : Region.noSelect ops = true) {k : St → Option ρ} {r : ρ} {Q : Exit → Act → World → Prop} (hQ : ∀ σ' a' w', k σ' = some r → RelA B σ' a' w' → Q .normal a' w') (w0 : World) :
    ∀ (n : Nat) (ph : Bool) (listed : Array Bool) (σ : St) (a : Act) (w : World), RelA B σ a w → Fr NoB w0 w → (ph = false → w = w0) → evH E ops n ph listed σ k = some r → wpAnyH B.P .any ops (NoPanic Q) (fun w' => Fr NoB w0 w') n listed a w
  | 0, ph, listed, σ, a, w, hA, hS, hph, hv => by
    unfold evH at hv
    split at hv
    · rename_i hr
      exact wpAnyH_done hr (NoPanic.normal (hQ σ a w hv hA)) 0
    · cases hv
  | n + 1, ph, listed, σ, a, w, hA, hS, hph, hv => by
    unfold evH at hv
    split at hv
    · rename_i hr
      exact wpAnyH_done hr (NoPanic.normal (hQ σ a w hv hA)) _
    · rename_i i rs hr
      split at hv
      · rename_i j hj
        cases ph with
        | true => simp at hj
        | false =>
          have hw := hph rfl
          subst hw
          simp only [cond_false] at hj
          have hmem := List.mem_of_find?_eq_some hj
          have htk := List.find?_some hj
          unfold takeB at htk
          obtain ⟨hfree, htk⟩ := and_b htk
          split at hv
          · rename_i o ho
            rw [ho] at htk
            simp only at htk
            obtain ⟨hgd, _⟩ := and_b htk
            have hgd : o.guard = none := by simpa using hgd
            obtain ⟨hdef, H, φ, h⟩ := hA
            obtain ⟨u, σ', hk, hrel, hrun⟩ := evOpT_ok hE h hv
            refine wpAnyH_take ho hs hfree (by rw [hr]; simpa using hmem) (fun _ _ _ h => h) (.inl ⟨by simp [Region.wanted, hgd], fun w' hw' => hrun w' hw'⟩) hS ?_
            exact evH_ok hE hpar hB hs hQ w n false _ σ' _ w ⟨by rw [put_defers]; exact hdef, H, φ, hrel⟩ hS (fun _ => rfl) hk
          · cases hv
      · split at hv
        · split at hv
          · rename_i o ho
            obtain ⟨hgd, hv⟩ := bif_none hv
            have hgd : o.guard = none := by simpa using hgd
            refine wpAnyH_all hr (by simp) (fun q hq => ?_)
            have hqi : q = i := by simpa using hq
            subst hqi
            unfold wpOp
            rw [ho]
            simp only
            rw [if_pos (by simp [Region.wanted, hgd])]
            refine .inl (Oper.wp_next (fun a' w' hn => ?_) (evOpS_ok hE hpar hB hA hv (NoPanic Q)))
            obtain ⟨⟨σ', hk, hA'⟩, hfr⟩ := hn
            have hS' : Fr NoB w0 w' := hS.trans hfr (fun _ _ f => f)
            exact ⟨hS', evH_ok hE hpar hB hs hQ w0 n true _ σ' a' w' hA' hS' (fun h => by cases h) hk⟩
          · cases hv
        · cases hv

/-- a region -/
theorem evRegion_ok (hm : B.P.follows .mixedOrders = true) (hE : EnvOK B.P E) (hpar : E.par = B.par) (hB : B.R = NoB) {id : Nat} {ops : Array Oper} {draw : Bool} {k : St → Option ρ} {r : ρ} {Q : Exit → Act → World → Prop} (hQ : ∀ σ' a' w', k σ' = some r → RelA B σ' a' w' → Q .normal a' w')
    (hA : RelA B σ a w) (hv : (bif draw then (bif ops.toList.all (quietOp E) then (bif Region.lexB .any ops then evOpsG (evOpQ E) ops.toList ops.toList σ k else none)
        else (bif Region.noSelect ops then evH E ops ops.size false (Array.replicate ops.size false) σ k else none)) else evOpsG (evOp E) ops.toList ops.toList σ fun σ' => closeAll E (opnNames σ'.blks) σ' fun σ2 => settleAll E id σ2 k) = some r) : (Code.region id ops draw).wp B.P Q a w := by
  cases draw with
  | false =>
    refine wp_region_list (evOps_ok hE hpar hB (fun σ' a' w' hk hA' => ?_) ops.toList σ a w hA hv)
    obtain ⟨hdef, H, φ, h⟩ := hA'
    obtain ⟨σ2, H2, φ2, hk2, h2⟩ := closeAll_ok hpar _ h hk
    obtain ⟨σ3, hk3, h3⟩ := settleAll_ok h2 hk2
    exact hQ σ3 a' w' hk3 ⟨hdef, H2, φ2, h3⟩
  | true =>
    simp only [cond_true] at hv
    cases hq : ops.toList.all (quietOp E) with
    | true =>
      rw [hq] at hv
      simp only [cond_true] at hv
      obtain ⟨hB', hv⟩ := bif_none hv
      obtain ⟨hdef, H, φ, h⟩ := hA
      refine wp_region_quiet (C := fun w' => Fr NoB w w') hm hB' ⟨rfl, rfl, rfl, Nat.le_refl _, fun _ _ _ => rfl, fun _ _ _ => rfl⟩ ?_
      refine evOpsQ_ok hE (ds := []) (fun σ' a' hk hr hd w' hw' => hQ σ' a' w' hk ⟨hd, H, φ, ?_⟩) ops.toList σ a h hdef hv
      exact (Rel.step (B := B) (R1 := B.R) (R2 := B.R) hr (by rw [hB]; exact hw') (fun i hi => by rw [hB] at hi; exact hi.elim)).1
    | false =>
      rw [hq] at hv
      simp only [cond_false] at hv
      obtain ⟨hs, hv⟩ := bif_none hv
      obtain ⟨hdef, H, φ, h⟩ := hA
      refine wp_region_noPanic (wp_region_held_drew (S := fun w' => Fr NoB w.drew w') hm (Fr.refl _ _) (fun hS => ?_))
      refine evH_ok hE hpar hB hs hQ w.drew _ false _ σ a w.drew ⟨hdef, H, φ, ?_⟩ (Fr.refl _ _) (fun _ => rfl) hv
      exact (Rel.step (B := B) (R1 := B.R) (R2 := B.R) h (by rw [hB]; exact drew_fr w) (fun i hi => by rw [hB] at hi; exact hi.elim)).1

end
end Go.Proofs.Ytbdnmfiaghhhiaa
