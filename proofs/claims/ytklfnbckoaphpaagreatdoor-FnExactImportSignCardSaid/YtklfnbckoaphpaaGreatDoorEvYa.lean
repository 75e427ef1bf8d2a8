/- Calls that are held back: one of them. No conditions. -/
import Derived.Test.YtklfnbckoaphpaaGreatDoorEvY
set_option linter.unusedVariables false
set_option linter.unusedSimpArgs false
namespace Go.Proofs.YtklfnbckoaphpaaGreatDoor
open Go

/-- whatever an operation does, it ends by filling its temporary -/
theorem Oper.wp_put {P : Program} {o : Oper} {a : Act} {w : World} {K : Act → World → Prop} {Q : Exit → Act → World → Prop} (h : o.wp P a w K Q) :
    o.wp P a w (fun a' w' => K a' w' ∧ ∃ u, a'.tmps = (a.put o.dst u).tmps) Q := by
  unfold Oper.wp at *
  generalize (execOp a.eval o).run P w = res at *
  unfold Oper.upon at *
  split
  · exact ⟨h, _, rfl⟩
  · exact ⟨h, _, rfl⟩
  · refine ⟨h, undef, ?_⟩
    cases o.dst <;> rfl
  · refine Calls.mono h fun e w' he => ?_
    cases e with
    | returned v => exact ⟨he, _, rfl⟩
    | panicked c => exact he
    | outgrown => exact he
  · exact Rows.mono h fun v w' he => ⟨he, _, rfl⟩
  · exact h
  · split at h <;> simp_all

theorem evalSame {a a' : Act} : ∀ {x : Operand}, (∀ t ∈ operTmps x, a'.tmps.getD t undef = a.tmps.getD t undef) → a'.eval x = a.eval x
  | .tmp t, h => h t (by simp [operTmps])
  | .const _, _ => rfl
  | .global _, _ => rfl
  | .func _, _ => rfl

section
variable {ρ : Type} {B : Base} {E : Env} {σ : St} {a : Act} {tm : Array Value} {w w' : World} {H : Nat → Option Value} {φ : Nat → Nat → Prop}

/-- results bear their names; what others own stays set aside -/
theorem mkRess_keep : ∀ (rs : List (PK × Ty)) (z : Sig.den rs) (vs : List Value) (n : Nat) (σ : St) (H : Nat → Option Value) (φ : Nat → Nat → Prop) (Fc R0 : Nat → Prop) (xs : List A) (σ' : St),
    Rel (B.on fun b => Fc b ∨ R0 b) σ tm w H φ → mkRess rs z n σ = some (xs, σ') → n % 64 + rs.length ≤ 63 → Holds B.P w NoB Fc rs vs z → (∀ b, Fc b → ¬ R0 b) → (∀ b, Fc b → B.w0.heap.size ≤ b) →
    ∃ H' φ', Rel (B.on R0) σ' tm w H' φ' ∧ (∀ m u, m < n → H m = some u → H' m = some u) ∧ All2 (ARel ((B.on R0).at σ' w H' φ')) xs vs
  | [], z, vs, n, σ, H, φ, Fc, R0, xs, σ', h, hm, hn, hh, hFR, hF => by
    simp only [mkRess, Option.some.injEq, Prod.mk.injEq] at hm
    obtain ⟨rfl, rfl⟩ := hm
    obtain rfl : vs = [] := hh
    exact ⟨H, φ, (Rel.step (B := B) (R2 := R0) h (Fr.refl _ w) (fun i hi => ⟨.inl (.inr hi), (h.mem.rsub i (.inr hi)).2⟩)).1, fun _ _ _ h => h, trivial⟩
  | p :: rs, z, vs, n, σ, H, φ, Fc, R0, xs, σ', h, hm, hn, hh, hFR, hF => by
    simp only [mkRess] at hm
    split at hm
    · cases hm
    rename_i A1 σ1 hm1
    split at hm
    · cases hm
    rename_i xs1 σ2 hm2
    simp only [Option.some.injEq, Prod.mk.injEq] at hm
    obtain ⟨rfl, rfl⟩ := hm
    simp only [List.length_cons] at hn
    have parts : ∃ v r, ∃ F1 F2 : Nat → Prop, vs = v :: r ∧ (∀ b, F1 b → Fc b) ∧ (∀ b, F2 b → Fc b) ∧ (∀ b, F1 b → ¬ F2 b) ∧
        ((∃ t, ∃ e : p = (.val, t), RdV B.P t w NoB v (cast (by rw [e]) (Sig.hd p rs z))) ∨ ∃ d t, ∃ e : p = (.io d, t), OwTop B.P d t w NoB F1 v (cast (by rw [e]) (Sig.hd p rs z))) ∧ Holds B.P w NoB F2 rs r (Sig.tl p rs z) := by
      obtain ⟨k, t⟩ := p
      cases k with
      | val =>
        obtain ⟨v, r, e, h1, h2⟩ := hh
        exact ⟨v, r, NoB, Fc, e, fun _ f => f.elim, fun _ h => h, fun _ f => f.elim, .inl ⟨t, rfl, h1⟩, h2⟩
      | io d =>
        obtain ⟨v, r, F1, F2, e, s1, s2, s3, h1, h2⟩ := hh
        exact ⟨v, r, F1, F2, e, s1, s2, s3, .inr ⟨d, t, rfl, h1⟩, h2⟩
      | eat d => simp [mkRes] at hm1
    obtain ⟨v, r, F1, F2, rfl, s1, s2, s3, hx, hrest⟩ := parts
    obtain ⟨H1, φ1, k1, k2, k3, k4⟩ := mkRes_ok (B := B) (F2 := fun b => F2 b ∨ R0 b) (Z' := NoB) h hm1 (by omega) (fun b hb => .inl (s1 b hb)) (fun b hb => hb.imp (s2 b) id) (fun b hb hb' => hb'.elim (s3 b hb) (hFR b (s1 b hb))) (fun b hb => .inl (hF b (s1 b hb))) (fun _ _ f => f.elim) hx
    obtain ⟨H', φ', i1, i2, i4⟩ := mkRess_keep rs _ r (n + 1) σ1 H1 φ1 F2 R0 xs1 σ2 k1 hm2 (by omega) hrest (fun b hb => hFR b (s2 b hb)) (fun b hb => hF b (s2 b hb))
    exact ⟨H', φ', i1, fun m u hm hu => i2 m u (by omega) (k2 m u hm hu), k4 _ rfl rfl (fun _ _ f => f.elim) (fun u hu => i2 n u (by omega) hu), i4⟩

theorem finOne_ok {F R0 : Nat → Prop} (h : Rel (B.on fun b => F b ∨ R0 b) σ tm w H φ) {hd : Held} (hl : hd.rs.length ≤ 63) {v : Value} {vs : List Value} (ht : Tupled vs v) (hh : Holds B.P w NoB F hd.rs vs hd.z) (hFR : ∀ b, F b → ¬ R0 b) (hF : ∀ b, F b → B.w0.heap.size ≤ b)
    {k : St → Option ρ} {r : ρ} (hv : finOne hd σ k = some r) : ∃ σ', k σ' = some r ∧ ∃ H' φ', Rel (B.on R0) σ' (tm.setIfInBounds hd.d v) w H' φ' := by
  unfold finOne at hv
  split at hv
  · cases hv
  rename_i xs σ' hm
  split at hv
  · cases hv
  rename_i x hp
  obtain ⟨H', φ', h1, _, h2⟩ := mkRess_keep hd.rs hd.z vs (hd.d * 64) σ H φ F R0 xs σ' h hm (by omega) hh hFR hF
  exact ⟨_, hv, H', φ', Rel.set h1 hd.d (packA_rel hp h2 ht)⟩

/-- a call that is held back may be carried out whenever it comes up -/
theorem heldOne_ok (hE : EnvOK B.P E) (h : Rel B σ a.tmps w H φ) {j : Nat} {o : Oper} {k : Held → Option ρ} {r : ρ} (hv : heldOne E σ j o k = some r) :
    ∃ hd : Held, k hd = some r ∧ hd.j = j ∧ o.dst = some hd.d ∧ o.guard = none ∧ hd.rs.length ≤ 63 ∧ ∀ (a' : Act) (w' : World) (Q : Exit → Act → World → Prop), (∀ t ∈ opUses o.op, a'.tmps.getD t undef = a.tmps.getD t undef) → (hd.free = false → Fr NoB w w') →
      o.wp B.P a' w' (fun a'' w'' => ∃ v vs, ∃ F : Nat → Prop, a'' = a'.put o.dst v ∧ Tupled vs v ∧ Fr NoB w' w'' ∧ (∀ b, F b → w'.heap.size ≤ b ∧ b < w''.heap.size) ∧ Holds B.P w'' NoB F hd.rs vs hd.z) Q := by
  unfold heldOne at hv
  split at hv
  · rename_i f xs ts d ho hdst
    split at hv
    · rename_i g caps ef
      split at hv
      · cases hv
      rename_i c hc
      have hv0 := bif_none hv
      clear hv
      obtain ⟨hg, hv⟩ := hv0
      obtain ⟨hg, hlen⟩ := and_b hg
      obtain ⟨hg, hrs⟩ := and_b hg
      obtain ⟨hgd, hps⟩ := and_b hg
      have hps : c.ps.all isVal = true := hps
      split at hv
      · cases hv
      rename_i x hx
      split at hv
      · cases hv
      rename_i y hy
      refine ⟨_, hv, rfl, hdst, by simpa using hgd, of_decide_eq_true hlen, fun a' w' Q hsame hw0 => ?_⟩
      have hw' : Fr NoB w w' := hw0 rfl
      have hf := h.eval f
      rw [ef] at hf
      obtain ⟨cv, hf1, hf2⟩ := hf
      have hok := hE.con g c hc
      have hargs : All2 (ARel (B.at σ w H φ)) (xs.toList.map σ.eval ++ caps.map capA) (xs.toList.map a.eval ++ cv.toList) := (evals h xs.toList).append (capA_rel hf2)
      have hh := handed_vals c.ps (xs.toList.map σ.eval ++ caps.map capA) hps
      obtain ⟨hold, _⟩ := readPs_rel (Zc := fun _ => True) hE h (fun _ _ _ => trivial) h.reads c.ps _ _ x (by rw [hh]; rfl) hx hargs
      rw [hh] at hold
      have hz : (writePs c.ps (xs.toList.map σ.eval ++ caps.map capA) c.rs y σ).2 = Sig.snd (Sig.ios c.ps) c.rs y := by
        rw [writePs_none c.ps _ c.rs y σ hh (readPs_length hx)]
      rw [ho] at hsame
      have ef' : a'.eval f = a.eval f := evalSame fun t ht => hsame t (by simp [opUses, ht])
      have ex' : ∀ x ∈ xs.toList, a'.eval x = a.eval x := fun x hx => evalSame fun t ht => hsame t (by simp only [opUses, List.mem_append, List.mem_flatMap]; exact .inr ⟨x, hx, ht⟩)
      have exs : xs.map a'.eval = xs.map a.eval := by
        apply Array.ext'
        simp only [Array.toList_map]
        exact List.map_congr_left ex'
      have hold' : Holds B.P w' (fun _ => True) NoB c.ps (xs.toList.map a.eval ++ cv.toList) x := by
        have h1 : Holds B.P w (fun _ => True) NoB c.ps (xs.toList.map a.eval ++ cv.toList) x := by
          have : (fun b => ∃ n ∈ ([] : List Nat), φ n b) = NoB := by funext b; simp
          rw [← this]; exact hold
        exact holds_agree (fun _ _ _ => trivial) (hw'.agree _ fun _ _ _ f => f) _ _ _ _ (agree_none _ _ hw'.size) h1
      have e : (xs.toList.map a.eval ++ cv.toList).toArray = xs.map a.eval ++ cv := by
        apply Array.ext'; simp
      have hcall := hok.calls w' (fun _ => True) NoB _ x y hy (fun _ f => f.elim) (fun _ f => f.elim) hold' (hw'.tabs h.mem.tabs) (fun _ f => f.elim)
      rw [e] at hcall
      refine wp_enter (run_call_value ho (ef'.trans hf1) hok.enters) ?_
      rw [exs]
      refine hcall.mono ?_
      rintro e' w'' ⟨v', vs', F, G, rfl, htup, _, hfr, hF, hG, _, _, hres⟩
      refine ⟨v', rfl, v', vs', F, rfl, htup, hfr, fun b hb => ⟨?_, (hF b hb).2⟩, ?_⟩
      · rcases (hF b hb).1 with q | ⟨q, _⟩
        · exact q
        · exact q.elim
      · show Holds B.P w'' NoB F c.rs vs' (writePs c.ps (xs.toList.map σ.eval ++ caps.map capA) c.rs y σ).2
        rw [hz]
        exact holds_closed _ _ _ _ hrs hres
    · cases hv
  · rename_i t len parts d ho hdst
    split at hv
    · cases hv
    rename_i ti ht
    split at hv
    · rename_i e hdesc
      split at hv
      · rename_i te ty he hty
        have hv0 := bif_none hv
        clear hv
        obtain ⟨hg, hv⟩ := hv0
        obtain ⟨hg, hbig⟩ := and_b hg
        obtain ⟨hg, hsz⟩ := and_b hg
        obtain ⟨hgd, hscal⟩ := and_b hg
        have hsz : te.size = ty.cells := by simpa using hsz
        have hbig := of_decide_eq_true hbig
        split at hv
        · cases hv
        rename_i z hz
        split at hv
        · cases hv
        rename_i zs hzs
        have hv1 := bif_none hv
        clear hv
        obtain ⟨hzl, hv⟩ := hv1
        have hzl : zs.length = te.size := by simpa using hzl
        split at hv
        · cases hv
        rename_i cs hf
        split at hv
        · cases hv
        rename_i xs hu
        have hzr : All2 (CellRel (B.at σ w H φ)) zs z.cells.toList := constCells_rel hzs
        have hzo : z.cells.size = te.size := by have := hzr.length; rw [hzl] at this; simpa using this.symm
        have hrep : All2 (CellRel (B.at σ w H φ)) (repCells len zs) (repV z.cells len te.size).toArray.toList := by simpa using rep_rel hzo hzr len
        obtain ⟨us', f1, f2⟩ := fillL_rel (zs := zs) h hf hrep
        obtain ⟨l1, l2, l3⟩ := unflatL_rel (Reads.nil (C := B.at σ w H φ)) ty len cs xs us'.toList hu f2
        have hrun : ∀ w', (execOp a.eval o).run B.P w' = .ok (.value (.slice (some ⟨w'.heap.size, 0, none⟩) len len)) (w'.alloc (.cells us' e)) := by
          intro w'
          have hn : ¬ (len * te.size > 16777216) := by omega
          have harr : ((Array.range (len * te.size)).map (z.cells[· % z.cells.size]!)) = (repV z.cells len te.size).toArray := by
            apply Array.ext'
            rw [repV_arr z.cells len te.size hzo]
          have f1' : Instr.fill (fun i => some (i * te.size, te.size)) (repV z.cells len te.size).toArray ((parts.map fun x => (x.1, a.eval x.2)).toList) = some us' := by simpa using f1
          by_cases hn0 : len * te.size = 0
          · have hrep : repV z.cells len te.size = [] := List.eq_nil_of_length_eq_zero (by rw [repV_len]; exact hn0)
            rw [hrep] at f1'
            simp only [execOp, ho, Sem.run_bind, Instr.buildSlice, hE.under ht, hdesc, Result.andThen_ok, hE.size he, hn0, Sem.run_ite, Sem.run_pure, if_true, if_neg (show ¬ (0 > 2 ^ 24) by omega), map_range0]
            have f1'' : Instr.fill (fun i => some (i * te.size, te.size)) #[] ((parts.map fun x => (x.1, a.eval x.2)).toList) = some us' := f1'
            simp only [f1'', Go.newRow, Sem.run_bind, run_newObj, Result.andThen_ok, Sem.run_pure, World.alloc_eq]
          · have hz0 := fun w => hE.zero he hz w
            simp only [execOp, ho, Sem.run_bind, Instr.buildSlice, hE.under ht, hdesc, Result.andThen_ok, hE.size he, Sem.run_ite, Sem.run_pure, if_neg hn0, if_neg (show ¬ (len * te.size > 2 ^ 24) from hn), hz0, harr, f1', Go.newRow, run_newObj, World.alloc_eq]
        refine ⟨_, hv, rfl, hdst, by simpa using hgd, by simp, fun a' w' Q hsame hw' => ?_⟩
        rw [ho] at hsame
        have hparts : (parts.map fun x => (x.1, a'.eval x.2)) = (parts.map fun x => (x.1, a.eval x.2)) := by
          apply Array.ext'
          simp only [Array.toList_map]
          exact List.map_congr_left fun p hp => by rw [evalSame (x := p.2) fun t ht => hsame t (List.mem_flatMap.2 ⟨p, hp, ht⟩)]
        have hex : execOp a'.eval o = execOp a.eval o := by
          unfold execOp
          rw [ho]
          simp only [hparts]
        refine wp_val (by rw [hex]; exact hrun w') ⟨_, [.slice (some ⟨w'.heap.size, 0, none⟩) len len], fun b => b = w'.heap.size, rfl, rfl, alloc_fr w' _, fun b hb => by subst hb; exact ⟨Nat.le_refl _, (Array.getElem?_eq_some_iff.1 (heap_alloc_new w' _)).1⟩, ?_⟩
        have key : RowOf B.P false true ty (w'.alloc (.cells us' e)) NoB (fun b => b = w'.heap.size) (.slice (some ⟨w'.heap.size, 0, none⟩) len len) xs :=
          ⟨some ⟨w'.heap.size, 0, none⟩, len, by rw [l1], by rw [l1]; exact Nat.le_refl _, .inr ⟨w'.heap.size, us', e, rfl, rfl, heap_alloc_new w' _, by have := l2; simp at this; omega, fun _ => NoB, fun _ _ f => f.elim, fun _ _ _ _ f => f.elim, fun i hi =>
            (OwC.scal ty hscal _ _).2 ((RdC.scal ty hscal _ _).1 (l3 i hi))⟩⟩
        exact ⟨_, [], fun b => b = w'.heap.size, NoB, rfl, fun _ h => h, fun _ f => f.elim, fun _ _ f => f, key, rfl⟩
      · cases hv
    · cases hv
  · rename_i t d ho hdst
    split at hv
    · rename_i ti ty ht hty
      have hv0 := bif_none hv
      clear hv
      obtain ⟨hg, hv⟩ := hv0
      obtain ⟨hgd, hscal⟩ := and_b hg
      split at hv
      · cases hv
      rename_i z hz
      split at hv
      · cases hv
      rename_i zs hzs
      split at hv
      · rename_i x hu
        have hzr : All2 (CellRel (B.at σ w H φ)) zs z.cells.toList := constCells_rel hzs
        obtain ⟨u1, u2, e1, h1, h2⟩ := unflat_rel (Reads.nil (C := B.at σ w H φ)) ty zs x [] z.cells.toList hu hzr
        have e2 : u2 = [] := by cases u2 with | nil => rfl | cons _ _ => exact h2.elim
        subst e2
        rw [List.append_nil] at e1
        have hrun : ∀ w', (execOp a.eval o).run B.P w' = .ok (.value (.pointer (some ⟨w'.heap.size, 0, none⟩))) (w'.alloc (.cells z.cells t)) := by
          intro w'
          simp [execOp, ho, Instr.alloc, hE.zero ht hz, newVar, Go.newRow]
        refine ⟨_, hv, rfl, hdst, by simpa using hgd, by simp, fun a' w' Q hsame hw' => ?_⟩
        have hex : execOp a'.eval o = execOp a.eval o := by
          unfold execOp
          rw [ho]
        refine wp_val (by rw [hex]; exact hrun w') ⟨_, [.pointer (some ⟨w'.heap.size, 0, none⟩)], fun b => b = w'.heap.size, rfl, rfl, alloc_fr w' _, fun b hb => by subst hb; exact ⟨Nat.le_refl _, (Array.getElem?_eq_some_iff.1 (heap_alloc_new w' _)).1⟩, ?_⟩
        have key : OwTop B.P true (.ptr ty) (w'.alloc (.cells z.cells t)) NoB (fun b => b = w'.heap.size) (.pointer (some ⟨w'.heap.size, 0, none⟩)) x :=
          ⟨w'.heap.size, z.cells, t, NoB, rfl, rfl, heap_alloc_new w' _, fun _ f => f.elim, (OwC.scal ty hscal _ _).2 (by rw [e1]; exact (RdC.scal ty hscal _ _).1 h1)⟩
        exact ⟨_, [], fun b => b = w'.heap.size, NoB, rfl, fun _ h => h, fun _ f => f.elim, fun _ _ f => f, key, rfl⟩
      · cases hv
    · cases hv
  · rename_i t d ho hdst
    split at hv
    · cases hv
    split at hv
    · split at hv
      · rename_i kty vty hkt hvt
        obtain ⟨hgd, hv⟩ := bif_none hv
        refine ⟨_, hv, rfl, hdst, by simpa using hgd, by simp, fun a' w' Q hsame hw' => ?_⟩
        have hrun : (execOp a'.eval o).run B.P w' = .ok (.value (.map (some w'.heap.size))) (w'.alloc (.map #[] 0)) := by
          simp [execOp, ho, Instr.makeMap]
        refine wp_val hrun ⟨_, [.map (some w'.heap.size)], fun b => b = w'.heap.size, rfl, rfl, alloc_fr w' _, fun b hb => by subst hb; exact ⟨Nat.le_refl _, (Array.getElem?_eq_some_iff.1 (heap_alloc_new w' _)).1⟩, ?_⟩
        exact ⟨_, [], fun b => b = w'.heap.size, NoB, rfl, fun _ h => h, fun _ f => f.elim, fun _ _ f => f, ⟨w'.heap.size, #[], 0, rfl, rfl, heap_alloc_new w' _, trivial⟩, rfl⟩
      · cases hv
    · cases hv
  · cases hv

/-- an operation that makes memory while calls are held back -/
theorem evOpM_ok (hE : EnvOK B.P E) (hpar : E.par = B.par) (hA : RelA B σ a w) {o : Oper} {k : St → Option ρ} {r : ρ} (hv : evOpM E o σ k = some r) (Q : Exit → Act → World → Prop) : o.wp B.P a w (fun a' w' => Next B k r a' w' ∧ (writesOp E o.op = false ∨ nilFirst σ o.op = true → Fr NoB w w') ∧ KeepR B w w') Q := by
  unfold evOpM at hv
  cases hm : makesE E o.op with
  | true =>
    rw [hm] at hv
    cases hnf : nilFirst σ o.op with
    | true => exact Oper.wp_next (fun _ _ h => ⟨h.1, fun _ => h.2.1, h.2.2⟩) (evOp_nil hE hA hm hnf hv Q)
    | false =>
    simp only [Bool.false_eq_true, or_false]
    refine Oper.wp_next (fun _ _ h => ⟨h.1, fun hw => h.2.1 ?_, h.2.2 hm⟩) (evOp_any hE hpar hA (.inr hm) hv Q)
    unfold makesE at hm
    rw [Bool.or_eq_true] at hm
    rcases hm with hm | hm
    · exact hm
    · split at hm
      · rename_i ho
        rw [ho] at hw
        simp [writesOp] at hw
      · cases hm
  | false =>
    rw [hm] at hv
    simp only [cond_false] at hv
    cases hwr : writesOp E o.op with
    | true => rw [hwr] at hv; cases hv
    | false =>
    rw [hwr] at hv
    simp only [cond_false] at hv
    obtain ⟨hdef, H, φ, h⟩ := hA
    obtain ⟨hd, hk, _, hdst, _, hl, hrun⟩ := heldOne_ok hE h hv
    refine Oper.wp_next ?_ (hrun a w Q (fun _ _ => rfl) (fun _ => Fr.refl _ _))
    rintro a'' w'' ⟨v, vs, F, rfl, ht, hfr, hF, hh⟩
    refine ⟨?_, fun _ => hfr, hfr.keepR B⟩
    have h1 : Rel (B.on fun b => F b ∨ B.R b) σ a.tmps w'' H φ := (Rel.step (B := B) (R1 := B.R) h hfr.le (fun i hi => by
      rcases hi with hi | hi
      · exact ⟨.inr (hF i hi).1, (hF i hi).2⟩
      · exact ⟨.inl hi, Nat.lt_of_lt_of_le (h.mem.rsub i hi).2 hfr.size⟩)).1
    obtain ⟨σ', hσ, H', φ', hr⟩ := finOne_ok (R0 := B.R) h1 hl ht hh (fun b hb hr => by have := (h.mem.rsub b hr).2; have := (hF b hb).1; omega) (fun b hb => Nat.le_trans h.mem.fr.size (hF b hb).1) hk
    refine ⟨σ', hσ, by rw [put_defers]; exact hdef, H', φ', ?_⟩
    rw [hdst]
    exact hr

end
end Go.Proofs.YtklfnbckoaphpaaGreatDoor
