/- Operations and regions are what the evaluator says. No conditions. -/
import Derived.Test.YtklfnbckoaphpaaGreatDoorEvXd
import Derived.Deep.Quiet
set_option linter.unusedVariables false
set_option linter.unusedSimpArgs false
namespace Go.Proofs.YtklfnbckoaphpaaGreatDoor
open Go

theorem Oper.wp_next {P : Program} {o : Oper} {a : Act} {w : World} {K K' : Act → World → Prop} {Q : Exit → Act → World → Prop} (h : ∀ a w, K a w → K' a w) (hh : o.wp P a w K Q) : o.wp P a w K' Q := by
  unfold Oper.wp at *
  generalize (execOp a.eval o).run P w = res at *
  unfold Oper.upon at *
  split
  · exact h _ _ hh
  · exact h _ _ hh
  · exact h _ _ hh
  · refine Calls.mono hh fun e w' he => ?_
    cases e with
    | returned v => exact h _ _ he
    | panicked c => exact he
    | outgrown => exact he
  · exact Rows.mono hh fun v w' he => h _ _ he
  · exact hh
  · split at hh <;> simp_all

section
variable {ρ : Type} {B : Base} {E : Env} {σ : St} {a : Act} {w : World} {H : Nat → Option Value} {φ : Nat → Nat → Prop}

theorem eo_buildNil (hE : EnvOK B.P E) (hA : RelA B σ a w) {o : Oper} {t d e len : Nat} {parts : Array (Nat × Operand)} {ti te : TInf} {ty : Ty} {z : Value} {zs cs : List Cell} {xs : List ty.den} (ho : o.op = .buildSlice t len parts) (hd : o.dst = some d) (ht : E.T t = some ti) (hdesc : ti.desc = .slice e) (he : E.T e = some te)
    (hsz : te.size = ty.cells) (hbig : len * te.size ≤ 16777216) (hz : te.zero = some z) (hzs : valueCells z = some zs) (hzl : zs.length = te.size) (hf : fillL σ te.size parts.toList (repCells len zs) = some cs) (hu : unflatL ty len cs = some xs)
    {k : St → Option ρ} {r : ρ} (hl0 : len = 0) (hv : k (σ.set d (.c .nil)) = some r) (Q : Exit → Act → World → Prop) : o.wp B.P a w (fun a' w' => Next B k r a' w' ∧ Fr NoB w w') Q := by
  obtain ⟨hdef, H, φ, h⟩ := hA
  have hzr : All2 (CellRel (B.at σ w H φ)) zs z.cells.toList := constCells_rel hzs
  have hzo : z.cells.size = te.size := by have := hzr.length; rw [hzl] at this; simpa using this.symm
  have hrep : All2 (CellRel (B.at σ w H φ)) (repCells len zs) (repV z.cells len te.size).toArray.toList := by simpa using rep_rel hzo hzr len
  obtain ⟨us', f1, f2⟩ := fillL_rel (zs := zs) h hf hrep
  obtain ⟨l1, l2, l3⟩ := unflatL_rel (Reads.nil (C := B.at σ w H φ)) ty len cs xs us'.toList hu f2
  have hrun : (execOp a.eval o).run B.P w = .ok (.value (.slice (some ⟨w.heap.size, 0, none⟩) len len)) (w.alloc (.cells us' e)) := by
    have hn : ¬ (len * te.size > 16777216) := by omega
    have harr : ((Array.range (len * te.size)).map (z.cells[· % z.cells.size]!)) = (repV z.cells len te.size).toArray := by
      apply Array.ext'
      rw [repV_arr z.cells len te.size hzo]
    have f1' : Instr.fill (fun i => some (i * te.size, te.size)) (repV z.cells len te.size).toArray ((parts.map fun x => (x.1, a.eval x.2)).toList) = some us' := by simpa using f1
    by_cases hn0 : len * te.size = 0
    · have hrep : repV z.cells len te.size = [] := List.eq_nil_of_length_eq_zero (by rw [repV_len]; exact hn0)
      rw [hrep] at f1'
      simp only [execOp, ho, Sem.run_bind, Instr.buildSlice, hE.under ht, hdesc, Result.andThen_ok, hE.size he, hn0, Sem.run_ite, Sem.run_pure, if_true, if_neg (show ¬ (0 > 2 ^ 24) by omega), map_range0]
      have f1'' : Instr.fill (fun i => some (i * te.size, te.size)) #[] ((parts.map fun x => (x.1, a.eval x.2)).toList) = some us' := f1'
      simp only [f1'', Go.newRow, Sem.run_bind, run_newObj, Result.andThen_ok, Sem.run_pure, World.alloc_eq]
    · have hz0 := fun w => hE.zero he hz w
      simp only [execOp, ho, Sem.run_bind, Instr.buildSlice, hE.under ht, hdesc, Result.andThen_ok, hE.size he, Sem.run_ite, Sem.run_pure, if_neg hn0, if_neg (show ¬ (len * te.size > 2 ^ 24) from hn), hz0, harr, f1', Go.newRow, run_newObj, World.alloc_eq]
  have hfr := alloc_fr w (.cells us' e)
  have h1 : Rel B σ a.tmps (w.alloc (.cells us' e)) H φ := (Rel.step (B := B) (R1 := B.R) h hfr.le (fun i hi => ⟨.inl hi, Nat.lt_of_lt_of_le (h.mem.rsub i hi).2 hfr.size⟩)).1
  refine wp_val hrun ⟨⟨_, hv, by rw [put_defers]; exact hdef, H, φ, ?_⟩, hfr⟩
  rw [hd, hl0]
  exact Rel.set h1 d ⟨_, rfl⟩
theorem evOp_any (hE : EnvOK B.P E) (hpar : E.par = B.par) (hA : RelA B σ a w) {o : Oper} (hB0 : B.R = NoB ∨ makesE E o.op = true) {k : St → Option ρ} {r : ρ} (hv : evOp E o σ k = some r) (Q : Exit → Act → World → Prop) : o.wp B.P a w (fun a' w' => Next B k r a' w' ∧ (makes o.op = true → Fr NoB w w') ∧ (makesE E o.op = true → KeepR B w w')) Q := by
  have up : ¬ makes o.op = true → ¬ makesE E o.op = true → o.wp B.P a w (Next B k r) Q → o.wp B.P a w (fun a' w' => Next B k r a' w' ∧ (makes o.op = true → Fr NoB w w') ∧ (makesE E o.op = true → KeepR B w w')) Q := fun hn hn2 h => Oper.wp_next (fun _ _ h => ⟨h, fun hm => absurd hm hn, fun hm => absurd hm hn2⟩) h
  have up2 : o.wp B.P a w (fun a' w' => Next B k r a' w' ∧ Fr NoB w w') Q → o.wp B.P a w (fun a' w' => Next B k r a' w' ∧ (makes o.op = true → Fr NoB w w') ∧ (makesE E o.op = true → KeepR B w w')) Q := fun h => Oper.wp_next (fun _ _ h => ⟨h.1, fun _ => h.2, fun _ => h.2.keepR B⟩) h
  unfold evOp at hv
  split at hv
  · rename_i g v ho
    obtain ⟨hdef, H, φ, h⟩ := hA
    obtain ⟨rfl, hv⟩ := bif_none hv
    obtain ⟨u, hr, hrun⟩ := opVal_ok hE h o ho
    exact wp_val (hrun w (fun _ => Fr.refl _ _)) ⟨⟨_, hv, by rw [put_defers]; exact hdef, H, φ, Rel.put h o.dst hr⟩, fun _ => Fr.refl _ _, fun _ => (Fr.refl _ _).keepR B⟩
  rename_i hnone
  clear hnone
  split at hv
  · rename_i c x y ho
    split at hv
    · rename_i b hc
      exact up (by rw [ho]; simp [makes]) (by rw [ho]; simp [makesE, makes]) (eo_pick hA ho hc hv Q)
    · cases hv
  · rename_i t x i ho
    obtain ⟨hdef, H, φ, h⟩ := hA
    obtain ⟨y, hk, u, hr, hrun⟩ := splitIdx_ok hE h ho hv
    exact wp_val (hrun w (fun _ => Fr.refl _ _)) ⟨⟨_, hk, by rw [put_defers]; exact hdef, H, φ, Rel.put h o.dst hr⟩, fun _ => Fr.refl _ _, fun _ => (Fr.refl _ _).keepR B⟩
  · rename_i t ho
    split at hv
    · rename_i d ti hd ht
      split at hv
      · rename_i z hz
        split at hv
        · rename_i zs hzs
          exact up2 (eo_alloc hE hA ho hd ht hz hzs (bif_none hv).2 Q)
        · cases hv
      · cases hv
    · cases hv
  · rename_i t x ho
    split at hv
    · rename_i d hd
      obtain ⟨hp, hv⟩ := bif_none hv
      exact up (by rw [ho]; simp [makes]) (by rw [ho]; simp [makesE, makes]) (eo_box hA ho hd hp hv Q)
    · cases hv
  · rename_i t x v ho
    split at hv
    · cases hv
    rename_i ti ht
    obtain ⟨hg, hv⟩ := bif_none hv
    obtain ⟨hp, hl⟩ := and_b hg
    have hl : (σ.eval v).cells.length = ti.size := by simpa using hl
    split at hv
    · rename_i n off ex
      exact up (by rw [ho]; simp [makes]) (by rw [ho]; simp [makesE, makes]) (eo_store hE hA ho ht hp hl (by rw [ex]; exact hv) Q)
    · rename_i n i off ex
      split at hv
      · rename_i dd ty xs hlk
        cases hb : (!dd || ty.scal) with
        | true =>
          rw [hb] at hv
          simp only [cond_true] at hv
          exact up (by rw [ho]; simp [makes]) (by rw [ho]; simp [makesE, makes]) (eo_store hE hA ho ht hp hl (by rw [ex]; simp only [hlk, hb, cond_true]; exact hv) Q)
        | false =>
          rw [hb] at hv
          simp only [cond_false] at hv
          exact up (by rw [ho]; simp [makes]) (by rw [ho]; simp [makesE, makes]) (eo_storeO hE hA ho ht hp hl ex hv Q)
      · exact up (by rw [ho]; simp [makes]) (by rw [ho]; simp [makesE, makes]) (eo_storeO hE hA ho ht hp hl ex hv Q)
      · exact up (by rw [ho]; simp [makes]) (by rw [ho]; simp [makesE, makes]) (eo_storeO hE hA ho ht hp hl ex hv Q)
      · cases hv
    · cases hv
  · rename_i t ho
    split at hv
    · rename_i d ti hd ht
      split at hv
      · split at hv
        · rename_i kty vty hkt hvt
          exact up2 (eo_makeMap hA ho hd kty vty hv Q)
        · cases hv
      · cases hv
    · cases hv
  · rename_i t m i x ho
    split at hv
    · cases hv
    rename_i ti ht
    split at hv
    · rename_i kt vt n hdesc hm
      split at hv
      · rename_i kty vty k' v' es0 hkt hvt hl
        split at hv
        · rename_i es key y hes hkey hy
          obtain ⟨hg, hv⟩ := bif_none hv
          obtain ⟨hk1, hs⟩ := and_b hg
          exact up (by rw [ho]; simp [makes]) (by rw [ho]; simp [makesE, makes]) (eo_mapUpdate hE hA (.inl ho) ht hdesc hm hkt hl hes hkey hy hk1 hs hv Q)
        · cases hv
      · cases hv
    · cases hv
  · rename_i t m i x ho
    split at hv
    · cases hv
    rename_i ti ht
    split at hv
    · rename_i kt vt n hdesc hm
      split at hv
      · rename_i kty vty k' v' es0 hkt hvt hl
        split at hv
        · rename_i es key y hes hkey hy
          obtain ⟨hg, hv⟩ := bif_none hv
          obtain ⟨hk1, hs⟩ := and_b hg
          exact up (by rw [ho]; simp [makes]) (by rw [ho]; simp [makesE, makes]) (eo_mapUpdate hE hA (.inr ho) ht hdesc hm hkt hl hes hkey hy hk1 hs hv Q)
        · cases hv
      · cases hv
    · cases hv
  · rename_i t x ho
    split at hv
    · rename_i n i off ex
      exact up (by rw [ho]; simp [makes]) (by rw [ho]; simp [makesE, makes]) (eo_loadO hE hpar hA ho ex hv Q)
    · cases hv
  · rename_i src dst x ho
    split at hv
    · rename_i d ts td s hd hts htd hx
      split at hv
      · rename_i e hs hdesc
        split at hv
        · rename_i te he
          split at hv
          · rename_i h8
            exact up2 (eo_conv hE hA ho hd hts htd he hdesc h8 hx hv Q)
          · cases hv
        · cases hv
      · cases hv
    · cases hv
  · rename_i t len parts ho
    split at hv
    · rename_i d ti hd ht
      split at hv
      · rename_i e hdesc
        split at hv
        · rename_i te ty he hty
          obtain ⟨hg, hv⟩ := bif_none hv
          obtain ⟨hsz, hbig⟩ := and_b hg
          split at hv
          · rename_i z hz
            split at hv
            · rename_i zs hzs
              have hv0 := bif_none hv
              clear hv
              obtain ⟨hzl, hv⟩ := hv0
              split at hv
              · rename_i cs hf
                cases hdp : deepE E e with
                | true =>
                  rw [hdp] at hv
                  simp only [cond_true] at hv
                  exact up2 (eo_buildD hE hpar hA ho hd ht hdesc he (by simpa using hsz) (of_decide_eq_true hbig) hz hzs (by simpa using hzl) hf hv Q)
                | false =>
                rw [hdp] at hv
                simp only [cond_false] at hv
                split at hv
                · rename_i xs hu
                  cases hem : empE E && len == 0 with
                  | true =>
                    rw [hem] at hv
                    obtain ⟨_, hl0⟩ := and_b hem
                    exact up2 (eo_buildNil hE hA ho hd ht hdesc he (by simpa using hsz) (of_decide_eq_true hbig) hz hzs (by simpa using hzl) hf hu (by simpa using hl0) hv Q)
                  | false =>
                    rw [hem] at hv
                    exact up2 (eo_buildSlice hE hA ho hd ht hdesc he (by simpa using hsz) (of_decide_eq_true hbig) hz hzs (by simpa using hzl) hf hu hv Q)
                · cases hv
              · cases hv
            · cases hv
          · cases hv
        · cases hv
      · cases hv
    · cases hv
  · rename_i t l c ho
    split at hv
    · rename_i d ti hd ht
      split at hv
      · rename_i e hdesc
        split at hv
        · rename_i te ty k1 lv k2 cv he hty hl hc
          obtain ⟨hg, hv⟩ := bif_none hv
          obtain ⟨hg, hby⟩ := and_b hg
          obtain ⟨hsz, hpos⟩ := and_b hg
          split at hv
          · rename_i z hz
            split at hv
            · cases hv
            rename_i zs hzs
            split at hv
            · rename_i x hu
              have hv0 := bif_none hv
              clear hv
              obtain ⟨hg2, hv⟩ := hv0
              obtain ⟨hg2, h2⟩ := and_b hg2
              obtain ⟨h0, h1⟩ := and_b hg2
              have hsz' : te.size = ty.cells := by simpa using hsz
              have hzo : z.cells.size = te.size := by
                obtain ⟨_, H, φ, h⟩ := hA
                have hzr : All2 (CellRel (B.at σ w H φ)) zs z.cells.toList := constCells_rel hzs
                obtain ⟨u1, u2, eu, q1, q2⟩ := unflat_rel (Reads.nil (C := B.at σ w H φ)) ty zs x [] z.cells.toList hu hzr
                have : u2 = [] := by cases u2 with | nil => rfl | cons _ _ => exact q2.elim
                subst this
                have := (RdC.cells ty u1 x q1).1
                rw [hsz', ← this]
                simpa using congrArg List.length eu
              exact up2 (eo_make hE hA ho hd ht hdesc he hl hc hsz' (of_decide_eq_true hby) hz hzo hzs hu (of_decide_eq_true h0) (of_decide_eq_true h1) (of_decide_eq_true h2) hv Q)
            · cases hv
          · cases hv
        · cases hv
      · cases hv
    · cases hv
  · rename_i xs ts ho
    split at hv
    · rename_i d x y t t' hd hxs hts
      split at hv
      · rename_i ti ti' ht ht'
        split at hv
        · rename_i e hdesc
          obtain ⟨hsrc, hv⟩ := bif_none hv
          have exs : xs = #[x, y] := by rw [← Array.toArray_toList (xs := xs), hxs]
          have ets : ts = #[t, t'] := by rw [← Array.toArray_toList (xs := ts), hts]
          subst exs
          subst ets
          cases hdp : deepE E e with
          | true =>
            have hnm : ¬ makesE E o.op = true := by rw [ho]; simp [makesE, makes, deepT, ht, hdesc, hdp]
            have hB : B.R = NoB := hB0.resolve_right hnm
            rw [hdp] at hv
            simp only [cond_true] at hv
            exact up (by rw [ho]; simp [makes]) hnm (eo_appendD hE hpar hB hA ho hd ht ht' hdesc hsrc hv Q)
          | false =>
            rw [hdp] at hv
            simp only [cond_false] at hv
            exact Oper.wp_next (fun _ _ h => ⟨h.1, fun hm => absurd hm (by rw [ho]; simp [makes]), fun _ => h.2.1⟩) (eo_append hE hA ho hd ht ht' hdesc hsrc hv Q)
        · cases hv
      · cases hv
    · cases hv
  · rename_i xs ts ho
    split at hv
    · rename_i x t hxs hts
      split at hv
      · rename_i ti ht
        split at hv
        · rename_i e hdesc
          split at hv
          · rename_i te he
            have exs : xs = #[x] := by rw [← Array.toArray_toList (xs := xs), hxs]
            have ets : ts = #[t] := by rw [← Array.toArray_toList (xs := ts), hts]
            subst exs
            subst ets
            exact up (by rw [ho]; simp [makes]) (by rw [ho]; simp [makesE, makes]) (eo_clear hE hA ho ht hdesc he hv Q)
          · cases hv
        · cases hv
      · cases hv
    · cases hv
  · rename_i f xs ts ho
    split at hv
    · rename_i d hd
      have hB : B.R = NoB := hB0.resolve_right (by rw [ho]; simp [makesE, makes])
      exact up (by rw [ho]; simp [makes]) (by rw [ho]; simp [makesE, makes]) (Oper.wp_next (fun _ _ h => h.1) (eo_call hE hpar hB hA ho hd hv Q))
    · cases hv
  · cases hv

theorem evOp_nil (hE : EnvOK B.P E) (hA : RelA B σ a w) {o : Oper} (hm : makesE E o.op = true) (hn : nilFirst σ o.op = true) {k : St → Option ρ} {r : ρ} (hv : evOp E o σ k = some r) (Q : Exit → Act → World → Prop) : o.wp B.P a w (fun a' w' => Next B k r a' w' ∧ Fr NoB w w' ∧ KeepR B w w') Q := by
  unfold nilFirst at hn
  split at hn
  · rename_i xs ts ho
    split at hn
    · rename_i x y hxs
      split at hn
      · rename_i ex
        unfold evOp at hv
        rw [ho] at hv
        simp only [opVal] at hv
        split at hv
        · rename_i d x' y' t t' hd hxs' hts
          rw [hxs] at hxs'
          have q1 := (List.cons.inj hxs').1
          have q2 := (List.cons.inj (List.cons.inj hxs').2).1
          subst q1
          subst q2
          split at hv
          · rename_i ti ti' ht ht'
            split at hv
            · rename_i e hdesc
              obtain ⟨hsrc, hv⟩ := bif_none hv
              have exs : xs = #[x, y] := by rw [← Array.toArray_toList (xs := xs), hxs]
              have ets : ts = #[t, t'] := by rw [← Array.toArray_toList (xs := ts), hts]
              subst exs
              subst ets
              cases hdp : deepE E e with
              | true => rw [ho] at hm; simp [makesE, makes, deepT, ht, hdesc, hdp] at hm
              | false =>
                rw [hdp] at hv
                simp only [cond_false] at hv
                exact Oper.wp_next (fun _ _ h => ⟨h.1, h.2.2 (by rw [ex]; rfl), h.2.1⟩) (eo_append hE hA ho hd ht ht' hdesc hsrc hv Q)
            · cases hv
          · cases hv
        · cases hv
      · cases hn
    · cases hn
  · cases hn
theorem evOp_ok (hE : EnvOK B.P E) (hpar : E.par = B.par) (hB : B.R = NoB) (hA : RelA B σ a w) {o : Oper} {k : St → Option ρ} {r : ρ} (hv : evOp E o σ k = some r) (Q : Exit → Act → World → Prop) : o.wp B.P a w (Next B k r) Q :=
  Oper.wp_next (fun _ _ h => h.1) (evOp_any hE hpar hA (.inl hB) hv Q)

end

/-! ### Guards -/
section
variable {ρ : Type} {B : Base} {E : Env} {w : World} {H : Nat → Option Value} {φ : Nat → Nat → Prop}

theorem yielded_bool {σ : St} {a : Act} (h : Rel B σ a.tmps w H φ) {ops : Array Oper} {j d : Nat} {b : Bool} (hd : dstOf ops.toList j = some d) (hb : σ.get d = .c (.bool b)) : yielded ops a.tmps j = some b := by
  unfold dstOf at hd
  split at hd
  · rename_i o ho
    have ho' : ops[j]? = some o := by simpa using ho
    have hg := h.get d
    rw [hb] at hg
    have hv : a.tmps.getD d undef = .bool b := hg
    have : a.tmps[d]? = some (.bool b) := by
      cases hq : a.tmps[d]? with
      | none => simp [Array.getD_eq_getD_getElem?, hq, undef] at hv
      | some v => simp [Array.getD_eq_getD_getElem?, hq] at hv; rw [hv]
    simp [yielded, ho', hd, this]
  · cases hd

theorem yielded_tup {σ : St} {a : Act} (h : Rel B σ a.tmps w H φ) {ops : Array Oper} {j d : Nat} {xs : List (Bool × List Cell)} (hd : dstOf ops.toList j = some d) (hb : σ.get d = .tup xs) : yielded ops a.tmps j = none := by
  unfold dstOf at hd
  split at hd
  · rename_i o ho
    have ho' : ops[j]? = some o := by simpa using ho
    have hg := h.get d
    rw [hb] at hg
    obtain ⟨vs, hv, _⟩ := hg
    cases hq : a.tmps[d]? with
    | none => simp [yielded, ho', hd, hq]
    | some v =>
      have : v = .tuple vs := by simpa [Array.getD_eq_getD_getElem?, hq] using hv
      simp [yielded, ho', hd, hq, this]
  · cases hd

/-- the operations of a region, one after another -/
theorem evOps_ok (hE : EnvOK B.P E) (hpar : E.par = B.par) (hB : B.R = NoB) {ops : Array Oper} {k : St → Option ρ} {r : ρ} {Q : Exit → Act → World → Prop} (hQ : ∀ σ' a' w', k σ' = some r → RelA B σ' a' w' → Q .normal a' w') :
    ∀ (rest : List Oper) (σ : St) (a : Act) (w : World), RelA B σ a w → evOpsG (evOp E) ops.toList rest σ k = some r → wpList B.P ops Q rest a w
  | [], σ, a, w, hA, hv => hQ σ a w hv hA
  | o :: rest, σ, a, w, hA, hv => by
    have go : ∀ σ : St, RelA B σ a w → Region.wanted o (yielded ops a.tmps) = true → evOp E o σ (fun σ' => evOpsG (evOp E) ops.toList rest σ' k) = some r → wpList B.P ops Q (o :: rest) a w := by
      intro σ hA hw hv
      unfold wpList
      rw [if_pos hw]
      exact .inl (Oper.wp_next (fun a' w' ⟨σ', hk, hA'⟩ => evOps_ok hE hpar hB hQ rest σ' a' w' hA' hk) (evOp_ok hE hpar hB hA hv Q))
    have skip : ∀ σ : St, RelA B σ a w → Region.wanted o (yielded ops a.tmps) = false → evOpsG (evOp E) ops.toList rest (σ.put o.dst (.tup [])) k = some r → wpList B.P ops Q (o :: rest) a w := by
      intro σ hA hw hv
      unfold wpList
      rw [if_neg (by simp [hw])]
      obtain ⟨hdef, H, φ, h⟩ := hA
      exact evOps_ok hE hpar hB hQ rest _ _ w ⟨by rw [put_defers]; exact hdef, H, φ, Rel.put h o.dst undefRel⟩ hv
    obtain ⟨hdef, H, φ, h⟩ := id hA
    simp only [evOpsG] at hv
    split at hv
    · rename_i hg
      exact go σ hA (by simp [Region.wanted, hg]) hv
    · rename_i j want hg
      split at hv
      · cases hv
      rename_i d hd
      split at hv
      · rename_i b hb
        have hy := yielded_bool h hd hb
        cases b with
        | true =>
          simp only [cond_true] at hv
          have hA := hA.setSame hb
          cases want with
          | true => exact go _ hA (by simp [Region.wanted, hg, hy]) hv
          | false => exact skip _ hA (by simp [Region.wanted, hg, hy]) hv
        | false =>
          simp only [cond_false] at hv
          have hA := hA.setSame hb
          cases want with
          | true => exact skip _ hA (by simp [Region.wanted, hg, hy]) hv
          | false => exact go _ hA (by simp [Region.wanted, hg, hy]) hv
      · rename_i hb
        have hy := yielded_tup h hd hb
        exact skip σ hA (by simp [Region.wanted, hg, hy]) hv
      · cases hv

end
end Go.Proofs.YtklfnbckoaphpaaGreatDoor
