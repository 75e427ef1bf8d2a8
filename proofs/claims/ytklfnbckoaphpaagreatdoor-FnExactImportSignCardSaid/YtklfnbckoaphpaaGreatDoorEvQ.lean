/- Variables, stores, literals and make are what the evaluator says. No conditions. -/
import Derived.Test.YtklfnbckoaphpaaGreatDoorEvP
set_option linter.unusedVariables false
set_option linter.unusedSimpArgs false
namespace Go.Proofs.YtklfnbckoaphpaaGreatDoor
open Go

section
variable {ρ : Type} {B : Base} {E : Env} {σ : St} {a : Act} {w : World} {H : Nat → Option Value} {φ : Nat → Nat → Prop}

theorem ptrRel0 {C : Cx} {n : Nat} {b : Nat} (h : C.H n = some (.pointer (some ⟨b, 0, none⟩))) : ARel C (.c (.ptr n 0)) (.pointer (some ⟨b, 0, none⟩)) := ⟨b, h, rfl⟩

theorem eo_alloc (hE : EnvOK B.P E) (hA : RelA B σ a w) {o : Oper} {t d : Nat} {ti : TInf} {z : Value} {zs : List Cell} (ho : o.op = .alloc t) (hd : o.dst = some d) (ht : E.T t = some ti) (hz : ti.zero = some z) (hzs : valueCells z = some zs)
    {k : St → Option ρ} {r : ρ} (hv : k ((σ.new (d * 64) (.box zs)).set d (.c (.ptr (d * 64) 0))) = some r) (Q : Exit → Act → World → Prop) : o.wp B.P a w (fun a' w' => Next B k r a' w' ∧ Fr NoB w w') Q := by
  obtain ⟨hdef, H, φ, h⟩ := hA
  have hrun : (execOp a.eval o).run B.P w = .ok (.value (.pointer (some ⟨w.heap.size, 0, none⟩))) (w.alloc (.cells z.cells t)) := by
    simp [execOp, ho, Instr.alloc, hE.zero ht hz, newVar, Go.newRow]
  obtain ⟨H', φ', hk, hkn, _⟩ := h.kill (d * 64)
  obtain ⟨H2, φ2, hn, hH2⟩ := hk.newBox hkn (B.io64 d) (cs := zs) (us := z.cells) t (constCells_rel hzs)
  refine wp_val hrun ⟨⟨_, hv, by rw [put_defers]; exact hdef, H2, φ2, ?_⟩, alloc_fr w _⟩
  rw [hd]
  exact Rel.set hn d (ptrRel0 hH2)

theorem eo_box (hA : RelA B σ a w) {o : Oper} {t d : Nat} {x : Operand} (ho : o.op = .box t x) (hd : o.dst = some d) (hp : plainA ((σ.kill (d * 64)).eval x) = true)
    {k : St → Option ρ} {r : ρ} (hv : k (((σ.kill (d * 64)).setBlk (d * 64) (.box ((σ.kill (d * 64)).eval x).cells)).set d (.c (.ptr (d * 64) 0))) = some r) (Q : Exit → Act → World → Prop) : o.wp B.P a w (Next B k r) Q := by
  obtain ⟨hdef, H, φ, h⟩ := hA
  have hrun : (execOp a.eval o).run B.P w = .ok (.value (.pointer (some ⟨w.heap.size, 0, none⟩))) (w.alloc (.cells (a.eval x).cells t)) := by
    simp [execOp, ho, Instr.box, newVar, Go.newRow]
  obtain ⟨H', φ', hk, hkn, _⟩ := h.kill (d * 64)
  obtain ⟨p1, p2⟩ := plainA_spec hp
  obtain ⟨H2, φ2, hn, hH2⟩ := hk.newBox hkn (B.io64 d) (us := (a.eval x).cells) t (ARel.cells (hk.eval x) p1 p2)
  refine wp_val hrun ⟨_, hv, by rw [put_defers]; exact hdef, H2, φ2, ?_⟩
  rw [hd]
  exact Rel.set hn d (ptrRel0 hH2)

theorem undefRel {C : Cx} : ARel C (.tup []) undef := ⟨#[], rfl, trivial⟩

theorem mkOf_size {mk : Bool} {a b : Array Value} (h : a.size = b.size) : mkOf mk a = mkOf mk b := by unfold mkOf; rw [h]
/-- a store of several cells, into a row that may bear the mark of a conversion -/
theorem run_storeCells_mk (P : Program) (g o : Nat) (t : TypeId) (mk : Bool) : ∀ (vs : List Value) (i : Nat) (cur : Array Value) (w : World), w.heap[g]? = some (.cells cur t (mkOf mk cur)) → o + i + vs.length ≤ cur.size → (∀ v ∈ vs, v.oneCell' = true) →
    (storeCells ⟨g, o, none⟩ vs i).run P w = .ok () (w.setRow g (cur.toList.take (o + i) ++ vs ++ cur.toList.drop (o + i + vs.length)).toArray)
  | [], i, cur, w, hg, _, _ => by
    simp only [storeCells, List.append_nil, List.length_nil, Nat.add_zero, List.take_append_drop, Array.toArray_toList]
    rw [setRow_self w g cur t _ hg]
    rfl
  | v :: rest, i, cur, w, hg, hl, h1 => by
    have hi : o + i < cur.size := by simp at hl; omega
    have hadd : (⟨g, o, none⟩ : Addr).add i = ⟨g, o + i, none⟩ := by unfold Addr.add; split <;> simp_all
    have hcell : w.cell? ⟨g, o + i, none⟩ = some cur[o + i] := by simp [World.cell?, hg, hi]
    have hfro : w.frozen? ⟨g, o + i, none⟩ = false := by
      cases mk with
      | false => simp [World.frozen?, hg, mkOf]
      | true =>
        simp only [World.frozen?, hg, mkOf, cond_true, Bool.and_eq_false_iff, decide_eq_false_iff_not]
        left; omega
    have hst : (store ((⟨g, o, none⟩ : Addr).add i) v).run P w = .ok () (w.setRow g (cur.setIfInBounds (o + i) v)) := by
      rw [hadd, run_store P w _ v _ (h1 v (by simp)), hcell]
      simp [hfro, setCell_eq_setRow w g (o + i) cur t _ v hg]
    have hz : mkOf mk (cur.setIfInBounds (o + i) v) = mkOf mk cur := mkOf_size (by simp)
    have ih := run_storeCells_mk P g o t mk rest (i + 1) (cur.setIfInBounds (o + i) v) (w.setRow g (cur.setIfInBounds (o + i) v)) (by rw [hz]; exact setRow_heap w g cur _ t _ hg) (by simp at hl ⊢; omega) (fun x hx => h1 x (by simp [hx]))
    simp only [storeCells, Sem.run_bind, hst, Result.andThen_ok, ih, setRow_setRow]
    congr 3
    have e := list_seg_step cur.toList (o + i) v rest (by simp at hl ⊢; omega)
    simpa [Array.toList_setIfInBounds, Nat.add_assoc] using e
theorem run_storeAt (hE : EnvOK B.P E) {t : Nat} {ti : TInf} (ht : E.T t = some ti) {v : Value} (hsz : v.cells.size = ti.size) {g off : Nat} {cur : Array Value} {ety : TypeId} {w : World} {mk : Bool} (hg : w.heap[g]? = some (.cells cur ety (mkOf mk cur))) (hfit : off + v.cells.size ≤ cur.size) (h1 : ∀ u ∈ v.cells.toList, u.oneCell' = true) :
    (Instr.storeAt t (.pointer (some ⟨g, off, none⟩)) v).run B.P w = .ok () (w.setRow g (cur.toList.take off ++ v.cells.toList ++ cur.toList.drop (off + v.cells.toList.length)).toArray) := by
  have hst := run_storeCells_mk B.P g off ety mk v.cells.toList 0 cur w hg (by simpa using hfit) h1
  simp only [Nat.add_zero] at hst
  simp only [Instr.storeAt, Instr.sureAddr, Sem.run_bind, Sem.run_pure, Result.andThen_ok, storeVar, hE.size ht]
  rw [if_neg (by simpa using hsz)]
  exact hst

theorem eo_store (hE : EnvOK B.P E) (hA : RelA B σ a w) {o : Oper} {t : Nat} {x v : Operand} {ti : TInf} (ho : o.op = .store t x v) (ht : E.T t = some ti) (hp : plainA (σ.eval v) = true) (hlen : (σ.eval v).cells.length = ti.size)
    {k : St → Option ρ} {r : ρ}
    (hv : (match σ.eval x with
        | .c (.ptr n off) => match look n σ.blks with
          | some (.box cs) => (match putN off (σ.eval v).cells cs with | some cs' => k ((σ.setBlk n (.box cs')).put o.dst (.tup [])) | none => none)
          | _ => none
        | .c (.eptr n i off) => match look n σ.blks with
          | some (.row dd ty xs) => bif !dd || ty.scal then
              (match putN off (σ.eval v).cells (ty.flat (xs.getD i ty.dflt) []) with
              | some cs' => (match ty.unflat [] cs' with | some (x', []) => k ((σ.setBlk n (.row dd ty (xs.set i x'))).put o.dst (.tup [])) | _ => none)
              | none => none) else none
          | _ => none
        | _ => none) = some r) (Q : Exit → Act → World → Prop) : o.wp B.P a w (Next B k r) Q := by
  obtain ⟨hdef, H, φ, h⟩ := hA
  obtain ⟨p1, p2⟩ := plainA_spec hp
  have hcv := ARel.cells (h.eval v) p1 p2
  have hsz : (a.eval v).cells.size = ti.size := by have := hcv.length; rw [hlen] at this; simpa using this.symm
  have hone := All2.one hcv
  have hx := h.eval x
  split at hv
  · rename_i n off ex
    rw [ex] at hx
    split at hv
    · rename_i cs hl
      split at hv
      · rename_i cs' hput
        obtain ⟨v0, hv0, g, us, ety, rfl, hg, hh, hal⟩ := h.mem.blk n _ hl
        obtain ⟨g', hg', ea⟩ := hx
        have e : H n = some _ := hg'
        rw [hv0] at e
        simp only [Option.some.injEq, Value.pointer.injEq, Addr.mk.injEq, and_true] at e
        subst e
        have hh : w.heap[g]? = some (.cells us ety (0, 0)) := hh
        obtain ⟨hfit, hal'⟩ := putN_rel hput hcv hal
        have hrun := run_storeAt (B := B) (mk := false) hE ht hsz hh (off := off) (by simpa using hfit) hone
        have hrun' : (execOp a.eval o).run B.P w = .ok .skip (w.setRow g (us.toList.take off ++ (a.eval v).cells.toList ++ us.toList.drop (off + (a.eval v).cells.toList.length)).toArray) := by
          simp only [execOp, ho, ea, Sem.run_bind, hrun, Result.andThen_ok, Sem.run_pure]
        have hw := h.write (b := .box cs') hl (w' := w.setRow g (us.toList.take off ++ (a.eval v).cells.toList ++ us.toList.drop (off + (a.eval v).cells.toList.length)).toArray)
          (by
            have := setRow_fr w g (us.toList.take off ++ (a.eval v).cells.toList ++ us.toList.drop (off + (a.eval v).cells.toList.length)).toArray (h.mem.big hg)
            exact ⟨this.os, this.tape, this.output, this.size, fun b hb hn => this.block b hb fun e => hn (by subst e; exact hg), this.glob⟩)
          (by simp [lenOf, look_set_same, hl]) (fun v1 C' hv1 hle hw hP => by
            rw [hv0] at hv1
            obtain rfl := Option.some.inj hv1
            exact ⟨g, _, ety, rfl, hg, by rw [hw]; exact setRow_heap w g us _ ety _ hh, by simpa using hal'.mono (CellRel.le hle)⟩)
        exact wp_skip' hrun' ⟨_, hv, by rw [put_defers]; exact hdef, H, φ, Rel.put hw o.dst undefRel⟩
      · cases hv
    · cases hv
  · rename_i n i off ex
    rw [ex] at hx
    split at hv
    · rename_i dd ty xs hl
      have hv0 := bif_none hv
      clear hv
      obtain ⟨hdd, hv⟩ := hv0
      split at hv
      · rename_i cs' hput
        split at hv
        · rename_i x' hu
          obtain ⟨v0, hv0, hrow⟩ := h.mem.blk n _ hl
          obtain ⟨g, L, s, c, e1, e2, e3, ea⟩ := hx
          have eL : lenOf σ.blks n = some (L, s) := e1
          simp only [lenOf, hl, Option.some.injEq, Prod.mk.injEq] at eL
          obtain ⟨rfl, rfl⟩ := eL
          have eH : H n = some _ := e3
          rw [hv0] at eH
          obtain rfl := Option.some.inj eH
          obtain ⟨A, cap, eA, hcap, hmem⟩ := hrow
          simp only [Value.slice.injEq, true_and] at eA
          obtain ⟨rfl, rfl⟩ := eA
          rcases hmem with h0 | ⟨g', cur, ety, eg, hF, hh, hsz2, Fs, f1, f2, f3⟩
          · omega
          simp only [Option.some.injEq, Addr.mk.injEq, and_true] at eg
          subst eg
          have hh : w.heap[g]? = some (.cells cur ety (mkOf (mkd dd ty) cur)) := hh
          have hgd : xs.getD i ty.dflt = xs[i] := by simp [List.getD, List.getElem?_eq_getElem e2]
          have hel := OwC.flatOK hdd (f3 i e2)
          rw [hgd] at hput
          have hfl : All2 (CellRel (B.at σ w H φ)) (ty.flat xs[i] []) ((cur.toList.drop (i * ty.cells)).take ty.cells) := flat_rel' hel
          obtain ⟨hfit, hal'⟩ := putN_rel hput hcv hfl
          have hcl : ((cur.toList.drop (i * ty.cells)).take ty.cells).length = ty.cells := (RdC.cells ty _ _ hel).1
          rw [hcl] at hfit
          have hin : i * ty.cells + ty.cells ≤ cur.size := by
            have : (i + 1) * ty.cells ≤ c * ty.cells := Nat.mul_le_mul_right _ (by omega)
            rw [Nat.add_mul, Nat.one_mul] at this
            omega
          have hvl : (a.eval v).cells.toList.length = (a.eval v).cells.size := by simp
          have hrun := run_storeAt (B := B) hE ht hsz hh (off := i * ty.cells + off) (by omega) hone
          have hrun' : (execOp a.eval o).run B.P w = .ok .skip (w.setRow g (cur.toList.take (i * ty.cells + off) ++ (a.eval v).cells.toList ++ cur.toList.drop (i * ty.cells + off + (a.eval v).cells.toList.length)).toArray) := by
            simp only [execOp, ho, ea, Sem.run_bind, hrun, Result.andThen_ok, Sem.run_pure]
          obtain ⟨u1, u2, eu, k1, k2⟩ := unflat_rel Reads.nil ty cs' x' [] _ hu hal'
          have : u2 = [] := by cases u2 with | nil => rfl | cons _ _ => exact k2.elim
          subst this
          simp only [List.append_nil] at eu
          have hsame : (cur.toList.take (i * ty.cells + off) ++ (a.eval v).cells.toList ++ cur.toList.drop (i * ty.cells + off + (a.eval v).cells.toList.length)).toArray.size = cur.size := by
            simp only [List.size_toArray, List.length_append, List.length_take, List.length_drop, Array.length_toList]
            omega
          have hsp := fun j => take_drop_splice cur.toList (a.eval v).cells.toList ty.cells i off (by omega) (by simp; omega) j
          have hw := h.write (b := .row dd ty (xs.set i x')) hl (w' := w.setRow g (cur.toList.take (i * ty.cells + off) ++ (a.eval v).cells.toList ++ cur.toList.drop (i * ty.cells + off + (a.eval v).cells.toList.length)).toArray)
            (by
              have := setRow_fr w g (cur.toList.take (i * ty.cells + off) ++ (a.eval v).cells.toList ++ cur.toList.drop (i * ty.cells + off + (a.eval v).cells.toList.length)).toArray (h.mem.big hF)
              exact ⟨this.os, this.tape, this.output, this.size, fun b hb hn => this.block b hb fun e => hn (by subst e; exact hF), this.glob⟩)
            (by simp [lenOf, look_set_same, hl]) (fun v1 C' hv1 hle hw hP => by
              rw [hv0] at hv1
              obtain rfl := Option.some.inj hv1
              refine ⟨some ⟨g, 0, none⟩, c, by simp, by simpa using hcap, .inr ⟨g, _, ety, rfl, hF, by rw [hw, mkOf_size (b := cur) hsame]; exact setRow_heap w g cur _ ety _ hh, ?_, Fs, f1, f2, fun j hj => ?_⟩⟩
              · simp only [List.size_toArray, List.length_append, List.length_take, List.length_drop, Array.length_toList]
                omega
              · have hj' : j < xs.length := by simpa using hj
                have key : RdC B.P ty w (zone B w φ) (if j = i then ((cur.toList.drop (i * ty.cells)).take ty.cells).take off ++ (a.eval v).cells.toList ++ ((cur.toList.drop (i * ty.cells)).take ty.cells).drop (off + (a.eval v).cells.toList.length) else (cur.toList.drop (j * ty.cells)).take ty.cells) (xs.set i x')[j] := by
                  by_cases hji : j = i
                  · subst hji
                    rw [if_pos rfl, eu]
                    rw [List.getElem_set_self]
                    exact k1
                  · rw [if_neg hji]
                    rw [List.getElem_set_ne (Ne.symm hji)]
                    exact OwC.flatOK hdd (f3 j hj')
                have h2 := RdC.agree hle.agree hle.Z ty _ _ key
                have h3 : RdC C'.P ty C'.w C'.Z (((cur.toList.take (i * ty.cells + off) ++ (a.eval v).cells.toList ++ cur.toList.drop (i * ty.cells + off + (a.eval v).cells.toList.length)).drop (j * ty.cells)).take ty.cells) (xs.set i x')[j] := by
                  rw [hP, hsp j]; exact h2
                exact OwC.ofRd ty _ _ hdd (by simpa using h3))
          exact wp_skip' hrun' ⟨_, hv, by rw [put_defers]; exact hdef, H, φ, Rel.put hw o.dst undefRel⟩
        · cases hv
      · cases hv
    · cases hv
  · cases hv

theorem Rel.newMap {tm : Array Value} (h : Rel B σ tm w H φ) {n : Nat} (hn : look n σ.blks = none) (hio : B.io n = none) (kty vty : Ty) :
    ∃ H' φ', Rel B (σ.setBlk n (.map kty vty [])) tm (w.alloc (.map #[] 0)) H' φ' ∧ H' n = some (.map (some w.heap.size)) :=
  ⟨_, _, Rel.fresh (R1 := B.R) h (fun _ h => h) hn hio (b := .map kty vty []) (v := .map (some w.heap.size)) (F := fun i => i = w.heap.size) (alloc_fr w (.map #[] 0)).le (fun i hi => by subst hi; exact ⟨.inl (Nat.le_refl _), by simp⟩)
    (fun C' hle hw hP _ => ⟨w.heap.size, #[], 0, rfl, rfl, by rw [hw]; exact heap_alloc_new w _, trivial⟩), by simp⟩
/-- a new map -/
theorem eo_makeMap (hA : RelA B σ a w) {o : Oper} {t d : Nat} (ho : o.op = .makeMap t none) (hd : o.dst = some d) (kty vty : Ty)
    {k : St → Option ρ} {r : ρ} (hv : k ((σ.new (d * 64) (.map kty vty [])).set d (.c (.mp (d * 64)))) = some r) (Q : Exit → Act → World → Prop) : o.wp B.P a w (fun a' w' => Next B k r a' w' ∧ Fr NoB w w') Q := by
  obtain ⟨hdef, H, φ, h⟩ := hA
  have hrun : (execOp a.eval o).run B.P w = .ok (.value (.map (some w.heap.size))) (w.alloc (.map #[] 0)) := by
    simp [execOp, ho, Instr.makeMap]
  obtain ⟨H', φ', hk, hkn, _⟩ := h.kill (d * 64)
  obtain ⟨H2, φ2, hn, hH2⟩ := hk.newMap hkn (B.io64 d) kty vty
  refine wp_val hrun ⟨⟨_, hv, by rw [put_defers]; exact hdef, H2, φ2, ?_⟩, alloc_fr w _⟩
  rw [hd]
  exact Rel.set hn d (show ARel _ (.c (.mp (d * 64))) (.map (some w.heap.size)) from ⟨hH2, _, rfl⟩)

theorem setMap_fr (w : World) (g : Nat) (o : Obj) (hg : nGlob ≤ g) : Fr (fun b => b = g) w { w with heap := w.heap.setIfInBounds g o } :=
  ⟨rfl, rfl, rfl, by simp, fun b _ hb => by simp [Array.getElem?_setIfInBounds, Ne.symm hb], fun b hb _ => by simp [Array.getElem?_setIfInBounds, show ¬ g = b by omega]⟩
/-- an entry of a map is set -/
theorem eo_mapUpdate (hE : EnvOK B.P E) (hA : RelA B σ a w) {o : Oper} {t kt vt n : Nat} {m i x : Operand} {ti : TInf} {kty vty k' v' : Ty} {es0 : List (k'.den × v'.den)} {es : List (kty.den × vty.den)} {key : kty.den} {y : vty.den} (ho : o.op = .mapUpdate t m i x ∨ o.op = .insert t m i x) (ht : E.T t = some ti) (hdesc : ti.desc = .map kt vt)
    (hm : σ.eval m = .c (.mp n)) (hkt : tyOfD E.T 50 kt = some kty) (hl : look n σ.blks = some (.map k' v' es0)) (hes : Ty.cast? (.map k' v') (.map kty vty) es0 = some es) (hkey : A.read σ.blks kty (σ.eval i) = some key) (hy : A.read σ.blks vty (σ.eval x) = some y)
    (hk1 : kty.isKey = true) (hs : vty.scal = true) {k : St → Option ρ} {r : ρ} (hv : k ((σ.setBlk n (.map kty vty (mput kty vty key y es))).put o.dst (.tup [])) = some r) (Q : Exit → Act → World → Prop) : o.wp B.P a w (Next B k r) Q := by
  obtain ⟨hdef, H, φ, h⟩ := hA
  obtain ⟨e, rfl⟩ := Ty.cast?_spec hes
  cases e
  obtain ⟨v0, hv0, g, ents, clock, rfl, hg, hh, hrep⟩ := h.mem.blk n _ hl
  have hmv : a.eval m = .map (some g) := by
    have := h.eval m
    rw [hm] at this
    have e : H n = some (a.eval m) := this.1
    rw [hv0] at e
    exact (Option.some.inj e).symm
  obtain ⟨ik, hik, hd⟩ := tyOfD_key hkt hk1
  have hks : kty.scal = true := by rcases hd with ⟨kk, _, rfl⟩ | ⟨_, rfl⟩ <;> rfl
  have hi : a.eval i = kty.valV key := RdV.valV hks (read_rel h.reads hkey (h.eval i))
  have hx : a.eval x = vty.valV y := RdV.valV hs (read_rel h.reads hy (h.eval x))
  obtain ⟨_, _, _, _, _, hut⟩ := tinf_spec (hE.T t ti ht)
  obtain ⟨_, _, _, _, _, huk⟩ := tinf_spec (hE.T kt ik hik)
  rw [hdesc] at hut
  have hh' : w.heap[g]? = some (.map ents clock) := hh
  obtain ⟨ents', clock', hrun, hrep'⟩ := run_mapUpdate_rep hut huk hd hh' hrep key y
  have hrun' : (execOp a.eval o).run B.P w = .ok .skip { w with heap := w.heap.setIfInBounds g (.map ents' clock') } := by
    rcases ho with ho | ho <;> simp only [execOp, ho, hmv, hi, hx, Sem.run_bind, hrun, Result.andThen_ok, Sem.run_pure]
  have hglt : g < w.heap.size := (Array.getElem?_eq_some_iff.1 hh').1
  have hw := h.write (b := .map kty vty (mput kty vty key y es0)) hl (w' := { w with heap := w.heap.setIfInBounds g (.map ents' clock') })
    (by
      have := setMap_fr w g (.map ents' clock') (h.mem.big hg)
      exact ⟨this.os, this.tape, this.output, this.size, fun b hb hn => this.block b hb fun e => hn (by subst e; exact hg), this.glob⟩)
    (by simp [lenOf, look_set_same, hl]) (fun v1 C' hv1 hle hw hP => by
      rw [hv0] at hv1
      obtain rfl := Option.some.inj hv1
      exact ⟨g, ents', clock', rfl, hg, by rw [hw]; simp [hglt], hrep'⟩)
  exact wp_skip' hrun' ⟨_, hv, by rw [put_defers]; exact hdef, H, φ, Rel.put hw o.dst undefRel⟩

theorem eo_pick (hA : RelA B σ a w) {o : Oper} {c x y : Operand} {b : Bool} (ho : o.op = .pick c x y) (hc : σ.eval c = .c (.bool b)) {k : St → Option ρ} {r : ρ}
    (hv : (bif b then k (σ.put o.dst (σ.eval x)) else k (σ.put o.dst (σ.eval y))) = some r) (Q : Exit → Act → World → Prop) : o.wp B.P a w (Next B k r) Q := by
  obtain ⟨hdef, H, φ, h⟩ := hA
  have hb := h.bool hc
  cases b with
  | true => exact wp_val (v := a.eval x) (by simp [execOp, ho, hb, asBool]) ⟨_, hv, by rw [put_defers]; exact hdef, H, φ, Rel.put h o.dst (h.eval x)⟩
  | false => exact wp_val (v := a.eval y) (by simp [execOp, ho, hb, asBool]) ⟨_, hv, by rw [put_defers]; exact hdef, H, φ, Rel.put h o.dst (h.eval y)⟩

end
end Go.Proofs.YtklfnbckoaphpaaGreatDoor
