/- Elements that lie open: loads, stores, and what closes them. No conditions. -/
import Derived.Test.YtklfnbckoaphpaaGreatDoorEvXb
set_option linter.unusedVariables false
set_option linter.unusedSimpArgs false
namespace Go.Proofs.YtklfnbckoaphpaaGreatDoor
open Go

section
variable {ρ : Type} {B : Base} {E : Env} {σ : St} {a : Act} {tm : Array Value} {w : World} {H : Nat → Option Value} {φ : Nat → Nat → Prop}

theorem chunk_len {cur : Array Value} {s i cap L : Nat} (hi : i < L) (hL : L ≤ cap) (hc : cap * s ≤ cur.size) : i * s + s ≤ cur.size ∧ ((cur.toList.drop (i * s)).take s).length = s := by
  have h1 : (i + 1) * s ≤ cap * s := Nat.mul_le_mul_right _ (by omega)
  rw [Nat.add_mul, Nat.one_mul] at h1
  refine ⟨by omega, ?_⟩
  simp
  omega

theorem eo_storeO (hE : EnvOK B.P E) (hA : RelA B σ a w) {o : Oper} {t : Nat} {x v : Operand} {ti : TInf} (ho : o.op = .store t x v) (ht : E.T t = some ti) (hp : plainA (σ.eval v) = true) (hlen : (σ.eval v).cells.length = ti.size)
    {n i off : Nat} (hx : σ.eval x = .c (.eptr n i off)) {k : St → Option ρ} {r : ρ} (hv : storeO σ n i off (σ.eval v).cells (fun σ' => k (σ'.put o.dst (.tup []))) = some r) (Q : Exit → Act → World → Prop) : o.wp B.P a w (Next B k r) Q := by
  obtain ⟨hdef, H, φ, h⟩ := hA
  obtain ⟨p1, p2⟩ := plainA_spec hp
  have hcv := ARel.cells (h.eval v) p1 p2
  have hsz : (a.eval v).cells.size = ti.size := by have := hcv.length; rw [hlen] at this; simpa using this.symm
  have hone := All2.one hcv
  have hxr := h.eval x
  rw [hx] at hxr
  obtain ⟨g0, L, s, c, e1, e2, e3, ea⟩ := hxr
  have e1 : lenOf σ.blks n = some (L, s) := e1
  have e3 : H n = some (.slice (some ⟨g0, 0, none⟩) L c) := e3
  unfold storeO at hv
  obtain ⟨σ1, ty, xs, ko, cs, hk, h1, htm, hl0, hl1, _⟩ := openAt_ok h (fun L' s' e => by rw [e1] at e; simp only [Option.some.injEq, Prod.mk.injEq] at e; omega) hv
  rw [hl1] at hk
  simp only at hk
  split at hk
  · rename_i cs' hput
    obtain ⟨g, cap, cur, ety, Fs, m1, m2, m3, m4, m5, m6, m7, m8, m9, m10⟩ := opn_mem h1 hl1
    rw [e3] at m1
    simp only [Option.some.injEq, Value.slice.injEq, Addr.mk.injEq, and_true] at m1
    obtain ⟨rfl, rfl, rfl⟩ := m1
    have hs : s = ty.cells := by
      have := hl0 n
      simp only [lenOf, hl1] at this
      have e1' : lenOf σ.blks n = some (xs.length, s) := e1
      simp only [lenOf] at e1'
      rw [e1'] at this
      simp only [Option.some.injEq, Prod.mk.injEq] at this
      exact this.2.symm
    subst hs
    obtain ⟨hin, hcl⟩ := chunk_len m3 m2 m6
    have hle0 : (B.at σ w H φ).Le (B.at σ1 w H φ) := ⟨rfl, Agree.refl _ _, fun _ _ h => h, fun _ _ h => h, fun m p hm => by show lenOf σ1.blks m = _; rw [hl0]; exact hm⟩
    obtain ⟨hfit, hol⟩ := oput_rel off _ cs cs' _ _ (Fs i) hput m10 (hcv.mono (CellRel.le hle0))
    rw [hcl] at hfit
    have hvl : (a.eval v).cells.toList.length = (a.eval v).cells.size := by simp
    have hrun := run_storeAt (B := B) (mk := false) hE ht hsz (w := w) (g := g0) (ety := ety) (cur := cur) m5 (off := i * ty.cells + off) (by omega) hone
    have hrun' : (execOp a.eval o).run B.P w = .ok .skip (w.setRow g0 (cur.toList.take (i * ty.cells + off) ++ (a.eval v).cells.toList ++ cur.toList.drop (i * ty.cells + off + (a.eval v).cells.toList.length)).toArray) := by
      simp only [execOp, ho, ea, Sem.run_bind, hrun, Result.andThen_ok, Sem.run_pure]
    have hsp := fun j => take_drop_splice cur.toList (a.eval v).cells.toList ty.cells i off (by omega) (by simp; omega) j
    have hfr := setRow_fr w g0 (cur.toList.take (i * ty.cells + off) ++ (a.eval v).cells.toList ++ cur.toList.drop (i * ty.cells + off + (a.eval v).cells.toList.length)).toArray (h.mem.big m4)
    have hw := h1.write (b := .opn ty xs ko i cs') hl1 (w' := w.setRow g0 (cur.toList.take (i * ty.cells + off) ++ (a.eval v).cells.toList ++ cur.toList.drop (i * ty.cells + off + (a.eval v).cells.toList.length)).toArray)
      ⟨hfr.os, hfr.tape, hfr.output, hfr.size, fun b hb hn => hfr.block b hb fun e => hn (by subst e; exact m4), hfr.glob⟩
      (by simp [lenOf, look_set_same, hl1]) (fun v1 C' hv1 hle hw hP => by
        have hv1 : H n = some v1 := hv1
        rw [e3] at hv1
        obtain rfl := Option.some.inj hv1
        have hag : ∀ j, Agree (Fs j) w C'.w := fun j => by
          rw [hw]; exact hfr.agree _ fun b _ hb e => (m7 j b hb).2 e
        refine ⟨g0, c, _, ety, Fs, rfl, m2, m3, m4, by rw [hw]; exact setRow_heap w g0 cur _ ety _ m5, ?_, m7, m8, fun j hj hji => ?_, ?_⟩
        · simp only [List.size_toArray, List.length_append, List.length_take, List.length_drop, Array.length_toList]
          omega
        · show OwC C'.P _ _ _ _ _ ((List.take ty.cells (List.drop (j * ty.cells) (cur.toList.take (i * ty.cells + off) ++ (a.eval v).cells.toList ++ cur.toList.drop (i * ty.cells + off + (a.eval v).cells.toList.length))))) _
          rw [hsp j, if_neg hji, hP]
          exact OwC.agree hle.Z hle.agree ty (Fs j) (Fs j) _ _ (fun _ h => h) (hag j) (m9 j hj hji)
        · show OList C' (Fs i) cs' (List.take ty.cells (List.drop (i * ty.cells) (cur.toList.take (i * ty.cells + off) ++ (a.eval v).cells.toList ++ cur.toList.drop (i * ty.cells + off + (a.eval v).cells.toList.length))))
          rw [hsp i, if_pos rfl]
          have := OList.map (s := id) hle.P hle.Z hle.agree (CellRel.le hle) cs' _ (Fs i) (Fs i) (fun _ h => h) (hag i) hol
          simpa [OCell.map_id] using this)
    refine wp_skip' hrun' ⟨_, hk, by rw [put_defers]; exact hdef, H, φ, Rel.put hw o.dst undefRel⟩
  · cases hk

/-- a value that is loaded out of cells -/
theorem loadVar_run (hE : EnvOK B.P E) {t : Nat} {ti : TInf} (ht : E.T t = some ti) {C : Cx} {ys : List Cell} {vs : List Value} {b o : Nat} (ha : All2 (CellRel C) ys vs) (hl : ys.length = ti.size) (hat : At w b o vs) :
    (isAggD ti.desc = true → (loadVar t ⟨b, o, none⟩).run B.P w = .ok (.agg vs.toArray) w) ∧ (isAggD ti.desc = false → ∀ y, ys = [y] → ∃ v, vs = [v] ∧ (loadVar t ⟨b, o, none⟩).run B.P w = .ok v w) := by
  have hvl : vs.length = ti.size := by rw [← ha.length]; exact hl
  refine ⟨fun hagg => ?_, fun hagg y hy => ?_⟩
  · have := run_loadCells_list (P := B.P) w ⟨b, o, none⟩ vs (fun j v hv => by rw [add_at]; exact hat j v hv)
    rw [hvl] at this
    simp [loadVar, hE.isAgg ht, hagg, hE.size ht, this]
  · subst hy
    cases vs with
    | nil => exact ha.elim
    | cons v r =>
      cases r with
      | nil =>
        have h3 := hat 0 v rfl
        simp only [Nat.add_zero] at h3
        exact ⟨v, rfl, by simp [loadVar, hE.isAgg ht, hagg, h3]⟩
      | cons _ _ => exact ha.2.elim

theorem eo_loadO (hE : EnvOK B.P E) (hpar : E.par = B.par) (hA : RelA B σ a w) {o : Oper} {t : Nat} {x : Operand} (ho : o.op = .load t x) {n i off : Nat} (hx : σ.eval x = .c (.eptr n i off))
    {k : St → Option ρ} {r : ρ} (hv : loadO E σ t x n i off (fun v σ' => k (σ'.put o.dst v)) = some r) (Q : Exit → Act → World → Prop) : o.wp B.P a w (Next B k r) Q := by
  obtain ⟨hdef, H, φ, h⟩ := hA
  have hxr := h.eval x
  rw [hx] at hxr
  obtain ⟨g0, L, s, c, e1, e2, e3, ea⟩ := hxr
  have e1 : lenOf σ.blks n = some (L, s) := e1
  have e3 : H n = some (.slice (some ⟨g0, 0, none⟩) L c) := e3
  unfold loadO at hv
  split at hv
  · cases hv
  rename_i ti ht
  obtain ⟨σ1, ty, xs, ko, cs, hk, h1, htm, hl0, hl1, _⟩ := openAt_ok h (fun L' s' e => by rw [e1] at e; simp only [Option.some.injEq, Prod.mk.injEq] at e; omega) hv
  rw [hl1] at hk
  simp only at hk
  obtain ⟨g, cap, cur, ety, Fs, m1, m2, m3, m4, m5, m6, m7, m8, m9, m10⟩ := opn_mem h1 hl1
  rw [e3] at m1
  simp only [Option.some.injEq, Value.slice.injEq, Addr.mk.injEq, and_true] at m1
  obtain ⟨rfl, rfl, rfl⟩ := m1
  have hs : s = ty.cells := by
    have := hl0 n
    simp only [lenOf, hl1] at this
    have e1' : lenOf σ.blks n = some (xs.length, s) := e1
    simp only [lenOf] at e1'
    rw [e1'] at this
    simp only [Option.some.injEq, Prod.mk.injEq] at this
    exact this.2.symm
  subst hs
  obtain ⟨hin, hcl⟩ := chunk_len m3 m2 m6
  have hatc : At w g0 (i * ty.cells + off) (((cur.toList.drop (i * ty.cells)).take ty.cells).drop off) := (take_drop_at cur (i * ty.cells) ty.cells w g0 ety _ m5).drop off
  split at hk
  · rename_i ys hys
    rw [odrop_eq] at hys
    obtain ⟨F', _, hdr⟩ := OList.drop off m10
    obtain ⟨hal, hyl⟩ := plainN_rel ti.size _ ys _ F' hys hdr
    have hat2 := hatc.take ti.size
    obtain ⟨r1, r2⟩ := loadVar_run hE ht hal hyl hat2
    cases hagg : isAggD ti.desc with
    | true =>
      rw [hagg] at hk
      simp only [cond_true] at hk
      have hrun : (execOp a.eval o).run B.P w = .ok (.value (.agg ((((cur.toList.drop (i * ty.cells)).take ty.cells).drop off).take ti.size).toArray)) w := by
        simp [execOp, ho, ea, Instr.loadAt, Instr.sureAddr, r1 hagg]
      exact wp_val hrun ⟨_, hk, by rw [put_defers]; exact hdef, H, φ, Rel.put h1 o.dst ⟨_, rfl, by simpa using hal⟩⟩
    | false =>
      rw [hagg] at hk
      simp only [cond_false] at hk
      split at hk
      · rename_i y
        obtain ⟨v, ev, hr⟩ := r2 hagg y rfl
        rw [ev] at hal
        have hrun : (execOp a.eval o).run B.P w = .ok (.value v) w := by
          simp [execOp, ho, ea, Instr.loadAt, Instr.sureAddr, hr]
        exact wp_val hrun ⟨_, hk, by rw [put_defers]; exact hdef, H, φ, Rel.put h1 o.dst hal.1⟩
      · cases hk
  · have hk0 := bif_none hk
    clear hk
    obtain ⟨hg, hk⟩ := hk0
    obtain ⟨_, hagg⟩ := and_b hg
    have hagg : isAggD ti.desc = false := by simpa using hagg
    split at hk
    · rename_i e ys r' hd
      split at hk
      · rename_i hm
        have hk0 := bif_none hk
        clear hk
        obtain ⟨hg, hk⟩ := hk0
        obtain ⟨hp1, hp2⟩ := and_b hg
        rw [hpar] at hp1
        have hio : B.io (kidName E n x) = none := by
          cases hq : B.io (kidName E n x) with
          | none => rfl
          | some v => have := B.iok _ _ hq; simp [this] at hp2
        obtain ⟨H', φ', u, g', cap', hr, hu, hsl, e3', hcell⟩ := kidOut_ok h1 hl1 hd hm hio (by simpa using hp1)
        rw [e3] at e3'
        simp only [Option.some.injEq, Value.slice.injEq, Addr.mk.injEq, and_true, true_and] at e3'
        obtain ⟨rfl, rfl⟩ := e3'
        have hrun : (execOp a.eval o).run B.P w = .ok (.value u) w := by
          simp [execOp, ho, ea, Instr.loadAt, Instr.sureAddr, loadVar, hE.isAgg ht, hagg, hcell]
        exact wp_val hrun ⟨_, hk, by rw [put_defers]; exact hdef, H', φ', Rel.put hr o.dst ⟨hu, hsl⟩⟩
      · cases hk
    · cases hk

/-! ### An element is closed -/
theorem nodupB_spec' : ∀ {l : List Nat}, nodupB l = true → l.Nodup
  | [], _ => List.nodup_nil
  | n :: r, h => by
    simp only [nodupB] at h
    obtain ⟨h1, h2⟩ := and_b h
    exact List.nodup_cons.2 ⟨by simpa using h1, nodupB_spec' h2⟩
theorem look_kill_none {σ : St} {m k : Nat} (h : look k σ.blks = none) : look k (σ.kill m).blks = none := by
  unfold St.kill
  split
  · exact h
  · simp only [St.swap]
    rw [look_swap]
    split
    · rfl
    · rw [h]; rfl
theorem look_kill_self (σ : St) (m : Nat) : look m (σ.kill m).blks = none := by
  unfold St.kill
  split
  · assumption
  · simp only [St.swap]
    rw [look_swap, if_pos rfl]
theorem killAll_none : ∀ (ms : List Nat) {σ : St} {k : Nat}, look k σ.blks = none → look k (killAll ms σ).blks = none
  | [], _, _, h => h
  | m :: ms, σ, k, h => killAll_none ms (look_kill_none h)
theorem killAll_gone : ∀ (ms : List Nat) (m : Nat), m ∈ ms → ∀ {σ : St}, look m (killAll ms σ).blks ≠ none → False
  | [], m, hm, σ, h => by cases hm
  | k :: ms, m, hm, σ, h => by
    rcases List.mem_cons.1 hm with rfl | hm
    · exact h (killAll_none ms (look_kill_self σ m))
    · exact killAll_gone ms m hm h
theorem killAll_ok : ∀ (ms : List Nat) {σ : St} {R1 : Nat → Prop} {H : Nat → Option Value} {φ : Nat → Nat → Prop}, Rel (B.on R1) σ tm w H φ → ms.Nodup → (∀ m ∈ ms, look m σ.blks ≠ none) →
    ∃ H' φ', Rel (B.on fun b => R1 b ∨ ∃ m ∈ ms, φ m b) (killAll ms σ) tm w H' φ' ∧ ∀ k, k ∉ ms → H' k = H k ∧ (∀ b, φ' k b ↔ φ k b) ∧ (look k (killAll ms σ).blks = none ↔ look k σ.blks = none) ∧ lenOf (killAll ms σ).blks k = lenOf σ.blks k
  | [], σ, R1, H, φ, h, hn, hl => by
    have e : (fun b => R1 b ∨ ∃ m ∈ ([] : List Nat), φ m b) = R1 := by funext b; simp
    rw [e]
    exact ⟨H, φ, h, fun k _ => ⟨rfl, fun _ => Iff.rfl, Iff.rfl, rfl⟩⟩
  | m :: ms, σ, R1, H, φ, h, hn, hl => by
    obtain ⟨n1, n2⟩ := List.nodup_cons.1 hn
    cases hm : look m σ.blks with
    | none => exact absurd hm (hl m (by simp))
    | some b =>
      have hk := h.killR m hm
      have ek : σ.kill m = σ.swap m fun _ => .any := by simp [St.kill, hm]
      have lk : ∀ k, k ≠ m → look k (σ.kill m).blks = (look k σ.blks).map (Blk.swap m fun _ => .any) := fun k hk => by
        rw [ek]; simp only [St.swap]; rw [look_swap, if_neg hk]
      have ll : ∀ k, k ≠ m → lenOf (σ.kill m).blks k = lenOf σ.blks k := fun k hk => by
        rw [ek]; exact lenOf_swap m k _ σ.blks hk
      obtain ⟨H', φ', k1, k2⟩ := killAll_ok ms (R1 := fun i => R1 i ∨ φ m i) hk n2 (fun k hkm => by
        have hkm' : k ≠ m := fun e => n1 (e ▸ hkm)
        rw [lk k hkm']
        have := hl k (by simp [hkm])
        cases hq : look k σ.blks with
        | none => exact absurd hq this
        | some b => simp)
      have e : (fun b => (R1 b ∨ φ m b) ∨ ∃ k ∈ ms, (k ≠ m ∧ φ k b)) = fun b => R1 b ∨ ∃ k ∈ m :: ms, φ k b := by
        funext b
        refine propext ⟨fun q => ?_, fun q => ?_⟩
        · rcases q with (q | q) | ⟨k, hk, _, q⟩
          · exact .inl q
          · exact .inr ⟨m, by simp, q⟩
          · exact .inr ⟨k, by simp [hk], q⟩
        · rcases q with q | ⟨k, hk, q⟩
          · exact .inl (.inl q)
          · rcases List.mem_cons.1 hk with rfl | hk
            · exact .inl (.inr q)
            · exact .inr ⟨k, hk, fun e => n1 (e ▸ hk), q⟩
      refine ⟨H', φ', by rw [← e]; exact k1, fun k hk => ?_⟩
      have hkm : k ≠ m := fun e => hk (by simp [e])
      have hkms : k ∉ ms := fun e => hk (by simp [e])
      obtain ⟨i1, i2, i3, i4⟩ := k2 k hkms
      refine ⟨by rw [i1]; simp [hkm], fun b => by rw [i2 b]; simp [hkm], ?_, ?_⟩
      · show look k (killAll ms (σ.kill m)).blks = none ↔ _
        rw [i3, lk k hkm]
        cases look k σ.blks <;> simp
      · show lenOf (killAll ms (σ.kill m)).blks k = _
        rw [i4, ll k hkm]

/-- what bears no name any more comes to belong to a block -/
theorem Rel.absorb {R1 : Nat → Prop} (h : Rel (B.on R1) σ tm w H φ) (hR : ∀ b, B.R b → R1 b) {n : Nat} {b0 b : Blk} (hn : look n σ.blks = some b0) {F : Nat → Prop} (hF : ∀ i, F i → R1 i ∧ ¬ B.R i ∧ ((B.par.contains n = true ∧ B.X0 i) ∨ B.w0.heap.size ≤ i))
    (hlen : lenOf (blkSet n b σ.blks) n = lenOf σ.blks n) (hb : ∀ v C', H n = some v → ((B.on R1).at σ w H φ).Le C' → C'.w = w → C'.P = B.P → BRel C' (fun i => φ n i ∨ F i) v b) :
    Rel B (σ.setBlk n b) tm w H (fun m i => φ m i ∨ (m = n ∧ F i)) := by
  obtain ⟨v, hv, _⟩ := h.mem.blk n b0 hn
  have hlen' := lenOf_same hlen
  have hle : ((B.on R1).at σ w H φ).Le (B.cx w H (fun m i => φ m i ∨ (m = n ∧ F i)) (lenOf (blkSet n b σ.blks))) :=
    ⟨rfl, Agree.refl _ _, fun i _ hz => ⟨hz.1, hz.2.1, fun hr => hz.2.2.1 (hR i hr), fun k hk => hk.elim (hz.2.2.2 k) fun q => hz.2.2.1 (hF i q.2).1⟩, fun _ _ h => h, fun m p hm => by show lenOf (blkSet n b σ.blks) m = _; rw [hlen']; exact hm⟩
  have up := BlkRel.upd (B := B) (R1 := R1) (bs := σ.blks) (bs' := blkSet n b σ.blks) (w := w) (w' := w) (H := H) (H' := H) (φ := φ) (φ' := fun m i => φ m i ∨ (m = n ∧ F i)) h.mem (fun m => m = n) (fun b _ hr => .inr (hR b hr)) h.mem.fr (Agree.refl _ _)
    (fun m i hm _ => hm.elim (fun q => .inl ⟨m, q⟩) fun q => .inr (hF i q.2).1)
    (fun m i hm hr => hm.elim (fun q => h.mem.rdis m i q (hR i hr)) fun q => (hF i q.2).2.1 hr)
    (fun i hr => h.mem.rsub i (hR i hr)) h.mem.keep
    (fun m hm => by
      by_cases e : m = n
      · subst e; rw [look_set_same] at hm; cases hm
      · rw [look_set_other b e] at hm; exact h.mem.hdom m hm)
    (fun m hm i hi => by
      by_cases e : m = n
      · subst e; rw [look_set_same] at hm; cases hm
      · rw [look_set_other b e] at hm
        rcases hi with q | ⟨q, _⟩
        · exact h.mem.fdom m hm i q
        · exact e q)
    (fun m i hi => by
      rcases hi with q | ⟨rfl, q⟩
      · exact h.mem.fsub m i q
      · exact ⟨(hF i q).2.2, (h.mem.rsub i (hF i q).1).2⟩)
    (fun m k hmk i hi hk => by
      rcases hi with q | ⟨q1, q⟩ <;> rcases hk with q' | ⟨q1', q'⟩
      · exact h.mem.fdis m k hmk i q q'
      · exact h.mem.rdis m i q (hF i q').1
      · exact h.mem.rdis k i q' (hF i q).1
      · exact hmk (q1.trans q1'.symm))
    (fun _ _ h => h) (fun m p hm => by rw [hlen']; exact hm)
    (fun m hm => ⟨look_set_other b hm _, rfl, fun i => ⟨fun hi => hi.elim id fun q => absurd q.1 hm, .inl⟩, Agree.refl _ _⟩)
    (fun m b' hm hb' => by
      subst hm
      rw [look_set_same] at hb'
      obtain rfl := Option.some.inj hb'
      refine ⟨v, hv, BRel.sub (hb v _ hv hle rfl rfl) fun i hi => ?_⟩
      exact hi.elim .inl fun q => .inr ⟨rfl, q⟩)
  exact ⟨up.1, h.tmp.mono (ARel.le hle)⟩

theorem closeBlk_ok (hpar : E.par = B.par) (h : Rel B σ tm w H φ) {n : Nat} {k : St → Option ρ} {r : ρ} (hv : closeBlk E n σ k = some r) : ∃ σ' H' φ', k σ' = some r ∧ Rel B σ' tm w H' φ' := by
  unfold closeBlk at hv
  split at hv
  · rename_i t xs ko i cs hl
    split at hv
    · rename_i x ms hu
      have hv0 := bif_none hv
      clear hv
      obtain ⟨hg, hv⟩ := hv0
      obtain ⟨hg, hp⟩ := and_b hg
      obtain ⟨hnd, hnm⟩ := and_b hg
      have hnodup := nodupB_spec' hnd
      have hnot : n ∉ ms := by simpa using hnm
      rw [hpar] at hp
      obtain ⟨g, cap, cur, ety, Fs, m1, m2, m3, m4, m5, m6, m7, m8, m9, m10⟩ := opn_mem h hl
      have hkids : ∀ m ∈ ms, look m σ.blks ≠ none := unO_look t cs x ms [] hu
      obtain ⟨u1, u2, F1, F2, eu, k1, k2, k3, k4, k5⟩ := unO_rel (C := B.at σ w H φ) (bs := σ.blks) (φ := φ) (fun m e ys hm => by
          obtain ⟨v, hv, hb⟩ := h.mem.blk m _ hm
          exact ⟨v, hv, hb⟩) h.mem.fdis t cs x ms [] _ (Fs i) hu m10 hnodup
        (fun m hm b hb hf => h.mem.fdis m n (fun e => hnot (e ▸ hm)) b hb (m7 i b hf).1)
      have : u2 = [] := by cases u2 with | nil => rfl | cons _ _ => exact k2.elim
      subst this
      simp only [List.append_nil] at eu
      subst eu
      obtain ⟨H', φ', q1, q2⟩ := killAll_ok ms (R1 := B.R) h hnodup hkids
      obtain ⟨i1, i2, i3, i4⟩ := q2 n hnot
      have hlen : lenOf σ.blks n = some (xs.length, t.cells) := by simp [lenOf, hl]
      obtain ⟨b0, hb0⟩ : ∃ b0, look n (killAll ms σ).blks = some b0 := by
        cases hq : look n (killAll ms σ).blks with
        | none => rw [i3.1 hq] at hl; cases hl
        | some b0 => exact ⟨b0, rfl⟩
      have hzz : ∀ b, b < w.heap.size → zone B w φ b → zone (B.on fun b => B.R b ∨ ∃ m ∈ ms, φ m b) w φ' b := fun b hb hz => by
        refine ⟨hz.1, hz.2.1, ?_, fun m hm => ?_⟩
        · rintro (q | ⟨m, _, q⟩)
          · exact hz.2.2.1 q
          · exact hz.2.2.2 m q
        · by_cases hmm : m ∈ ms
          · have hr := q1.mem.rdis m b hm
            -- a block of a name that was given up: none is left
            cases hq : look m (killAll ms σ).blks with
            | none => exact q1.mem.fdom m hq b hm
            | some b1 => exact killAll_gone ms m hmm (by rw [hq]; simp)
          · exact hz.2.2.2 m (((q2 m hmm).2.1 b).1 hm)
      have hFok : ∀ b, (∃ m ∈ ms, φ m b) → (B.R b ∨ ∃ m ∈ ms, φ m b) ∧ ¬ B.R b ∧ ((B.par.contains n = true ∧ B.X0 b) ∨ B.w0.heap.size ≤ b) := by
        rintro b ⟨m, hm, hb⟩
        refine ⟨.inr ⟨m, hm, hb⟩, h.mem.rdis m b hb, ?_⟩
        rcases (h.mem.fsub m b hb).1 with q | q
        · rcases Bool.or_eq_true _ _ ▸ hp with e | e
          · exact .inl ⟨e, q.2⟩
          · have := List.all_eq_true.1 e m hm
            rw [q.1] at this; cases this
        · exact .inr q
      -- the row as a whole
      have row : ∀ (own : Nat → Bool), own i = true → (∀ j, j ≠ i → own j = ownsO ko j) → ∀ v C', H' n = some v → ((B.on fun b => B.R b ∨ ∃ m ∈ ms, φ m b).at (killAll ms σ) w H' φ').Le C' → C'.w = w → C'.P = B.P →
          RowOwn false (fun j F' us y => OwC C'.P (own j) t C'.w C'.Z F' us y) t.cells C'.w (fun b => φ' n b ∨ ∃ m ∈ ms, φ m b) v (xs.set i x) := by
        intro own ho hoj v C' hv' hle hw hP
        rw [i1, m1] at hv'
        obtain rfl := Option.some.inj hv'
        have hZ : ∀ b, b < w.heap.size → zone B w φ b → C'.Z b := fun b hb hz => hle.Z b hb (hzz b hb hz)
        refine ⟨some ⟨g, 0, none⟩, cap, by simp, by simpa using m2, .inr ⟨g, cur, ety, rfl, .inl ((i2 g).2 m4), by rw [hw]; exact m5, m6, fun j b => if j = i then (F1 b ∨ ∃ m ∈ ms, φ m b) else Fs j b, fun j b hb => ?_, fun j j' hjj b hb hb' => ?_, fun j hj => ?_⟩⟩
        · by_cases qj : j = i
          · simp only [qj, if_true] at hb
            rcases hb with q | ⟨m, hm, q⟩
            · have := m7 i b (k3 b q)
              exact ⟨.inl ((i2 b).2 this.1), this.2⟩
            · exact ⟨.inr ⟨m, hm, q⟩, fun e => h.mem.fdis m n (fun e => hnot (e ▸ hm)) b q (e ▸ m4)⟩
          · simp only [qj, if_false] at hb
            have := m7 j b hb
            exact ⟨.inl ((i2 b).2 this.1), this.2⟩
        · have key : ∀ j, j ≠ i → ∀ b, Fs j b → ¬ (F1 b ∨ ∃ m ∈ ms, φ m b) := by
            rintro j hj b hb (q | ⟨m, hm, q⟩)
            · exact m8 j i hj b hb (k3 b q)
            · exact h.mem.fdis m n (fun e => hnot (e ▸ hm)) b q (m7 j b hb).1
          by_cases qj : j = i
          · have qj' : ¬ j' = i := fun e => hjj (qj.trans e.symm)
            simp only [qj, if_true] at hb
            simp only [qj', if_false] at hb'
            exact key j' qj' b hb' hb
          · simp only [qj, if_false] at hb
            by_cases qj' : j' = i
            · simp only [qj', if_true] at hb'
              exact key j qj b hb hb'
            · simp only [qj', if_false] at hb'
              exact m8 j j' hjj b hb hb'
        · have hj' : j < xs.length := by simpa using hj
          by_cases qj : j = i
          · subst qj
            simp only [if_true, ho]
            rw [List.getElem_set_self, hP, hw]
            exact OwC.agree hZ (Agree.refl _ _) t _ _ _ _ (fun _ h => h) (Agree.refl _ _) k1
          · simp only [qj, if_false]
            rw [List.getElem_set_ne (Ne.symm qj), hoj j qj, hP, hw]
            exact OwC.agree hZ (Agree.refl _ _) t _ _ _ _ (fun _ h => h) (Agree.refl _ _) (m9 j hj' qj)
      cases ko with
      | none =>
        refine ⟨_, _, _, hv, Rel.absorb q1 (fun b hb => .inl hb) hb0 hFok ?_ fun v C' hv' hle hw hP => ?_⟩
        · rw [i4, hlen]; simp [lenOf, look_set_same]
        · exact row (fun _ => true) rfl (fun _ _ => rfl) v C' hv' hle hw hP
      | some kk =>
        have hv0 := bif_none hv
        clear hv
        obtain ⟨hki, hv⟩ := hv0
        have hki : kk = i := of_decide_eq_true hki
        subst hki
        refine ⟨_, _, _, hv, Rel.absorb q1 (fun b hb => .inl hb) hb0 hFok ?_ fun v C' hv' hle hw hP => ?_⟩
        · rw [i4, hlen]; simp [lenOf, look_set_same]
        · exact row (fun j => decide (j < kk + 1)) (by simp) (fun j hj => by
            show decide (j < kk + 1) = decide (j < kk)
            by_cases q : j < kk
            · rw [decide_eq_true q, decide_eq_true (by omega : j < kk + 1)]
            · rw [decide_eq_false q, decide_eq_false (by omega : ¬ j < kk + 1)]) v C' hv' hle hw hP
    · cases hv
  · exact ⟨σ, H, φ, hv, h⟩

theorem closeAll_ok (hpar : E.par = B.par) : ∀ (ns : List Nat) {σ : St} {H : Nat → Option Value} {φ : Nat → Nat → Prop} {k : St → Option ρ} {r : ρ}, Rel B σ tm w H φ → closeAll E ns σ k = some r → ∃ σ' H' φ', k σ' = some r ∧ Rel B σ' tm w H' φ'
  | [], σ, H, φ, k, r, h, hv => ⟨σ, H, φ, hv, h⟩
  | n :: ns, σ, H, φ, k, r, h, hv => by
    obtain ⟨σ1, H1, φ1, hk, h1⟩ := closeBlk_ok hpar h hv
    exact closeAll_ok hpar ns h1 hk
end
end Go.Proofs.YtklfnbckoaphpaaGreatDoor
