/- Rows that own what their elements hold: literals, append, and when a row counts as such. No conditions. -/
import Derived.Test.YtklfnbckoaphpaaGreatDoorEvXc
set_option linter.unusedVariables false
set_option linter.unusedSimpArgs false
namespace Go.Proofs.YtklfnbckoaphpaaGreatDoor
open Go

section
variable {ρ : Type} {B : Base} {E : Env} {σ : St} {a : Act} {tm : Array Value} {w : World} {H : Nat → Option Value} {φ : Nat → Nat → Prop}

/-- a row is settled -/
theorem settleGo_ok : ∀ (ns : List Nat) {σ : St} {k : St → Option ρ} {r : ρ}, Rel B σ tm w H φ → settleGo ns σ k = some r → ∃ σ', k σ' = some r ∧ Rel B σ' tm w H φ
  | [], σ, k, r, h, hv => ⟨σ, hv, h⟩
  | n :: ns, σ, k, r, h, hv => by
    simp only [settleGo] at hv
    split at hv
    · rename_i t xs kk hl
      have hv0 := bif_none hv
      clear hv
      obtain ⟨hk, hv⟩ := hv0
      have hk : kk = xs.length := of_decide_eq_true hk
      subst hk
      refine settleGo_ok ns (h.write hl (Fr.refl _ _) (by simp [lenOf, look_set_same, hl]) (fun v C' hHv hle hw hP => ?_)) hv
      obtain ⟨v', hv', hb⟩ := h.mem.blk n _ hl
      have : v' = v := by rw [hHv] at hv'; exact (Option.some.inj hv').symm
      subst this
      refine BRel.keep (C := B.at σ w H φ) (F := φ n) hle.P hle.Z hle.agree (CellRel.le hle) (fun _ h => h) (by rw [hw]; exact Agree.refl _ _) ?_
      obtain ⟨A, cap, e, hcap, hmem⟩ := hb
      refine ⟨A, cap, e, hcap, ?_⟩
      rcases hmem with h0 | ⟨g, cur, ety, eA, hF, hh, hsz, Fs, f1, f2, f3⟩
      · exact .inl h0
      · refine .inr ⟨g, cur, ety, eA, hF, hh, hsz, Fs, f1, f2, fun i hi => ?_⟩
        have : OwC B.P (decide (i < xs.length)) t w (zone B w φ) (Fs i) _ xs[i] := f3 i hi
        rw [decide_eq_true hi] at this
        exact this
    · exact settleGo_ok ns h hv
theorem settleAll_ok {id : Nat} {k : St → Option ρ} {r : ρ} (h : Rel B σ tm w H φ) (hv : settleAll E id σ k = some r) : ∃ σ', k σ' = some r ∧ Rel B σ' tm w H φ := by
  unfold settleAll at hv
  cases hc : E.settle.contains id with
  | true => rw [hc] at hv; exact settleGo_ok _ h hv
  | false => rw [hc] at hv; exact ⟨σ, hv, h⟩

/-- what owns a block -/
abbrev OwnOK (B : Base) (R1 : Nat → Prop) (n : Nat) (b : Nat) : Prop := R1 b ∧ ¬ B.R b ∧ ((B.par.contains n = true ∧ B.X0 b) ∨ B.w0.heap.size ≤ b)

/-- the memory that append leaves, as a row under a name, with all that its elements own -/
theorem Rel.appendedD {R1 : Nat → Prop} (h : Rel (B.on R1) σ tm w H φ) (hR : ∀ b, B.R b → R1 b) {n : Nat} (hn : look n σ.blks = none) (hio : B.io n = none) {w' : World} {ty : Ty} {xs ys : List ty.den} {olds news : List Value} {A' : Option Addr} {cap' : Nat} {Fx Fy : Nat → Nat → Prop}
    (hcap : xs.length + ys.length ≤ cap') (hol : olds.length = xs.length * ty.cells) (hnl : news.length = ys.length * ty.cells)
    (hmem : (cap' = 0 ∧ w' = w) ∨ ∃ g' cur' ety', A' = some ⟨g', 0, none⟩ ∧ w'.heap[g']? = some (.cells cur' ety' (0, 0)) ∧ cap' * ty.cells ≤ cur'.size ∧ cur'.toList.take ((xs.length + ys.length) * ty.cells) = olds ++ news ∧
      ((OwnOK B R1 n g' ∧ (∀ i, ¬ Fx i g' ∧ ¬ Fy i g') ∧ Fr (fun b => b = g') w w') ∨ (w.heap.size ≤ g' ∧ Fr NoB w w')))
    (hFx : ∀ i b, Fx i b → OwnOK B R1 n b) (hFy : ∀ i b, Fy i b → OwnOK B R1 n b) (dx : ∀ i j, i ≠ j → ∀ b, Fx i b → ¬ Fx j b) (dy : ∀ i j, i ≠ j → ∀ b, Fy i b → ¬ Fy j b) (dxy : ∀ i j b, Fx i b → ¬ Fy j b)
    (ho : ∀ i (hi : i < xs.length), OwC B.P true ty w (zone (B.on R1) w φ) (Fx i) ((olds.drop (i * ty.cells)).take ty.cells) xs[i])
    (hnw : ∀ i (hi : i < ys.length), OwC B.P true ty w (zone (B.on R1) w φ) (Fy i) ((news.drop (i * ty.cells)).take ty.cells) ys[i]) :
    ∃ H' φ', Rel B (σ.setBlk n (.row true ty (xs ++ ys))) tm w' H' φ' ∧ H' n = some (.slice A' (xs.length + ys.length) cap') := by
  have hlen : (xs ++ ys).length = xs.length + ys.length := List.length_append
  rcases hmem with ⟨rfl, rfl⟩ | ⟨g', cur', ety', rfl, hh, hsz, htake, hwhere⟩
  · refine ⟨_, _, h.fresh hR hn hio (b := .row true ty (xs ++ ys)) (v := .slice A' (xs.length + ys.length) 0) (F := NoB) (Fr.refl _ _) (fun i f => f.elim) (fun C' hle hw hP _ => ⟨A', 0, by rw [hlen], by rw [hlen]; exact hcap, .inl rfl⟩), by simp⟩
  · have hne : ∀ i, ¬ Fx i g' ∧ ¬ Fy i g' := by
      rcases hwhere with ⟨_, q, _⟩ | ⟨q, _⟩
      · exact q
      · intro i
        refine ⟨fun hf => ?_, fun hf => ?_⟩
        · have := (h.mem.rsub g' (hFx i g' hf).1).2; omega
        · have := (h.mem.rsub g' (hFy i g' hf).1).2; omega
    have hFr : Fr (fun b => b = g') w w' := by
      rcases hwhere with ⟨_, _, q⟩ | ⟨_, q⟩
      · exact q
      · exact q.le
    refine ⟨_, _, h.fresh hR hn hio (b := .row true ty (xs ++ ys)) (v := .slice (some ⟨g', 0, none⟩) (xs.length + ys.length) cap') (F := fun b => b = g' ∨ (∃ i, Fx i b) ∨ ∃ i, Fy i b) ?_ (fun b hb => ?_)
      (fun C' hle hw hP hz => ⟨_, cap', by rw [hlen], by rw [hlen]; exact hcap, .inr ⟨g', cur', ety', rfl, .inl rfl, by rw [hw]; exact hh, hsz, fun i b => if i < xs.length then Fx i b else Fy (i - xs.length) b, fun i b hb => ?_, fun i j hij b hb hb' => ?_, fun i hi => ?_⟩⟩), by simp⟩
    · rcases hwhere with ⟨q, _, h4⟩ | ⟨_, h2⟩
      · exact ⟨h4.os, h4.tape, h4.output, h4.size, fun b hb hn => h4.block b hb fun e => hn (by subst e; exact ⟨q.1, q.2.1⟩), h4.glob⟩
      · exact h2.le
    · rcases hb with rfl | ⟨i, hf⟩ | ⟨i, hf⟩
      · refine ⟨?_, (Array.getElem?_eq_some_iff.1 hh).1⟩
        rcases hwhere with ⟨q, _⟩ | ⟨q, _⟩
        · exact .inr q
        · exact .inl q
      · exact ⟨.inr (hFx i b hf), Nat.lt_of_lt_of_le (h.mem.rsub b (hFx i b hf).1).2 hFr.size⟩
      · exact ⟨.inr (hFy i b hf), Nat.lt_of_lt_of_le (h.mem.rsub b (hFy i b hf).1).2 hFr.size⟩
    · by_cases q : i < xs.length
      · simp only [q, if_true] at hb
        exact ⟨.inr (.inl ⟨i, hb⟩), fun e => (hne i).1 (e ▸ hb)⟩
      · simp only [q, if_false] at hb
        exact ⟨.inr (.inr ⟨_, hb⟩), fun e => (hne _).2 (e ▸ hb)⟩
    · by_cases q : i < xs.length <;> by_cases q' : j < xs.length
      · simp only [q, q', if_true] at hb hb'
        exact dx i j hij b hb hb'
      · simp only [q, q', if_true, if_false] at hb hb'
        exact dxy i _ b hb hb'
      · simp only [q, q', if_true, if_false] at hb hb'
        exact dxy j _ b hb' hb
      · simp only [q, q', if_false] at hb hb'
        exact dy _ _ (by omega) b hb hb'
    · rw [hlen] at hi
      have hag : ∀ G : Nat → Prop, (∀ b, G b → b ≠ g') → Agree G w C'.w := fun G hG => by rw [hw]; exact hFr.agree _ fun b _ hb e => hG b hb e
      rw [chunk_take cur'.toList (xs.length + ys.length) ty.cells i hi, htake]
      by_cases hx : i < xs.length
      · rw [chunk_left olds news xs.length ty.cells i hol hx]
        rw [List.getElem_append_left hx]
        simp only [hx, if_true]
        rw [hP]
        exact OwC.agree hle.Z hle.agree ty (Fx i) _ _ _ (fun _ h => h) (hag _ fun b hb e => (hne i).1 (e ▸ hb)) (ho i hx)
      · rw [chunk_right olds news xs.length ty.cells i hol (by omega)]
        rw [List.getElem_append_right (by omega)]
        simp only [hx, if_false]
        rw [hP]
        exact OwC.agree hle.Z hle.agree ty (Fy (i - xs.length)) _ _ _ (fun _ h => h) (hag _ fun b hb e => (hne _).2 (e ▸ hb)) (hnw (i - xs.length) (by omega))

/-- the same, whatever else is about to be written -/
theorem killList_any (h : Rel B σ tm w H φ) {ms : List Nat} (hn : ms.Nodup) (hl : ∀ m ∈ ms, look m σ.blks ≠ none) :
    ∃ H' φ', Rel (B.on fun b => B.R b ∨ ∃ m ∈ ms, φ m b) (killAll ms σ) tm w H' φ' ∧ (∀ m ∈ ms, look m (killAll ms σ).blks = none) ∧ (∀ b, b < w.heap.size → zone B w φ b → zone (B.on fun b => B.R b ∨ ∃ m ∈ ms, φ m b) w φ' b) := by
  obtain ⟨H', φ', q1, q2⟩ := killAll_ok ms (R1 := B.R) h hn hl
  have gone : ∀ m ∈ ms, look m (killAll ms σ).blks = none := fun m hm => by
    cases hq : look m (killAll ms σ).blks with
    | none => rfl
    | some b1 => exact (killAll_gone ms m hm (by rw [hq]; simp)).elim
  refine ⟨H', φ', q1, gone, fun b hb hz => ⟨hz.1, hz.2.1, fun q => q.elim hz.2.2.1 fun ⟨m, _, q⟩ => hz.2.2.2 m q, fun m hm => ?_⟩⟩
  by_cases hmm : m ∈ ms
  · exact q1.mem.fdom m (gone m hmm) b hm
  · exact hz.2.2.2 m (((q2 m hmm).2.1 b).1 hm)

/-- what is given up, all at once: its memory is about to be written or taken in -/
theorem killList_ok (hB : B.R = NoB) (h : Rel B σ tm w H φ) {ms : List Nat} (hn : ms.Nodup) (hl : ∀ m ∈ ms, look m σ.blks ≠ none) :
    ∃ H' φ', Rel (B.on fun b => ∃ m ∈ ms, φ m b) (killAll ms σ) tm w H' φ' ∧ (∀ m ∈ ms, look m (killAll ms σ).blks = none) ∧ (∀ b, b < w.heap.size → zone B w φ b → zone (B.on fun b => ∃ m ∈ ms, φ m b) w φ' b) ∧
      (∀ k, k ∉ ms → H' k = H k ∧ (∀ b, φ' k b ↔ φ k b) ∧ (look k (killAll ms σ).blks = none ↔ look k σ.blks = none)) := by
  obtain ⟨H', φ', q1, q2⟩ := killAll_ok ms (R1 := B.R) h hn hl
  have e : (fun b => B.R b ∨ ∃ m ∈ ms, φ m b) = fun b => ∃ m ∈ ms, φ m b := by
    funext b; rw [hB]; simp
  rw [e] at q1
  have gone : ∀ m ∈ ms, look m (killAll ms σ).blks = none := fun m hm => by
    cases hq : look m (killAll ms σ).blks with
    | none => rfl
    | some b1 => exact (killAll_gone ms m hm (by rw [hq]; simp)).elim
  refine ⟨H', φ', q1, gone, fun b hb hz => ⟨hz.1, hz.2.1, fun ⟨m, _, q⟩ => hz.2.2.2 m q, fun m hm => ?_⟩, fun k hk => ⟨(q2 k hk).1, (q2 k hk).2.1, (q2 k hk).2.2.1⟩⟩
  by_cases hmm : m ∈ ms
  · exact q1.mem.fdom m (gone m hmm) b hm
  · exact hz.2.2.2 m (((q2 m hmm).2.1 b).1 hm)

/-- one name more is given up -/
theorem killOne {R1 : Nat → Prop} (h : Rel (B.on R1) σ tm w H φ) (n : Nat) : ∃ H' φ', Rel (B.on R1) (σ.kill n) tm w H' φ' ∧ look n (σ.kill n).blks = none ∧ (∀ m b, φ' m b → φ m b) := by
  obtain ⟨H', φ', h1, h2, _, _, h5⟩ := h.kill n
  exact ⟨H', φ', h1, h2, h5⟩

/-- what append takes out of a row -/
theorem row_src {P : Program} {C : Cx} {s n cap g : Nat} {cur : Array Value} {ety : TypeId} {fz : Nat × Nat} (hh : C.w.heap[g]? = some (.cells cur ety fz)) (hn : n ≤ cap) (hsz : cap * s ≤ cur.size) :
    (cur.toList.take (n * s)).length = n * s ∧ ∀ w', Stay C.w w' → (Builtin.lenOf (.slice (some ⟨g, 0, none⟩) n cap)).run P w' = .ok n w' ∧ (Builtin.firstCells s n (.slice (some ⟨g, 0, none⟩) n cap)).run P w' = .ok (cur.toList.take (n * s)).toArray w' := by
  have hns : n * s ≤ cap * s := Nat.mul_le_mul_right _ hn
  have hlen : (cur.toList.take (n * s)).length = n * s := by simp; omega
  refine ⟨hlen, fun w' hw' => ⟨by simp [Builtin.lenOf], ?_⟩⟩
  refine run_firstCells_some w' s n ⟨g, 0, none⟩ n cap _ hlen fun j v hv => ?_
  rw [add_at]
  have hh' : w'.heap[g]? = some (.cells cur ety fz) := by
    rw [(hw'.all fun _ => True).2 g (lt_of_block hh) trivial]; exact hh
  rw [cell_of_row w' g _ cur ety fz hh']
  rw [List.getElem?_take] at hv
  split at hv
  · simpa using hv
  · cases hv

theorem eo_appendD (hE : EnvOK B.P E) (hpar : E.par = B.par) (hR0 : B.R = NoB) (hA : RelA B σ a w) {o : Oper} {t t' d e : Nat} {x y : Operand} {ti ti' : TInf} (ho : o.op = .call { callee := .builtin .append, args := #[x, y], argTypes := #[t, t'] }) (hd : o.dst = some d)
    (ht : E.T t = some ti) (ht' : E.T t' = some ti') (hdesc : ti.desc = .slice e) (hsrc : isSrcD ti'.desc = true) {k : St → Option ρ} {r : ρ}
    (hv : appendD E d e (asCell (σ.eval x)) (asCell (σ.eval y)) σ (fun v σ' => k (σ'.set d v)) = some r) (Q : Exit → Act → World → Prop) : o.wp B.P a w (Next B k r) Q := by
  obtain ⟨hdef, H, φ, h⟩ := hA
  unfold appendD at hv
  split at hv
  · rename_i te ty p he hty ey
    split at hv
    · rename_i tp ys0 hlp
      split at hv
      · rename_i ys hc
        obtain ⟨rfl, rfl⟩ := Ty.castL?_spec hc
        have hv0 := bif_none hv
        clear hv
        obtain ⟨hg, hv⟩ := hv0
        obtain ⟨hg, hnp⟩ := and_b hg
        obtain ⟨hg, hz⟩ := and_b hg
        obtain ⟨hg, hby⟩ := and_b hg
        have hsz : te.size = tp.cells := by simpa using hg
        have hby' : 0 < te.bytes := of_decide_eq_true hby
        rw [hpar] at hnp
        have hnp : B.par.contains p = false := by simpa using hnp
        obtain ⟨inf, i1, i2, i3, i4, _⟩ := tinf_spec (hE.T e te he)
        obtain ⟨_, _, _, _, _, u1⟩ := tinf_spec (hE.T t ti ht)
        obtain ⟨_, _, _, _, _, u2⟩ := tinf_spec (hE.T t' ti' ht')
        rw [hdesc] at u1
        have hd' : (∃ e', ti'.desc = .slice e') ∨ ti'.desc = .string := by
          cases hq : ti'.desc <;> simp_all [isSrcD]
        unfold zeroOk at hz
        split at hz
        · rename_i z hz'
          have hzs : z.cells.size = te.size := by simpa using hz
          have hy : CellRel (B.at σ w H φ) (.own p) (a.eval y) := by
            have := h.eval y
            cases e1 : σ.eval y with
            | c c => rw [e1] at this ey; simp only [asCell] at ey; subst ey; exact this
            | any => rw [e1] at ey; simp [asCell] at ey
            | agg _ => rw [e1] at ey; simp [asCell] at ey
            | tup _ => rw [e1] at ey; simp [asCell] at ey
          obtain ⟨vp, hvp, hrowp⟩ := h.mem.blk p _ hlp
          have hvpe : a.eval y = vp := by have : H p = some (a.eval y) := hy.1; rw [hvp] at this; exact (Option.some.inj this).symm
          have hrowp : RowOf B.P false true tp w (zone B w φ) (φ p) vp ys := hrowp
          obtain ⟨Ap, capp, evp, hcapp, hmemp⟩ := hrowp
          -- the cells that come
          have src : ∃ (news : List Value) (Fy : Nat → Nat → Prop), news.length = ys.length * tp.cells ∧ (∀ w', Stay w w' → (Builtin.lenOf vp).run B.P w' = .ok ys.length w' ∧ (Builtin.firstCells tp.cells ys.length vp).run B.P w' = .ok news.toArray w') ∧
              (∀ i b, Fy i b → φ p b) ∧ (∀ i j, i ≠ j → ∀ b, Fy i b → ¬ Fy j b) ∧ (∀ i (hi : i < ys.length), OwC B.P true tp w (zone B w φ) (Fy i) ((news.drop (i * tp.cells)).take tp.cells) ys[i]) := by
            rcases hmemp with h0 | ⟨g, cur, ety, rfl, hF, hh, hsz2, Fs, f1, f2, f3⟩
            · have hl0 : ys.length = 0 := by omega
              subst evp
              refine ⟨[], fun _ _ => False, by simp [hl0], fun w' _ => ⟨by simp [Builtin.lenOf], ?_⟩, fun _ _ f => f.elim, fun _ _ _ _ f => f.elim, fun i hi => by omega⟩
              rw [hl0]
              exact firstCells_zero B.P tp.cells Ap capp w'
            · obtain ⟨q1, q2⟩ := row_src (P := B.P) (C := B.at σ w H φ) hh hcapp hsz2
              refine ⟨cur.toList.take (ys.length * tp.cells), Fs, q1, by rw [evp]; exact q2, fun i b hb => (f1 i b hb).1, f2, fun i hi => ?_⟩
              rw [← chunk_take cur.toList ys.length tp.cells i hi]
              exact f3 i hi
          obtain ⟨news, Fy, n1, n3, fy1, fy2, fy3⟩ := src
          have n2 : ∀ u ∈ news, u.oneCell' = true := fun u hu => by
            obtain ⟨i, hi, hm⟩ := mem_chunk n1 hu
            exact (RdC.cells tp _ _ (OwC.read (Z' := fun _ => True) (fun _ _ _ => trivial) tp (Fy i) _ _ (fun _ _ _ => trivial) (fy3 i hi))).2 u hm
          have run : ∀ {base : Option Addr} {sLen sCap : Nat} {olds : List Value},
              a.eval x = .slice base sLen sCap → ((sLen = 0 ∧ sCap = 0 ∧ olds = []) ∨ ∃ g cur ety, base = some ⟨g, 0, none⟩ ∧ nGlob ≤ g ∧ w.heap[g]? = some (.cells cur ety (0, 0)) ∧ sLen ≤ sCap ∧ sCap * tp.cells ≤ cur.size ∧ olds = cur.toList.take (sLen * tp.cells)) →
              (sLen + ys.length) * te.bytes ≤ 140737488355328 →
              ∃ v' w' A' cap', (execOp a.eval o).run B.P w = .ok (.value v') w' ∧ v' = .slice A' (sLen + ys.length) cap' ∧ sLen + ys.length ≤ cap' ∧
                ((cap' = 0 ∧ w' = w) ∨ ∃ g' cur' ety', A' = some ⟨g', 0, none⟩ ∧ w'.heap[g']? = some (.cells cur' ety' (0, 0)) ∧ cap' * tp.cells ≤ cur'.size ∧ cur'.toList.take ((sLen + ys.length) * tp.cells) = olds ++ news ∧
                  ((base = some ⟨g', 0, none⟩ ∧ sCap ≠ 0 ∧ Fr (fun b => b = g') w w') ∨ (w.heap.size ≤ g' ∧ Fr NoB w w'))) := by
            intro base sLen sCap olds ex hdst hb
            have h63 : sLen + ys.length ≤ 9223372036854775807 := by
              have : (sLen + ys.length) * 1 ≤ (sLen + ys.length) * te.bytes := Nat.mul_le_mul_left _ hby'
              omega
            have := run_append_gen (P := B.P) (w := w) (t := t) (t' := t') (ty := o.type) (e := e) (i := inf) (z := z) u1 u2 hd' i1 (by rw [i4]; exact hz') (by rw [hzs, i2]) (base := base) (sLen := sLen) (sCap := sCap) (x := a.eval y) (n := ys.length) (news := news) (olds := olds)
              (by rw [i2, hsz, hvpe]; exact n3) (by rw [i2, hsz]; exact n1) n2 (by rw [i2, hsz]; exact hdst) h63 (by rw [i3]; exact hb)
            rw [i2, hsz] at this
            obtain ⟨v', w', A', cap', r1, r2, r3, r4⟩ := this
            refine ⟨v', w', A', cap', ?_, r2, r3, r4⟩
            simp [execOp, ho, resolve, invoke, builtin, ex, r1]
          have ownp : ∀ n b, φ p b → (∃ m ∈ [p], φ m b) ∧ ((B.par.contains n = true ∧ B.X0 b) ∨ B.w0.heap.size ≤ b) := fun n b hb => by
            refine ⟨⟨p, by simp, hb⟩, ?_⟩
            rcases (h.mem.fsub p b hb).1 with q | q
            · rw [hnp] at q; exact absurd q.1 (by simp)
            · exact .inr q
          split at hv
          · rename_i ex0
            have hv0 := bif_none hv
            clear hv
            obtain ⟨hg, hv⟩ := hv0
            obtain ⟨hlen, hpd⟩ := and_b hg
            have hlen' := of_decide_eq_true hlen
            have hpd : p ≠ d * 64 := by simpa using hpd
            have hx := h.eval x
            cases e1 : σ.eval x with
            | c c =>
              rw [e1] at ex0 hx
              simp only [asCell] at ex0
              subst ex0
              obtain ⟨A, eA⟩ := hx
              obtain ⟨v', w', A', cap', r1, r2, r3, r4⟩ := run eA (olds := []) (.inl ⟨rfl, rfl, rfl⟩) (by simpa using hlen')
              obtain ⟨H1, φ1, hk1, hg1, hz1, _⟩ := killList_ok hR0 h (ms := [p]) (by simp) (by simp [hlp])
              have hk1 : Rel (B.on fun b => ∃ m ∈ [p], φ m b) (σ.kill p) a.tmps w H1 φ1 := hk1
              obtain ⟨H', φ', hk, hkn, hkφ⟩ := killOne hk1 (d * 64)
              have hmono : ∀ b, b < w.heap.size → zone B w φ b → zone (B.on fun b => ∃ m ∈ [p], φ m b) w φ' b := fun b hb hz => let q := hz1 b hb hz; ⟨q.1, q.2.1, q.2.2.1, fun m hm => q.2.2.2 m (hkφ m b hm)⟩
              obtain ⟨H2, φ2, hn, hH2⟩ := Rel.appendedD (B := B) (R1 := fun b => ∃ m ∈ [p], φ m b) hk (fun b hb => by rw [hR0] at hb; exact hb.elim) hkn (B.io64 d) (ty := tp) (xs := []) (ys := ys) (olds := []) (news := news) (A' := A') (cap' := cap') (w' := w') (by simpa using r3) (by simp) n1
                (by
                  rcases r4 with r4 | ⟨g', cur', ety', q1, q2, q3, q4, q5⟩
                  · exact .inl r4
                  · refine .inr ⟨g', cur', ety', q1, q2, q3, by simpa using q4, ?_⟩
                    rcases q5 with ⟨_, q6, _⟩ | q5
                    · exact absurd rfl q6
                    · exact .inr q5)
                (Fx := fun _ _ => False) (Fy := Fy) (fun _ _ f => f.elim) (fun i b hb => let q := ownp (d * 64) b (fy1 i b hb); ⟨q.1, fun hr => by rw [hR0] at hr; exact hr.elim, q.2⟩) (fun _ _ _ _ f => f.elim) fy2 (fun _ _ _ f => f.elim)
                (fun i hi => absurd hi (by simp)) (fun i hi => OwC.agree hmono (Agree.refl _ _) tp _ _ _ _ (fun _ h => h) (Agree.refl _ _) (fy3 i hi))
              refine wp_val r1 ⟨_, hv, by rw [put_defers]; exact hdef, H2, φ2, ?_⟩
              rw [hd]
              have r2' : v' = .slice A' ys.length cap' := by simpa using r2
              have hH2' : H2 (d * 64) = some v' := by rw [r2']; simpa using hH2
              exact Rel.set hn d (ownRel hH2' r2' : ARel (B.at _ w' H2 φ2) (.c (.own (d * 64))) v')
            | any => rw [e1] at ex0; simp [asCell] at ex0
            | agg _ => rw [e1] at ex0; simp [asCell] at ex0
            | tup _ => rw [e1] at ex0; simp [asCell] at ex0
          · rename_i n ex0
            split at hv
            · rename_i tn xs0 hln
              split at hv
              · rename_i xs hcx
                obtain ⟨rfl, rfl⟩ := Ty.castL?_spec hcx
                have hv0 := bif_none hv
                clear hv
                obtain ⟨hg, hv⟩ := hv0
                obtain ⟨hg, hn63⟩ := and_b hg
                obtain ⟨hlen, hnp2⟩ := and_b hg
                have hlen' := of_decide_eq_true hlen
                have hnp2 : n ≠ p := by simpa using hnp2
                have hio : B.io n = none := by
                  cases hq : B.io n with
                  | none => rfl
                  | some v => have := B.iok _ _ hq; simp [this] at hn63
                have hx := h.eval x
                cases e1 : σ.eval x with
                | c c =>
                  rw [e1] at ex0 hx
                  simp only [asCell] at ex0
                  subst ex0
                  obtain ⟨v0, hv0, hrow⟩ := h.mem.blk n _ hln
                  have eH : H n = some (a.eval x) := hx.1
                  have eq : v0 = a.eval x := by rw [hv0] at eH; exact Option.some.inj eH
                  subst eq
                  have hrow : RowOf B.P false true tn w (zone B w φ) (φ n) (a.eval x) xs := hrow
                  obtain ⟨A, cap, eA, hcap, hmem⟩ := hrow
                  have hdst : ∃ (olds : List Value) (Fx : Nat → Nat → Prop), olds.length = xs.length * tn.cells ∧ ((xs.length = 0 ∧ cap = 0 ∧ olds = []) ∨ ∃ g cur ety, A = some ⟨g, 0, none⟩ ∧ nGlob ≤ g ∧ w.heap[g]? = some (.cells cur ety (0, 0)) ∧ xs.length ≤ cap ∧ cap * tn.cells ≤ cur.size ∧ olds = cur.toList.take (xs.length * tn.cells)) ∧
                      (cap ≠ 0 → ∀ g, A = some ⟨g, 0, none⟩ → φ n g ∧ ∀ i, ¬ Fx i g) ∧ (∀ i b, Fx i b → φ n b) ∧ (∀ i j, i ≠ j → ∀ b, Fx i b → ¬ Fx j b) ∧ ∀ i (hi : i < xs.length), OwC B.P true tn w (zone B w φ) (Fx i) ((olds.drop (i * tn.cells)).take tn.cells) xs[i] := by
                    rcases hmem with rfl | ⟨g, cur, ety, rfl, hF, hh, hsz2, Fs, f1, f2, f3⟩
                    · have h0 : xs.length = 0 := by omega
                      exact ⟨[], fun _ _ => False, by simp [h0], .inl ⟨h0, rfl, rfl⟩, fun h => absurd rfl h, fun _ _ f => f.elim, fun _ _ _ _ f => f.elim, fun i hi => by omega⟩
                    · refine ⟨cur.toList.take (xs.length * tn.cells), Fs, ?_, .inr ⟨g, cur, ety, rfl, h.mem.big hF, hh, hcap, hsz2, rfl⟩, fun _ g' e => ?_, fun i b hb => (f1 i b hb).1, f2, fun i hi => ?_⟩
                      · have : xs.length * tn.cells ≤ cap * tn.cells := Nat.mul_le_mul_right _ hcap
                        simp; omega
                      · simp only [Option.some.injEq, Addr.mk.injEq, and_true] at e
                        subst e
                        exact ⟨hF, fun i hf => (f1 i _ hf).2 rfl⟩
                      · rw [← chunk_take cur.toList xs.length tn.cells i hi]
                        exact f3 i hi
                  obtain ⟨olds, Fx, o1, o2, o3, fx1, fx2, fx3⟩ := hdst
                  obtain ⟨v', w', A', cap', r1, r2, r3, r4⟩ := run eA o2 hlen'
                  obtain ⟨H1, φ1, hk, hgone, hmono, _⟩ := killList_ok hR0 h (ms := [p, n]) (by simp [Ne.symm hnp2]) (by simp [hlp, hln])
                  have ownx : ∀ b, φ n b → OwnOK B (fun b => ∃ m ∈ [p, n], φ m b) n b := fun b hb => ⟨⟨n, by simp, hb⟩, fun hr => by rw [hR0] at hr; exact hr.elim, (h.mem.fsub n b hb).1⟩
                  have owny : ∀ b, φ p b → OwnOK B (fun b => ∃ m ∈ [p, n], φ m b) n b := fun b hb => ⟨⟨p, by simp, hb⟩, fun hr => by rw [hR0] at hr; exact hr.elim, (ownp n b hb).2⟩
                  obtain ⟨H2, φ2, hn, hH2⟩ := Rel.appendedD (B := B) (R1 := fun b => ∃ m ∈ [p, n], φ m b) hk (fun b hb => by rw [hR0] at hb; exact hb.elim) (hgone n (by simp)) hio (ty := tn) (xs := xs) (ys := ys) (olds := olds) (news := news) (A' := A') (cap' := cap') (w' := w') (Fx := Fx) (Fy := Fy) r3 o1 n1
                    (by
                      rcases r4 with r4 | ⟨g', cur', ety', q1, q2, q3, q4, q5⟩
                      · exact .inl r4
                      · refine .inr ⟨g', cur', ety', q1, q2, q3, q4, ?_⟩
                        rcases q5 with ⟨q6, q7, q8⟩ | q5
                        · obtain ⟨hF, hne⟩ := o3 q7 g' q6
                          exact .inl ⟨ownx g' hF, fun i => ⟨hne i, fun hf => h.mem.fdis p n (Ne.symm hnp2) g' (fy1 i g' hf) hF⟩, q8⟩
                        · exact .inr q5)
                    (fun i b hb => ownx b (fx1 i b hb)) (fun i b hb => owny b (fy1 i b hb)) fx2 fy2 (fun i j b hb hb' => h.mem.fdis p n (Ne.symm hnp2) b (fy1 j b hb') (fx1 i b hb))
                    (fun i hi => OwC.agree hmono (Agree.refl _ _) tn _ _ _ _ (fun _ h => h) (Agree.refl _ _) (fx3 i hi)) (fun i hi => OwC.agree hmono (Agree.refl _ _) tn _ _ _ _ (fun _ h => h) (Agree.refl _ _) (fy3 i hi))
                  refine wp_val r1 ⟨_, hv, by rw [put_defers]; exact hdef, H2, φ2, ?_⟩
                  rw [hd]
                  exact Rel.set hn d (ownRel (by rw [r2]; exact hH2) r2 : ARel (B.at _ w' H2 φ2) (.c (.own n)) v')
                | any => rw [e1] at ex0; simp [asCell] at ex0
                | agg _ => rw [e1] at ex0; simp [asCell] at ex0
                | tup _ => rw [e1] at ex0; simp [asCell] at ex0
              · cases hv
            · cases hv
          · cases hv
        · cases hz
      · cases hv
    · cases hv
  · cases hv

theorem eo_buildD (hE : EnvOK B.P E) (hpar : E.par = B.par) (hA : RelA B σ a w) {o : Oper} {t d e len : Nat} {parts : Array (Nat × Operand)} {ti te : TInf} {ty : Ty} {z : Value} {zs cs : List Cell} (ho : o.op = .buildSlice t len parts) (hd : o.dst = some d) (ht : E.T t = some ti) (hdesc : ti.desc = .slice e) (he : E.T e = some te)
    (hsz : te.size = ty.cells) (hbig : len * te.size ≤ 16777216) (hz : te.zero = some z) (hzs : valueCells z = some zs) (hzl : zs.length = te.size) (hf : fillL σ te.size parts.toList (repCells len zs) = some cs)
    {k : St → Option ρ} {r : ρ} (hv : buildD E d len ty cs σ k = some r) (Q : Exit → Act → World → Prop) : o.wp B.P a w (fun a' w' => Next B k r a' w' ∧ Fr NoB w w') Q := by
  obtain ⟨hdef, H, φ, h⟩ := hA
  have hzr : All2 (CellRel (B.at σ w H φ)) zs z.cells.toList := constCells_rel hzs
  have hzo : z.cells.size = te.size := by have := hzr.length; rw [hzl] at this; simpa using this.symm
  have hrep : All2 (CellRel (B.at σ w H φ)) (repCells len zs) (repV z.cells len te.size).toArray.toList := by simpa using rep_rel hzo hzr len
  obtain ⟨us', f1, f2⟩ := fillL_rel (zs := zs) h hf hrep
  have hrun : (execOp a.eval o).run B.P w = .ok (.value (.slice (some ⟨w.heap.size, 0, none⟩) len len)) (w.alloc (.cells us' e)) := by
    have hn : ¬ (len * te.size > 16777216) := by omega
    have harr : ((Array.range (len * te.size)).map (z.cells[· % z.cells.size]!)) = (repV z.cells len te.size).toArray := by
      apply Array.ext'
      rw [repV_arr z.cells len te.size hzo]
    have f1' : Instr.fill (fun i => some (i * te.size, te.size)) (repV z.cells len te.size).toArray ((parts.map fun x => (x.1, a.eval x.2)).toList) = some us' := by simpa using f1
    by_cases hn0 : len * te.size = 0
    · have hrep : repV z.cells len te.size = [] := List.eq_nil_of_length_eq_zero (by rw [repV_len]; exact hn0)
      rw [hrep] at f1'
      simp only [execOp, ho, Sem.run_bind, Instr.buildSlice, hE.under ht, hdesc, Result.andThen_ok, hE.size he, hn0, Sem.run_ite, Sem.run_pure, if_true, if_neg (show ¬ (0 > 2 ^ 24) by omega), map_range0]
      have f1'' : Instr.fill (fun i => some (i * te.size, te.size)) #[] ((parts.map fun x => (x.1, a.eval x.2)).toList) = some us' := f1'
      simp only [f1'', Go.newRow, Sem.run_bind, run_newObj, Result.andThen_ok, Sem.run_pure, World.alloc_eq]
    · have hz0 := fun w => hE.zero he hz w
      simp only [execOp, ho, Sem.run_bind, Instr.buildSlice, hE.under ht, hdesc, Result.andThen_ok, hE.size he, Sem.run_ite, Sem.run_pure, if_neg hn0, if_neg (show ¬ (len * te.size > 2 ^ 24) from hn), hz0, harr, f1', Go.newRow, run_newObj, World.alloc_eq]
  unfold buildD at hv
  split at hv
  · rename_i x ms hu
    have hv0 := bif_none hv
    clear hv
    obtain ⟨hg, hv⟩ := hv0
    obtain ⟨hg, hp⟩ := and_b hg
    obtain ⟨hg, hdm⟩ := and_b hg
    obtain ⟨hl1, hnd⟩ := and_b hg
    have hl1 : len = 1 := by simpa using hl1
    subst hl1
    have hnodup := nodupB_spec' hnd
    have hdm : d * 64 ∉ ms := by simpa using hdm
    rw [hpar] at hp
    obtain ⟨u1, u2, F1, F2, eu, k1, k2, k3, k4, k5⟩ := unO_rel (C := B.at σ w H φ) (bs := σ.blks) (φ := φ) (fun m e ys hm => by
        obtain ⟨v, hv, hb⟩ := h.mem.blk m _ hm
        exact ⟨v, hv, hb⟩) h.mem.fdis ty _ x ms [] us'.toList NoB hu (olist_plain f2) hnodup (fun _ _ _ _ f => f)
    have : u2 = [] := by cases u2 with | nil => rfl | cons _ _ => exact k2.elim
    subst this
    simp only [List.append_nil] at eu
    have hul : us'.toList.length = ty.cells := by
      rw [eu]
      exact (RdC.cells ty _ _ (OwC.read (Z' := fun _ => True) (fun _ _ _ => trivial) ty _ _ _ (fun _ _ _ => trivial) k1)).1
    obtain ⟨H1, φ1, hk1, hg1, hz1⟩ := killList_any h (ms := ms) hnodup (unO_look ty _ x ms [] hu)
    obtain ⟨H', φ', hk, hkn, hkφ⟩ := killOne hk1 (d * 64)
    have hmono : ∀ b, b < w.heap.size → zone B w φ b → zone (B.on fun b => B.R b ∨ ∃ m ∈ ms, φ m b) w φ' b := fun b hb hz => let q := hz1 b hb hz; ⟨q.1, q.2.1, q.2.2.1, fun m hm => q.2.2.2 m (hkφ m b hm)⟩
    have hown : ∀ b, (F1 b ∨ ∃ m ∈ ms, φ m b) → ∃ m ∈ ms, φ m b := fun b hb => hb.elim (fun q => (k3 b q).elim) id
    obtain ⟨H2, φ2, hn, hH2⟩ := Rel.appendedD (B := B) (R1 := fun b => B.R b ∨ ∃ m ∈ ms, φ m b) hk (fun b hb => .inl hb) hkn (B.io64 d) (ty := ty) (xs := []) (ys := [x]) (olds := []) (news := us'.toList) (A' := some ⟨w.heap.size, 0, none⟩) (cap' := 1) (w' := w.alloc (.cells us' e))
      (Fx := fun _ _ => False) (Fy := fun i b => i = 0 ∧ ∃ m ∈ ms, φ m b) (by simp) (by simp) (by simp [hul])
      (.inr ⟨w.heap.size, us', e, rfl, heap_alloc_new w _, by rw [Nat.one_mul, ← hul]; simp, by simp only [List.length_nil, List.length_cons, Nat.zero_add, Nat.one_mul, List.nil_append]; rw [List.take_of_length_le (by omega)], .inr ⟨Nat.le_refl _, alloc_fr w _⟩⟩)
      (fun _ _ f => f.elim) (fun i b hb => ⟨.inr hb.2, fun hr => by
        obtain ⟨_, m, _, hb⟩ := hb
        exact h.mem.rdis m b hb hr, by
        obtain ⟨_, m, hm, hb⟩ := hb
        rcases (h.mem.fsub m b hb).1 with q | q
        · have := List.all_eq_true.1 hp m hm
          rw [q.1] at this; cases this
        · exact .inr q⟩) (fun _ _ _ _ f => f.elim) (fun i j hij b hb hb' => hij (hb.1.trans hb'.1.symm)) (fun _ _ _ f => f.elim)
      (fun i hi => absurd hi (by simp)) (fun i hi => by
        have hi0 : i = 0 := by simpa using hi
        subst hi0
        have e0 : (us'.toList.drop (0 * ty.cells)).take ty.cells = u1 := by rw [Nat.zero_mul, List.drop_zero, List.take_of_length_le (by omega), eu]
        rw [e0]
        exact OwC.agree hmono (Agree.refl _ _) ty _ _ _ _ (fun b hb => ⟨rfl, hown b hb⟩) (Agree.refl _ _) k1)
    refine wp_val hrun ⟨⟨_, hv, by rw [put_defers]; exact hdef, H2, φ2, ?_⟩, alloc_fr w _⟩
    rw [hd]
    have hH2' : H2 (d * 64) = some (.slice (some ⟨w.heap.size, 0, none⟩) 1 1) := by simpa using hH2
    exact Rel.set hn d (ownRel hH2' rfl)
  · cases hv
end
end Go.Proofs.YtklfnbckoaphpaaGreatDoor
