/- Elements that lie open: the state behind each step. No conditions. -/
import Derived.Test.YtklfnbckoaphpaaGreatDoorEvXa
set_option linter.unusedVariables false
set_option linter.unusedSimpArgs false
namespace Go.Proofs.YtklfnbckoaphpaaGreatDoor
open Go

section
variable {ρ : Type} {B : Base} {E : Env} {σ : St} {a : Act} {tm : Array Value} {w : World} {H : Nat → Option Value} {φ : Nat → Nat → Prop}

theorem lenOf_same {n : Nat} {b : Blk} {bs : List (Nat × Blk)} (h : lenOf (blkSet n b bs) n = lenOf bs n) (m : Nat) : lenOf (blkSet n b bs) m = lenOf bs m := by
  by_cases e : m = n
  · subst e; exact h
  · exact lenOf_setBlk_other e

/-- an element is opened -/
theorem openAt_ok (h : Rel B σ tm w H φ) {n i : Nat} (hi : ∀ L s, lenOf σ.blks n = some (L, s) → i < L) {k : St → Option ρ} {r : ρ} (hv : openAt σ n i k = some r) :
    ∃ (σ1 : St) (ty : Ty) (xs : List ty.den) (ko : Option Nat) (cs : List OCell), k σ1 = some r ∧ Rel B σ1 tm w H φ ∧ σ1.tmps = σ.tmps ∧ (∀ m, lenOf σ1.blks m = lenOf σ.blks m) ∧ look n σ1.blks = some (.opn ty xs ko i cs) ∧ (∀ m, m ≠ n → look m σ1.blks = look m σ.blks) := by
  unfold openAt at hv
  split at hv
  · rename_i d t xs hl
    have hv0 := bif_none hv
    clear hv
    obtain ⟨hd, hv⟩ := hv0
    obtain ⟨hd, hsc⟩ := and_b hd
    have hd' : d = true := hd
    subst hd'
    have hlen : lenOf σ.blks n = some (xs.length, t.cells) := by simp [lenOf, hl]
    have hi' := hi _ _ hlen
    have hsame : lenOf (blkSet n (.opn t xs none i (t.flatO (xs.getD i t.dflt) [])) σ.blks) n = lenOf σ.blks n := by simp [lenOf, look_set_same, hl]
    refine ⟨_, t, xs, none, _, hv, h.write hl (Fr.refl _ _) hsame (fun v C' hHv hle hw hP => ?_), rfl, lenOf_same hsame, look_set_same _ _ _, fun m hm => look_set_other _ hm _⟩
    obtain ⟨v', hv', hb⟩ := h.mem.blk n _ hl
    have : v' = v := by rw [hHv] at hv'; exact (Option.some.inj hv').symm
    subst this
    refine BRel.keep (C := B.at σ w H φ) (F := φ n) hle.P hle.Z hle.agree (CellRel.le hle) (fun _ h => h) (by rw [hw]; exact Agree.refl _ _) ?_
    have hb : RowOf B.P false true t w (zone B w φ) (φ n) v' xs := hb
    obtain ⟨A, cap, rfl, hcap, hmem⟩ := hb
    rcases hmem with h0 | ⟨g, cur, ety, rfl, hF, hh, hsz, Fs, f1, f2, f3⟩
    · omega
    have hgd : xs.getD i t.dflt = xs[i] := by simp [List.getD, List.getElem?_eq_getElem hi']
    refine ⟨g, cap, cur, ety, Fs, rfl, hcap, hi', hF, hh, hsz, f1, f2, fun j hj _ => f3 j hj, ?_⟩
    have := flatO_rel (C := B.at σ w H φ) t xs[i] _ [] [] (Fs i) NoB (Fs i) (f3 i hi') trivial (fun _ h => h) (fun _ f => f.elim) (fun _ _ f => f)
    rw [hgd]
    simpa using this
  · rename_i t xs kk hl
    have hv0 := bif_none hv
    clear hv
    obtain ⟨hk, hv⟩ := hv0
    have hk : kk ≤ i := of_decide_eq_true hk
    have hlen : lenOf σ.blks n = some (xs.length, t.cells) := by simp [lenOf, hl]
    have hi' := hi _ _ hlen
    have hsame : lenOf (blkSet n (.opn t xs (some kk) i ((t.flat (xs.getD i t.dflt) []).map OCell.c)) σ.blks) n = lenOf σ.blks n := by simp [lenOf, look_set_same, hl]
    refine ⟨_, t, xs, some kk, _, hv, h.write hl (Fr.refl _ _) hsame (fun v C' hHv hle hw hP => ?_), rfl, lenOf_same hsame, look_set_same _ _ _, fun m hm => look_set_other _ hm _⟩
    obtain ⟨v', hv', hb⟩ := h.mem.blk n _ hl
    have : v' = v := by rw [hHv] at hv'; exact (Option.some.inj hv').symm
    subst this
    refine BRel.keep (C := B.at σ w H φ) (F := φ n) hle.P hle.Z hle.agree (CellRel.le hle) (fun _ h => h) (by rw [hw]; exact Agree.refl _ _) ?_
    obtain ⟨A, cap, rfl, hcap, hmem⟩ := hb
    rcases hmem with h0 | ⟨g, cur, ety, rfl, hF, hh, hsz, Fs, f1, f2, f3⟩
    · omega
    have hgd : xs.getD i t.dflt = xs[i] := by simp [List.getD, List.getElem?_eq_getElem hi']
    refine ⟨g, cap, cur, ety, Fs, rfl, hcap, hi', hF, hh, hsz, f1, f2, fun j hj _ => f3 j hj, ?_⟩
    have hel : OwC B.P (decide (i < kk)) t w (zone B w φ) (Fs i) _ xs[i] := f3 i hi'
    have hfalse : decide (i < kk) = false := decide_eq_false (by omega)
    rw [hfalse] at hel
    rw [hgd]
    exact olist_plain (flat_rel' (C := B.at σ w H φ) (OwC.flatOK rfl hel))
  · rename_i t xs ko i0 cs hl
    have hv0 := bif_none hv
    clear hv
    obtain ⟨he, hv⟩ := hv0
    have he : i = i0 := of_decide_eq_true he
    subst he
    exact ⟨σ, t, xs, ko, cs, hv, h, rfl, fun _ => rfl, hl, fun _ _ => rfl⟩
  · cases hv

/-- what lies open, in memory -/
theorem opn_mem (h : Rel B σ tm w H φ) {n i : Nat} {ty : Ty} {xs : List ty.den} {ko : Option Nat} {cs : List OCell} (hl : look n σ.blks = some (.opn ty xs ko i cs)) :
    ∃ g cap cur ety, ∃ Fs : Nat → Nat → Prop, H n = some (.slice (some ⟨g, 0, none⟩) xs.length cap) ∧ xs.length ≤ cap ∧ i < xs.length ∧ φ n g ∧ w.heap[g]? = some (.cells cur ety (0, 0)) ∧ cap * ty.cells ≤ cur.size ∧
      (∀ j b, Fs j b → φ n b ∧ b ≠ g) ∧ (∀ j j', j ≠ j' → ∀ b, Fs j b → ¬ Fs j' b) ∧
      (∀ j (h : j < xs.length), j ≠ i → OwC B.P (ownsO ko j) ty w (zone B w φ) (Fs j) ((cur.toList.drop (j * ty.cells)).take ty.cells) xs[j]) ∧ OList (B.at σ w H φ) (Fs i) cs ((cur.toList.drop (i * ty.cells)).take ty.cells) := by
  obtain ⟨v, hv, g, cap, cur, ety, Fs, rfl, h1, h2, h3, h4, h5, h6, h7, h8, h9⟩ := h.mem.blk n _ hl
  exact ⟨g, cap, cur, ety, Fs, hv, h1, h2, h3, h4, h5, h6, h7, h8, h9⟩

/-- a row is taken out of an element that lies open -/
theorem kidOut_ok (h : Rel B σ tm w H φ) {n i off m : Nat} {ty : Ty} {xs : List ty.den} {ko : Option Nat} {cs r : List OCell} {e : Ty} {ys : List e.den} (hl : look n σ.blks = some (.opn ty xs ko i cs)) (hd : odrop off cs = .kid e ys :: r)
    (hm : look m σ.blks = none) (hio : B.io m = none) (hpar : B.par.contains m = B.par.contains n) :
    ∃ (H' : Nat → Option Value) (φ' : Nat → Nat → Prop) (u : Value) (g cap : Nat), Rel B ((σ.setBlk n (.opn ty xs ko i (oset off (.c (.own m)) cs))).setBlk m (.row true e ys)) tm w H' φ' ∧ H' m = some u ∧ (∃ A l c, u = .slice A l c) ∧
      H n = some (.slice (some ⟨g, 0, none⟩) xs.length cap) ∧ w.cell? ⟨g, i * ty.cells + off, none⟩ = some u := by
  obtain ⟨g, cap, cur, ety, Fs, e1, e2, e3, e4, e5, e6, e7, e8, e9, e10⟩ := opn_mem h hl
  obtain ⟨u, F1, F2, k1, k2, k3, k4, k5, k6⟩ := OList.out off (m := m) e10 hd
  have hmn : m ≠ n := fun e => by subst e; rw [hl] at hm; cases hm
  have hHm : H m = none := h.mem.hdom m hm
  have hφm : ∀ b, ¬ φ m b := h.mem.fdom m hm
  have hF1 : ∀ b, F1 b → φ n b ∧ b ≠ g := fun b hb => e7 i b (k2 b hb)
  obtain ⟨A, l, ev, _⟩ := id k5
  have lk : ∀ k, k ≠ m → k ≠ n → look k (blkSet m (.row true e ys) (blkSet n (.opn ty xs ko i (oset off (.c (.own m)) cs)) σ.blks)) = look k σ.blks := fun k h1 h2 => by
    rw [look_set_other _ h1, look_set_other _ h2]
  have lkn : look n (blkSet m (.row true e ys) (blkSet n (.opn ty xs ko i (oset off (.c (.own m)) cs)) σ.blks)) = some (.opn ty xs ko i (oset off (.c (.own m)) cs)) := by
    rw [look_set_other _ (Ne.symm hmn), look_set_same]
  have lkm : look m (blkSet m (.row true e ys) (blkSet n (.opn ty xs ko i (oset off (.c (.own m)) cs)) σ.blks)) = some (.row true e ys) := look_set_same _ _ _
  have up := BlkRel.upd (B := B) (R1 := B.R) (bs := σ.blks) (bs' := blkSet m (.row true e ys) (blkSet n (.opn ty xs ko i (oset off (.c (.own m)) cs)) σ.blks)) (w := w) (w' := w) (H := H) (φ := φ)
    (H' := fun k => if k = m then some u else H k) (φ' := fun k b => (k = m ∧ F1 b) ∨ (k = n ∧ φ n b ∧ ¬ F1 b) ∨ (k ≠ m ∧ k ≠ n ∧ φ k b)) h.mem (fun k => k = n ∨ k = m) (fun _ _ h => .inr h) h.mem.fr (Agree.refl _ _)
    (fun k b hk _ => by
      rcases hk with ⟨_, q⟩ | ⟨rfl, q, _⟩ | ⟨_, _, q⟩
      · exact .inl ⟨n, (hF1 b q).1⟩
      · exact .inl ⟨_, q⟩
      · exact .inl ⟨k, q⟩)
    (fun k b hk hr => by
      rcases hk with ⟨_, q⟩ | ⟨rfl, q, _⟩ | ⟨_, _, q⟩
      · exact h.mem.rdis n b (hF1 b q).1 hr
      · exact h.mem.rdis _ b q hr
      · exact h.mem.rdis k b q hr)
    h.mem.rsub
    (fun k v hk => by
      by_cases q : k = m
      · subst q; rw [hio] at hk; cases hk
      · simpa [q] using h.mem.keep k v hk)
    (fun k hk => by
      by_cases q : k = m
      · subst q; rw [lkm] at hk; cases hk
      · by_cases q2 : k = n
        · subst q2; rw [lkn] at hk; cases hk
        · rw [lk k q q2] at hk; simp [q, h.mem.hdom k hk])
    (fun k hk b hb => by
      by_cases q : k = m
      · subst q; rw [lkm] at hk; cases hk
      · by_cases q2 : k = n
        · subst q2; rw [lkn] at hk; cases hk
        · rw [lk k q q2] at hk
          rcases hb with ⟨q3, _⟩ | ⟨q3, _⟩ | ⟨_, _, q3⟩
          · exact q q3
          · exact q2 q3
          · exact h.mem.fdom k hk b q3)
    (fun k b hb => by
      rcases hb with ⟨rfl, q⟩ | ⟨rfl, q, _⟩ | ⟨_, _, q⟩
      · have := h.mem.fsub n b (hF1 b q).1
        rw [hpar]; exact this
      · exact h.mem.fsub _ b q
      · exact h.mem.fsub k b q)
    (fun k k' hkk b hb hb' => by
      rcases hb with ⟨rfl, q⟩ | ⟨rfl, q, q0⟩ | ⟨q1, q2, q⟩ <;> rcases hb' with ⟨rfl, q'⟩ | ⟨rfl, q', q0'⟩ | ⟨q1', q2', q'⟩
      · exact hkk rfl
      · exact q0' q
      · exact h.mem.fdis n k' (Ne.symm q2') b (hF1 b q).1 q'
      · exact q0 q'
      · exact hkk rfl
      · exact h.mem.fdis _ k' (Ne.symm q2') b q q'
      · exact h.mem.fdis n k (Ne.symm q2) b (hF1 b q').1 q
      · exact h.mem.fdis _ k (Ne.symm q2) b q' q
      · exact h.mem.fdis k k' hkk b q q')
    (fun k v hk => by
      by_cases q : k = m
      · subst q; rw [hHm] at hk; cases hk
      · simp [q, hk])
    (fun k p hk => by
      by_cases q : k = m
      · subst q; simp [lenOf, hm] at hk
      · by_cases q2 : k = n
        · subst q2
          have : lenOf σ.blks k = some (xs.length, ty.cells) := by simp [lenOf, hl]
          rw [this] at hk
          simp only [lenOf, lkn]; exact hk
        · simp only [lenOf, lk k q q2] at hk ⊢; exact hk)
    (fun k hk => by
      have q : k ≠ m := fun e => hk (.inr e)
      have q2 : k ≠ n := fun e => hk (.inl e)
      exact ⟨lk k q q2, by simp [q], fun b => ⟨fun hb => by
        rcases hb with ⟨q3, _⟩ | ⟨q3, _⟩ | ⟨_, _, q3⟩
        · exact absurd q3 q
        · exact absurd q3 q2
        · exact q3, fun hb => .inr (.inr ⟨q, q2, hb⟩)⟩, Agree.refl _ _⟩)
    (fun k b hk hb => by
      have hz : ∀ b, b < w.heap.size → zone B w φ b → zone B w (fun k b => (k = m ∧ F1 b) ∨ (k = n ∧ φ n b ∧ ¬ F1 b) ∨ (k ≠ m ∧ k ≠ n ∧ φ k b)) b := fun b _ hz => ⟨hz.1, hz.2.1, hz.2.2.1, fun k hk => by
        rcases hk with ⟨_, q⟩ | ⟨_, q, _⟩ | ⟨_, _, q⟩
        · exact hz.2.2.2 n (hF1 b q).1
        · exact hz.2.2.2 n q
        · exact hz.2.2.2 k q⟩
      have hle : (B.at σ w H φ).Le (B.cx w (fun k => if k = m then some u else H k) (fun k b => (k = m ∧ F1 b) ∨ (k = n ∧ φ n b ∧ ¬ F1 b) ∨ (k ≠ m ∧ k ≠ n ∧ φ k b)) (lenOf (blkSet m (.row true e ys) (blkSet n (.opn ty xs ko i (oset off (.c (.own m)) cs)) σ.blks)))) :=
        ⟨rfl, Agree.refl _ _, hz, fun k v hk' => by
          by_cases q : k = m
          · subst q; have : H k = some v := hk'; rw [hHm] at this; cases this
          · show (if k = m then some u else H k) = some v; simp [q]; exact hk',
        fun k p hk' => by
          have hk' : lenOf σ.blks k = some p := hk'
          by_cases q : k = m
          · subst q; simp [lenOf, hm] at hk'
          · by_cases q2 : k = n
            · subst q2
              have : lenOf σ.blks k = some (xs.length, ty.cells) := by simp [lenOf, hl]
              rw [this] at hk'
              show lenOf _ k = _
              simp only [lenOf, lkn]; exact hk'
            · show lenOf _ k = _
              simp only [lenOf, lk k q q2] at hk' ⊢; exact hk'⟩
      by_cases q : k = m
      · subst q
        rw [lkm] at hb
        obtain rfl := Option.some.inj hb
        refine ⟨u, by simp, ?_⟩
        exact RowOf.agree k5 hz (Agree.refl _ _) (fun b hb => .inl ⟨rfl, hb⟩) (Agree.refl _ _)
      · have q2 : k = n := hk.resolve_right q
        subst q2
        rw [lkn] at hb
        obtain rfl := Option.some.inj hb
        refine ⟨_, by simp only [q, if_false]; exact e1, ?_⟩
        refine ⟨g, cap, cur, ety, fun j b => if j = i then F2 b else Fs j b, rfl, e2, e3, ?_, e5, e6, fun j b hb => ?_, fun j j' hjj b hb hb' => ?_, fun j hj hji => ?_, ?_⟩
        · exact .inr (.inl ⟨rfl, e4, fun hf => (hF1 g hf).2 rfl⟩)
        · by_cases qj : j = i
          · simp only [qj, if_true] at hb
            have := e7 i b (k3 b hb)
            exact ⟨.inr (.inl ⟨rfl, this.1, fun hf => k4 b hf hb⟩), this.2⟩
          · simp only [qj, if_false] at hb
            have := e7 j b hb
            exact ⟨.inr (.inl ⟨rfl, this.1, fun hf => e8 j i qj b hb (k2 b hf)⟩), this.2⟩
        · by_cases qj : j = i
          · have qj' : ¬ j' = i := fun e => hjj (qj.trans e.symm)
            simp only [qj, if_true] at hb
            simp only [qj', if_false] at hb'
            exact e8 j' i qj' b hb' (k3 b hb)
          · simp only [qj, if_false] at hb
            by_cases qj' : j' = i
            · simp only [qj', if_true] at hb'
              exact e8 j i qj b hb (k3 b hb')
            · simp only [qj', if_false] at hb'
              exact e8 j j' hjj b hb hb'
        · simp only [hji, if_false]
          exact OwC.agree hz (Agree.refl _ _) ty (Fs j) (Fs j) _ _ (fun _ h => h) (Agree.refl _ _) (e9 j hj hji)
        · simp only [if_true]
          exact k6 _ rfl rfl hz (CellRel.le hle) ⟨by show (if m = m then some u else H m) = some u; simp, A, _, l, ev⟩)
  refine ⟨_, _, u, g, cap, ⟨up.1, h.tmp.mono (ARel.le up.2)⟩, by simp, ⟨A, _, l, ev⟩, e1, ?_⟩
  rw [cell_of_row w g _ cur ety _ e5]
  rw [List.getElem?_take] at k1
  split at k1
  · simpa using k1
  · cases k1
end
end Go.Proofs.YtklfnbckoaphpaaGreatDoor
