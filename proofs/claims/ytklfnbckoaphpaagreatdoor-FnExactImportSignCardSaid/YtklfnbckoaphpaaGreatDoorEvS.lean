/- Calls: the world behind them. No conditions. -/
import Derived.Test.YtklfnbckoaphpaaGreatDoorEvR
set_option linter.unusedVariables false
set_option linter.unusedSimpArgs false
namespace Go.Proofs.YtklfnbckoaphpaaGreatDoor
open Go

section
variable {B : Base} {E : Env} {σ : St} {tm : Array Value} {w w' : World} {H : Nat → Option Value} {φ : Nat → Nat → Prop}

/-- a world that has turned nothing that bears a name -/
theorem Rel.step {R1 R2 : Nat → Prop} (h : Rel (B.on R1) σ tm w H φ) (hw : Fr R1 w w') (hR2 : ∀ i, R2 i → (R1 i ∨ w.heap.size ≤ i) ∧ i < w'.heap.size) :
    Rel (B.on R2) σ tm w' H φ ∧ ((B.on R1).at σ w H φ).Le ((B.on R2).at σ w' H φ) := by
  have hlt : B.w0.heap.size ≤ w.heap.size := h.mem.fr.size
  have up := BlkRel.upd (B := B.on R2) (R1 := R1) (bs' := σ.blks) (w' := w') (H' := H) (φ' := φ) h.mem (fun _ => False)
    (fun b hb hr => .inr (by rcases (hR2 b hr).1 with h1 | h1; exact h1; omega))
    (h.mem.fr.trans hw (fun i hi hf => by
      rcases (h.mem.rsub i hf).1 with h1 | h1
      · exact h1
      · have h1' : B.w0.heap.size ≤ i := h1
        have hi' : i < B.w0.heap.size := hi
        omega))
    (hw.agree _ fun i _ hz hf => hz.2.2.1 hf) (fun m i hm _ => .inl ⟨m, hm⟩)
    (fun m i hm hr => by
      rcases (hR2 i hr).1 with h1 | h1
      · exact h.mem.rdis m i hm h1
      · have := (h.mem.fsub m i hm).2; omega)
    (fun i hr => ⟨by
      rcases (hR2 i hr).1 with h1 | h1
      · exact (h.mem.rsub i h1).1
      · exact .inr (Nat.le_trans hlt h1), (hR2 i hr).2⟩)
    h.mem.keep h.mem.hdom h.mem.fdom (fun m i hi => let k := h.mem.fsub m i hi; ⟨k.1, Nat.lt_of_lt_of_le k.2 hw.size⟩) h.mem.fdis (fun _ _ h => h) (fun _ _ h => h)
    (fun m _ => ⟨rfl, rfl, fun _ => Iff.rfl, hw.agree _ fun i _ hi hf => h.mem.rdis m i hi hf⟩) (fun m b f => f.elim)
  exact ⟨⟨up.1, h.tmp.mono (ARel.le up.2)⟩, up.2⟩

/-- the same, but for one name, whose memory has been handed over and handed back -/
theorem Rel.stepIo (hB : B.R = NoB) (h : Rel B σ tm w H φ) {n : Nat} {b0 b : Blk} (hn : look n σ.blks = some b0) (hw : Fr (φ n) w w') {R2 F : Nat → Prop} (hF : ∀ i, F i → (φ n i ∨ w.heap.size ≤ i) ∧ i < w'.heap.size)
    (hR2 : ∀ i, R2 i → w.heap.size ≤ i ∧ i < w'.heap.size) (hRF : ∀ i, R2 i → ¬ F i) (hlen : lenOf (blkSet n b σ.blks) n = lenOf σ.blks n)
    (hb : ∀ v C', H n = some v → (B.at σ w H φ).Le C' → C'.w = w' → C'.P = B.P → (∀ i, i < w'.heap.size → ((B.Z0 i ∧ i < w.heap.size) ∨ B.w0.heap.size ≤ i) → (∀ m, m ≠ n → ¬ φ m i) → ¬ R2 i → ¬ F i → C'.Z i) → BRel C' F v b) :
    Rel (B.on R2) (σ.setBlk n b) tm w' H (fun m i => (m = n ∧ F i) ∨ (m ≠ n ∧ φ m i)) ∧ (B.at σ w H φ).Le ((B.on R2).at (σ.setBlk n b) w' H (fun m i => (m = n ∧ F i) ∨ (m ≠ n ∧ φ m i))) := by
  have hlt : B.w0.heap.size ≤ w.heap.size := h.mem.fr.size
  have hlen' : ∀ m, lenOf (blkSet n b σ.blks) m = lenOf σ.blks m := fun m => by
    by_cases e : m = n
    · subst e; exact hlen
    · exact lenOf_setBlk_other e
  have hFφ : ∀ m i, m ≠ n → φ m i → ¬ F i := fun m i hmn hm hf => by
    rcases (hF i hf).1 with h1 | h1
    · exact h.mem.fdis m n hmn i hm h1
    · have := (h.mem.fsub m i hm).2; omega
  obtain ⟨v, hv, _⟩ := h.mem.blk n b0 hn
  have hzone : Agree (zone B w φ) w w' := hw.agree _ fun i _ hz hf => hz.2.2.2 n hf
  have hle : (B.at σ w H φ).Le ((B.on R2).cx w' H (fun m i => (m = n ∧ F i) ∨ (m ≠ n ∧ φ m i)) (lenOf (blkSet n b σ.blks))) :=
    ⟨rfl, hzone, fun i hi hz => ⟨hz.1, Nat.lt_of_lt_of_le hi hw.size, fun hr => by have := (hR2 i hr).1; have hi' : i < w.heap.size := hi; omega, fun k hk => by
        rcases hk with ⟨rfl, hf⟩ | ⟨_, hf⟩
        · rcases (hF i hf).1 with h1 | h1
          · exact hz.2.2.2 k h1
          · have hi' : i < w.heap.size := hi; omega
        · exact hz.2.2.2 k hf⟩, fun _ _ h => h, fun m p hm => by show lenOf (blkSet n b σ.blks) m = _; rw [hlen']; exact hm⟩
  have up := BlkRel.upd (B := B.on R2) (R1 := B.R) (bs' := blkSet n b σ.blks) (w' := w') (H' := H) (φ' := fun m i => (m = n ∧ F i) ∨ (m ≠ n ∧ φ m i)) h.mem (fun m => m = n)
    (fun b hb hr => by have := (hR2 b hr).1; omega)
    (h.mem.fr.trans hw (fun i hi hf => by
      rcases (h.mem.fsub n i hf).1 with hx | hx
      · exact hx.2
      · have hi' : i < B.w0.heap.size := hi; omega))
    hzone
    (fun m i hm hi => by
      rcases hm with ⟨rfl, hf⟩ | ⟨_, hf⟩
      · rcases (hF i hf).1 with h1 | h1
        · exact .inl ⟨m, h1⟩
        · omega
      · exact .inl ⟨m, hf⟩)
    (fun m i hm hr => by
      rcases hm with ⟨rfl, hf⟩ | ⟨_, hf⟩
      · exact hRF i hr hf
      · have := (h.mem.fsub m i hf).2; have := (hR2 i hr).1; omega)
    (fun i hr => ⟨.inr (Nat.le_trans hlt (hR2 i hr).1), (hR2 i hr).2⟩) h.mem.keep
    (fun m hm => by
      by_cases e : m = n
      · subst e; rw [look_set_same] at hm; cases hm
      · rw [look_set_other b e] at hm; exact h.mem.hdom m hm)
    (fun m hm i hi => by
      by_cases e : m = n
      · subst e; rw [look_set_same] at hm; cases hm
      · rw [look_set_other b e] at hm
        rcases hi with ⟨e', _⟩ | ⟨_, hf⟩
        · exact e e'
        · exact h.mem.fdom m hm i hf)
    (fun m i hi => by
      rcases hi with ⟨rfl, hf⟩ | ⟨_, hf⟩
      · refine ⟨?_, (hF i hf).2⟩
        rcases (hF i hf).1 with h1 | h1
        · exact (h.mem.fsub m i h1).1
        · exact .inr (Nat.le_trans hlt h1)
      · have k := h.mem.fsub m i hf; exact ⟨k.1, Nat.lt_of_lt_of_le k.2 hw.size⟩)
    (fun m k hmk i hi hk => by
      rcases hi with ⟨rfl, hf⟩ | ⟨h1, hf⟩ <;> rcases hk with ⟨e2, hf'⟩ | ⟨h2, hf'⟩
      · exact hmk e2.symm
      · exact hFφ k i h2 hf' hf
      · exact hFφ m i h1 hf hf'
      · exact h.mem.fdis m k hmk i hf hf')
    (fun _ _ h => h) (fun m p hm => by rw [hlen']; exact hm)
    (fun m hm => ⟨look_set_other b hm _, rfl, fun i => ⟨fun hi => by rcases hi with ⟨e, _⟩ | ⟨_, hf⟩; exact absurd e hm; exact hf, fun hf => .inr ⟨hm, hf⟩⟩, hw.agree _ fun i _ hi hf => h.mem.fdis m n hm i hi hf⟩)
    (fun m b' hm hb' => by
      subst hm
      rw [look_set_same] at hb'
      obtain rfl := Option.some.inj hb'
      refine ⟨v, hv, ?_⟩
      have hbr := hb v _ hv hle rfl rfl (fun i hi h0 hφ hnR hnF => ⟨by rcases h0 with h0 | h0; exact .inl h0.1; exact .inr h0, hi, hnR, fun k hk => by
        rcases hk with ⟨_, hf⟩ | ⟨hk, hf⟩
        · exact hnF hf
        · exact hφ k hk hf⟩)
      exact BRel.sub hbr (fun i hi => .inl ⟨rfl, hi⟩))
  exact ⟨⟨up.1, h.tmp.mono (ARel.le hle)⟩, hle⟩

/-- nothing is about to be written any more -/
theorem Rel.dropR {R1 : Nat → Prop} (h : Rel (B.on R1) σ tm w H φ) (hR : ∀ b, B.R b → R1 b) : Rel B σ tm w H φ ∧ ((B.on R1).at σ w H φ).Le (B.at σ w H φ) := by
  have up := BlkRel.upd (B := B) (R1 := R1) (bs' := σ.blks) (w' := w) (H' := H) (φ' := φ) h.mem (fun _ => False) (fun b _ hr => .inr (hR b hr)) h.mem.fr (Agree.refl _ _) (fun m i hm _ => .inl ⟨m, hm⟩)
    (fun m i hm hr => h.mem.rdis m i hm (hR i hr)) (fun i hr => h.mem.rsub i (hR i hr)) h.mem.keep h.mem.hdom h.mem.fdom h.mem.fsub h.mem.fdis (fun _ _ h => h) (fun _ _ h => h) (fun m _ => ⟨rfl, rfl, fun _ => Iff.rfl, Agree.refl _ _⟩) (fun m b f => f.elim)
  exact ⟨⟨up.1, h.tmp.mono (ARel.le up.2)⟩, up.2⟩

end

/-! ### Ownership that leans on no zone -/
theorem OwC.pureZ {P : Program} {w : World} {Z Z' : Nat → Prop} : ∀ (t : Ty) (F : Nat → Prop) (vs : List Value) (x : t.den), t.pure = true → OwC P true t w Z F vs x → OwC P true t w Z' F vs x
  | .pair a b, F, vs, x, hp, h => by
    obtain ⟨v1, v2, F1, F2, e, s1, s2, s3, h1, h2⟩ := h
    have hp' : a.pure = true ∧ b.pure = true := by simpa [Ty.pure] using hp
    exact ⟨v1, v2, F1, F2, e, s1, s2, s3, OwC.pureZ a F1 v1 x.1 hp'.1 h1, OwC.pureZ b F2 v2 x.2 hp'.2 h2⟩
  | .st a, F, vs, x, hp, h => OwC.pureZ a F vs x (by simpa [Ty.pure] using hp) h
  | .slice e, F, vs, xs, hp, h => by
    obtain ⟨v, e1, h⟩ := h
    refine ⟨v, e1, h.map (fun _ h => h) (fun _ _ _ => rfl) fun _ G us y hG hy => OwC.pureZ e G us y (by simpa [Ty.pure] using hp) hy⟩
  | .int _, F, vs, x, hp, h => h
  | .bool, F, vs, x, hp, h => h
  | .str, F, vs, x, hp, h => h
  | .unit, F, vs, x, hp, h => h
  | .ptr _, F, vs, x, hp, h => by simp [Ty.pure] at hp
  | .fn _ _, F, vs, x, hp, h => by simp [Ty.pure] at hp
  | .map _ _, F, vs, x, hp, h => by simp [Ty.pure] at hp
theorem OwC.scalZ {P : Program} {dp dp' : Bool} {w : World} {Z Z' : Nat → Prop} {t : Ty} {F F' : Nat → Prop} {vs : List Value} {x : t.den} (hs : t.scal = true) (h : OwC P dp t w Z F vs x) : OwC P dp' t w Z' F' vs x :=
  (OwC.scal t hs vs x).2 ((OwC.scal t hs vs x).1 h)
theorem RowOf.flag {P : Program} {mk dp dp' : Bool} {w : World} {Z Z' F : Nat → Prop} {e : Ty} {v : Value} {xs : List e.den} (hs : e.scal = true) (h : RowOf P mk dp e w Z F v xs) : RowOf P mk dp' e w Z' F v xs :=
  RowOwn.map h (fun _ h => h) (fun _ _ _ => rfl) fun _ G us y hG hy => OwC.scalZ hs hy

theorem RdV.scalZ {P : Program} {w : World} {Z Z' : Nat → Prop} {t : Ty} {v : Value} {x : t.den} (hs : t.scal = true) (h : RdV P t w Z v x) : RdV P t w Z' v x :=
  let ⟨cs, h1, h2⟩ := h
  ⟨cs, h1, (RdC.scal t hs cs x).2 ((RdC.scal t hs cs x).1 h2)⟩

theorem OwTop.closed {P : Program} {d : Bool} {t : Ty} {w : World} {Z Z' F : Nat → Prop} {v : Value} {x : t.den} (hc : closedR (.io d, t) = true) (h : OwTop P d t w Z F v x) : OwTop P d t w Z' F v x := by
  have lift : ∀ (t' : Ty) (hp : t'.pure = true) (x : t'.den), (∃ cs, Boxed t' v cs ∧ OwC P true t' w Z F cs x) → ∃ cs, Boxed t' v cs ∧ OwC P true t' w Z' F cs x :=
    fun t' hp x h => let ⟨cs, h1, h2⟩ := h; ⟨cs, h1, OwC.pureZ _ _ _ _ hp h2⟩
  have lift' : ∀ (t' : Ty) (hp : t'.scal = true) (x : t'.den), (∃ cs, Boxed t' v cs ∧ OwC P false t' w Z F cs x) → ∃ cs, Boxed t' v cs ∧ OwC P false t' w Z' F cs x :=
    fun t' hp x h => let ⟨cs, h1, h2⟩ := h; ⟨cs, h1, OwC.scalZ hp h2⟩
  cases t with
  | ptr a =>
    have hs : a.scal = true := hc
    obtain ⟨g, cs, ety, F', e, hF, hh, hs', ho⟩ := h
    exact ⟨g, cs, ety, F', e, hF, hh, hs', OwC.scalZ hs ho⟩
  | slice e =>
    cases d with
    | true => exact RowOwn.map h (fun _ h => h) (fun _ _ _ => rfl) fun _ G us y hG hy => OwC.pureZ e G us y (by simpa [closedR, Ty.pure] using hc) hy
    | false => exact RowOf.flag (by simpa [closedR] using hc) h
  | int k => cases d with
    | true => exact lift _ hc x h
    | false => exact lift' _ hc x h
  | bool => cases d with
    | true => exact lift _ hc x h
    | false => exact lift' _ hc x h
  | str => cases d with
    | true => exact lift _ hc x h
    | false => exact lift' _ hc x h
  | unit => cases d with
    | true => exact lift _ hc x h
    | false => exact lift' _ hc x h
  | st a => cases d with
    | true => exact lift _ hc x h
    | false => exact lift' _ hc x h
  | pair a b => cases d with
    | true => exact lift _ hc x h
    | false => exact lift' _ hc x h
  | fn a r => cases d with
    | true => simp [closedR, Ty.pure] at hc
    | false => simp [closedR, Ty.scal] at hc
  | map a r => exact h

theorem holds_closed {P : Program} {w : World} {Z Z' : Nat → Prop} : ∀ (rs : List (PK × Ty)) (F : Nat → Prop) (vs : List Value) (x : Sig.den rs), rs.all closedR = true → Holds P w Z F rs vs x → Holds P w Z' F rs vs x
  | [], F, vs, x, hc, h => h
  | (.val, t) :: ps, F, vs, x, hc, h => by
    have hc' : closedR (.val, t) = true ∧ ps.all closedR = true := by simpa using hc
    obtain ⟨v, r, e, h1, h2⟩ := h
    exact ⟨v, r, e, RdV.scalZ hc'.1 h1, holds_closed ps F r _ hc'.2 h2⟩
  | (.io d, t) :: ps, F, vs, x, hc, h => by
    have hc' : closedR (.io d, t) = true ∧ ps.all closedR = true := by simpa using hc
    obtain ⟨v, r, F1, F2, e, s1, s2, s3, h1, h2⟩ := h
    exact ⟨v, r, F1, F2, e, s1, s2, s3, OwTop.closed hc'.1 h1, holds_closed ps F2 r _ hc'.2 h2⟩
  | (.eat d, t) :: ps, F, vs, x, hc, h => by
    have hc' : closedR (.eat d, t) = true ∧ ps.all closedR = true := by simpa using hc
    simp [closedR] at hc'

end Go.Proofs.YtklfnbckoaphpaaGreatDoor
