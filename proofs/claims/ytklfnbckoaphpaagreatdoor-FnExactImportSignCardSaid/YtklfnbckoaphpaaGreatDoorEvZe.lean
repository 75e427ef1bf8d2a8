/- A function keeps the contract that the evaluator computes. No conditions. -/
import Derived.Test.YtklfnbckoaphpaaGreatDoorEvZd
set_option linter.unusedVariables false
set_option linter.unusedSimpArgs false
namespace Go.Proofs.YtklfnbckoaphpaaGreatDoor
open Go

theorem ownNames_append : ∀ (p1 p2 : List (PK × Ty)) (x1 x2 : List A), x1.length = p1.length → ownNames (p1 ++ p2) (x1 ++ x2) = ownNames p1 x1 ++ ownNames p2 x2
  | [], p2, [], x2, _ => rfl
  | [], _, _ :: _, _, h => by simp at h
  | _ :: _, _, [], _, h => by simp at h
  | (.val, t) :: p1, p2, x :: x1, x2, h => ownNames_append p1 p2 x1 x2 (by simpa using h)
  | (.io d, t) :: p1, p2, x :: x1, x2, h => by
    have := ownNames_append p1 p2 x1 x2 (by simpa using h)
    show nmOf x ++ ownNames (p1 ++ p2) (x1 ++ x2) = (nmOf x ++ ownNames p1 x1) ++ ownNames p2 x2
    rw [this, List.append_assoc]
  | (.eat d, t) :: p1, p2, x :: x1, x2, h => by
    have := ownNames_append p1 p2 x1 x2 (by simpa using h)
    show nmOf x ++ ownNames (p1 ++ p2) (x1 ++ x2) = (nmOf x ++ ownNames p1 x1) ++ ownNames p2 x2
    rw [this, List.append_assoc]

theorem ioAs_length : ∀ (ps : List (PK × Ty)) (j : Nat), (ioAs j ps).length = (Sig.ios ps).length
  | [], j => rfl
  | (.val, t) :: ps, j => ioAs_length ps (j + 1)
  | (.eat d, t) :: ps, j => ioAs_length ps (j + 1)
  | (.io d, t) :: ps, j => by
    have := ioAs_length ps (j + 1)
    cases t <;> simp [ioAs, Sig.ios, this]

theorem holds_length {P : Program} {w : World} {Z : Nat → Prop} : ∀ (ps : List (PK × Ty)) (F : Nat → Prop) (vs : List Value) (x : Sig.den ps), Holds P w Z F ps vs x → vs.length = ps.length
  | [], F, vs, x, h => by rw [show vs = [] from h]; rfl
  | (.val, t) :: ps, F, vs, x, h => by
    obtain ⟨v, r, rfl, _, h2⟩ := h
    simp [holds_length ps F r _ h2]
  | (.io d, t) :: ps, F, vs, x, h => by
    obtain ⟨v, r, F1, F2, rfl, _, _, _, _, h2⟩ := h
    simp [holds_length ps F2 r _ h2]
  | (.eat d, t) :: ps, F, vs, x, h => by
    obtain ⟨v, r, F1, F2, rfl, _, _, _, _, h2⟩ := h
    simp [holds_length ps F2 r _ h2]

theorem readRes_io {bs bs' : List (Nat × Blk)} {d : Bool} {t : Ty} {ps : List (PK × Ty)} {x : A} {xs : List A} {y : Sig.den ((.io d, t) :: ps)} (h : readRes bs bs' ((.io d, t) :: ps) (x :: xs) = some y) :
    ∃ a b, readOwn bs d t x = some a ∧ readRes bs bs' ps xs = some b ∧ y = Sig.mk (.io d, t) ps a b := by
  simp only [readRes] at h
  split at h
  · rename_i a b h1 h2
    exact ⟨a, b, h1, h2, (Option.some.inj h).symm⟩
  · cases h

section
variable {B : Base} {E : Env} {σ : St} {tm : Array Value} {w : World} {H : Nat → Option Value} {φ : Nat → Nat → Prop}

/-- what is handed back -/
theorem readIos_ok (h : Rel B σ tm w H φ) {Z' : Nat → Prop} (hz : ∀ b, b < w.heap.size → zone B w φ b → Z' b) {bs' : List (Nat × Blk)} :
    ∀ (ps : List (PK × Ty)) (j : Nat) (vals : List Value) (y : Sig.den (Sig.ios ps)), vals.length = ps.length → (∀ n v, ioMap j ps vals n = some v → B.io n = some v) → readRes σ.blks bs' (Sig.ios ps) (ioAs j ps) = some y → (ownNames (Sig.ios ps) (ioAs j ps)).Nodup →
      Holds B.P w Z' (fun b => ∃ n ∈ ownNames (Sig.ios ps) (ioAs j ps), φ n b) (Sig.ios ps) (ioVals ps vals) y
  | [], j, vals, y, hl, hio, hr, hn => by
    cases vals with
    | nil => rfl
    | cons _ _ => simp at hl
  | _ :: _, j, [], y, hl, hio, hr, hn => by simp at hl
  | (.val, t) :: ps, j, v :: vals, y, hl, hio, hr, hn => readIos_ok h hz ps (j + 1) vals y (by simpa using hl) (fun n u hu => hio n u hu) hr hn
  | (.eat d, t) :: ps, j, v :: vals, y, hl, hio, hr, hn => readIos_ok h hz ps (j + 1) vals y (by simpa using hl) (fun n u hu => hio n u hu) hr hn
  | (.io d, t) :: ps, j, v :: vals, y, hl, hio, hr, hn => by
    have hio0 : B.io (j * 64 + 63) = some v := hio _ _ (by simp [ioMap])
    have hio1 : ∀ n u, ioMap (j + 1) ps vals n = some u → B.io n = some u := fun n u hu => by
      refine hio n u ?_
      have : n ≠ j * 64 + 63 := by
        intro e
        have hlow : ∀ (ps : List (PK × Ty)) (j : Nat) (vs : List Value) (n : Nat) (v : Value), ioMap j ps vs n = some v → j * 64 ≤ n := by
          intro ps
          induction ps with
          | nil => intro j vs n v h; simp [ioMap] at h
          | cons p ps ih =>
            intro j vs n v h
            obtain ⟨k, t⟩ := p
            cases vs with
            | nil => cases k <;> simp [ioMap] at h
            | cons u vs =>
              cases k with
              | io d =>
                simp only [ioMap] at h
                split at h
                · omega
                · have := ih (j + 1) vs n v h; omega
              | val => have := ih (j + 1) vs n v (by simpa [ioMap] using h); omega
              | eat d => have := ih (j + 1) vs n v (by simpa [ioMap] using h); omega
        have := hlow ps (j + 1) vals n u hu
        omega
      simp only [ioMap]
      rw [if_neg this]
      exact hu
    have hval : ∀ n, n = j * 64 + 63 → look n σ.blks ≠ none → H n = some v := fun n e hl => by
      subst e
      rcases h.mem.keep _ _ hio0 with q | q
      · cases hq : look (j * 64 + 63) σ.blks with
        | none => exact absurd hq hl
        | some b =>
          obtain ⟨u, hu, _⟩ := h.mem.blk _ _ hq
          rw [q] at hu; cases hu
      · exact q
    have key : ∀ (x : A) (xs : List A), ioAs j ((.io d, t) :: ps) = x :: xs → xs = ioAs (j + 1) ps → (x = .any ∨ ((x = .c (.own (j * 64 + 63)) ∨ x = .c (.ptr (j * 64 + 63) 0)))) →
        Holds B.P w Z' (fun b => ∃ n ∈ ownNames (Sig.ios ((.io d, t) :: ps)) (ioAs j ((.io d, t) :: ps)), φ n b) (Sig.ios ((.io d, t) :: ps)) (ioVals ((.io d, t) :: ps) (v :: vals)) y := by
      intro x xs e1 e2 hx
      rw [e1] at hr hn ⊢
      subst e2
      obtain ⟨a, b, h1, h2, hy'⟩ := readRes_io (ps := Sig.ios ps) hr
      subst hy'
      have hn' : (nmOf x ++ ownNames (Sig.ios ps) (ioAs (j + 1) ps)).Nodup := hn
      obtain ⟨n1, n2, n3⟩ := List.nodup_append.1 hn'
      refine ⟨v, ioVals ps vals, fun b => ∃ n ∈ nmOf x, φ n b, fun b => ∃ n ∈ ownNames (Sig.ios ps) (ioAs (j + 1) ps), φ n b, rfl, ?_, ?_, ?_, ?_, ?_⟩
      · rintro b ⟨n, hm, hb⟩; exact ⟨n, List.mem_append.2 (.inl hm), hb⟩
      · rintro b ⟨n, hm, hb⟩; exact ⟨n, List.mem_append.2 (.inr hm), hb⟩
      · rintro b ⟨n, hm, hb⟩ ⟨m, hm', hb'⟩
        exact h.mem.fdis n m (n3 n hm m hm') b hb hb'
      · rw [Sig.hd_mk]
        refine readOwn_ok h hz h1 (fun e => ?_) (fun n hx' hl => ?_) (fun hs y hy => ?_) (fun cs e => by rcases hx with rfl | rfl | rfl <;> cases e) (fun n o l e => by rcases hx with rfl | rfl | rfl <;> cases e)
        · rcases hx with rfl | rfl | rfl <;> cases e
        · refine hval n ?_ hl
          rcases hx with rfl | rfl | rfl <;> rcases hx' with e | e <;> cases e <;> rfl
        · rcases hx with rfl | rfl | rfl
          · cases t <;> simp [A.read] at hy
          · cases t <;> simp [A.read, Ty.unflat, Ty.scal] at hy hs
          · cases t <;> simp [A.read, Ty.unflat, Ty.scal] at hy hs
      · rw [Sig.tl_mk]; exact readIos_ok h hz ps (j + 1) vals b (by simpa using hl) hio1 h2 n2
    cases t with
    | slice e => exact key _ _ rfl rfl (.inr (.inl rfl))
    | ptr a => exact key _ _ rfl rfl (.inr (.inr rfl))
    | _ => exact key _ _ rfl rfl (.inl rfl)

end
end Go.Proofs.YtklfnbckoaphpaaGreatDoor
