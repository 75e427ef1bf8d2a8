/- A function's beginning. No conditions. -/
import Derived.Test.YtklfnbckoaphpaaGreatDoorEvZc
set_option linter.unusedVariables false
set_option linter.unusedSimpArgs false
namespace Go.Proofs.YtklfnbckoaphpaaGreatDoor
open Go

/-- the values of what is handed back, by name -/
def ioMap : (j : Nat) → List (PK × Ty) → List Value → Nat → Option Value
  | j, (.io _, _) :: ps, v :: vs, n => if n = j * 64 + 63 then some v else ioMap (j + 1) ps vs n
  | j, _ :: ps, _ :: vs, n => ioMap (j + 1) ps vs n
  | _, _, _, _ => none

theorem ioMap_mod : ∀ (ps : List (PK × Ty)) (j : Nat) (vs : List Value) (n : Nat) (v : Value), ioMap j ps vs n = some v → n % 64 = 63
  | [], j, vs, n, v, h => by simp [ioMap] at h
  | (k, t) :: ps, j, [], n, v, h => by cases k <;> simp [ioMap] at h
  | (.val, t) :: ps, j, u :: vs, n, v, h => ioMap_mod ps (j + 1) vs n v (by simpa [ioMap] using h)
  | (.eat d, t) :: ps, j, u :: vs, n, v, h => ioMap_mod ps (j + 1) vs n v (by simpa [ioMap] using h)
  | (.io d, t) :: ps, j, u :: vs, n, v, h => by
    simp only [ioMap] at h
    split at h
    · omega
    · exact ioMap_mod ps (j + 1) vs n v h

/-- a beginning -/
def InitOK (P : Program) (w : World) (Z : Nat → Prop) (j : Nat) (X : Nat → Prop) (pn : List Nat) (io : Nat → Option Value) (bs : List (Nat × Blk)) (as : List A) (vs : List Value) : Prop :=
  ∃ (H : Nat → Option Value) (φ : Nat → Nat → Prop), (∀ n, look n bs = none → H n = none ∧ ∀ b, ¬ φ n b) ∧ (∀ n b, φ n b → n ∈ pn ∧ X b) ∧ (∀ n m, n ≠ m → ∀ b, φ n b → ¬ φ m b) ∧
    (∀ n v, io n = some v → H n = none ∨ H n = some v) ∧ (∀ n, H n ≠ none → j * 64 ≤ n) ∧
    ∀ C : Cx, C.P = P → C.w = w → (∀ b, b < w.heap.size → Z b → C.Z b) → (∀ n v, H n = some v → C.H n = some v) → (∀ n b, look n bs = some b → ∃ v, H n = some v ∧ BRel C (φ n) v b) ∧ All2 (ARel C) as vs

section
variable {P : Program} {w : World} {Z : Nat → Prop}

theorem InitOK.noBlk {j : Nat} {X X2 : Nat → Prop} {pn pn' : List Nat} {io io' : Nat → Option Value} {bs : List (Nat × Blk)} {as : List A} {vs : List Value} (h : InitOK P w Z (j + 1) X2 pn io bs as vs)
    (hX : ∀ b, X2 b → X b) (hp : ∀ n, n ∈ pn → n ∈ pn') (hio : ∀ n v, io' n = some v → io n = some v ∨ n < (j + 1) * 64) {a : A} {v : Value} (ha : ∀ C : Cx, C.P = P → C.w = w → (∀ b, b < w.heap.size → Z b → C.Z b) → ARel C a v) :
    InitOK P w Z j X pn' io' bs (a :: as) (v :: vs) := by
  obtain ⟨H, φ, h1, h2, h3, h4, h5, h6⟩ := h
  refine ⟨H, φ, h1, fun n b hb => ⟨hp n (h2 n b hb).1, hX b (h2 n b hb).2⟩, h3, fun n u hu => ?_, fun n hn => by have := h5 n hn; omega, fun C c1 c2 c3 c4 => ⟨(h6 C c1 c2 c3 c4).1, ha C c1 c2 c3, (h6 C c1 c2 c3 c4).2⟩⟩
  rcases hio n u hu with h | h
  · exact h4 n u h
  · cases hq : H n with
    | none => exact .inl rfl
    | some _ => have := h5 n (by rw [hq]; simp); omega

theorem InitOK.aBlk {j n0 : Nat} {X X2 F1 : Nat → Prop} {pn : List Nat} {io io' : Nat → Option Value} {bs : List (Nat × Blk)} {as : List A} {vs : List Value} {b0 : Blk} (h : InitOK P w Z (j + 1) X2 pn io bs as vs)
    (hn0 : j * 64 ≤ n0) (hn1 : n0 < (j + 1) * 64) (hX : ∀ b, X2 b → X b) (hX1 : ∀ b, F1 b → X b) (hdis : ∀ b, F1 b → ¬ X2 b) {v : Value} (hio : ∀ n u, io' n = some u → (n = n0 ∧ u = v) ∨ (n ≠ n0 ∧ io n = some u)) {a : A}
    (hb : ∀ C : Cx, C.P = P → C.w = w → (∀ b, b < w.heap.size → Z b → C.Z b) → BRel C F1 v b0) (ha : ∀ C : Cx, C.H n0 = some v → ARel C a v) :
    InitOK P w Z j X (n0 :: pn) io' ((n0, b0) :: bs) (a :: as) (v :: vs) := by
  obtain ⟨H, φ, h1, h2, h3, h4, h5, h6⟩ := h
  have hH0 : H n0 = none := by
    cases hq : H n0 with
    | none => rfl
    | some _ => have := h5 n0 (by rw [hq]; simp); omega
  refine ⟨fun n => if n = n0 then some v else H n, fun n b => (n = n0 ∧ F1 b) ∨ (n ≠ n0 ∧ φ n b), fun n hn => ?_, fun n b hb => ?_, fun n m hnm b hb hb' => ?_, fun n u hu => ?_, fun n hn => ?_, fun C c1 c2 c3 c4 => ⟨fun n b hl => ?_, ?_, ?_⟩⟩
  · simp only [look] at hn
    by_cases e : n0 = n
    · subst e; simp at hn
    · have e' : (n0 == n) = false := by simp [e]
      simp only [e', cond_false] at hn
      have e2 : ¬ n = n0 := fun q => e q.symm
      refine ⟨by simp [e2, (h1 n hn).1], fun b hb => ?_⟩
      rcases hb with ⟨q, _⟩ | ⟨_, q⟩
      · exact e2 q
      · exact (h1 n hn).2 b q
  · rcases hb with ⟨rfl, q⟩ | ⟨_, q⟩
    · exact ⟨by simp, hX1 b q⟩
    · exact ⟨List.mem_cons_of_mem _ (h2 n b q).1, hX b (h2 n b q).2⟩
  · rcases hb with ⟨rfl, q⟩ | ⟨e1, q⟩ <;> rcases hb' with ⟨e2, q'⟩ | ⟨e2, q'⟩
    · exact hnm e2.symm
    · exact hdis b q (h2 m b q').2
    · exact hdis b q' (h2 n b q).2
    · exact h3 n m hnm b q q'
  · rcases hio n u hu with ⟨rfl, rfl⟩ | ⟨e, q⟩
    · exact .inr (by simp)
    · simpa [e] using h4 n u q
  · by_cases e : n = n0
    · omega
    · simp only [e, if_false] at hn
      have := h5 n hn; omega
  · have c4' : ∀ n v, H n = some v → C.H n = some v := fun n u hu => by
      refine c4 n u ?_
      have : n ≠ n0 := fun e => by subst e; rw [hH0] at hu; cases hu
      simp only [this, if_false]; exact hu
    simp only [look] at hl
    by_cases e : n0 = n
    · subst e
      simp only [beq_self_eq_true, cond_true, Option.some.injEq] at hl
      subst hl
      exact ⟨v, by simp, (hb C c1 c2 c3).sub fun i hi => .inl ⟨rfl, hi⟩⟩
    · have e' : (n0 == n) = false := by simp [e]
      simp only [e', cond_false] at hl
      have e2 : ¬ n = n0 := fun q => e q.symm
      obtain ⟨u, hu, hbr⟩ := (h6 C c1 c2 c3 c4').1 n b hl
      exact ⟨u, by simp [e2, hu], hbr.sub fun i hi => .inr ⟨e2, hi⟩⟩
  · exact ha C (c4 n0 v (by simp))
  · have c4' : ∀ n v, H n = some v → C.H n = some v := fun n u hu => by
      refine c4 n u ?_
      have : n ≠ n0 := fun e => by subst e; rw [hH0] at hu; cases hu
      simp only [this, if_false]; exact hu
    exact (h6 C c1 c2 c3 c4').2

theorem rowFlag {C : Cx} {d : Bool} {e : Ty} {Z' F : Nat → Prop} {v : Value} {xs : List e.den} (h : RowOf C.P false d e C.w Z' F v xs) (hz : ∀ b, b < C.w.heap.size → Z' b → C.Z b) : BRel C F v (.row (d || e.scal) e xs) := by
  have h1 : RowOf C.P false d e C.w C.Z F v xs := RowOf.agree h hz (Agree.refl _ _) (fun _ h => h) (Agree.refl _ _)
  show RowOf _ (mkd (d || e.scal) e) _ _ _ _ _ _ _
  rw [mkd_or]
  cases d with
  | true => exact h1
  | false => cases hs : e.scal with
    | true => exact RowOf.flag hs h1
    | false => exact h1

theorem init_ok : ∀ (ps : List (PK × Ty)) (j : Nat) (X : Nat → Prop) (vs : List Value) (x : Sig.den ps), Holds P w Z X ps vs x → InitOK P w Z j X (parNames j ps) (ioMap j ps vs) (initBs j ps x) (initAs j ps x) vs
  | [], j, X, vs, x, h => by
    obtain rfl : vs = [] := h
    exact ⟨fun _ => none, fun _ _ => False, fun _ _ => ⟨rfl, fun _ f => f⟩, fun _ _ f => f.elim, fun _ _ _ _ f => f.elim, fun _ _ _ => .inl rfl, fun _ h => absurd rfl h, fun C _ _ _ _ => ⟨fun n b hl => by simp [initBs, look] at hl, trivial⟩⟩
  | (.val, t) :: ps, j, X, vs, x, h => by
    obtain ⟨v, r, rfl, h1, h2⟩ := h
    refine InitOK.noBlk (init_ok ps (j + 1) X r _ h2) (fun _ h => h) (fun _ h => h) (fun n u hu => .inl hu) fun C c1 c2 c3 => toA_rel ?_
    rw [c1, c2]
    exact RdV.agree (Agree.refl _ _) c3 h1
  | (.eat d, t) :: ps, j, X, vs, x, h => by
    obtain ⟨v, r, F1, F2, rfl, s1, s2, s3, h1, h2⟩ := h
    have ih := init_ok ps (j + 1) F2 r _ h2
    cases t with
    | slice e =>
      refine InitOK.aBlk (n0 := j * 64 + 62) (F1 := F1) ih (by omega) (by omega) s2 s1 s3 (fun n u hu => ?_) (fun C c1 c2 c3 => ?_) (fun C hC => ?_)
      · refine .inr ⟨fun e => ?_, hu⟩
        have := ioMap_mod _ _ _ _ _ hu; omega
      · refine rowFlag (Z' := Z) ?_ (by rw [c2]; exact c3)
        rw [c1, c2]; exact h1
      · obtain ⟨A, cap, e1, _⟩ := h1
        exact ⟨hC, A, _, cap, e1⟩
    | _ => exact InitOK.noBlk ih s2 (fun n h => List.mem_cons_of_mem _ h) (fun n u hu => .inl hu) fun C _ _ _ => trivial
  | (.io d, t) :: ps, j, X, vs, x, h => by
    obtain ⟨v, r, F1, F2, rfl, s1, s2, s3, h1, h2⟩ := h
    have ih := init_ok ps (j + 1) F2 r _ h2
    have hio : ∀ n u, ioMap j ((.io d, t) :: ps) (v :: r) n = some u → (n = j * 64 + 63 ∧ u = v) ∨ (n ≠ j * 64 + 63 ∧ ioMap (j + 1) ps r n = some u) := by
      intro n u hu
      simp only [ioMap] at hu
      split at hu
      · rename_i e; exact .inl ⟨e, (Option.some.inj hu).symm⟩
      · rename_i e; exact .inr ⟨e, hu⟩
    have hio' : ∀ n u, ioMap j ((.io d, t) :: ps) (v :: r) n = some u → ioMap (j + 1) ps r n = some u ∨ n < (j + 1) * 64 := by
      intro n u hu
      rcases hio n u hu with ⟨e, _⟩ | ⟨_, q⟩
      · exact .inr (by omega)
      · exact .inl q
    cases t with
    | slice e =>
      refine InitOK.aBlk (n0 := j * 64 + 63) (F1 := F1) ih (by omega) (by omega) s2 s1 s3 hio (fun C c1 c2 c3 => ?_) (fun C hC => ?_)
      · refine rowFlag (Z' := Z) ?_ (by rw [c2]; exact c3)
        rw [c1, c2]; exact h1
      · obtain ⟨A, cap, e1, _⟩ := h1
        exact ⟨hC, A, _, cap, e1⟩
    | ptr pa =>
      cases hg : (!d || pa.scal) with
      | true =>
        have eb : initBs j ((.io d, .ptr pa) :: ps) x = (j * 64 + 63, .box (pa.flat (Sig.hd (.io d, .ptr pa) ps x) [])) :: initBs (j + 1) ps (Sig.tl (.io d, .ptr pa) ps x) := by simp [initBs, initB, hg]
        have ea : initAs j ((.io d, .ptr pa) :: ps) x = .c (.ptr (j * 64 + 63) 0) :: initAs (j + 1) ps (Sig.tl (.io d, .ptr pa) ps x) := by simp [initAs, initA, hg]
        rw [eb, ea]
        obtain ⟨g, us, ety, F', ep, hgF, hh, hs', ho⟩ := h1
        refine InitOK.aBlk (n0 := j * 64 + 63) (F1 := F1) ih (by omega) (by omega) s2 s1 s3 hio (fun C c1 c2 c3 => ?_) (fun C hC => ?_)
        · refine ⟨g, us, ety, ep, hgF, by rw [c2]; exact hh, ?_⟩
          have hr := RdC.mono (Z' := C.Z) c3 (OwC.flatOK hg ho)
          rw [← c1, ← c2] at hr
          exact flat_rel' hr
        · exact ⟨g, by rw [hC, ep], ep⟩
      | false =>
        have eb : initBs j ((.io d, .ptr pa) :: ps) x = initBs (j + 1) ps (Sig.tl (.io d, .ptr pa) ps x) := by simp [initBs, initB, hg]
        have ea : initAs j ((.io d, .ptr pa) :: ps) x = .any :: initAs (j + 1) ps (Sig.tl (.io d, .ptr pa) ps x) := by simp [initAs, initA, hg]
        rw [eb, ea]
        exact InitOK.noBlk ih s2 (fun n h => List.mem_cons_of_mem _ h) hio' fun C _ _ _ => trivial
    | _ => exact InitOK.noBlk ih s2 (fun n h => List.mem_cons_of_mem _ h) hio' fun C _ _ _ => trivial

end
end Go.Proofs.YtklfnbckoaphpaaGreatDoor
