/- Calls: what is handed over, what comes back. No conditions. -/
import Derived.Test.YtklfnbckoaphpaaGreatDoorEvS
set_option linter.unusedVariables false
set_option linter.unusedSimpArgs false
namespace Go.Proofs.YtklfnbckoaphpaaGreatDoor
open Go

section
variable {ρ : Type} {B : Base} {E : Env} {σ : St} {tm : Array Value} {w w' : World} {H : Nat → Option Value} {φ : Nat → Nat → Prop}

/-! ### What is handed over -/
theorem readP_own {d : Bool} {k : PK} {e : Ty} {C : Cx} {Zc : Nat → Prop} (hz : ∀ b, b < C.w.heap.size → C.Z b → Zc b) {F : Nat → Prop} {v : Value} {d' : Bool} {e' : Ty} {xs : List e'.den} {y : List e.den}
    (hb : BRel C F v (.row d' e' xs)) (hd : d = d') (hm : mkd d' e' = false) (hc : Ty.castL? e' e xs = some y) : OwTop C.P d (.slice e) C.w Zc F v y := by
  subst hd
  obtain ⟨rfl, rfl⟩ := Ty.castL?_spec hc
  have hb' : RowOf C.P (mkd d _) d _ C.w C.Z F v y := hb
  rw [hm] at hb'
  exact RowOf.agree hb' hz (Agree.refl _ _) (fun _ h => h) (Agree.refl _ _)

theorem ownTop_nil {P : Program} {d : Bool} {e : Ty} {w : World} {Z F : Nat → Prop} {v : Value} (h : ∃ A, v = .slice A 0 0) : OwTop P d (.slice e) w Z F v [] := by
  obtain ⟨A, rfl⟩ := h
  exact ⟨A, 0, rfl, by simp, .inl rfl⟩

/-- what an argument hands over -/
theorem readP_io (h : Rel B σ tm w H φ) {Zc : Nat → Prop} (hz : ∀ b, b < w.heap.size → zone B w φ b → Zc b) {bsR : List (Nat × Blk)} {k : PK} (hk : k ≠ .val) {t : Ty} {x : A} {v : Value} {y : t.den} (hr : readP E σ.blks bsR (k, t) x = some y) (ha : ARel (B.at σ w H φ) x v) :
    ∃ d, (k = .io d ∨ k = .eat d) ∧ ((x = .c .nil ∧ ∃ e, t = .slice e) ∨ ∃ n b, look n σ.blks = some b ∧ (x = .c (.own n) ∧ (∃ e, t = .slice e) ∨ x = .c (.ptr n 0) ∧ (∃ a, t = .ptr a) ∧ k = .io d) ∧ H n = some v) ∧
      OwTop B.P d t w Zc (fun b => ∃ n, (x = .c (.own n) ∨ x = .c (.ptr n 0)) ∧ φ n b) v y := by
  have hkd : ∃ d, k = .io d ∨ k = .eat d := by cases k with | val => exact absurd rfl hk | io d => exact ⟨d, .inl rfl⟩ | eat d => exact ⟨d, .inr rfl⟩
  obtain ⟨d, hkd⟩ := hkd
  refine ⟨d, hkd, ?_⟩
  have own : ∀ (e : Ty) (n : Nat) (d' : Bool) (e' : Ty) (xs : List e'.den) (z : List e.den), t = .slice e → x = .c (.own n) → look n σ.blks = some (.row d' e' xs) → (d = d' ∧ mkd d' e' = false) → Ty.castL? e' e xs = some z → (∃ h : t = .slice e, y = cast (by rw [h]) z) →
      ((x = .c .nil ∧ ∃ e, t = .slice e) ∨ ∃ n b, look n σ.blks = some b ∧ (x = .c (.own n) ∧ (∃ e, t = .slice e) ∨ x = .c (.ptr n 0) ∧ (∃ a, t = .ptr a) ∧ k = .io d) ∧ H n = some v) ∧
      OwTop B.P d t w Zc (fun b => ∃ n, (x = .c (.own n) ∨ x = .c (.ptr n 0)) ∧ φ n b) v y := by
    intro e n d' e' xs z ht hx hl hd hc hy
    subst ht
    obtain ⟨_, rfl⟩ := hy
    subst hx
    obtain ⟨v0, hv0, hb⟩ := h.mem.blk n _ hl
    have eH : H n = some v := ha.1
    have : v0 = v := by rw [hv0] at eH; exact Option.some.inj eH
    subst this
    refine ⟨.inr ⟨n, _, hl, .inl ⟨rfl, e, rfl⟩, eH⟩, ?_⟩
    have := readP_own (d := d) (k := k) (Zc := Zc) hz hb hd.1 hd.2 hc
    exact OwTop.agree (fun _ _ h => h) (Agree.refl _ _) (fun b hb => ⟨n, .inl rfl, hb⟩) (Agree.refl _ _) this
  cases k with
  | val => exact absurd rfl hk
  | io d0 =>
    obtain rfl : d0 = d := by rcases hkd with e | e <;> cases e; rfl
    cases x with
    | c c =>
      cases t with
      | slice e =>
        cases c with
        | nil =>
          simp only [readP, Option.some.injEq] at hr
          subst hr
          exact ⟨.inl ⟨rfl, e, rfl⟩, ownTop_nil ha⟩
        | own n =>
          simp only [readP] at hr
          split at hr
          · rename_i d' e' xs hl
            obtain ⟨hg, hc⟩ := bif_none hr
            exact own e n d' e' xs y rfl rfl hl ⟨by simpa using (and_b hg).1, mkd_of (and_b hg).2⟩ hc ⟨rfl, rfl⟩
          · cases hr
        | _ => simp [readP] at hr
      | ptr a =>
        cases c with
        | ptr n o =>
          cases o with
          | succ o => simp [readP] at hr
          | zero =>
            simp only [readP] at hr
            split at hr
            · rename_i cs hl
              obtain ⟨hd, hc⟩ := bif_none hr
              split at hc
              · rename_i y' hu
                obtain rfl := Option.some.inj hc
                obtain ⟨v0, hv0, g, us, ety, rfl, hF, hh, hal⟩ := h.mem.blk n _ hl
                obtain ⟨g', hg', rfl⟩ := ha
                have eH : H n = some _ := hg'
                refine ⟨.inr ⟨n, _, hl, .inr ⟨rfl, ⟨a, rfl⟩, rfl⟩, eH⟩, ?_⟩
                rw [hv0] at eH
                simp only [Option.some.injEq, Value.pointer.injEq, Addr.mk.injEq, and_true] at eH
                subst eH
                obtain ⟨u1, u2, eu, k1, k2⟩ := unflat_rel (C := B.at σ w H φ) Reads.nil a cs y' [] us.toList hu hal
                have : u2 = [] := by cases u2 with | nil => rfl | cons _ _ => exact k2.elim
                subst this
                simp only [List.append_nil] at eu
                subst eu
                exact ⟨g, us, ety, NoB, rfl, ⟨n, .inr rfl, hF⟩, hh, fun _ f => f.elim, OwC.ofRd a _ _ hd (RdC.mono hz k1)⟩
              · cases hc
            · cases hr
        | _ => simp [readP] at hr
      | _ => simp [readP] at hr
    | _ => cases t <;> simp [readP] at hr
  | eat d0 =>
    obtain rfl : d0 = d := by rcases hkd with e | e <;> cases e; rfl
    cases x with
    | c c =>
      cases t with
      | slice e =>
        cases c with
        | nil =>
          simp only [readP, Option.some.injEq] at hr
          subst hr
          exact ⟨.inl ⟨rfl, e, rfl⟩, ownTop_nil ha⟩
        | own n =>
          simp only [readP] at hr
          split at hr
          · rename_i d' e' xs hl
            obtain ⟨hg, hc⟩ := bif_none hr
            exact own e n d' e' xs y rfl rfl hl ⟨by simpa using (and_b hg).1, mkd_of (and_b hg).2⟩ hc ⟨rfl, rfl⟩
          · cases hr
        | _ => simp [readP] at hr
      | ptr a =>
        cases c with
        | ptr n o =>
          cases o with
          | succ o => simp [readP] at hr
          | zero =>
            simp only [readP] at hr
            split at hr
            · simp at hr
            · cases hr
        | _ => simp [readP] at hr
      | _ => simp [readP] at hr
    | _ => cases t <;> simp [readP] at hr

theorem handed_io {k : PK} (hk : k ≠ .val) (t : Ty) (ps : List (PK × Ty)) (x : A) (xs : List A) :
    handed ((k, t) :: ps) (x :: xs) = (match x with | .c (.own n) => [n] | .c (.ptr n _) => [n] | _ => []) ++ handed ps xs := by
  cases k with
  | val => exact absurd rfl hk
  | io d => cases x with
    | c y => cases y <;> rfl
    | _ => rfl
  | eat d => cases x with
    | c y => cases y <;> rfl
    | _ => rfl

theorem nodupB_small : ∀ {l : List Nat}, l.length ≤ 1 → nodupB l = true
  | [], _ => rfl
  | [_], _ => rfl
  | _ :: _ :: _, h => by simp at h
theorem nodupB_cons {n : Nat} {r : List Nat} (h : nodupB (n :: r) = true) : n ∉ r ∧ nodupB r = true := by
  simpa [nodupB] using h

/-- the arguments of a call -/
theorem readPs_rel (hE : EnvOK B.P E) (h : Rel B σ tm w H φ) {Zc : Nat → Prop} (hz : ∀ b, b < w.heap.size → zone B w φ b → Zc b) {bsR : List (Nat × Blk)} (hR : Reads (B.at σ w H φ) bsR Zc) :
    ∀ (ps : List (PK × Ty)) (xs : List A) (vs : List Value) (x : Sig.den ps), nodupB (handed ps xs) = true → readPs E σ.blks bsR ps xs = some x → All2 (ARel (B.at σ w H φ)) xs vs →
      Holds B.P w Zc (fun b => ∃ n ∈ handed ps xs, φ n b) ps vs x ∧ ∀ n ∈ handed ps xs, ∃ b, look n σ.blks = some b
  | [], [], vs, x, hl, hr, ha => by
    cases vs with
    | nil => exact ⟨rfl, fun n hn => by simp [handed] at hn⟩
    | cons _ _ => exact ha.elim
  | [], _ :: _, vs, x, hl, hr, ha => by simp [readPs] at hr
  | _ :: _, [], vs, x, hl, hr, ha => by simp [readPs] at hr
  | p :: ps, a :: xs, [], x, hl, hr, ha => ha.elim
  | (k, t) :: ps, a :: xs, v :: vs, x, hl, hr, ha => by
    simp only [readPs] at hr
    split at hr
    · rename_i d r h1 h2
      obtain rfl := Option.some.inj hr
      by_cases hk : k = .val
      · subst hk
        obtain ⟨i1, i2⟩ := readPs_rel hE h hz hR ps xs vs r hl h2 ha.2
        refine ⟨⟨v, vs, rfl, ?_, ?_⟩, i2⟩
        · rw [Sig.hd_mk]
          exact readF_rel (C := B.at σ w H φ) hE hR (by simpa [readP] using h1) ha.1
        · rw [Sig.tl_mk]; exact i1
      · have e1 := handed_io hk t ps a xs
        obtain ⟨dp, hkd, hwhich, how⟩ := readP_io h hz hk h1 ha.1
        have hlen : nodupB (handed ps xs) = true := by
          rw [e1] at hl
          revert hl
          rcases hwhich with ⟨rfl, _⟩ | ⟨m, b, hm, hx, _⟩
          · exact fun hl => hl
          · rcases hx with ⟨rfl, _⟩ | ⟨rfl, _⟩ <;> exact fun hl => (nodupB_cons hl).2
        obtain ⟨i1, i2⟩ := readPs_rel hE h hz hR ps xs vs r hlen h2 ha.2
        have hmem : ∀ b, (∃ n, (a = .c (.own n) ∨ a = .c (.ptr n 0)) ∧ φ n b) → ∃ n ∈ handed ((k, t) :: ps) (a :: xs), φ n b := by
          rintro b ⟨n, hn, hb⟩
          refine ⟨n, ?_, hb⟩
          rw [e1]
          rcases hn with rfl | rfl <;> simp
        have hsub : ∀ b, (∃ n ∈ handed ps xs, φ n b) → ∃ n ∈ handed ((k, t) :: ps) (a :: xs), φ n b := by
          rintro b ⟨n, hn, hb⟩
          exact ⟨n, by rw [e1]; simp [hn], hb⟩
        have hdis : ∀ b, (∃ n, (a = .c (.own n) ∨ a = .c (.ptr n 0)) ∧ φ n b) → ¬ ∃ n ∈ handed ps xs, φ n b := by
          rintro b ⟨n, hn, hb⟩ ⟨m, hm, hb'⟩
          have hne : n ∉ handed ps xs := by
            rw [e1] at hl
            rcases hn with rfl | rfl <;> exact (nodupB_cons hl).1
          exact h.mem.fdis n m (fun e => hne (e ▸ hm)) b hb hb'
        refine ⟨?_, fun n hn => ?_⟩
        · rcases hkd with rfl | rfl
          · exact ⟨v, vs, _, _, rfl, hmem, hsub, hdis, by rw [Sig.hd_mk]; exact how, by rw [Sig.tl_mk]; exact i1⟩
          · exact ⟨v, vs, _, _, rfl, hmem, hsub, hdis, by rw [Sig.hd_mk]; exact how, by rw [Sig.tl_mk]; exact i1⟩
        · rw [e1] at hn
          rcases List.mem_append.1 hn with hn | hn
          · rcases hwhich with ⟨rfl, _⟩ | ⟨m, b, hm, hx, _⟩
            · simp at hn
            · rcases hx with ⟨rfl, _⟩ | ⟨rfl, _⟩ <;> (simp at hn; subst hn; exact ⟨b, hm⟩)
          · exact i2 n hn
    · cases hr

end
end Go.Proofs.YtklfnbckoaphpaaGreatDoor
