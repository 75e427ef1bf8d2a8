/- The evaluator is sound for code. No conditions. -/
import Derived.Test.YtklfnbckoaphpaaGreatDoorEvZa
set_option linter.unusedVariables false
set_option linter.unusedSimpArgs false
namespace Go.Proofs.YtklfnbckoaphpaaGreatDoor
open Go

/-- every loop does what its summary says -/
def LoopsOK (E : Env) (Λ : Nat → Option Loop) : Code → Prop
  | .seq a b => LoopsOK E Λ a ∧ LoopsOK E Λ b
  | .cond _ a b => LoopsOK E Λ a ∧ LoopsOK E Λ b
  | .block _ b => LoopsOK E Λ b
  | .loop b => LoopsOK E Λ b ∧ ∀ n L, regOf b = some n → Λ n = some L → ∀ s o, L.run s = some o → ∃ m, iterN (fun s => ev E Λ b (L.pat.enc s) (kstep L.pat L.outs)) m s = some o
  | _ => True

section
variable {ρ : Type} {B : Base}

theorem sameExit_spec {e e' : Exit} (h : sameExit e e' = true) : e = e' := by
  cases e <;> cases e' <;> simp_all [sameExit]

/-- what leaves a loop -/
theorem inj_ok : ∀ (os : List (Exit × Pat)) {e : Exit} {σ : St} {o : Outs.den os} {k : Exit → St → Option ρ} {r : ρ} {a : Act} {w : World},
    Outs.inj os e σ = some o → Outs.elim os o k = some r → RelA B σ a w → ∃ σ', k e σ' = some r ∧ RelA B σ' a w
  | [], e, σ, o, k, r, a, w, h, _, _ => by simp [Outs.inj] at h
  | [p], e, σ, o, k, r, a, w, h, hk, hA => by
    simp only [Outs.inj] at h
    have h0 := bif_none h
    clear h
    obtain ⟨he, h⟩ := h0
    have := sameExit_spec he
    subst this
    obtain ⟨hd, H, φ, hr⟩ := hA
    obtain ⟨H', φ', hr'⟩ := dec_ok hr h
    exact ⟨_, hk, hd, H', φ', hr'⟩
  | p :: q :: os, e, σ, o, k, r, a, w, h, hk, hA => by
    simp only [Outs.inj] at h
    cases hs : sameExit p.1 e with
    | true =>
      rw [hs] at h
      simp only [cond_true] at h
      split at h
      · rename_i s hd
        simp only [Option.some.injEq] at h
        subst h
        have := sameExit_spec hs
        subst this
        obtain ⟨hdf, H, φ, hr⟩ := hA
        obtain ⟨H', φ', hr'⟩ := dec_ok hr hd
        exact ⟨_, hk, hdf, H', φ', hr'⟩
      · cases h
    | false =>
      rw [hs] at h
      simp only [cond_false] at h
      split at h
      · rename_i s hd
        simp only [Option.some.injEq] at h
        subst h
        exact inj_ok (q :: os) hd hk hA
      · cases h

theorem iterN_succ {S O : Type} {step : S → Option (S ⊕ O)} {m : Nat} {s : S} {o : O} (h : iterN step m s = some o) : ∃ n, m = n + 1 ∧ ((∃ s', step s = some (.inl s') ∧ iterN step n s' = some o) ∨ step s = some (.inr o)) := by
  cases m with
  | zero => simp [iterN] at h
  | succ n =>
    refine ⟨n, rfl, ?_⟩
    simp only [iterN] at h
    split at h
    · cases h
    · rename_i s' hs; exact .inl ⟨s', hs, h⟩
    · rename_i o' hs
      simp only [Option.some.injEq] at h
      subst h
      exact .inr hs

theorem kstep_other {p : Pat} {os : List (Exit × Pat)} {e : Exit} {σ : St} {res : p.den ⊕ Outs.den os} (hne : e ≠ .normal) (h : kstep p os e σ = some res) : ∃ o, Outs.inj os e σ = some o ∧ res = .inr o := by
  have h' : (match Outs.inj os e σ with | some s => some (Sum.inr s : p.den ⊕ Outs.den os) | none => none) = some res := by
    cases e <;> first | exact absurd rfl hne | exact h
  split at h'
  · rename_i o ho
    simp only [Option.some.injEq] at h'
    exact ⟨o, ho, h'.symm⟩
  · cases h'

theorem ev_sound {E : Env} {Λ : Nat → Option Loop} (hm : B.P.follows .mixedOrders = true) (hE : EnvOK B.P E) (hpar : E.par = B.par) (hB : B.R = NoB) : ∀ (c : Code), LoopsOK E Λ c →
    ∀ {ρ : Type} (σ : St) (a : Act) (w : World) (k : Exit → St → Option ρ) (r : ρ) (Q : Exit → Act → World → Prop), RelA B σ a w → ev E Λ c σ k = some r →
      (∀ e σ' a' w', k e σ' = some r → RelA B σ' a' w' → Q e a' w') → c.wp B.P Q a w := by
  intro c
  induction c with
  | skip => intro _ ρ σ a w k r Q hA hv hQ; exact wp_skip (hQ _ _ _ _ hv hA)
  | region id ops draw => intro _ ρ σ a w k r Q hA hv hQ; exact evRegion_ok (k := k .normal) hm hE hpar hB (fun σ' a' w' hk hA' => hQ _ _ _ _ hk hA') hA hv
  | seq x y ihx ihy =>
    intro hl ρ σ a w k r Q hA hv hQ
    simp only [ev, evA] at hv
    split at hv
    · refine wp_seq (ihx hl.1 σ a w _ r _ hA hv fun e σ' a' w' hk hA' => ?_)
      cases e with
      | normal => exact ihy hl.2 σ' a' w' k r Q hA' hk hQ
      | exit id => exact hQ _ _ _ _ hk hA'
      | goto l => exact hQ _ _ _ _ hk hA'
      | ret => exact hQ _ _ _ _ hk hA'
      | panic ch => exact hQ _ _ _ _ hk hA'
      | outgrown => exact hQ _ _ _ _ hk hA'
    · rename_i p hp
      have other : ∀ {e : Exit} {σ' : St} {q : p.den ⊕ ρ}, e ≠ .normal → joinK p k e σ' = some q → ∃ r', k e σ' = some r' ∧ q = .inr r' := by
        intro e σ' q hne hk
        have hk' : (match k e σ' with | some r => some (Sum.inr r : p.den ⊕ ρ) | none => none) = some q := by
          cases e <;> first | exact absurd rfl hne | exact hk
        split at hk'
        · rename_i r' hr'
          exact ⟨r', hr', (Option.some.inj hk').symm⟩
        · cases hk'
      have normal : ∀ {σ' : St} {q : p.den ⊕ ρ}, joinK p k .normal σ' = some q → ∃ s, p.dec σ' = some s ∧ q = .inl s := by
        intro σ' q hk
        simp only [joinK] at hk
        split at hk
        · rename_i s hs
          exact ⟨s, hs, (Option.some.inj hk).symm⟩
        · cases hk
      split at hv
      · cases hv
      · rename_i s hs
        refine wp_seq (ihx hl.1 σ a w _ (Sum.inl s) _ hA hs fun e σ' a' w' hk hA' => ?_)
        by_cases he : e = .normal
        · subst he
          obtain ⟨s', hd, e1⟩ := normal hk
          obtain rfl := Sum.inl.inj e1
          obtain ⟨hdf, H, φ, hr⟩ := hA'
          obtain ⟨H', φ', hr'⟩ := dec_ok hr hd
          exact ihy hl.2 _ a' w' k r Q ⟨hdf, H', φ', hr'⟩ hv hQ
        · obtain ⟨r', _, e1⟩ := other he hk
          cases e1
      · rename_i r0 hs
        obtain rfl := Option.some.inj hv
        refine wp_seq (ihx hl.1 σ a w _ (Sum.inr r0) _ hA hs fun e σ' a' w' hk hA' => ?_)
        by_cases he : e = .normal
        · subst he
          obtain ⟨s', _, e1⟩ := normal hk
          cases e1
        · obtain ⟨r', hk', e1⟩ := other he hk
          obtain rfl := Sum.inr.inj e1
          cases e with
          | normal => exact absurd rfl he
          | exit id => exact hQ _ _ _ _ hk' hA'
          | goto l => exact hQ _ _ _ _ hk' hA'
          | ret => exact hQ _ _ _ _ hk' hA'
          | panic ch => exact hQ _ _ _ _ hk' hA'
          | outgrown => exact hQ _ _ _ _ hk' hA'
  | cond c x y ihx ihy =>
    intro hl ρ σ a w k r Q hA hv hQ
    simp only [ev, evA] at hv
    split at hv
    · rename_i b hc
      obtain ⟨hdef, H, φ, h⟩ := id hA
      refine wp_cond (h.bool hc) ?_
      cases b with
      | true => exact ihx hl.1 σ a w k r Q hA hv hQ
      | false => exact ihy hl.2 σ a w k r Q hA hv hQ
    · cases hv
  | block id b ih =>
    intro hl ρ σ a w k r Q hA hv hQ
    refine wp_block (ih hl σ a w _ r _ hA hv fun e σ' a' w' hk hA' => ?_)
    cases e with
    | exit id' =>
      simp only [inBlk] at hk
      simp only [Exit.inBlock]
      by_cases hid : id' = id
      · rw [if_pos hid]
        have : (id' == id) = true := by simpa using hid
        rw [this] at hk
        exact hQ _ _ _ _ hk hA'
      · rw [if_neg hid]
        have : (id' == id) = false := by simpa using hid
        rw [this] at hk
        exact hQ _ _ _ _ hk hA'
    | normal => exact hQ _ _ _ _ hk hA'
    | goto l => exact hQ _ _ _ _ hk hA'
    | ret => exact hQ _ _ _ _ hk hA'
    | panic ch => exact hQ _ _ _ _ hk hA'
    | outgrown => exact hQ _ _ _ _ hk hA'
  | loop b ih =>
    intro hl ρ σ a w k r Q hA hv hQ
    simp only [ev, evA] at hv
    split at hv
    · cases hv
    rename_i n hn
    split at hv
    · cases hv
    rename_i L hL
    split at hv
    · cases hv
    rename_i s hs
    split at hv
    · cases hv
    rename_i o ho
    obtain ⟨m, hm'⟩ := hl.2 n L hn hL s o ho
    obtain ⟨hdef, H, φ, h⟩ := hA
    obtain ⟨H', φ', h'⟩ := dec_ok h hs
    refine wp_loop_ghost (fun m a w => ∃ s, iterN (fun s => ev E Λ b (L.pat.enc s) (kstep L.pat L.outs)) m s = some o ∧ RelA B (L.pat.enc s) a w) m ⟨s, hm', hdef, H', φ', h'⟩ ?_
    rintro m a w ⟨s, hi, hA⟩
    obtain ⟨m', rfl, hcase⟩ := iterN_succ hi
    have post : ∀ res, ev E Λ b (L.pat.enc s) (kstep L.pat L.outs) = some res → (∀ s', res = .inl s' → iterN (fun s => ev E Λ b (L.pat.enc s) (kstep L.pat L.outs)) m' s' = some o) → (∀ o', res = .inr o' → o' = o) →
        b.wp B.P (Exit.then (fun a' w' => ∃ n', n' < m' + 1 ∧ ∃ s, iterN (fun s => ev E Λ b (L.pat.enc s) (kstep L.pat L.outs)) n' s = some o ∧ RelA B (L.pat.enc s) a' w') Q) a w := by
      intro res hres h1 h2
      refine ih hl.1 (L.pat.enc s) a w _ res _ hA hres fun e σ' a' w' hk hA' => ?_
      have other : ∀ e', kstep L.pat L.outs e' σ' = some res → e' ≠ .normal → Q e' a' w' := by
        intro e' hk hne
        obtain ⟨o', ho', hr'⟩ := kstep_other hne hk
        · have := h2 o' hr'
          subst this
          obtain ⟨σ'', k1, k2⟩ := inj_ok L.outs ho' hv hA'
          exact hQ e' σ'' a' w' k1 k2
      cases e with
      | normal =>
        simp only [kstep] at hk
        split at hk
        · rename_i s' hd
          simp only [Option.some.injEq] at hk
          obtain ⟨hdef', H1, φ1, hr⟩ := hA'
          obtain ⟨H2, φ2, hr2⟩ := dec_ok hr hd
          exact ⟨m', Nat.lt_succ_self _, s', h1 s' hk.symm, hdef', H2, φ2, hr2⟩
        · cases hk
      | exit id => exact other _ hk (by simp)
      | goto l => exact other _ hk (by simp)
      | ret => exact other _ hk (by simp)
      | panic ch => exact other _ hk (by simp)
      | outgrown => exact other _ hk (by simp)
    rcases hcase with ⟨s', hs', hi'⟩ | hs'
    · exact post _ hs' (fun s'' e => by cases e; exact hi') (fun o' e => by cases e)
    · exact post _ hs' (fun s'' e => by cases e) (fun o' e => by cases e; rfl)
  | exit id => intro _ ρ σ a w k r Q hA hv hQ; exact wp_exit (hQ _ _ _ _ hv hA)
  | ret => intro _ ρ σ a w k r Q hA hv hQ; exact wp_ret (hQ _ _ _ _ hv hA)
  | _ => intro _ ρ σ a w k r Q hA hv hQ; simp [ev, evA] at hv

end
end Go.Proofs.YtklfnbckoaphpaaGreatDoor
