/- What the functions of the office come to, on both sides: plain laws. No conditions beyond the bounds that are named. -/
import Derived.Test.YtbdnmfiaghhhiaaP1
set_option linter.unusedVariables false
set_option linter.unusedSimpArgs false
namespace Go.Proofs.Ytbdnmfiaghhhiaa
open Go
/-- one proposal of a list -/
def rises (l : List Prop') (i : Nat) : Bool := decide (i = 0) || !decide ((l.getD i dP).1 ≤ (l.getD (i - 1) dP).1)
def goodAt (m : Int) (l : List Prop') (i : Nat) : Bool := (numOK (l.getD i dP) && (((l.getD i dP).2.2.2.length : Int) == m) && votesOK (l.getD i dP).2.2.2) && rises l i
def goodAt' (m : Int) (l : List Prop') (i : Nat) : Bool := (numOK (l.getD i dP) && decide (((l.getD i dP).2.2.2.length : Int) ≤ 7) && votesOK (l.getD i dP).2.2.2) && (((l.getD i dP).2.2.2.length : Int) == m) && rises l i
/-- proposals of m members -/
def good (m : Int) (l : List Prop') : Bool := allN (goodAt m l) l.length && (decide (1 ≤ m) && decide (m ≤ 7)) && decide ((l.length : Int) ≤ 12)

structure Fits (l : List Prop') : Prop where
  len : l.length ≤ 1048576
  gloss : ∀ e ∈ l, e.2.2.1.size ≤ 9223372036854775807
  votes : ∀ e ∈ l, e.2.2.2.length ≤ 1048576

theorem ofGood_is (l : List Prop') (m : Int) (hf : Fits l) : F_spec_ofGood (l, m) = some (good m l) := by
  have hlen := hf.len
  have t := runL_all (f := step_spec_ofGood_0) (goodAt m l) (fun i => (l, m, l, (l.length : Int), (i : Int))) (.inl false) (.inr (l, m)) l.length (fun i hi => by
    have hw := wrap_succ (i := i) (by omega)
    have hv := hf.votes _ (getD_mem hi dP)
    have h1 := ofOne_is (l.getD i dP) m (hf.gloss _ (getD_mem hi dP)) (by omega)
    simp only [step_spec_ofGood_0, lt_len hi, nonneg, Bool.and_self, cond_true, Int.toNat_natCast, hw, h1, goodAt]
    cases (numOK (l.getD i dP) && (((l.getD i dP).2.2.2.length : Int) == m) && votesOK (l.getD i dP).2.2.2) with
    | false => rfl
    | true =>
      rcases Nat.eq_zero_or_pos i with rfl | hp
      · simp [rises]
      · have hwp := wrap_pred (i := i) (by omega) hp
        have hp' : decide ((i : Int) > 0) = true := by simp; omega
        have h0 : decide (i = 0) = false := by simp; omega
        simp only [Bool.not_true, cond_false, hp', cond_true, hwp, lt_len (show i - 1 < l.length by omega), nonneg, Bool.and_self, Int.toNat_natCast, rises, h0, Bool.false_or, Bool.true_and, ge_iff_le]
        cases decide ((l.getD i dP).1 ≤ (l.getD (i - 1) dP).1) <;> rfl) (by simp [step_spec_ofGood_0])
  have t' : runL step_spec_ofGood_0 (l, m, l, (l.length : Int), (0 : Int)) = _ := t
  simp only [F_spec_ofGood, t', good]
  cases allN (goodAt m l) l.length with
  | false => rfl
  | true =>
    simp only [cond_true, F_spec_ofMembers, l1In_is]
    cases (decide (1 ≤ m) && decide (m ≤ 7)) <;> simp

theorem allN_congr {p q : Nat → Bool} {m : Nat} (h : ∀ i, i < m → p i = q i) : allN p m = allN q m := by
  cases hq : allN q m with
  | true => rw [allN_true] at hq ⊢; exact fun i hi => (h i hi).trans (hq i hi)
  | false => rw [allN_false] at hq ⊢; obtain ⟨i, hi, e⟩ := hq; exact ⟨i, hi, (h i hi).trans e⟩

theorem AreProposals_is (l : List Prop') (m : Int) (hf : Fits l) : F_impl_AreProposals (l, m) = some (good m l) := by
  have hlen := hf.len
  have t := runL_all (f := step_impl_AreProposals_0) (goodAt' m l) (fun i => (l, m, l, (l.length : Int), (i : Int))) (.inl false) (.inr (l, m)) l.length (fun i hi => by
    have hw := wrap_succ (i := i) (by omega)
    have hv := hf.votes _ (getD_mem hi dP)
    have h1 := isProposal_is (l.getD i dP) (hf.gloss _ (getD_mem hi dP)) (by omega)
    simp only [step_impl_AreProposals_0, lt_len hi, nonneg, Bool.and_self, cond_true, Int.toNat_natCast, hw, h1, goodAt']
    cases (numOK (l.getD i dP) && decide (((l.getD i dP).2.2.2.length : Int) ≤ 7) && votesOK (l.getD i dP).2.2.2) with
    | false => rfl
    | true =>
      have hne : (((l.getD i dP).2.2.2.length : Int) != m) = !(((l.getD i dP).2.2.2.length : Int) == m) := rfl
      simp only [Bool.not_true, cond_false, hne, Bool.true_and]
      cases (((l.getD i dP).2.2.2.length : Int) == m) with
      | false => rfl
      | true =>
        rcases Nat.eq_zero_or_pos i with rfl | hp
        · simp [rises]
        · have hwp := wrap_pred (i := i) (by omega) hp
          have hp' : decide ((i : Int) > 0) = true := by simp; omega
          have h0 : decide (i = 0) = false := by simp; omega
          simp only [Bool.not_true, cond_false, hp', cond_true, hwp, lt_len (show i - 1 < l.length by omega), nonneg, Bool.and_self, Int.toNat_natCast, rises, h0, Bool.false_or, Bool.true_and, ge_iff_le]
          cases decide ((l.getD i dP).1 ≤ (l.getD (i - 1) dP).1) <;> rfl) (by simp [step_impl_AreProposals_0])
  have t' : runL step_impl_AreProposals_0 (l, m, l, (l.length : Int), (0 : Int)) = _ := t
  simp only [F_impl_AreProposals, t', good]
  by_cases hm : (decide (1 ≤ m) && decide (m ≤ 7)) = true
  · have hc : allN (goodAt' m l) l.length = allN (goodAt m l) l.length := allN_congr fun i hi => by
      have h7 : m ≤ 7 := by simp at hm; omega
      simp only [goodAt, goodAt']
      cases hq : (((l.getD i dP).2.2.2.length : Int) == m) with
      | false => simp
      | true =>
        have : ((l.getD i dP).2.2.2.length : Int) = m := by simpa using hq
        have h8 : decide (((l.getD i dP).2.2.2.length : Int) ≤ 7) = true := decide_eq_true (by omega)
        rw [h8]; simp
    rw [hc]
    cases allN (goodAt m l) l.length with
    | false => rfl
    | true => simp only [cond_true, within_is, hm, Bool.true_and]
  · have hm' : (decide (1 ≤ m) && decide (m ≤ 7)) = false := by simpa using hm
    cases allN (goodAt' m l) l.length with
    | false => simp only [cond_false, hm', Bool.and_false, Bool.false_and]
    | true => simp only [cond_true, within_is, hm', cond_false, Bool.and_false, Bool.false_and]

structure Wf (l : List Prop') : Prop where
  len : l.length ≤ 9223372036854775807
  gloss : ∀ e ∈ l, e.2.2.1.size ≤ 9223372036854775807
  votes : ∀ e ∈ l, e.2.2.2.length ≤ 9223372036854775807

/-- a list is too large for the law, or fits and is copied as it is -/
theorem Wf.cases {l : List Prop'} (h : Wf l) : ∃ o, F_laws_szProposalS (l, 1048576) = some o ∧ (o < 0 ∨ (¬ o < 0 ∧ Fits l ∧ F_laws_toProposalS l = some l ∧ F_laws_eqProposalS (l, l) = some true)) := by
  obtain ⟨o, e, hq⟩ := szProposalS_is l h.len h.gloss h.votes
  refine ⟨o, e, ?_⟩
  by_cases hn : o < 0
  · exact .inl hn
  · rcases hq with hq | ⟨q1, q2⟩
    · exact .inl hq
    · exact .inr ⟨hn, ⟨q1, h.gloss, q2⟩, toProposalS_is l q1 q2, eqProposalS_is l h.len h.votes⟩
end Go.Proofs.Ytbdnmfiaghhhiaa
