/- The law of ProposalText, as plain Lean: it answers true. Lengths fit an int. -/
import Derived.Test.YtbdnmfiaghhhiaaDoorP1
set_option linter.unusedVariables false
set_option linter.unusedSimpArgs false
namespace Go.Proofs.YtbdnmfiaghhhiaaDoor
open Go

/-- a decimal numeral -/
noncomputable def it (n : Int) : ByteArray := ⟨(Lib.itoa n).toArray⟩
theorem it_size {n : Int} (h0 : 0 ≤ n) (h1 : n ≤ 9999) : (it n).size ≤ 10000 := by
  obtain ⟨k, rfl⟩ : ∃ k : Nat, n = (k : Int) := ⟨n.toNat, by omega⟩
  have := decDigits_short k
  have e : (it (k : Int)).size = (Lib.decDigits k).length := by rw [it, Lib.itoa_nonneg]; show ((Lib.decDigits k).toArray).size = _; simp
  omega
theorem l1Num_is {n : Int} (h0 : 0 ≤ n) (h1 : n ≤ 9999) : F_spec_l1Num n = some (it n) := by
  rw [F_spec_l1Num_is, decide_eq_true h0, decide_eq_true (show n ≤ 9223372036854775807 by omega)]; rfl
theorem Itoa_is {n : Int} (h0 : 0 ≤ n) (h1 : n ≤ 9999) : F_strconv_Itoa n = some (it n) := by
  rw [F_strconv_Itoa_is, decide_eq_true (show -9223372036854775808 ≤ n by omega), decide_eq_true (show n ≤ 9223372036854775807 by omega)]; rfl

theorem kind_sign {k : Int} (h0 : 0 ≤ k) (h1 : k ≤ 1) : ∃ c : ByteArray, c.size = 1 ∧ (⟨#[43, 45]⟩ : ByteArray).extract k.toNat (k + 1).toNat = c ∧ [(⟨#[43]⟩ : ByteArray), (⟨#[45]⟩ : ByteArray)].getD k.toNat ByteArray.empty = c := by
  have : k = 0 ∨ k = 1 := by omega
  rcases this with rfl | rfl
  · exact ⟨⟨#[43]⟩, rfl, by decide, rfl⟩
  · exact ⟨⟨#[45]⟩, rfl, by decide, rfl⟩
theorem vote_sign {v : Int} (h0 : -1 ≤ v) (h1 : v ≤ 1) : ∃ c : ByteArray, c.size = 1 ∧ (⟨#[110, 46, 121]⟩ : ByteArray).extract (v + 1).toNat (v + 2).toNat = c ∧ [(⟨#[110]⟩ : ByteArray), (⟨#[46]⟩ : ByteArray), (⟨#[121]⟩ : ByteArray)].getD (v + 1).toNat ByteArray.empty = c := by
  have : v = -1 ∨ v = 0 ∨ v = 1 := by omega
  rcases this with rfl | rfl | rfl
  · exact ⟨⟨#[110]⟩, rfl, by decide, rfl⟩
  · exact ⟨⟨#[46]⟩, rfl, by decide, rfl⟩
  · exact ⟨⟨#[121]⟩, rfl, by decide, rfl⟩

theorem votes_text (l : List Int) (hl : l.length ≤ 7) (hok : votesOK l = true) (t0 : ByteArray) (h0 : t0.size ≤ 100000) :
    ∃ t, runL step_spec_ProposalText_0 (t0, l, (l.length : Int), 0) = some t ∧ runL step_impl_ProposalText_0 (t0, l, (l.length : Int), 0) = some t := by
  obtain ⟨o, p, e1, e2, rfl⟩ := runL_sim (f := step_spec_ProposalText_0) (g := step_impl_ProposalText_0) (fun a b => a = b ∧ ∃ (t : ByteArray) (i : Nat), a = (t, l, (l.length : Int), (i : Int)) ∧ i ≤ l.length ∧ t.size ≤ 100000 + i)
    (fun o p => o = p) (fun a => l.length - a.2.2.2.toNat) (by
    rintro a b ⟨rfl, t, i, rfl, hi, ht⟩
    rcases Nat.lt_or_ge i l.length with hlt | hge
    · right
      have hv := allN_true.1 hok i hlt
      simp only [Bool.and_eq_true, decide_eq_true_eq] at hv
      obtain ⟨c, c1, c2, c3⟩ := vote_sign hv.1 hv.2
      have hw := wrap_succ (i := i) (by omega)
      have w1 : IntKind.i64.wrap (l.getD i 0 + 1) = l.getD i 0 + 1 := wrap_id (by omega) (by omega)
      have w2 : IntKind.i64.wrap (l.getD i 0 + 2) = l.getD i 0 + 2 := wrap_id (by omega) (by omega)
      have z3 : (⟨#[110, 46, 121]⟩ : ByteArray).size = 3 := rfl
      have g1 : decide (0 ≤ l.getD i 0 + 1) = true := decide_eq_true (by omega)
      have g2 : decide (l.getD i 0 + 1 ≤ l.getD i 0 + 2) = true := decide_eq_true (by omega)
      have g3 : decide (l.getD i 0 + 2 ≤ ((3 : Nat) : Int)) = true := decide_eq_true (by omega)
      have g4 : decide (l.getD i 0 + 1 < (3 : Int)) = true := decide_eq_true (by omega)
      have g5 : decide (t.size + c.size ≤ 9223372036854775807) = true := decide_eq_true (by omega)
      refine ⟨(t ++ c, l, (l.length : Int), ((i + 1 : Nat) : Int)), _, ?_, ?_, ⟨rfl, _, i + 1, rfl, by omega, by rw [ByteArray.size_append]; omega⟩, by simp; omega⟩
      · simp only [step_spec_ProposalText_0, lt_len hlt, nonneg, Bool.and_self, cond_true, Int.toNat_natCast, w1, w2, z3, g1, g2, g3, c2, g5, hw]
      · simp only [step_impl_ProposalText_0, lt_len hlt, nonneg, Bool.and_self, cond_true, Int.toNat_natCast, w1, g1, g4, c3, g5, hw]
    · left
      have : i = l.length := by omega
      subst this
      exact ⟨t, t, by simp only [step_spec_ProposalText_0, not_lt_len, cond_false], by simp only [step_impl_ProposalText_0, not_lt_len, cond_false], rfl⟩) (t0, l, (l.length : Int), 0) (t0, l, (l.length : Int), 0) ⟨rfl, t0, 0, rfl, by omega, by omega⟩
  exact ⟨o, e1, e2⟩

theorem proposal_text (p : Prop') (hg : p.2.2.1.size ≤ 9223372036854775807) (hv : p.2.2.2.length ≤ 9223372036854775807) : ∃ o, F_spec_ProposalText p = some o ∧ F_impl_ProposalText p = some o := by
  have h1 := ofOne_is p (p.2.2.2.length : Int) hg hv
  have h2 := isProposal_is p hg hv
  have hb : ((p.2.2.2.length : Int) == (p.2.2.2.length : Int)) = true := by simp
  rw [hb, Bool.and_true] at h1
  by_cases h7 : (p.2.2.2.length : Int) ≤ 7
  · have g7 : decide ((p.2.2.2.length : Int) ≤ 7) = true := decide_eq_true h7
    have g7' : decide ((p.2.2.2.length : Int) > 7) = false := decide_eq_false (by omega)
    rw [g7, Bool.and_true] at h2
    cases hok : (numOK p && votesOK p.2.2.2) with
    | false => exact ⟨(⟨#[]⟩, false), by simp [F_spec_ProposalText, h1, hok], by simp [F_impl_ProposalText, h2, hok]⟩
    | true =>
      have hok' := hok
      simp only [Bool.and_eq_true] at hok'
      obtain ⟨hn, hvo⟩ := hok'
      simp only [numOK, gl, Bool.and_eq_true, decide_eq_true_eq] at hn
      obtain ⟨⟨⟨n1, n2⟩, k1, k2⟩, _, _, g8⟩ := hn
      obtain ⟨c, c1, c2, c3⟩ := kind_sign k1 k2
      have hy := it_size (n := p.1) (by omega) (by omega)
      have w1 : IntKind.i64.wrap (p.2.1 + 1) = p.2.1 + 1 := wrap_id (by omega) (by omega)
      have z1 : (⟨#[32]⟩ : ByteArray).size = 1 := rfl
      have z2 : (⟨#[43, 45]⟩ : ByteArray).size = 2 := rfl
      have hgs : p.2.2.1.size ≤ 8 := by omega
      obtain ⟨t, t1, t2⟩ := votes_text p.2.2.2 (by omega) hvo (((it p.1 ++ c) ++ p.2.2.1) ++ (⟨#[32]⟩ : ByteArray)) (by simp only [ByteArray.size_append, z1, c1]; omega)
      have q1 : decide (0 ≤ p.2.1) = true := decide_eq_true k1
      have q2 : decide (p.2.1 ≤ p.2.1 + 1) = true := decide_eq_true (by omega)
      have q3 : decide (p.2.1 + 1 ≤ ((2 : Nat) : Int)) = true := decide_eq_true (by omega)
      have q4 : decide (p.2.1 < (2 : Int)) = true := decide_eq_true (by omega)
      have q5 : decide ((it p.1).size + c.size ≤ 9223372036854775807) = true := decide_eq_true (by omega)
      have q6 : decide ((it p.1 ++ c).size + p.2.2.1.size ≤ 9223372036854775807) = true := decide_eq_true (by simp only [ByteArray.size_append]; omega)
      have q7 : decide (((it p.1 ++ c) ++ p.2.2.1).size + (⟨#[32]⟩ : ByteArray).size ≤ 9223372036854775807) = true := decide_eq_true (by simp only [ByteArray.size_append, z1]; omega)
      refine ⟨(t, true), ?_, ?_⟩
      · simp only [F_spec_ProposalText, h1, hok, Bool.not_true, cond_false, g7', l1Num_is (show 0 ≤ p.1 by omega) (by omega), w1, z2, q1, q2, q3, Bool.and_self, cond_true, c2, q5, q6, q7, t1]
      · simp only [F_impl_ProposalText, h2, hok, Bool.not_true, cond_false, Itoa_is (show 0 ≤ p.1 by omega) (by omega), q1, q4, Bool.and_self, cond_true, c3, q5, q6, q7, t2]
  · have g7 : decide ((p.2.2.2.length : Int) ≤ 7) = false := decide_eq_false h7
    have g7' : decide ((p.2.2.2.length : Int) > 7) = true := decide_eq_true (by omega)
    rw [g7, Bool.and_false, Bool.false_and] at h2
    refine ⟨(⟨#[]⟩, false), ?_, by simp [F_impl_ProposalText, h2]⟩
    cases hok : (numOK p && votesOK p.2.2.2) <;> simp [F_spec_ProposalText, h1, hok, g7']

theorem law_ProposalText (p : Prop') (hg : p.2.2.1.size ≤ 9223372036854775807) (hv : p.2.2.2.length ≤ 9223372036854775807) : F_laws_FnExactProposalText p = some true := by
  obtain ⟨o, e, hq⟩ := szProposal_is p 1048576 (by omega) (by omega) hg hv
  by_cases hn : o < 0
  · simp [F_laws_FnExactProposalText, e, hn]
  · rcases hq with hq | ⟨_, _, hq⟩
    · exact absurd hq hn
    · obtain ⟨r, s1, s2⟩ := proposal_text p hg hv
      simp [F_laws_FnExactProposalText, e, hn, toProposal_is p hq, s1, s2, eqProposal_is p hv]
end Go.Proofs.YtbdnmfiaghhhiaaDoor
