/- The law of VotesMissing, as plain Lean: it answers true. Lengths fit an int. -/
import Derived.Test.YtbdnmfiaghhhiaaPv
set_option linter.unusedVariables false
set_option linter.unusedSimpArgs false
namespace Go.Proofs.Ytbdnmfiaghhhiaa
open Go
theorem votes_loop (l : List Prop') (i : Nat) (hi : i < l.length) (hv : (l.getD i dP).2.2.2.length ≤ 1048576) (hok : votesOK (l.getD i dP).2.2.2 = true) :
    ∃ o, runL step_spec_VotesMissing_0 (l, (i : Int), 0) = some o ∧ runL step_impl_VotesMissing_0 (l, (i : Int), (((l.getD i dP).2.2.2.count 0 + 1 : Nat) : Int), 0) = some o := by
  have hc : (l.getD i dP).2.2.2.count 0 ≤ (l.getD i dP).2.2.2.length := List.count_le_length
  have hcnt := ofCount_is (l.getD i dP) 0 hv
  obtain ⟨o, p, e1, e2, rfl⟩ := runL_sim (f := step_spec_VotesMissing_0) (g := step_impl_VotesMissing_0)
    (fun s t => ∃ n : Nat, s = (l, (i : Int), (n : Int)) ∧ t = (l, (i : Int), (((l.getD i dP).2.2.2.count 0 + 1 : Nat) : Int), (n : Int)) ∧ n ≤ (l.getD i dP).2.2.2.count 0 + 1)
    (fun o p => o = p) (fun s => (l.getD i dP).2.2.2.count 0 + 1 - s.2.2.toNat) (by
    rintro s t ⟨n, rfl, rfl, hn⟩
    rcases Nat.lt_or_ge n ((l.getD i dP).2.2.2.count 0 + 1) with hlt | hge
    · have hw := wrap_succ (i := n) (by omega)
      have hle : decide ((n : Int) ≤ (((l.getD i dP).2.2.2.count 0 : Nat) : Int)) = true := decide_eq_true (by omega)
      have p1 := ofPassed_is (l.getD i dP) (n : Int) hv (by omega) (by omega)
      have p2 := passed_is (l.getD i dP) (n : Int) hv hok (by omega) (by omega)
      cases hp : passes (l.getD i dP).2.2.2 (n : Int) with
      | true =>
        left
        refine ⟨.inl ((n : Int), true), _, ?_, ?_, rfl⟩
        · simp only [step_spec_VotesMissing_0, lt_len hi, nonneg, Bool.and_self, cond_true, Int.toNat_natCast, hcnt, hle, p1, hp]
        · simp only [step_impl_VotesMissing_0, lt_len hi, lt_len hlt, nonneg, Bool.and_self, cond_true, Int.toNat_natCast, p2, hp]
      | false =>
        right
        refine ⟨(l, (i : Int), ((n + 1 : Nat) : Int)), (l, (i : Int), (((l.getD i dP).2.2.2.count 0 + 1 : Nat) : Int), ((n + 1 : Nat) : Int)), ?_, ?_, ⟨n + 1, rfl, rfl, by omega⟩, by simp only [Int.toNat_natCast]; omega⟩
        · simp only [step_spec_VotesMissing_0, lt_len hi, nonneg, Bool.and_self, cond_true, Int.toNat_natCast, hcnt, hle, p1, hp, cond_false, hw]
        · simp only [step_impl_VotesMissing_0, lt_len hi, lt_len hlt, nonneg, Bool.and_self, cond_true, Int.toNat_natCast, p2, hp, cond_false, hw]
    · left
      have : n = (l.getD i dP).2.2.2.count 0 + 1 := by omega
      subst this
      have hle : decide ((((l.getD i dP).2.2.2.count 0 + 1 : Nat) : Int) ≤ (((l.getD i dP).2.2.2.count 0 : Nat) : Int)) = false := decide_eq_false (by omega)
      refine ⟨.inr (), .inr (), ?_, ?_, rfl⟩
      · simp only [step_spec_VotesMissing_0, lt_len hi, nonneg, Bool.and_self, cond_true, Int.toNat_natCast, hcnt, hle, cond_false]
      · simp only [step_impl_VotesMissing_0, not_lt_len, cond_false]) (l, (i : Int), 0) (l, (i : Int), (((l.getD i dP).2.2.2.count 0 + 1 : Nat) : Int), 0) ⟨0, rfl, rfl, by omega⟩
  exact ⟨o, e1, e2⟩
theorem VotesMissing_same (l : List Prop') (m n : Int) (hf : Fits l) : ∃ o, F_spec_VotesMissing (l, m, n) = some o ∧ F_impl_VotesMissing (l, m, n) = some o := by
  have h1 := ofFind_is l n hf.len
  have h2 := proposalAt_is l n hf.len
  have h3 := ofGood_is l m hf
  have h4 := AreProposals_is l m hf
  cases hg : good m l with
  | false => exact ⟨(0, false), by simp [F_spec_VotesMissing, h1, h3, hg], by simp [F_impl_VotesMissing, h2, h4, hg]⟩
  | true =>
    rcases findP_cases l n with e | ⟨i, hi, e⟩
    · exact ⟨(0, false), by simp [F_spec_VotesMissing, h1, h3, hg, e], by simp [F_impl_VotesMissing, h2, h4, hg, e]⟩
    · have hv := hf.votes _ (getD_mem hi dP)
      have hc : (l.getD i dP).2.2.2.count 0 ≤ (l.getD i dP).2.2.2.length := List.count_le_length
      obtain ⟨o, e1, e2⟩ := votes_loop l i hi hv (good_votes hg hi).1
      obtain ⟨r, r1, r2⟩ := those_int_is (l.getD i dP).2.2.2 hv (K_impl_VotesMissing_1 ()) (fun x => x == 0) (fun x => rfl)
      have hw : IntKind.i64.wrap ((r.length : Int) + 1) = (((l.getD i dP).2.2.2.count 0 + 1 : Nat) : Int) := by
        rw [wrap_succ (by rw [r2]; show List.count 0 _ < _; omega), r2]; rfl
      have hn : decide ((i : Int) < 0) = false := by simp
      rcases o with o | o
      · refine ⟨o, ?_, ?_⟩
        · simp only [F_spec_VotesMissing, h1, h3, hg, e, hn, Bool.not_true, cond_false, e1]
        · simp only [F_impl_VotesMissing, h2, h4, hg, e, hn, Bool.not_true, cond_false, nonneg, lt_len hi, Bool.and_self, cond_true, Int.toNat_natCast, r1, hw, e2]
      · refine ⟨(0, false), ?_, ?_⟩
        · simp only [F_spec_VotesMissing, h1, h3, hg, e, hn, Bool.not_true, cond_false, e1]
        · simp only [F_impl_VotesMissing, h2, h4, hg, e, hn, Bool.not_true, cond_false, nonneg, lt_len hi, Bool.and_self, cond_true, Int.toNat_natCast, r1, hw, e2]
theorem law_VotesMissing (l : List Prop') (m n : Int) (h : Wf l) : F_laws_FnExactVotesMissing (l, m, n) = some true := by
  obtain ⟨o, e, hq⟩ := h.cases
  rcases hq with hn | ⟨hn, hf, e1, e2⟩
  · simp [F_laws_FnExactVotesMissing, e, hn]
  · obtain ⟨r, s1, s2⟩ := VotesMissing_same l m n hf
    simp [F_laws_FnExactVotesMissing, e, hn, e1, e2, s1, s2]
end Go.Proofs.Ytbdnmfiaghhhiaa
