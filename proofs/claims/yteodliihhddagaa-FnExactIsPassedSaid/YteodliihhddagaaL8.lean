/- The law of IsPassed, as plain Lean: it answers true. Lengths fit an int. -/
import Derived.Test.YteodliihhddagaaPv
set_option linter.unusedVariables false
set_option linter.unusedSimpArgs false
namespace Go.Proofs.Yteodliihhddagaa
open Go
theorem IsPassed_same (l : List Prop') (m n : Int) (hf : Fits l) : ∃ o, F_spec_IsPassed (l, m, n) = some o ∧ F_impl_IsPassed (l, m, n) = some o := by
  have h1 := ofFind_is l n hf.len
  have h2 := proposalAt_is l n hf.len
  have h3 := ofGood_is l m hf
  have h4 := AreProposals_is l m hf
  cases hg : good m l with
  | false => exact ⟨(false, false), by simp [F_spec_IsPassed, h1, h3, hg], by simp [F_impl_IsPassed, h2, h4, hg]⟩
  | true =>
    rcases findP_cases l n with e | ⟨i, hi, e⟩
    · exact ⟨(false, false), by simp [F_spec_IsPassed, h1, h3, hg, e], by simp [F_impl_IsPassed, h2, h4, hg, e]⟩
    · have hv := hf.votes _ (getD_mem hi dP)
      have p1 := ofPassed_is (l.getD i dP) 0 hv (by omega) (by omega)
      have p2 := passed_is (l.getD i dP) 0 hv (good_votes hg hi).1 (by omega) (by omega)
      have hn : decide ((i : Int) < 0) = false := by simp
      refine ⟨(passes (l.getD i dP).2.2.2 0, true), ?_, ?_⟩
      · simp only [F_spec_IsPassed, h1, h3, hg, e, hn, Bool.not_true, cond_false, nonneg, lt_len hi, Bool.and_self, cond_true, Int.toNat_natCast, p1]
      · simp only [F_impl_IsPassed, h2, h4, hg, e, hn, Bool.not_true, cond_false, nonneg, lt_len hi, Bool.and_self, cond_true, Int.toNat_natCast, p2]
theorem law_IsPassed (l : List Prop') (m n : Int) (h : Wf l) : F_laws_FnExactIsPassed (l, m, n) = some true := by
  obtain ⟨o, e, hq⟩ := h.cases
  rcases hq with hn | ⟨hn, hf, e1, e2⟩
  · simp [F_laws_FnExactIsPassed, e, hn]
  · obtain ⟨r, s1, s2⟩ := IsPassed_same l m n hf
    simp [F_laws_FnExactIsPassed, e, hn, e1, e2, s1, s2]
end Go.Proofs.Yteodliihhddagaa
