/- The law of PassedNumbers, as plain Lean: it answers true. Lengths fit an int. -/
import Derived.Test.YtbdnmfiaghhhiaaPm
set_option linter.unusedVariables false
set_option linter.unusedSimpArgs false
namespace Go.Proofs.Ytbdnmfiaghhhiaa
open Go
theorem passed_loop (l : List Prop') (hl : l.length ≤ 1048576) (hv : ∀ e ∈ l, e.2.2.2.length ≤ 1048576) (hok : ∀ i, i < l.length → votesOK (l.getD i dP).2.2.2 = true) :
    ∃ o, runL step_spec_PassedNumbers_0 (l, ((l.length : Int), 0, [])) = some o ∧ runL step_impl_PassedNumbers_0 (l, ((l.length : Int), 0, [])) = some o ∧ o.length ≤ l.length := by
  obtain ⟨o, p, e1, e2, rfl, e3⟩ := runL_sim (f := step_spec_PassedNumbers_0) (g := step_impl_PassedNumbers_0) (fun s t => s = t ∧ ∃ (i : Nat) (out : List Int), s = (l, ((l.length : Int), (i : Int), out)) ∧ i ≤ l.length ∧ out.length ≤ i)
    (fun o p => o = p ∧ o.length ≤ l.length) (fun s => l.length - s.2.2.1.toNat) (by
    rintro s t ⟨rfl, i, out, rfl, hi, ho⟩
    rcases Nat.lt_or_ge i l.length with hlt | hge
    · right
      have hw := wrap_succ (i := i) (by omega)
      have hvi := hv _ (getD_mem hlt dP)
      have p1 : F_spec_ofPassed (l.getD i (0, (0, ByteArray.empty, [])), 0) = _ := ofPassed_is (l.getD i dP) 0 hvi (by omega) (by omega)
      have p2 : F_impl_Proposal_passed (l.getD i (0, (0, ByteArray.empty, [])), 0) = _ := passed_is (l.getD i dP) 0 hvi (hok i hlt) (by omega) (by omega)
      have hg : decide ((out.length + [(l.getD i (0, (0, ByteArray.empty, []))).1].length) * 8 ≤ 140737488355328) = true := decide_eq_true (by simp; omega)
      cases hp : passes (l.getD i dP).2.2.2 0 with
      | true =>
        refine ⟨(l, ((l.length : Int), ((i + 1 : Nat) : Int), out ++ [(l.getD i (0, (0, ByteArray.empty, []))).1])), _, ?_, ?_, ⟨rfl, i + 1, _, rfl, by omega, by simp; omega⟩, by simp; omega⟩
        · simp only [step_spec_PassedNumbers_0, lt_len hlt, nonneg, Bool.and_self, cond_true, Int.toNat_natCast, p1, hp, hg, hw]
        · simp only [step_impl_PassedNumbers_0, lt_len hlt, nonneg, Bool.and_self, cond_true, Int.toNat_natCast, p2, hp, hg, hw]
      | false =>
        refine ⟨(l, ((l.length : Int), ((i + 1 : Nat) : Int), out)), _, ?_, ?_, ⟨rfl, i + 1, _, rfl, by omega, by omega⟩, by simp; omega⟩
        · simp only [step_spec_PassedNumbers_0, lt_len hlt, nonneg, Bool.and_self, cond_true, cond_false, Int.toNat_natCast, p1, hp, hw]
        · simp only [step_impl_PassedNumbers_0, lt_len hlt, nonneg, Bool.and_self, cond_true, cond_false, Int.toNat_natCast, p2, hp, hw]
    · left
      have : i = l.length := by omega
      subst this
      exact ⟨out, out, by simp only [step_spec_PassedNumbers_0, not_lt_len, cond_false], by simp only [step_impl_PassedNumbers_0, not_lt_len, cond_false], rfl, ho⟩) (l, ((l.length : Int), 0, [])) (l, ((l.length : Int), 0, [])) ⟨rfl, 0, [], rfl, by omega, by simp⟩
  exact ⟨o, e1, e2, e3⟩
theorem PassedNumbers_same (l : List Prop') (m : Int) (hf : Fits l) : ∃ o, F_spec_PassedNumbers (l, m) = some o ∧ F_impl_PassedNumbers (l, m) = some o ∧ o.1.length ≤ 1048576 := by
  have h3 := ofGood_is l m hf
  have h4 := AreProposals_is l m hf
  cases hg : good m l with
  | false => exact ⟨([], false), by simp [F_spec_PassedNumbers, h3, hg], by simp [F_impl_PassedNumbers, h4, hg], by simp⟩
  | true =>
    obtain ⟨o, e1, e2, e3⟩ := passed_loop l hf.len hf.votes (fun i hi => (good_votes hg hi).1)
    have := hf.len
    exact ⟨(o, true), by simp [F_spec_PassedNumbers, h3, hg, e1], by simp [F_impl_PassedNumbers, h4, hg, e2], by simp only; omega⟩
theorem law_PassedNumbers (l : List Prop') (m : Int) (h : Wf l) : F_laws_FnExactPassedNumbers (l, m) = some true := by
  obtain ⟨o, e, hq⟩ := h.cases
  rcases hq with hn | ⟨hn, hf, e1, e2⟩
  · simp [F_laws_FnExactPassedNumbers, e, hn]
  · obtain ⟨⟨r, b⟩, s1, s2, s3⟩ := PassedNumbers_same l m hf
    simp only at s3
    have m1 := markProposalS_is l hf.len hf.votes
    have m2 := markIntS_is r s3
    have m3 := heldIntS_is r.length s3
    obtain ⟨k0, k1⟩ := kAt_bound l hf.votes l.length (Nat.le_refl _)
    have n1 : ¬ (kAt l l.length < 0) := by omega
    have n2 : ¬ ((r.length : Int) + 1 < 0) := by omega
    simp [F_laws_FnExactPassedNumbers, e, hn, e1, e2, s1, s2, eqIntS_is r (by omega), m1, m2, m3, n1, n2]
end Go.Proofs.Ytbdnmfiaghhhiaa
