/- The law of AreProposals, as plain Lean: it answers true. Lengths fit an int. -/
import Derived.Test.YteodliihhddagaaPo
namespace Go.Proofs.Yteodliihhddagaa
open Go
theorem law_AreProposals (l : List Prop') (m : Int) (h : Wf l) : F_laws_FnExactAreProposals (l, m) = some true := by
  obtain ⟨o, e, hq⟩ := h.cases
  rcases hq with hn | ⟨hn, hf, e1, e2⟩
  · simp [F_laws_FnExactAreProposals, e, hn]
  · simp [F_laws_FnExactAreProposals, e, hn, e1, e2, F_spec_AreProposals, ofGood_is l m hf, AreProposals_is l m hf]
end Go.Proofs.Yteodliihhddagaa
