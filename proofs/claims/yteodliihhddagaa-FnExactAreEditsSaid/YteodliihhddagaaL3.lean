/- The law of AreEdits, as plain Lean: it answers true. Lengths fit an int. -/
import Derived.Test.YteodliihhddagaaPj
namespace Go.Proofs.Yteodliihhddagaa
open Go
theorem law_AreEdits (l : List Edit) (h : WfE l) : F_laws_FnExactAreEdits l = some true := by
  obtain ⟨o, e, hq⟩ := h.cases
  rcases hq with hn | ⟨hn, hf, e1, e2⟩
  · simp [F_laws_FnExactAreEdits, e, hn]
  · simp [F_laws_FnExactAreEdits, e, hn, e1, e2, F_spec_AreEdits, joGood_is l hf, AreEdits_is l hf]
end Go.Proofs.Yteodliihhddagaa
