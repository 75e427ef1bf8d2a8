/- The law FnExactGlossesIn returns true for every input and leaves its arguments as they were. No conditions. -/
import Derived.Test.YtadehfgciiocfaaPl
import Derived.ProofKit
namespace Go.Proofs.Ytadehfgciiocfaa
open Go Go.ChangeShapes Go.WideShapes Go.ChangeAt Go.RowKit
theorem Try.own : ownKnob Try.prog.godebug = none := by kernel_rfl
theorem Try.laidOut : laidOutB Try.prog = true := by kernel_rfl
set_option maxRecDepth 100000 in
theorem lifted (os : Os) (started : os.Started) (H : Type) (enc : TypeId × Value → H) :
    ReturnsInHanded {} Try.checked os 3 .any (Rows.fnExactGlossesInSpec.pre6 enc Try.prog Try.f3 Rows.fnExactGlossesInRow.domain false) (Rows.fnExactGlossesInSpec.post enc Try.prog Try.f3 false Rows.fnExactGlossesInRow.fresh Rows.fnExactGlossesInRow.handsOn Rows.fnExactGlossesInRow.again) := by
  refine returnsInHanded_of_change (C := Try.checked) Try.own started (by kernel_rfl) Try.func3
    (ChangeSpec.witness6 (enc := enc) (C := Try.checked) false ⟨#[], #[.slice none 0 0], []⟩ 8 (by kernel_rfl) (by kernel_rfl) (by kernel_rfl) (by kernel_rfl)) ?_
  intro W base args ds gs before hval0 hW hcnd _
  exact row_of_con (m := 49) (tb := 4) con_laws_FnExactGlossesIn Try.laidOut (by kernel_rfl) (by kernel_rfl) (by kernel_rfl) rfl (fun ds h => by
    match ds, h with
    | [d], _ => rfl) (by kernel_rfl) rfl rfl (fun x hx => ⟨true, law_GlossesIn x ⟨hx.1.1, fun e he => (hx.1.2 e he).2.1⟩, rfl⟩) hval0 hW ⟨fun q hq => (by cases hq), Nat.zero_le _, fun q hq => (by cases hq), fun q hq => (by cases hq)⟩
theorem FnExactGlossesIn_holds : Rows.FnExactGlossesInSaid :=
  OpenClaim.holds_of_wide 3 Try.f3 rfl rfl rfl rfl rfl rfl rfl ⟨rfl, rfl, rfl, rfl, rfl⟩ rfl rfl rfl rfl rfl (by kernel_rfl) Try.func3 (by kernel_rfl)
    (of_decide_eq_true (by kernel_rfl)) (by unfold Func.isWrapper; first | (rw [if_pos (by decide +kernel)]; kernel_rfl) | (rw [if_neg (by decide +kernel)]; exact ⟨rfl, rfl⟩))
    (fun os started H enc _ => lifted os started H enc)
end Go.Proofs.Ytadehfgciiocfaa
