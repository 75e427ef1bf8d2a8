/- The law FnEditions returns true for every input and leaves its arguments as they were. No conditions. -/
import Derived.Test.YtnfngofcdhaaaaaGreatPl
import Derived.ProofKit
namespace Go.Proofs.YtnfngofcdhaaaaaGreat
open Go Go.ChangeShapes Go.WideShapes Go.ChangeAt Go.RowKit
theorem Tryz.own : ownKnob Tryz.prog.godebug = none := by kernel_rfl
theorem Tryz.laidOut : laidOutB Tryz.prog = true := by kernel_rfl
set_option maxRecDepth 100000 in
theorem lifted (os : Os) (started : os.Started) (H : Type) (enc : TypeId × Value → H) :
    ReturnsInHanded {} Tryz.checked os 3 .any (Rows.fnEditionsSpec.pre6 enc Tryz.prog Tryz.f3 Rows.fnEditionsRow.domain false) (Rows.fnEditionsSpec.post enc Tryz.prog Tryz.f3 false Rows.fnEditionsRow.fresh Rows.fnEditionsRow.handsOn Rows.fnEditionsRow.again) := by
  refine returnsInHanded_of_change (C := Tryz.checked) Tryz.own started (by kernel_rfl) Tryz.func3
    (ChangeSpec.witness6 (enc := enc) (C := Tryz.checked) false ⟨#[], #[.slice none 0 0, .slice none 0 0], []⟩ 8 (by kernel_rfl) (by kernel_rfl) (by kernel_rfl) (by kernel_rfl)) ?_
  intro W base args ds gs before hval0 hW hcnd _
  exact row_of_con (m := 49) (tb := 4) con_laws_FnEditions Tryz.laidOut (by kernel_rfl) (by kernel_rfl) (by kernel_rfl) rfl (fun ds h => by
    match ds, h with
    | [d1, d2], _ => rfl) (by kernel_rfl) rfl rfl (fun x hx => ⟨true, law_FnEditions x.1 x.2 hx.1.1 hx.2.1.1 (fun b hb => byte_wf (hx.1.2 b hb)) (fun b hb => byte_wf (hx.2.1.2 b hb)), rfl⟩) hval0 hW ⟨fun q hq => (by cases hq), Nat.zero_le _, fun q hq => (by cases hq)⟩
theorem FnEditions_holds : Rows.FnEditionsSaid :=
  OpenClaim.holds_of_wide 3 Tryz.f3 rfl rfl rfl rfl rfl rfl rfl ⟨rfl, rfl, rfl, rfl, rfl⟩ rfl rfl rfl rfl rfl (by kernel_rfl) Tryz.func3 (by kernel_rfl)
    (of_decide_eq_true (by kernel_rfl)) (by unfold Func.isWrapper; first | (rw [if_pos (by decide +kernel)]; kernel_rfl) | (rw [if_neg (by decide +kernel)]; exact ⟨rfl, rfl⟩))
    (fun os started H enc _ => lifted os started H enc)
end Go.Proofs.YtnfngofcdhaaaaaGreat
