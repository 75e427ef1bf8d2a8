/- Contracts from proved calls of functions without memory (the library's). No conditions. -/
import Derived.Test.YtklfnbckoaphpaaGreatDoorEvZi
set_option linter.unusedVariables false
set_option linter.unusedSimpArgs false
namespace Go.Proofs.YtklfnbckoaphpaaGreatDoor
open Go

/-- data without memory that stand for one value -/
abbrev isValT (p : PK × Ty) : Bool := match p with
  | (.val, .int _) => true
  | (.val, .bool) => true
  | (.val, .str) => true
  | (.val, .st a) => a.scal
  | _ => false

theorem isValT_S : ∀ {ps : List (PK × Ty)}, ps.all isValT = true → ps.all isValS = true := by
  intro ps h
  rw [List.all_eq_true] at h ⊢
  intro p hp
  have := h p hp
  obtain ⟨k, t⟩ := p
  cases k <;> cases t <;> simp_all [isValT, isValS, Ty.scal]

theorem holds_of_vals {P : Program} {w : World} {Z F : Nat → Prop} : ∀ (rs : List (PK × Ty)) (z : Sig.den rs), rs.all isValT = true → Holds P w Z F rs (valsL rs z) z
  | [], _, _ => rfl
  | (.val, t) :: rs, z, h => by
    have h' : isValT (.val, t) = true ∧ rs.all isValT = true := by simpa using h
    refine ⟨_, _, rfl, ?_, holds_of_vals rs _ h'.2⟩
    cases t with
    | int k => exact ⟨_, rfl, (RdC.scal (.int k) rfl _ _).2 rfl⟩
    | bool => exact ⟨_, rfl, (RdC.scal .bool rfl _ _).2 rfl⟩
    | str => exact ⟨_, rfl, (RdC.scal .str rfl _ _).2 rfl⟩
    | st a => exact ⟨_, rfl, (RdC.scal (.st a) h'.1 _ _).2 (by simp [Ty.vals])⟩
    | _ => simp [isValT] at h'
  | (.io d, t) :: rs, z, h => by simp [isValT] at h
  | (.eat d, t) :: rs, z, h => by simp [isValT] at h

theorem valsL_length : ∀ (rs : List (PK × Ty)) (z : Sig.den rs), (valsL rs z).length = rs.length
  | [], _ => rfl
  | (k, t) :: rs, z => by simp [valsL, valsL_length rs]

theorem ios_vals : ∀ {ps : List (PK × Ty)}, ps.all isVal = true → Sig.ios ps = []
  | [], _ => rfl
  | (.val, t) :: ps, h => ios_vals (ps := ps) (by simpa using h)
  | (.io d, t) :: ps, h => by simp [isVal] at h
  | (.eat d, t) :: ps, h => by simp [isVal] at h
theorem ioVals_vals : ∀ {ps : List (PK × Ty)} {vs : List Value}, ps.all isVal = true → ioVals ps vs = []
  | [], vs, _ => by cases vs <;> rfl
  | (.val, t) :: ps, [], h => rfl
  | (.val, t) :: ps, v :: vs, h => ioVals_vals (ps := ps) (vs := vs) (by simpa using h)
  | (.io d, t) :: ps, vs, h => by simp [isVal] at h
  | (.eat d, t) :: ps, vs, h => by simp [isVal] at h

theorem holds_nil {P : Program} {w : World} {Z F : Nat → Prop} {ps : List (PK × Ty)} (h : ps = []) (y : Sig.den ps) : Holds P w Z F ps [] y := by
  subst h; rfl

/-- a function without memory, whose calls are known -/
theorem con_of_pure {P : Program} {f : FuncId} {c : Con} (he : Enters P f) (hps : c.ps.all isValT = true) (hrs : c.rs.all isValT = true)
    (h : ∀ (w : World) x y, c.F x = some y → Tabs P w → Calls P f (valsL c.ps x).toArray w fun e w' => e = .returned (packV (valsL c.rs (Sig.snd _ _ y))) ∧ Fr NoB w w') : ConOK P f c := by
  refine ⟨he, fun w Z X vals x y hy _ _ hold ht _ => ?_⟩
  rw [holds_valsL c.ps X vals x (isValT_S hps) hold]
  have hv : c.ps.all isVal = true := by
    rw [List.all_eq_true] at hps ⊢
    intro p hp
    have := hps p hp
    obtain ⟨k, t⟩ := p
    cases k <;> cases t <;> simp_all [isValT, isVal]
  refine (h w x y hy ht).mono ?_
  rintro e w' ⟨rfl, hfr⟩
  refine ⟨_, valsL c.rs (Sig.snd _ _ y), NoB, NoB, rfl, tupled_packV _, valsL_length _ _, hfr.le, fun _ f => f.elim, fun _ f => f.elim, fun _ f => f.elim, ?_, holds_of_vals _ _ hrs⟩
  rw [ioVals_vals hv]
  exact holds_nil (ios_vals hv) _

end Go.Proofs.YtklfnbckoaphpaaGreatDoor
