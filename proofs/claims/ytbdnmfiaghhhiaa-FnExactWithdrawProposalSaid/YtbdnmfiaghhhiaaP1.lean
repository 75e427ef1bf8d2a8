/- One proposal, on both sides: plain laws. No conditions beyond the bounds that are named. -/
import Derived.Test.YtbdnmfiaghhhiaaPg
set_option linter.unusedVariables false
set_option linter.unusedSimpArgs false
namespace Go.Proofs.Ytbdnmfiaghhhiaa
open Go
abbrev Prop' := Int × (Int × (ByteArray × List Int))
abbrev dP : Prop' := (0, (0, ByteArray.empty, []))

theorem enGloss_is (s : ByteArray) (hs : s.size ≤ 9223372036854775807) : F_spec_enGloss s = some (gl s) := by
  have t := runL_all (f := step_spec_enGloss_0) (fun i => decide (65 ≤ byteAt s i) && decide (byteAt s i ≤ 90)) (fun i => (s, (i : Int))) (.inl false) (.inr s) s.size (fun i hi => by
    have hw := wrap_succ (i := i) (by omega)
    simp only [step_spec_enGloss_0, lt_len hi, nonneg, Bool.and_self, cond_true, Int.toNat_natCast, hw, lt_not, gt_not]
    cases decide (65 ≤ byteAt s i) <;> cases decide (byteAt s i ≤ 90) <;> rfl) (by simp [step_spec_enGloss_0])
  have t' : runL step_spec_enGloss_0 (s, (0 : Int)) = _ := t
  simp only [F_spec_enGloss, t']
  unfold gl capsOnly
  cases allN (fun i => decide (65 ≤ byteAt s i) && decide (byteAt s i ≤ 90)) s.size <;> simp [l1In_is]

def votesOK (l : List Int) : Bool := allN (fun i => decide (-1 ≤ l.getD i 0) && decide (l.getD i 0 ≤ 1)) l.length

theorem l1All_is (l : List Int) (hl : l.length ≤ 9223372036854775807) : F_spec_l1All (l, -1, 1) = some (votesOK l) := by
  have t := runL_all (f := step_spec_l1All_0) (fun i => decide (-1 ≤ l.getD i 0) && decide (l.getD i 0 ≤ 1)) (fun i => (-1, 1, l, (l.length : Int), (i : Int))) (.inl false) (.inr ()) l.length (fun i hi => by
    have hw := wrap_succ (i := i) (by omega)
    simp only [step_spec_l1All_0, lt_len hi, nonneg, Bool.and_self, cond_true, Int.toNat_natCast, hw, l1In_is]
    cases decide (-1 ≤ l.getD i 0) <;> cases decide (l.getD i 0 ≤ 1) <;> rfl) (by simp [step_spec_l1All_0])
  have t' : runL step_spec_l1All_0 (-1, 1, l, (l.length : Int), (0 : Int)) = _ := t
  simp only [F_spec_l1All, t']
  unfold votesOK
  cases allN _ _ <;> rfl

/-- slices.IndexFunc: the first place -/
theorem IndexFunc_int_is (l : List Int) (hl : l.length ≤ 9223372036854775807) (φ : Int → Option Bool) (p : Nat → Bool) (hφ : ∀ i, i < l.length → φ (l.getD i 0) = some (p i)) :
    F_slices_IndexFunc_int_int (l, φ) = some (firstN p l.length) := by
  rcases runL_first (f := step_slices_IndexFunc_int_int_0) (fun i => !p i) (fun i => (l, φ, (l.length : Int), (i : Int))) (fun i => .inl (i : Int)) (.inr ()) l.length (fun i hi => by
    have hw := wrap_succ (i := i) (by omega)
    simp only [step_slices_IndexFunc_int_int_0, lt_len hi, nonneg, Bool.and_self, cond_true, Int.toNat_natCast, hw, hφ i hi]
    cases p i <;> rfl) (by simp [step_slices_IndexFunc_int_int_0]) with ⟨t, hp⟩ | ⟨i, hi, hp, hj, t⟩
  · have t' : runL step_slices_IndexFunc_int_int_0 (l, φ, (l.length : Int), (0 : Int)) = _ := t
    simp only [F_slices_IndexFunc_int_int, t']
    rw [firstN_none (fun j hj => by simpa using hp j hj)]
  · have t' : runL step_slices_IndexFunc_int_int_0 (l, φ, (l.length : Int), (0 : Int)) = _ := t
    simp only [F_slices_IndexFunc_int_int, t']
    rw [firstN_at hi (by simpa using hp) (fun j hj' => by simpa using hj j hj')]

theorem firstN_ge (p : Nat → Bool) (m : Nat) : decide (firstN p m ≥ 0) = !allN (fun i => !p i) m := by
  rcases firstN_cases p m with ⟨e, h⟩ | ⟨i, hi, e, hp, hj⟩
  · rw [e, allN_true.2 (fun i hi => by simp [h i hi])]; simp
  · rw [e, allN_false.2 ⟨i, hi, by simp [hp]⟩]; simp

theorem allWithin_is (l : List Int) (hl : l.length ≤ 9223372036854775807) : F_impl_allWithin (l, -1, 1) = some (votesOK l) := by
  have h := IndexFunc_int_is l hl (K_impl_allWithin_1 (-1, 1)) (fun i => !(decide (-1 ≤ l.getD i 0) && decide (l.getD i 0 ≤ 1))) (fun i hi => by
    simp only [K_impl_allWithin_1, F_impl_allWithin_1, within_is])
  simp only [F_impl_allWithin, F_slices_ContainsFunc_int_int, h, firstN_ge, Bool.not_not, votesOK]

def numOK (p : Prop') : Bool := (decide (1 ≤ p.1) && decide (p.1 ≤ 999)) && (decide (0 ≤ p.2.1) && decide (p.2.1 ≤ 1)) && gl p.2.2.1
theorem isProposal_is (p : Prop') (hg : p.2.2.1.size ≤ 9223372036854775807) (hv : p.2.2.2.length ≤ 9223372036854775807) : F_impl_isProposal p = some (numOK p && decide ((p.2.2.2.length : Int) ≤ 7) && votesOK p.2.2.2) := by
  simp only [F_impl_isProposal, within_is, IsGloss_is _ hg, allWithin_is _ hv, numOK]
  cases (decide (1 ≤ p.1) && decide (p.1 ≤ 999)) <;> cases (decide (0 ≤ p.2.1) && decide (p.2.1 ≤ 1)) <;> cases gl p.2.2.1 <;> cases decide ((p.2.2.2.length : Int) ≤ 7) <;> simp
theorem ofOne_is (p : Prop') (m : Int) (hg : p.2.2.1.size ≤ 9223372036854775807) (hv : p.2.2.2.length ≤ 9223372036854775807) : F_spec_ofOne (p, m) = some (numOK p && ((p.2.2.2.length : Int) == m) && votesOK p.2.2.2) := by
  simp only [F_spec_ofOne, l1In_is, enGloss_is _ hg, l1All_is _ hv, numOK]
  cases (decide (1 ≤ p.1) && decide (p.1 ≤ 999)) <;> cases (decide (0 ≤ p.2.1) && decide (p.2.1 ≤ 1)) <;> cases gl p.2.2.1 <;> cases ((p.2.2.2.length : Int) == m) <;> simp

end Go.Proofs.Ytbdnmfiaghhhiaa
