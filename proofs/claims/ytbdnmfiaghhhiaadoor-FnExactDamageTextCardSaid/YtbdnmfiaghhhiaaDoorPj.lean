/- What the functions of the journal come to, on both sides: plain laws. No conditions beyond the bounds that are named. -/
import Derived.Test.YtbdnmfiaghhhiaaDoorPg
set_option linter.unusedVariables false
set_option linter.unusedSimpArgs false
namespace Go.Proofs.YtbdnmfiaghhhiaaDoor
open Go

abbrev Edit := Int × (ByteArray × Bool)
abbrev dE : Edit := (0, ByteArray.empty, false)

theorem fsWord_is (s : ByteArray) (hs : s.size ≤ 9223372036854775807) : F_spec_fsWord s = some (gl s) := by
  have t := runL_all (f := step_spec_fsWord_0) (fun i => decide (65 ≤ byteAt s i) && decide (byteAt s i ≤ 90)) (fun i => (s, (i : Int))) (.inl false) (.inr s) s.size (fun i hi => by
    have hw := wrap_succ (i := i) (by omega)
    simp only [step_spec_fsWord_0, lt_len hi, nonneg, Bool.and_self, cond_true, Int.toNat_natCast, hw, lt_not, gt_not]
    cases decide (65 ≤ byteAt s i) <;> cases decide (byteAt s i ≤ 90) <;> rfl) (by simp [step_spec_fsWord_0])
  have t' : runL step_spec_fsWord_0 (s, (0 : Int)) = _ := t
  simp only [F_spec_fsWord, t']
  unfold gl capsOnly
  cases allN (fun i => decide (65 ≤ byteAt s i) && decide (byteAt s i ≤ 90)) s.size <;> simp [l1In_is]

def edOK (e : Edit) : Bool := (decide (1 ≤ e.1) && decide (e.1 ≤ 999)) && gl e.2.1
theorem joOne_is (e : Edit) (hg : e.2.1.size ≤ 9223372036854775807) : F_spec_joOne e = some (edOK e) := by
  simp only [F_spec_joOne, l1In_is, fsWord_is _ hg, edOK]
  cases (decide (1 ≤ e.1) && decide (e.1 ≤ 999)) <;> simp
theorem isLogEdit_is (e : Edit) (hg : e.2.1.size ≤ 9223372036854775807) : F_impl_isLogEdit e = some (edOK e) := by
  simp only [F_impl_isLogEdit, within_is, IsGloss_is _ hg, edOK]
  cases (decide (1 ≤ e.1) && decide (e.1 ≤ 999)) <;> simp

def risesE (l : List Edit) (i : Nat) : Bool := decide (i = 0) || !decide ((l.getD i dE).1 ≤ (l.getD (i - 1) dE).1)
def goodEAt (l : List Edit) (i : Nat) : Bool := edOK (l.getD i dE) && risesE l i
def goodE (l : List Edit) : Bool := allN (goodEAt l) l.length && decide ((l.length : Int) ≤ 40)

structure FitsE (l : List Edit) : Prop where
  len : l.length ≤ 1048576
  gloss : ∀ e ∈ l, e.2.1.size ≤ 9223372036854775807

theorem joGood_is (l : List Edit) (hf : FitsE l) : F_spec_joGood l = some (goodE l) := by
  have hlen := hf.len
  have t := runL_all (f := step_spec_joGood_0) (goodEAt l) (fun i => (l, l, (l.length : Int), (i : Int))) (.inl false) (.inr l) l.length (fun i hi => by
    have hw := wrap_succ (i := i) (by omega)
    have h1 := joOne_is (l.getD i dE) (hf.gloss _ (getD_mem hi dE))
    simp only [step_spec_joGood_0, lt_len hi, nonneg, Bool.and_self, cond_true, Int.toNat_natCast, hw, h1, goodEAt]
    cases edOK (l.getD i dE) with
    | false => rfl
    | true =>
      rcases Nat.eq_zero_or_pos i with rfl | hp
      · simp [risesE]
      · have hwp := wrap_pred (i := i) (by omega) hp
        have hp' : decide ((i : Int) > 0) = true := by simp; omega
        have h0 : decide (i = 0) = false := by simp; omega
        simp only [Bool.not_true, cond_false, hp', cond_true, hwp, lt_len (show i - 1 < l.length by omega), nonneg, Bool.and_self, Int.toNat_natCast, risesE, h0, Bool.false_or, Bool.true_and, ge_iff_le]
        cases decide ((l.getD i dE).1 ≤ (l.getD (i - 1) dE).1) <;> rfl) (by simp [step_spec_joGood_0])
  have t' : runL step_spec_joGood_0 (l, l, (l.length : Int), (0 : Int)) = _ := t
  simp only [F_spec_joGood, t', goodE]
  cases allN (goodEAt l) l.length <;> simp

theorem AreEdits_is (l : List Edit) (hf : FitsE l) : F_impl_AreEdits l = some (goodE l) := by
  have hlen := hf.len
  have t := runL_all (f := step_impl_AreEdits_0) (goodEAt l) (fun i => (l, l, (l.length : Int), (i : Int))) (.inl false) (.inr l) l.length (fun i hi => by
    have hw := wrap_succ (i := i) (by omega)
    have h1 := isLogEdit_is (l.getD i dE) (hf.gloss _ (getD_mem hi dE))
    simp only [step_impl_AreEdits_0, lt_len hi, nonneg, Bool.and_self, cond_true, Int.toNat_natCast, hw, h1, goodEAt]
    cases edOK (l.getD i dE) with
    | false => rfl
    | true =>
      rcases Nat.eq_zero_or_pos i with rfl | hp
      · simp [risesE]
      · have hwp := wrap_pred (i := i) (by omega) hp
        have hp' : decide ((i : Int) > 0) = true := by simp; omega
        have h0 : decide (i = 0) = false := by simp; omega
        simp only [Bool.not_true, cond_false, hp', cond_true, hwp, lt_len (show i - 1 < l.length by omega), nonneg, Bool.and_self, Int.toNat_natCast, risesE, h0, Bool.false_or, Bool.true_and, ge_iff_le]
        cases decide ((l.getD i dE).1 ≤ (l.getD (i - 1) dE).1) <;> rfl) (by simp [step_impl_AreEdits_0])
  have t' : runL step_impl_AreEdits_0 (l, l, (l.length : Int), (0 : Int)) = _ := t
  simp only [F_impl_AreEdits, t', goodE]
  cases allN (goodEAt l) l.length <;> simp

structure WfE (l : List Edit) : Prop where
  len : l.length ≤ 9223372036854775807
  gloss : ∀ e ∈ l, e.2.1.size ≤ 9223372036854775807
theorem WfE.cases {l : List Edit} (h : WfE l) : ∃ o, F_laws_szLogEditS (l, 1048576) = some o ∧ (o < 0 ∨ (¬ o < 0 ∧ FitsE l ∧ F_laws_toLogEditS l = some l ∧ F_laws_eqLogEditS (l, l) = some true)) := by
  obtain ⟨o, e, hq⟩ := szLogEditS_is l h.len h.gloss
  refine ⟨o, e, ?_⟩
  by_cases hn : o < 0
  · exact .inl hn
  · rcases hq with hq | hq
    · exact .inl hq
    · exact .inr ⟨hn, ⟨hq, h.gloss⟩, toLogEditS_is l hq, eqLogEditS_is l h.len⟩

theorem goodE_len {l : List Edit} (h : goodE l = true) : l.length ≤ 40 := by
  simp only [goodE, Bool.and_eq_true, decide_eq_true_eq] at h
  omega
theorem goodE_num {l : List Edit} (h : goodE l = true) {i : Nat} (hi : i < l.length) : 1 ≤ (l.getD i dE).1 ∧ (l.getD i dE).1 ≤ 999 := by
  simp only [goodE, Bool.and_eq_true] at h
  have := allN_true.1 h.1 i hi
  simp only [goodEAt, edOK, Bool.and_eq_true, decide_eq_true_eq] at this
  exact this.1.1
theorem goodE_gloss {l : List Edit} (h : goodE l = true) {i : Nat} (hi : i < l.length) : (l.getD i dE).2.1.size ≤ 8 := by
  simp only [goodE, Bool.and_eq_true] at h
  have := allN_true.1 h.1 i hi
  simp only [goodEAt, edOK, gl, Bool.and_eq_true, decide_eq_true_eq] at this
  have := this.1.2.2.2
  omega
end Go.Proofs.YtbdnmfiaghhhiaaDoor
