/- What the functions of the office and of the journal come to, on both sides: plain laws. No conditions beyond the bounds that are named. -/
import Derived.Test.YteodliihhddagaaPb
set_option linter.unusedVariables false
set_option linter.unusedSimpArgs false
namespace Go.Proofs.Yteodliihhddagaa
open Go

abbrev Prop' := Int × (Int × (ByteArray × List Int))
abbrev dP : Prop' := (0, (0, ByteArray.empty, []))

/-- the bytes of the capitals -/
theorem cap_byte : ∀ b : Fin 256, (decide (Lib.indexByte [65, 66, 67, 68, 69, 70, 71, 72, 73, 74, 75, 76, 77, 78, 79, 80, 81, 82, 83, 84, 85, 86, 87, 88, 89, 90] (UInt8.ofNat b.val) < 0)) = !(decide (65 ≤ (b.val : Int)) && decide ((b.val : Int) ≤ 90)) := by decide +kernel
abbrev capitals : ByteArray := ⟨#[65, 66, 67, 68, 69, 70, 71, 72, 73, 74, 75, 76, 77, 78, 79, 80, 81, 82, 83, 84, 85, 86, 87, 88, 89, 90]⟩
theorem cap_index (s : ByteArray) (i : Nat) : ∃ n, F_strings_IndexByte (capitals, byteAt s i) = some n ∧ decide (n < 0) = !(decide (65 ≤ byteAt s i) && decide (byteAt s i ≤ 90)) := by
  obtain ⟨b, hb⟩ : ∃ b : UInt8, byteAt s i = (b.toNat : Int) := ⟨_, rfl⟩
  refine ⟨_, rfl, ?_⟩
  rw [hb]
  have hc := cap_byte ⟨b.toNat, b.toNat_lt⟩
  simpa [Nat.toUInt8] using hc

/-- capitals alone -/
def capsOnly (s : ByteArray) : Bool := allN (fun i => decide (65 ≤ byteAt s i) && decide (byteAt s i ≤ 90)) s.size
/-- a gloss -/
def gl (s : ByteArray) : Bool := capsOnly s && (decide (1 ≤ (s.size : Int)) && decide ((s.size : Int) ≤ 8))

theorem l1In_is (a b c : Int) : F_spec_l1In (a, b, c) = some (decide (b ≤ a) && decide (a ≤ c)) := by
  unfold F_spec_l1In
  by_cases h : b ≤ a <;> simp [h]
theorem within_is (a b c : Int) : F_impl_within (a, b, c) = some (decide (b ≤ a) && decide (a ≤ c)) := by
  unfold F_impl_within
  by_cases h : b ≤ a <;> simp [h]

theorem lt_not {a b : Int} : decide (a < b) = !decide (b ≤ a) := by by_cases h : b ≤ a <;> simp [h] <;> omega
theorem gt_not {a b : Int} : decide (a > b) = !decide (a ≤ b) := by by_cases h : a ≤ b <;> simp [h] <;> omega

theorem hasOnly_is (s : ByteArray) (hs : s.size ≤ 9223372036854775807) : F_impl_hasOnly (s, capitals) = some (capsOnly s) := by
  have t := runL_all (f := step_impl_hasOnly_0) (fun i => decide (65 ≤ byteAt s i) && decide (byteAt s i ≤ 90)) (fun i => (s, capitals, (s.size : Int), (i : Int))) (.inl false) (.inr ()) s.size (fun i hi => by
    have hw := wrap_succ (i := i) (by omega)
    obtain ⟨n, e1, e2⟩ := cap_index s i
    simp only [step_impl_hasOnly_0, lt_len hi, nonneg, Bool.and_self, cond_true, Int.toNat_natCast, e1, e2, hw]
    cases (decide (65 ≤ byteAt s i) && decide (byteAt s i ≤ 90)) <;> rfl) (by simp [step_impl_hasOnly_0])
  have t' : runL step_impl_hasOnly_0 (s, capitals, (s.size : Int), (0 : Int)) = _ := t
  simp only [F_impl_hasOnly, t']
  unfold capsOnly
  cases allN _ _ <;> rfl

theorem IsGloss_is (s : ByteArray) (hs : s.size ≤ 9223372036854775807) : F_impl_IsGloss s = some (gl s) := by
  simp only [F_impl_IsGloss, F_impl_isWordOf, within_is, gl, hasOnly_is s hs]
  cases decide (1 ≤ (s.size : Int)) <;> cases decide ((s.size : Int) ≤ 8) <;> simp

theorem enGloss_is (s : ByteArray) (hs : s.size ≤ 9223372036854775807) : F_spec_enGloss s = some (gl s) := by
  have t := runL_all (f := step_spec_enGloss_0) (fun i => decide (65 ≤ byteAt s i) && decide (byteAt s i ≤ 90)) (fun i => (s, (i : Int))) (.inl false) (.inr s) s.size (fun i hi => by
    have hw := wrap_succ (i := i) (by omega)
    simp only [step_spec_enGloss_0, lt_len hi, nonneg, Bool.and_self, cond_true, Int.toNat_natCast, hw, lt_not, gt_not]
    cases decide (65 ≤ byteAt s i) <;> cases decide (byteAt s i ≤ 90) <;> rfl) (by simp [step_spec_enGloss_0])
  have t' : runL step_spec_enGloss_0 (s, (0 : Int)) = _ := t
  simp only [F_spec_enGloss, t']
  unfold gl capsOnly
  cases allN (fun i => decide (65 ≤ byteAt s i) && decide (byteAt s i ≤ 90)) s.size <;> simp [l1In_is]

def votesOK (l : List Int) : Bool := allN (fun i => decide (-1 ≤ l.getD i 0) && decide (l.getD i 0 ≤ 1)) l.length

theorem l1All_is (l : List Int) (hl : l.length ≤ 9223372036854775807) : F_spec_l1All (l, -1, 1) = some (votesOK l) := by
  have t := runL_all (f := step_spec_l1All_0) (fun i => decide (-1 ≤ l.getD i 0) && decide (l.getD i 0 ≤ 1)) (fun i => (-1, 1, l, (l.length : Int), (i : Int))) (.inl false) (.inr ()) l.length (fun i hi => by
    have hw := wrap_succ (i := i) (by omega)
    simp only [step_spec_l1All_0, lt_len hi, nonneg, Bool.and_self, cond_true, Int.toNat_natCast, hw, l1In_is]
    cases decide (-1 ≤ l.getD i 0) <;> cases decide (l.getD i 0 ≤ 1) <;> rfl) (by simp [step_spec_l1All_0])
  have t' : runL step_spec_l1All_0 (-1, 1, l, (l.length : Int), (0 : Int)) = _ := t
  simp only [F_spec_l1All, t']
  unfold votesOK
  cases allN _ _ <;> rfl

/-- slices.IndexFunc: the first place -/
theorem IndexFunc_int_is (l : List Int) (hl : l.length ≤ 9223372036854775807) (φ : Int → Option Bool) (p : Nat → Bool) (hφ : ∀ i, i < l.length → φ (l.getD i 0) = some (p i)) :
    F_slices_IndexFunc_int_int (l, φ) = some (firstN p l.length) := by
  rcases runL_first (f := step_slices_IndexFunc_int_int_0) (fun i => !p i) (fun i => (l, φ, (l.length : Int), (i : Int))) (fun i => .inl (i : Int)) (.inr ()) l.length (fun i hi => by
    have hw := wrap_succ (i := i) (by omega)
    simp only [step_slices_IndexFunc_int_int_0, lt_len hi, nonneg, Bool.and_self, cond_true, Int.toNat_natCast, hw, hφ i hi]
    cases p i <;> rfl) (by simp [step_slices_IndexFunc_int_int_0]) with ⟨t, hp⟩ | ⟨i, hi, hp, hj, t⟩
  · have t' : runL step_slices_IndexFunc_int_int_0 (l, φ, (l.length : Int), (0 : Int)) = _ := t
    simp only [F_slices_IndexFunc_int_int, t']
    rw [firstN_none (fun j hj => by simpa using hp j hj)]
  · have t' : runL step_slices_IndexFunc_int_int_0 (l, φ, (l.length : Int), (0 : Int)) = _ := t
    simp only [F_slices_IndexFunc_int_int, t']
    rw [firstN_at hi (by simpa using hp) (fun j hj' => by simpa using hj j hj')]

theorem firstN_ge (p : Nat → Bool) (m : Nat) : decide (firstN p m ≥ 0) = !allN (fun i => !p i) m := by
  rcases firstN_cases p m with ⟨e, h⟩ | ⟨i, hi, e, hp, hj⟩
  · rw [e, allN_true.2 (fun i hi => by simp [h i hi])]; simp
  · rw [e, allN_false.2 ⟨i, hi, by simp [hp]⟩]; simp

theorem allWithin_is (l : List Int) (hl : l.length ≤ 9223372036854775807) : F_impl_allWithin (l, -1, 1) = some (votesOK l) := by
  have h := IndexFunc_int_is l hl (K_impl_allWithin_1 (-1, 1)) (fun i => !(decide (-1 ≤ l.getD i 0) && decide (l.getD i 0 ≤ 1))) (fun i hi => by
    simp only [K_impl_allWithin_1, F_impl_allWithin_1, within_is])
  simp only [F_impl_allWithin, F_slices_ContainsFunc_int_int, h, firstN_ge, Bool.not_not, votesOK]

def numOK (p : Prop') : Bool := (decide (1 ≤ p.1) && decide (p.1 ≤ 999)) && (decide (0 ≤ p.2.1) && decide (p.2.1 ≤ 1)) && gl p.2.2.1
theorem isProposal_is (p : Prop') (hg : p.2.2.1.size ≤ 9223372036854775807) (hv : p.2.2.2.length ≤ 9223372036854775807) : F_impl_isProposal p = some (numOK p && decide ((p.2.2.2.length : Int) ≤ 7) && votesOK p.2.2.2) := by
  simp only [F_impl_isProposal, within_is, IsGloss_is _ hg, allWithin_is _ hv, numOK]
  cases (decide (1 ≤ p.1) && decide (p.1 ≤ 999)) <;> cases (decide (0 ≤ p.2.1) && decide (p.2.1 ≤ 1)) <;> cases gl p.2.2.1 <;> cases decide ((p.2.2.2.length : Int) ≤ 7) <;> simp
theorem ofOne_is (p : Prop') (m : Int) (hg : p.2.2.1.size ≤ 9223372036854775807) (hv : p.2.2.2.length ≤ 9223372036854775807) : F_spec_ofOne (p, m) = some (numOK p && ((p.2.2.2.length : Int) == m) && votesOK p.2.2.2) := by
  simp only [F_spec_ofOne, l1In_is, enGloss_is _ hg, l1All_is _ hv, numOK]
  cases (decide (1 ≤ p.1) && decide (p.1 ≤ 999)) <;> cases (decide (0 ≤ p.2.1) && decide (p.2.1 ≤ 1)) <;> cases gl p.2.2.1 <;> cases ((p.2.2.2.length : Int) == m) <;> simp

/-- one proposal of a list -/
def rises (l : List Prop') (i : Nat) : Bool := decide (i = 0) || !decide ((l.getD i dP).1 ≤ (l.getD (i - 1) dP).1)
def goodAt (m : Int) (l : List Prop') (i : Nat) : Bool := (numOK (l.getD i dP) && (((l.getD i dP).2.2.2.length : Int) == m) && votesOK (l.getD i dP).2.2.2) && rises l i
def goodAt' (m : Int) (l : List Prop') (i : Nat) : Bool := (numOK (l.getD i dP) && decide (((l.getD i dP).2.2.2.length : Int) ≤ 7) && votesOK (l.getD i dP).2.2.2) && (((l.getD i dP).2.2.2.length : Int) == m) && rises l i
/-- proposals of m members -/
def good (m : Int) (l : List Prop') : Bool := allN (goodAt m l) l.length && (decide (1 ≤ m) && decide (m ≤ 7)) && decide ((l.length : Int) ≤ 12)

structure Fits (l : List Prop') : Prop where
  len : l.length ≤ 1048576
  gloss : ∀ e ∈ l, e.2.2.1.size ≤ 9223372036854775807
  votes : ∀ e ∈ l, e.2.2.2.length ≤ 1048576

theorem ofGood_is (l : List Prop') (m : Int) (hf : Fits l) : F_spec_ofGood (l, m) = some (good m l) := by
  have hlen := hf.len
  have t := runL_all (f := step_spec_ofGood_0) (goodAt m l) (fun i => (l, m, l, (l.length : Int), (i : Int))) (.inl false) (.inr (l, m)) l.length (fun i hi => by
    have hw := wrap_succ (i := i) (by omega)
    have hv := hf.votes _ (getD_mem hi dP)
    have h1 := ofOne_is (l.getD i dP) m (hf.gloss _ (getD_mem hi dP)) (by omega)
    simp only [step_spec_ofGood_0, lt_len hi, nonneg, Bool.and_self, cond_true, Int.toNat_natCast, hw, h1, goodAt]
    cases (numOK (l.getD i dP) && (((l.getD i dP).2.2.2.length : Int) == m) && votesOK (l.getD i dP).2.2.2) with
    | false => rfl
    | true =>
      rcases Nat.eq_zero_or_pos i with rfl | hp
      · simp [rises]
      · have hwp := wrap_pred (i := i) (by omega) hp
        have hp' : decide ((i : Int) > 0) = true := by simp; omega
        have h0 : decide (i = 0) = false := by simp; omega
        simp only [Bool.not_true, cond_false, hp', cond_true, hwp, lt_len (show i - 1 < l.length by omega), nonneg, Bool.and_self, Int.toNat_natCast, rises, h0, Bool.false_or, Bool.true_and, ge_iff_le]
        cases decide ((l.getD i dP).1 ≤ (l.getD (i - 1) dP).1) <;> rfl) (by simp [step_spec_ofGood_0])
  have t' : runL step_spec_ofGood_0 (l, m, l, (l.length : Int), (0 : Int)) = _ := t
  simp only [F_spec_ofGood, t', good]
  cases allN (goodAt m l) l.length with
  | false => rfl
  | true =>
    simp only [cond_true, F_spec_ofMembers, l1In_is]
    cases (decide (1 ≤ m) && decide (m ≤ 7)) <;> simp

theorem allN_congr {p q : Nat → Bool} {m : Nat} (h : ∀ i, i < m → p i = q i) : allN p m = allN q m := by
  cases hq : allN q m with
  | true => rw [allN_true] at hq ⊢; exact fun i hi => (h i hi).trans (hq i hi)
  | false => rw [allN_false] at hq ⊢; obtain ⟨i, hi, e⟩ := hq; exact ⟨i, hi, (h i hi).trans e⟩

theorem AreProposals_is (l : List Prop') (m : Int) (hf : Fits l) : F_impl_AreProposals (l, m) = some (good m l) := by
  have hlen := hf.len
  have t := runL_all (f := step_impl_AreProposals_0) (goodAt' m l) (fun i => (l, m, l, (l.length : Int), (i : Int))) (.inl false) (.inr (l, m)) l.length (fun i hi => by
    have hw := wrap_succ (i := i) (by omega)
    have hv := hf.votes _ (getD_mem hi dP)
    have h1 := isProposal_is (l.getD i dP) (hf.gloss _ (getD_mem hi dP)) (by omega)
    simp only [step_impl_AreProposals_0, lt_len hi, nonneg, Bool.and_self, cond_true, Int.toNat_natCast, hw, h1, goodAt']
    cases (numOK (l.getD i dP) && decide (((l.getD i dP).2.2.2.length : Int) ≤ 7) && votesOK (l.getD i dP).2.2.2) with
    | false => rfl
    | true =>
      have hne : (((l.getD i dP).2.2.2.length : Int) != m) = !(((l.getD i dP).2.2.2.length : Int) == m) := rfl
      simp only [Bool.not_true, cond_false, hne, Bool.true_and]
      cases (((l.getD i dP).2.2.2.length : Int) == m) with
      | false => rfl
      | true =>
        rcases Nat.eq_zero_or_pos i with rfl | hp
        · simp [rises]
        · have hwp := wrap_pred (i := i) (by omega) hp
          have hp' : decide ((i : Int) > 0) = true := by simp; omega
          have h0 : decide (i = 0) = false := by simp; omega
          simp only [Bool.not_true, cond_false, hp', cond_true, hwp, lt_len (show i - 1 < l.length by omega), nonneg, Bool.and_self, Int.toNat_natCast, rises, h0, Bool.false_or, Bool.true_and, ge_iff_le]
          cases decide ((l.getD i dP).1 ≤ (l.getD (i - 1) dP).1) <;> rfl) (by simp [step_impl_AreProposals_0])
  have t' : runL step_impl_AreProposals_0 (l, m, l, (l.length : Int), (0 : Int)) = _ := t
  simp only [F_impl_AreProposals, t', good]
  by_cases hm : (decide (1 ≤ m) && decide (m ≤ 7)) = true
  · have hc : allN (goodAt' m l) l.length = allN (goodAt m l) l.length := allN_congr fun i hi => by
      have h7 : m ≤ 7 := by simp at hm; omega
      simp only [goodAt, goodAt']
      cases hq : (((l.getD i dP).2.2.2.length : Int) == m) with
      | false => simp
      | true =>
        have : ((l.getD i dP).2.2.2.length : Int) = m := by simpa using hq
        have h8 : decide (((l.getD i dP).2.2.2.length : Int) ≤ 7) = true := decide_eq_true (by omega)
        rw [h8]; simp
    rw [hc]
    cases allN (goodAt m l) l.length with
    | false => rfl
    | true => simp only [cond_true, within_is, hm, Bool.true_and]
  · have hm' : (decide (1 ≤ m) && decide (m ≤ 7)) = false := by simpa using hm
    cases allN (goodAt' m l) l.length with
    | false => simp only [cond_false, hm', Bool.and_false, Bool.false_and]
    | true => simp only [cond_true, within_is, hm', cond_false, Bool.and_false, Bool.false_and]

structure Wf (l : List Prop') : Prop where
  len : l.length ≤ 9223372036854775807
  gloss : ∀ e ∈ l, e.2.2.1.size ≤ 9223372036854775807
  votes : ∀ e ∈ l, e.2.2.2.length ≤ 9223372036854775807

/-- a list is too large for the law, or fits and is copied as it is -/
theorem Wf.cases {l : List Prop'} (h : Wf l) : ∃ o, F_laws_szProposalS (l, 1048576) = some o ∧ (o < 0 ∨ (¬ o < 0 ∧ Fits l ∧ F_laws_toProposalS l = some l ∧ F_laws_eqProposalS (l, l) = some true)) := by
  obtain ⟨o, e, hq⟩ := szProposalS_is l h.len h.gloss h.votes
  refine ⟨o, e, ?_⟩
  by_cases hn : o < 0
  · exact .inl hn
  · rcases hq with hq | ⟨q1, q2⟩
    · exact .inl hq
    · exact .inr ⟨hn, ⟨q1, h.gloss, q2⟩, toProposalS_is l q1 q2, eqProposalS_is l h.len h.votes⟩
end Go.Proofs.Yteodliihhddagaa
