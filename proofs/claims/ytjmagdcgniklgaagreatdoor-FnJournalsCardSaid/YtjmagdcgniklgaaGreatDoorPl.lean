/- Plain laws for this claim, several texts in one. No conditions beyond the bounds that are named. -/
import Derived.Test.YtjmagdcgniklgaaGreatDoorEvZk
import Derived.Test.YtjmagdcgniklgaaGreatDoorC1
import Derived.Lib.AtoiTie
import Derived.Lib.IndexLaws
import Derived.Lib.IndexBytes
import Derived.Sort.Walk0
/- Words for pure laws: rounds of loops, bounds of numbers. No conditions. -/
set_option linter.unusedVariables false
namespace Go.Proofs.YtjmagdcgniklgaaGreatDoor
open Go
theorem wrap_id {n : Int} (h0 : -9223372036854775808 ≤ n) (h1 : n ≤ 9223372036854775807) : IntKind.i64.wrap n = n := by
  simp [IntKind.wrap, IntKind.bits, IntKind.signed]
  omega
theorem wrap_succ {i : Nat} (h : i < 9223372036854775807) : IntKind.i64.wrap ((i : Int) + 1) = ((i + 1 : Nat) : Int) := by rw [wrap_id (by omega) (by omega)]; omega
theorem wrap_pred {i : Nat} (h : i < 9223372036854775807) (h0 : 0 < i) : IntKind.i64.wrap ((i : Int) - 1) = ((i - 1 : Nat) : Int) := by rw [wrap_id (by omega) (by omega)]; omega

/-- a loop that keeps R and comes to an end has Q behind it -/
theorem runL_inv {S O : Type} {f : S → Option (S ⊕ O)} (R : S → Prop) (Q : O → Prop) (μ : S → Nat)
    (h : ∀ s, R s → (∃ o, f s = some (.inr o) ∧ Q o) ∨ ∃ s', f s = some (.inl s') ∧ R s' ∧ μ s' < μ s) : ∀ s, R s → ∃ o, runL f s = some o ∧ Q o := by
  have go : ∀ n s, μ s ≤ n → R s → ∃ o, runL f s = some o ∧ Q o := by
    intro n
    induction n with
    | zero =>
      intro s hn hs
      rcases h s hs with ⟨o, e, q⟩ | ⟨s', e, r, l⟩
      · exact ⟨o, by rw [runL_eq, e], q⟩
      · omega
    | succ n ih =>
      intro s hn hs
      rcases h s hs with ⟨o, e, q⟩ | ⟨s', e, r, l⟩
      · exact ⟨o, by rw [runL_eq, e], q⟩
      · obtain ⟨o, e2, q⟩ := ih s' (by omega) r
        exact ⟨o, by rw [runL_eq, e]; exact e2, q⟩
  exact fun s hs => go _ s (Nat.le_refl _) hs

/-- two loops, round by round -/
theorem runL_sim {S T O P : Type} {f : S → Option (S ⊕ O)} {g : T → Option (T ⊕ P)} (R : S → T → Prop) (Q : O → P → Prop) (μ : S → Nat)
    (h : ∀ s t, R s t → (∃ o p, f s = some (.inr o) ∧ g t = some (.inr p) ∧ Q o p) ∨ ∃ s' t', f s = some (.inl s') ∧ g t = some (.inl t') ∧ R s' t' ∧ μ s' < μ s) :
    ∀ s t, R s t → ∃ o p, runL f s = some o ∧ runL g t = some p ∧ Q o p := by
  have go : ∀ n s t, μ s ≤ n → R s t → ∃ o p, runL f s = some o ∧ runL g t = some p ∧ Q o p := by
    intro n
    induction n with
    | zero =>
      intro s t hn hs
      rcases h s t hs with ⟨o, p, e, e2, q⟩ | ⟨s', t', e, e2, r, l⟩
      · exact ⟨o, p, by rw [runL_eq, e], by rw [runL_eq, e2], q⟩
      · omega
    | succ n ih =>
      intro s t hn hs
      rcases h s t hs with ⟨o, p, e, e2, q⟩ | ⟨s', t', e, e2, r, l⟩
      · exact ⟨o, p, by rw [runL_eq, e], by rw [runL_eq, e2], q⟩
      · obtain ⟨o, p, e3, e4, q⟩ := ih s' t' (by omega) r
        exact ⟨o, p, by rw [runL_eq, e]; exact e3, by rw [runL_eq, e2]; exact e4, q⟩
  exact fun s t hs => go _ s t (Nat.le_refl _) hs

/-- a loop over m rounds whose states are known -/
theorem runL_traj {S O : Type} {f : S → Option (S ⊕ O)} (s : Nat → S) (o : O) (m : Nat) (h : ∀ i, i < m → f (s i) = some (.inl (s (i + 1)))) (hend : f (s m) = some (.inr o)) : runL f (s 0) = some o := by
  have go : ∀ k i, m - i = k → i ≤ m → runL f (s i) = some o := by
    intro k
    induction k with
    | zero => intro i hk hi; rw [runL_eq, show i = m by omega, hend]
    | succ k ih => intro i hk hi; rw [runL_eq, h i (by omega)]; exact ih (i + 1) (by omega) (by omega)
  exact go m 0 (by omega) (by omega)

/-- a loop that goes on while p holds: the first place where it fails -/
theorem runL_first {S O : Type} {f : S → Option (S ⊕ O)} (p : Nat → Bool) (s : Nat → S) (no : Nat → O) (yes : O) (m : Nat)
    (h : ∀ i, i < m → f (s i) = some (bif p i then .inl (s (i + 1)) else .inr (no i))) (hend : f (s m) = some (.inr yes)) :
    (runL f (s 0) = some yes ∧ ∀ i, i < m → p i = true) ∨ ∃ i, i < m ∧ p i = false ∧ (∀ j, j < i → p j = true) ∧ runL f (s 0) = some (no i) := by
  have go : ∀ k i, m - i = k → i ≤ m → (∀ j, j < i → p j = true) → runL f (s 0) = runL f (s i) → (runL f (s 0) = some yes ∧ ∀ i, i < m → p i = true) ∨ ∃ i, i < m ∧ p i = false ∧ (∀ j, j < i → p j = true) ∧ runL f (s 0) = some (no i) := by
    intro k
    induction k with
    | zero =>
      intro i hk hi hp he
      have : i = m := by omega
      subst this
      exact .inl ⟨by rw [he, runL_eq, hend], hp⟩
    | succ k ih =>
      intro i hk hi hp he
      have hi' : i < m := by omega
      cases hpi : p i with
      | false => exact .inr ⟨i, hi', hpi, hp, by rw [he, runL_eq, h i hi', hpi]; rfl⟩
      | true =>
        refine ih (i + 1) (by omega) (by omega) (fun j hj => ?_) ?_
        · rcases Nat.lt_succ_iff_lt_or_eq.1 hj with hj | hj
          · exact hp j hj
          · exact hj ▸ hpi
        · rw [he, runL_eq f (s i), h i hi', hpi]; rfl
  exact go m 0 (by omega) (by omega) (fun j hj => by omega) rfl

/-- all of the first m places -/
def allN (p : Nat → Bool) (m : Nat) : Bool := (List.range m).all p
theorem allN_true {p : Nat → Bool} {m : Nat} : allN p m = true ↔ ∀ i, i < m → p i = true := by simp [allN]
theorem allN_false {p : Nat → Bool} {m : Nat} : allN p m = false ↔ ∃ i, i < m ∧ p i = false := by simp [allN]

theorem runL_all {S O : Type} {f : S → Option (S ⊕ O)} (p : Nat → Bool) (s : Nat → S) (no yes : O) (m : Nat)
    (h : ∀ i, i < m → f (s i) = some (bif p i then .inl (s (i + 1)) else .inr no)) (hend : f (s m) = some (.inr yes)) : runL f (s 0) = some (bif allN p m then yes else no) := by
  rcases runL_first p s (fun _ => no) yes m h hend with ⟨e, hp⟩ | ⟨i, hi, hp, _, e⟩
  · rw [e, allN_true.2 hp]; rfl
  · rw [e, allN_false.2 ⟨i, hi, hp⟩]; rfl

/-- the first of m places where p holds, or -1 -/
def firstN (p : Nat → Bool) (m : Nat) : Int := match (List.range m).find? p with | some i => (i : Int) | none => -1
theorem firstN_at {p : Nat → Bool} {m i : Nat} (hi : i < m) (hp : p i = true) (hj : ∀ j, j < i → p j = false) : firstN p m = (i : Int) := by
  unfold firstN
  have : (List.range m).find? p = some i := by
    rw [List.find?_range_eq_some]
    refine ⟨hp, by simpa using hi, fun j hj' => by simp [hj j hj']⟩
  rw [this]
theorem firstN_none {p : Nat → Bool} {m : Nat} (h : ∀ j, j < m → p j = false) : firstN p m = -1 := by
  unfold firstN
  have : (List.range m).find? p = none := by
    rw [List.find?_eq_none]
    intro x hx
    simp [h x (by simpa using hx)]
  rw [this]
theorem firstN_cases (p : Nat → Bool) (m : Nat) : (firstN p m = -1 ∧ ∀ j, j < m → p j = false) ∨ ∃ i, i < m ∧ firstN p m = (i : Int) ∧ p i = true ∧ ∀ j, j < i → p j = false := by
  cases h : (List.range m).find? p with
  | none =>
    have h' := List.find?_eq_none.1 h
    have : ∀ j, j < m → p j = false := fun j hj => by simpa using h' j (by simpa using hj)
    exact .inl ⟨firstN_none this, this⟩
  | some i =>
    obtain ⟨h1, h2, h3⟩ := List.find?_range_eq_some.1 h
    have h2' : i < m := by simpa using h2
    have h3' : ∀ j, j < i → p j = false := fun j hj => by simpa using h3 j hj
    exact .inr ⟨i, h2', firstN_at h2' h1 h3', h1, h3'⟩

/-- a loop that looks for the first place where p holds -/
theorem runL_find {S O : Type} {f : S → Option (S ⊕ O)} (p : Nat → Bool) (s : Nat → S) (o : Int → O) (m : Nat)
    (h : ∀ i, i < m → f (s i) = some (bif p i then .inr (o i) else .inl (s (i + 1)))) (hend : f (s m) = some (.inr (o (-1)))) : runL f (s 0) = some (o (firstN p m)) := by
  rcases runL_first (fun i => !p i) s (fun i => o i) (o (-1)) m (fun i hi => by rw [h i hi]; cases p i <;> rfl) hend with ⟨e, hp⟩ | ⟨i, hi, hp, hj, e⟩
  · rw [e, firstN_none (fun j hj => by simpa using hp j hj)]
  · rw [e, firstN_at hi (by simpa using hp) (fun j hj' => by simpa using hj j hj')]

theorem getD_mem {α : Type} {l : List α} {i : Nat} (h : i < l.length) (d : α) : l.getD i d ∈ l := by simp [List.getD, List.getElem?_eq_getElem h]
theorem take_succ_getD {α : Type} {l : List α} {i : Nat} (h : i < l.length) (d : α) : l.take (i + 1) = l.take i ++ [l.getD i d] := by
  rw [List.take_add_one, List.getD, List.getElem?_eq_getElem h]; rfl
theorem lt_len {i n : Nat} (h : i < n) : decide ((i : Int) < (n : Int)) = true := by simp; omega
theorem not_lt_len (n : Nat) : decide ((n : Int) < (n : Int)) = false := by simp
theorem nonneg (i : Nat) : decide (0 ≤ (i : Int)) = true := by simp

/-- a copy that is written place by place -/
theorem set_copy {α : Type} (l : List α) (d : α) {i : Nat} (h : i < l.length) : (l.take i ++ List.replicate (l.length - i) d).set i (l.getD i d) = l.take (i + 1) ++ List.replicate (l.length - (i + 1)) d := by
  have e : l.length - i = (l.length - (i + 1)) + 1 := by omega
  have hi : (l.take i).length = i := by simp; omega
  rw [take_succ_getD h d, e, List.replicate_succ, List.set_append, if_neg (by omega), hi, Nat.sub_self, List.set_cons_zero, List.append_assoc]
  rfl
theorem copy_len {α : Type} (l : List α) (d : α) {i : Nat} (h : i ≤ l.length) : (l.take i ++ List.replicate (l.length - i) d).length = l.length := by simp; omega
end Go.Proofs.YtjmagdcgniklgaaGreatDoor
/- The words of the laws. No conditions beyond the bounds that are named. -/
set_option linter.unusedVariables false
set_option linter.unusedSimpArgs false
namespace Go.Proofs.YtjmagdcgniklgaaGreatDoor
open Go
end Go.Proofs.YtjmagdcgniklgaaGreatDoor
/- Glosses: what a word of capitals is, on both sides. No conditions beyond the bounds that are named. -/
set_option linter.unusedVariables false
set_option linter.unusedSimpArgs false
namespace Go.Proofs.YtjmagdcgniklgaaGreatDoor
open Go
/-- the bytes of the capitals -/
theorem cap_byte : ∀ b : Fin 256, (decide (Lib.indexByte [65, 66, 67, 68, 69, 70, 71, 72, 73, 74, 75, 76, 77, 78, 79, 80, 81, 82, 83, 84, 85, 86, 87, 88, 89, 90] (UInt8.ofNat b.val) < 0)) = !(decide (65 ≤ (b.val : Int)) && decide ((b.val : Int) ≤ 90)) := by decide +kernel
abbrev capitals : ByteArray := ⟨#[65, 66, 67, 68, 69, 70, 71, 72, 73, 74, 75, 76, 77, 78, 79, 80, 81, 82, 83, 84, 85, 86, 87, 88, 89, 90]⟩
theorem cap_index (s : ByteArray) (i : Nat) : ∃ n, F_strings_IndexByte (capitals, byteAt s i) = some n ∧ decide (n < 0) = !(decide (65 ≤ byteAt s i) && decide (byteAt s i ≤ 90)) := by
  obtain ⟨b, hb⟩ : ∃ b : UInt8, byteAt s i = (b.toNat : Int) := ⟨_, rfl⟩
  refine ⟨_, rfl, ?_⟩
  rw [hb]
  have hc := cap_byte ⟨b.toNat, b.toNat_lt⟩
  simpa [Nat.toUInt8] using hc

/-- capitals alone -/
def capsOnly (s : ByteArray) : Bool := allN (fun i => decide (65 ≤ byteAt s i) && decide (byteAt s i ≤ 90)) s.size
/-- a gloss -/
def gl (s : ByteArray) : Bool := capsOnly s && (decide (1 ≤ (s.size : Int)) && decide ((s.size : Int) ≤ 8))

theorem l1In_is (a b c : Int) : F_spec_l1In (a, b, c) = some (decide (b ≤ a) && decide (a ≤ c)) := by
  unfold F_spec_l1In
  by_cases h : b ≤ a <;> simp [h]
theorem within_is (a b c : Int) : F_impl_within (a, b, c) = some (decide (b ≤ a) && decide (a ≤ c)) := by
  unfold F_impl_within
  by_cases h : b ≤ a <;> simp [h]

theorem lt_not {a b : Int} : decide (a < b) = !decide (b ≤ a) := by by_cases h : b ≤ a <;> simp [h] <;> omega
theorem gt_not {a b : Int} : decide (a > b) = !decide (a ≤ b) := by by_cases h : a ≤ b <;> simp [h] <;> omega

theorem hasOnly_is (s : ByteArray) (hs : s.size ≤ 9223372036854775807) : F_impl_hasOnly (s, capitals) = some (capsOnly s) := by
  have t := runL_all (f := step_impl_hasOnly_0) (fun i => decide (65 ≤ byteAt s i) && decide (byteAt s i ≤ 90)) (fun i => (s, capitals, (s.size : Int), (i : Int))) (.inl false) (.inr ()) s.size (fun i hi => by
    have hw := wrap_succ (i := i) (by omega)
    obtain ⟨n, e1, e2⟩ := cap_index s i
    simp only [step_impl_hasOnly_0, lt_len hi, nonneg, Bool.and_self, cond_true, Int.toNat_natCast, e1, e2, hw]
    cases (decide (65 ≤ byteAt s i) && decide (byteAt s i ≤ 90)) <;> rfl) (by simp [step_impl_hasOnly_0])
  have t' : runL step_impl_hasOnly_0 (s, capitals, (s.size : Int), (0 : Int)) = _ := t
  simp only [F_impl_hasOnly, t']
  unfold capsOnly
  cases allN _ _ <;> rfl

theorem IsGloss_is (s : ByteArray) (hs : s.size ≤ 9223372036854775807) : F_impl_IsGloss s = some (gl s) := by
  simp only [F_impl_IsGloss, F_impl_isWordOf, within_is, gl, hasOnly_is s hs]
  cases decide (1 ≤ (s.size : Int)) <;> cases decide ((s.size : Int) ≤ 8) <;> simp

end Go.Proofs.YtjmagdcgniklgaaGreatDoor
/- What the functions of the journal come to, on both sides: plain laws. No conditions beyond the bounds that are named. -/
set_option linter.unusedVariables false
set_option linter.unusedSimpArgs false
namespace Go.Proofs.YtjmagdcgniklgaaGreatDoor
open Go

abbrev Edit := Int × (ByteArray × Bool)
abbrev dE : Edit := (0, ByteArray.empty, false)

theorem fsWord_is (s : ByteArray) (hs : s.size ≤ 9223372036854775807) : F_spec_fsWord s = some (gl s) := by
  have t := runL_all (f := step_spec_fsWord_0) (fun i => decide (65 ≤ byteAt s i) && decide (byteAt s i ≤ 90)) (fun i => (s, (i : Int))) (.inl false) (.inr s) s.size (fun i hi => by
    have hw := wrap_succ (i := i) (by omega)
    simp only [step_spec_fsWord_0, lt_len hi, nonneg, Bool.and_self, cond_true, Int.toNat_natCast, hw, lt_not, gt_not]
    cases decide (65 ≤ byteAt s i) <;> cases decide (byteAt s i ≤ 90) <;> rfl) (by simp [step_spec_fsWord_0])
  have t' : runL step_spec_fsWord_0 (s, (0 : Int)) = _ := t
  simp only [F_spec_fsWord, t']
  unfold gl capsOnly
  cases allN (fun i => decide (65 ≤ byteAt s i) && decide (byteAt s i ≤ 90)) s.size <;> simp [l1In_is]

def edOK (e : Edit) : Bool := (decide (1 ≤ e.1) && decide (e.1 ≤ 999)) && gl e.2.1
theorem joOne_is (e : Edit) (hg : e.2.1.size ≤ 9223372036854775807) : F_spec_joOne e = some (edOK e) := by
  simp only [F_spec_joOne, l1In_is, fsWord_is _ hg, edOK]
  cases (decide (1 ≤ e.1) && decide (e.1 ≤ 999)) <;> simp
theorem isLogEdit_is (e : Edit) (hg : e.2.1.size ≤ 9223372036854775807) : F_impl_isLogEdit e = some (edOK e) := by
  simp only [F_impl_isLogEdit, within_is, IsGloss_is _ hg, edOK]
  cases (decide (1 ≤ e.1) && decide (e.1 ≤ 999)) <;> simp

def risesE (l : List Edit) (i : Nat) : Bool := decide (i = 0) || !decide ((l.getD i dE).1 ≤ (l.getD (i - 1) dE).1)
def goodEAt (l : List Edit) (i : Nat) : Bool := edOK (l.getD i dE) && risesE l i
def goodE (l : List Edit) : Bool := allN (goodEAt l) l.length && decide ((l.length : Int) ≤ 40)

structure FitsE (l : List Edit) : Prop where
  len : l.length ≤ 1048576
  gloss : ∀ e ∈ l, e.2.1.size ≤ 9223372036854775807

theorem joGood_is (l : List Edit) (hf : FitsE l) : F_spec_joGood l = some (goodE l) := by
  have hlen := hf.len
  have t := runL_all (f := step_spec_joGood_0) (goodEAt l) (fun i => (l, l, (l.length : Int), (i : Int))) (.inl false) (.inr l) l.length (fun i hi => by
    have hw := wrap_succ (i := i) (by omega)
    have h1 := joOne_is (l.getD i dE) (hf.gloss _ (getD_mem hi dE))
    simp only [step_spec_joGood_0, lt_len hi, nonneg, Bool.and_self, cond_true, Int.toNat_natCast, hw, h1, goodEAt]
    cases edOK (l.getD i dE) with
    | false => rfl
    | true =>
      rcases Nat.eq_zero_or_pos i with rfl | hp
      · simp [risesE]
      · have hwp := wrap_pred (i := i) (by omega) hp
        have hp' : decide ((i : Int) > 0) = true := by simp; omega
        have h0 : decide (i = 0) = false := by simp; omega
        simp only [Bool.not_true, cond_false, hp', cond_true, hwp, lt_len (show i - 1 < l.length by omega), nonneg, Bool.and_self, Int.toNat_natCast, risesE, h0, Bool.false_or, Bool.true_and, ge_iff_le]
        cases decide ((l.getD i dE).1 ≤ (l.getD (i - 1) dE).1) <;> rfl) (by simp [step_spec_joGood_0])
  have t' : runL step_spec_joGood_0 (l, l, (l.length : Int), (0 : Int)) = _ := t
  simp only [F_spec_joGood, t', goodE]
  cases allN (goodEAt l) l.length <;> simp

theorem AreEdits_is (l : List Edit) (hf : FitsE l) : F_impl_AreEdits l = some (goodE l) := by
  have hlen := hf.len
  have t := runL_all (f := step_impl_AreEdits_0) (goodEAt l) (fun i => (l, l, (l.length : Int), (i : Int))) (.inl false) (.inr l) l.length (fun i hi => by
    have hw := wrap_succ (i := i) (by omega)
    have h1 := isLogEdit_is (l.getD i dE) (hf.gloss _ (getD_mem hi dE))
    simp only [step_impl_AreEdits_0, lt_len hi, nonneg, Bool.and_self, cond_true, Int.toNat_natCast, hw, h1, goodEAt]
    cases edOK (l.getD i dE) with
    | false => rfl
    | true =>
      rcases Nat.eq_zero_or_pos i with rfl | hp
      · simp [risesE]
      · have hwp := wrap_pred (i := i) (by omega) hp
        have hp' : decide ((i : Int) > 0) = true := by simp; omega
        have h0 : decide (i = 0) = false := by simp; omega
        simp only [Bool.not_true, cond_false, hp', cond_true, hwp, lt_len (show i - 1 < l.length by omega), nonneg, Bool.and_self, Int.toNat_natCast, risesE, h0, Bool.false_or, Bool.true_and, ge_iff_le]
        cases decide ((l.getD i dE).1 ≤ (l.getD (i - 1) dE).1) <;> rfl) (by simp [step_impl_AreEdits_0])
  have t' : runL step_impl_AreEdits_0 (l, l, (l.length : Int), (0 : Int)) = _ := t
  simp only [F_impl_AreEdits, t', goodE]
  cases allN (goodEAt l) l.length <;> simp

theorem goodE_len {l : List Edit} (h : goodE l = true) : l.length ≤ 40 := by
  simp only [goodE, Bool.and_eq_true, decide_eq_true_eq] at h
  omega
theorem goodE_num {l : List Edit} (h : goodE l = true) {i : Nat} (hi : i < l.length) : 1 ≤ (l.getD i dE).1 ∧ (l.getD i dE).1 ≤ 999 := by
  simp only [goodE, Bool.and_eq_true] at h
  have := allN_true.1 h.1 i hi
  simp only [goodEAt, edOK, Bool.and_eq_true, decide_eq_true_eq] at this
  exact this.1.1
theorem goodE_gloss {l : List Edit} (h : goodE l = true) {i : Nat} (hi : i < l.length) : (l.getD i dE).2.1.size ≤ 8 := by
  simp only [goodE, Bool.and_eq_true] at h
  have := allN_true.1 h.1 i hi
  simp only [goodEAt, edOK, gl, Bool.and_eq_true, decide_eq_true_eq] at this
  have := this.1.2.2.2
  omega
end Go.Proofs.YtjmagdcgniklgaaGreatDoor
/- Lines of edits and their texts are the same on both sides: plain laws. No conditions beyond the bounds that are named. -/
set_option linter.unusedVariables false
set_option linter.unusedSimpArgs false
namespace Go.Proofs.YtjmagdcgniklgaaGreatDoor
open Go

/-- a decimal numeral -/
noncomputable def it (n : Int) : ByteArray := ⟨(Lib.itoa n).toArray⟩
theorem it_size {n : Int} (h0 : 0 ≤ n) (h1 : n ≤ 9999) : (it n).size ≤ 10000 := by
  obtain ⟨k, rfl⟩ : ∃ k : Nat, n = (k : Int) := ⟨n.toNat, by omega⟩
  have := decDigits_short k
  have e : (it (k : Int)).size = (Lib.decDigits k).length := by rw [it, Lib.itoa_nonneg]; show ((Lib.decDigits k).toArray).size = _; simp
  omega
theorem l1Num_is {n : Int} (h0 : 0 ≤ n) (h1 : n ≤ 9999) : F_spec_l1Num n = some (it n) := by
  rw [F_spec_l1Num_is, decide_eq_true h0, decide_eq_true (show n ≤ 9223372036854775807 by omega)]; rfl
theorem Itoa_is {n : Int} (h0 : 0 ≤ n) (h1 : n ≤ 9999) : F_strconv_Itoa n = some (it n) := by
  rw [F_strconv_Itoa_is, decide_eq_true (show -9223372036854775808 ≤ n by omega), decide_eq_true (show n ≤ 9223372036854775807 by omega)]; rfl

theorem cat_ok {a b : ByteArray} (h : a.size + b.size ≤ 9223372036854775807) : decide (a.size + b.size ≤ 9223372036854775807) = true := decide_eq_true h
theorem byteAt_le (s : ByteArray) (i : Nat) : 0 ≤ byteAt s i ∧ byteAt s i ≤ 255 := by
  obtain ⟨b, hb⟩ : ∃ b : UInt8, byteAt s i = (b.toNat : Int) := ⟨_, rfl⟩
  have := b.toNat_lt
  omega

theorem sum_loop (s : ByteArray) (hs : s.size ≤ 1000000) : ∃ m : Int, runL step_spec_joLine_0 (s, 3, 0) = some (s, m) ∧ runL step_impl_LogEdit_line_0 (s, 3, (s.size : Int), 0) = some (s, m) ∧ 0 ≤ m ∧ m ≤ 9972 := by
  obtain ⟨o, p, e1, e2, rfl, m, rfl, h0, h1⟩ := runL_sim (f := step_spec_joLine_0) (g := step_impl_LogEdit_line_0) (fun a b => ∃ (m : Int) (i : Nat), a = (s, m, (i : Int)) ∧ b = (s, m, (s.size : Int), (i : Int)) ∧ i ≤ s.size ∧ 0 ≤ m ∧ m ≤ 9972)
    (fun o p => o = p ∧ ∃ m : Int, o = (s, m) ∧ 0 ≤ m ∧ m ≤ 9972) (fun a => s.size - a.2.2.toNat) (by
    rintro a b ⟨m, i, rfl, rfl, hi, h0, h1⟩
    rcases Nat.lt_or_ge i s.size with hlt | hge
    · right
      obtain ⟨b0, b1⟩ := byteAt_le s i
      have hw := wrap_succ (i := i) (by omega)
      have w1 : IntKind.i64.wrap (7 * m) = 7 * m := wrap_id (by omega) (by omega)
      have w2 : IntKind.i64.wrap (byteAt s i) = byteAt s i := wrap_id (by omega) (by omega)
      have w3 : IntKind.i64.wrap (7 * m + byteAt s i) = 7 * m + byteAt s i := wrap_id (by omega) (by omega)
      have hm : (7 * m + byteAt s i).tmod 9973 = (7 * m + byteAt s i) % 9973 := Int.tmod_eq_emod_of_nonneg (by omega)
      have hz : (!decide ((9973 : Int) = 0)) = true := rfl
      refine ⟨(s, (7 * m + byteAt s i) % 9973, ((i + 1 : Nat) : Int)), (s, (7 * m + byteAt s i) % 9973, (s.size : Int), ((i + 1 : Nat) : Int)), ?_, ?_, ⟨_, i + 1, rfl, rfl, by omega, by omega, by omega⟩, by simp; omega⟩
      · simp only [step_spec_joLine_0, lt_len hlt, nonneg, Bool.and_self, cond_true, Int.toNat_natCast, w1, w2, w3, hm, hw]
        rfl
      · simp only [step_impl_LogEdit_line_0, lt_len hlt, nonneg, Bool.and_self, cond_true, Int.toNat_natCast, w1, w2, w3, hm, hw]
        rfl
    · left
      have : i = s.size := by omega
      subst this
      exact ⟨(s, m), (s, m), by simp only [step_spec_joLine_0, not_lt_len, cond_false], by simp only [step_impl_LogEdit_line_0, not_lt_len, cond_false], rfl, m, rfl, h0, h1⟩) (s, 3, 0) (s, 3, (s.size : Int), 0) ⟨3, 0, rfl, rfl, by omega, by omega, by omega⟩
  exact ⟨m, e1, e2, h0, h1⟩

/-- a line: the number, the sign, the gloss, a full stop, the check number, a newline -/
noncomputable def lineOf (e : Edit) (m : Int) : ByteArray := ((((it e.1 ++ (bif e.2.2 then (⟨#[45]⟩ : ByteArray) else (⟨#[43]⟩ : ByteArray))) ++ e.2.1) ++ (⟨#[46]⟩ : ByteArray)) ++ it m) ++ (⟨#[10]⟩ : ByteArray)
theorem line_form (e : Edit) (hok : edOK e = true) : ∃ m, F_spec_joLine e = some (lineOf e m) ∧ F_impl_LogEdit_line e = some (lineOf e m) ∧ (lineOf e m).size ≤ 30000 ∧ 0 ≤ m ∧ m ≤ 9972 := by
  obtain ⟨n, g, out⟩ := e
  simp only [edOK, gl, Bool.and_eq_true, decide_eq_true_eq] at hok
  obtain ⟨⟨n1, n2⟩, _, _, g2⟩ := hok
  have hy := it_size (n := n) (by omega) (by omega)
  have l1 := l1Num_is (n := n) (by omega) (by omega)
  have l2 := Itoa_is (n := n) (by omega) (by omega)
  have go : ∀ c : UInt8, ∃ t, (bif decide ((it n).size + (⟨#[c]⟩ : ByteArray).size ≤ 9223372036854775807) then true else false) = true ∧ decide ((it n ++ (⟨#[c]⟩ : ByteArray)).size + g.size ≤ 9223372036854775807) = true ∧
      ∃ m : Int, runL step_spec_joLine_0 ((it n ++ (⟨#[c]⟩ : ByteArray)) ++ g, 3, 0) = some ((it n ++ (⟨#[c]⟩ : ByteArray)) ++ g, m) ∧ runL step_impl_LogEdit_line_0 ((it n ++ (⟨#[c]⟩ : ByteArray)) ++ g, 3, (((it n ++ (⟨#[c]⟩ : ByteArray)) ++ g).size : Int), 0) = some ((it n ++ (⟨#[c]⟩ : ByteArray)) ++ g, m) ∧ (0 ≤ m ∧ m ≤ 9972) ∧
      F_spec_l1Num m = some (it m) ∧ F_strconv_Itoa m = some (it m) ∧
      decide (((it n ++ (⟨#[c]⟩ : ByteArray)) ++ g).size + (⟨#[46]⟩ : ByteArray).size ≤ 9223372036854775807) = true ∧
      decide ((((it n ++ (⟨#[c]⟩ : ByteArray)) ++ g) ++ (⟨#[46]⟩ : ByteArray)).size + (it m).size ≤ 9223372036854775807) = true ∧
      decide (((((it n ++ (⟨#[c]⟩ : ByteArray)) ++ g) ++ (⟨#[46]⟩ : ByteArray)) ++ it m).size + (⟨#[10]⟩ : ByteArray).size ≤ 9223372036854775807) = true ∧
      t = ((((it n ++ (⟨#[c]⟩ : ByteArray)) ++ g) ++ (⟨#[46]⟩ : ByteArray)) ++ it m) ++ (⟨#[10]⟩ : ByteArray) ∧ t.size ≤ 30000 := by
    intro c
    have z1 : (⟨#[c]⟩ : ByteArray).size = 1 := rfl
    have z2 : (⟨#[46]⟩ : ByteArray).size = 1 := rfl
    have z3 : (⟨#[10]⟩ : ByteArray).size = 1 := rfl
    have hg : g.size ≤ 8 := by omega
    obtain ⟨m, e1, e2, m0, m1⟩ := sum_loop ((it n ++ (⟨#[c]⟩ : ByteArray)) ++ g) (by simp only [ByteArray.size_append, z1]; omega)
    have hz := it_size (n := m) (by omega) (by omega)
    refine ⟨_, ?_, ?_, m, e1, e2, ⟨m0, m1⟩, l1Num_is (by omega) (by omega), Itoa_is (by omega) (by omega), ?_, ?_, ?_, rfl, ?_⟩
    · rw [decide_eq_true (show (it n).size + (⟨#[c]⟩ : ByteArray).size ≤ 9223372036854775807 by rw [z1]; omega)]; rfl
    · exact decide_eq_true (by simp only [ByteArray.size_append, z1]; omega)
    · exact decide_eq_true (by simp only [ByteArray.size_append, z1, z2]; omega)
    · exact decide_eq_true (by simp only [ByteArray.size_append, z1, z2]; omega)
    · exact decide_eq_true (by simp only [ByteArray.size_append, z1, z2, z3]; omega)
    · simp only [ByteArray.size_append, z1, z2, z3]; omega
  have un : ∀ b : Bool, (bif b then true else false) = true → b = true := by intro b; cases b <;> simp
  obtain ⟨tp, p1, p2, mp, p3, p4, pm, p5, p6, p7, p8, p9, rfl, p10⟩ := go 43
  obtain ⟨tm, q1, q2, mm, q3, q4, qm, q5, q6, q7, q8, q9, rfl, q10⟩ := go 45
  have p1 := un _ p1
  have q1 := un _ q1
  cases out with
  | false => exact ⟨mp, by simp only [F_spec_joLine, l1, p1, p2, p3, p5, p7, p8, p9, cond_true, cond_false, lineOf], by simp only [F_impl_LogEdit_line, l2, p1, p2, p4, p6, p7, p8, p9, cond_true, cond_false, lineOf], p10, pm⟩
  | true => exact ⟨mm, by simp only [F_spec_joLine, l1, p1, p2, q1, q2, q3, q5, q7, q8, q9, cond_true, cond_false, lineOf], by simp only [F_impl_LogEdit_line, l2, p1, p2, q1, q2, q4, q6, q7, q8, q9, cond_true, cond_false, lineOf], q10, qm⟩
theorem line_same (e : Edit) (hok : edOK e = true) : ∃ t, F_spec_joLine e = some t ∧ F_impl_LogEdit_line e = some t ∧ t.size ≤ 30000 := by
  obtain ⟨m, h1, h2, h3, _⟩ := line_form e hok
  exact ⟨_, h1, h2, h3⟩

theorem goodE_ok {l : List Edit} (h : goodE l = true) {i : Nat} (hi : i < l.length) : edOK (l.getD i dE) = true := by
  simp only [goodE, Bool.and_eq_true] at h
  have := allN_true.1 h.1 i hi
  simp only [goodEAt, Bool.and_eq_true] at this
  exact this.1

theorem text_same (l : List Edit) (hl : l.length ≤ 40) (hok : ∀ i, i < l.length → edOK (l.getD i dE) = true) : ∃ t, F_spec_joText l = some t ∧ F_impl_editsText l = some t ∧ t.size ≤ 1200000 := by
  obtain ⟨o, p, e1, e2, rfl, h⟩ := runL_sim (f := step_spec_joText_0) (g := step_impl_editsText_0) (fun a b => a = b ∧ ∃ (t : ByteArray) (i : Nat), a = (t, l, (l.length : Int), (i : Int)) ∧ i ≤ l.length ∧ t.size ≤ i * 30000)
    (fun o p => o = p ∧ o.size ≤ 1200000) (fun a => l.length - a.2.2.2.toNat) (by
    rintro a b ⟨rfl, t, i, rfl, hi, ht⟩
    rcases Nat.lt_or_ge i l.length with hlt | hge
    · right
      obtain ⟨y, y1, y2, y3⟩ := line_same (l.getD i dE) (hok i hlt)
      have hw := wrap_succ (i := i) (by omega)
      have hg : decide (t.size + y.size ≤ 9223372036854775807) = true := decide_eq_true (by omega)
      refine ⟨(t ++ y, l, (l.length : Int), ((i + 1 : Nat) : Int)), _, ?_, ?_, ⟨rfl, _, i + 1, rfl, by omega, by simp only [ByteArray.size_append]; omega⟩, by simp; omega⟩
      · simp only [step_spec_joText_0, lt_len hlt, nonneg, Bool.and_self, cond_true, Int.toNat_natCast, y1, hg, hw]
      · simp only [step_impl_editsText_0, lt_len hlt, nonneg, Bool.and_self, cond_true, Int.toNat_natCast, y2, hg, hw]
    · left
      have : i = l.length := by omega
      subst this
      exact ⟨t, t, by simp only [step_spec_joText_0, not_lt_len, cond_false], by simp only [step_impl_editsText_0, not_lt_len, cond_false], rfl, by omega⟩) (⟨#[]⟩, l, (l.length : Int), 0) (⟨#[]⟩, l, (l.length : Int), 0) ⟨rfl, _, 0, rfl, by omega, by have hz : (⟨#[]⟩ : ByteArray).size = 0 := rfl; omega⟩
  exact ⟨o, by simp only [F_spec_joText, e1], by simp only [F_impl_editsText, e2], h⟩

end Go.Proofs.YtjmagdcgniklgaaGreatDoor
/- A line of a text is parsed alike on both sides: plain laws. No conditions beyond the bounds that are named. -/
set_option linter.unusedVariables false
set_option linter.unusedSimpArgs false
namespace Go.Proofs.YtjmagdcgniklgaaGreatDoor
open Go

/-! ### Bytes -/
def ba (l : List UInt8) : ByteArray := ⟨l.toArray⟩
theorem ba_data (l : List UInt8) : (ba l).data.toList = l := rfl
theorem eq_ba (x : ByteArray) : x = ba x.data.toList := by
  rcases x with ⟨⟨l⟩⟩
  rfl
theorem ba_size (l : List UInt8) : (ba l).size = l.length := rfl
theorem ba_app (a b : List UInt8) : ba a ++ ba b = ba (a ++ b) := by
  have h : ∀ (x y : ByteArray), x.data.toList = y.data.toList → x = y := fun x y h => by rw [eq_ba x, eq_ba y, h]
  apply h
  simp [ba, ByteArray.data_append]
theorem ba_extract (l : List UInt8) (a b : Nat) : (ba l).extract a b = ba ((l.drop a).take (b - a)) := by
  have h : ∀ (x y : ByteArray), x.data.toList = y.data.toList → x = y := fun x y h => by rw [eq_ba x, eq_ba y, h]
  apply h
  rw [Lib.extract_data]
  rfl
theorem ba_byteAt (l : List UInt8) (i : Nat) : byteAt (ba l) i = ((l.getD i 0).toNat : Int) := rfl

/-! ### indexAny at the two signs, indexByte -/
theorem indexAny_some : ∀ {l : List UInt8} {o : Nat}, Lib.indexAny l [43, 45] = o → o < l.length ∧ (l.getD o 0 = 43 ∨ l.getD o 0 = 45)
  | [], o, h => by simp [Lib.indexAny] at h
  | b :: l, o, h => by
    unfold Lib.indexAny at h
    split at h
    · rename_i hb
      have : o = 0 := by omega
      subst this
      refine ⟨by simp, ?_⟩
      simpa using hb
    · split at h
      · omega
      · rename_i hl
        have hge := Lib.indexAny_ge [43, 45] l
        have hne : Lib.indexAny l [43, 45] ≠ -1 := fun e => hl (by rw [e]; rfl)
        obtain ⟨o', rfl⟩ : ∃ o', o = o' + 1 := ⟨o - 1, by omega⟩
        have ih := indexAny_some (l := l) (o := o') (by push_cast at h; omega)
        exact ⟨by simpa using ih.1, by simpa using ih.2⟩
theorem indexByte_at {l : List UInt8} {c : UInt8} {o : Nat} (h : l[o]? = some c) (hb : ∀ k, k < o → l[k]? ≠ some c) : Lib.indexByte l c = o := by
  have hge := Lib.indexByte_ge l c
  by_cases hn : Lib.indexByte l c = -1
  · exact absurd h (Lib.indexByte_none hn o)
  · obtain ⟨o', ho'⟩ : ∃ o' : Nat, Lib.indexByte l c = o' := ⟨(Lib.indexByte l c).toNat, by omega⟩
    obtain ⟨q1, q2⟩ := Lib.indexByte_some ho'
    rcases Nat.lt_trichotomy o o' with hlt | rfl | hgt
    · exact absurd h (q2 o hlt)
    · exact ho'
    · exact absurd q1 (hb o' hgt)

/-! ### Numerals of 1 to 999 -/
def digs (d : List Nat) : List UInt8 := d.map fun k => UInt8.ofNat (48 + k)
theorem it_cases {n : Int} (h1 : 1 ≤ n) (h2 : n ≤ 999) : (∃ a : Nat, 1 ≤ a ∧ a ≤ 9 ∧ n = a ∧ it n = ba (digs [a])) ∨ (∃ a b : Nat, 1 ≤ a ∧ a ≤ 9 ∧ b ≤ 9 ∧ n = 10 * a + b ∧ it n = ba (digs [a, b])) ∨
    (∃ a b c : Nat, 1 ≤ a ∧ a ≤ 9 ∧ b ≤ 9 ∧ c ≤ 9 ∧ n = 100 * a + 10 * b + c ∧ it n = ba (digs [a, b, c])) := by
  obtain ⟨k, rfl⟩ : ∃ k : Nat, n = (k : Int) := ⟨n.toNat, by omega⟩
  have e : it (k : Int) = ba (Lib.decDigits k) := by rw [it, Lib.itoa_nonneg]; rfl
  rcases Nat.lt_or_ge k 10 with h10 | h10
  · exact .inl ⟨k, by omega, by omega, rfl, by rw [e, Lib.decDigits_one h10]; rfl⟩
  · rcases Nat.lt_or_ge k 100 with h100 | h100
    · exact .inr (.inl ⟨k / 10, k % 10, by omega, by omega, by omega, by omega, by rw [e, Lib.decDigits_two (by omega) h100]; rfl⟩)
    · refine .inr (.inr ⟨k / 100, k / 10 % 10, k % 10, by omega, by omega, by omega, by omega, by omega, ?_⟩)
      rw [e, Lib.decDigits, dif_neg (by omega), Lib.decDigits_two (by omega) (by omega), Nat.div_div_eq_div_mul]
      rfl
theorem dig_nat {a : Nat} (h : a ≤ 9) : (UInt8.ofNat (48 + a)).toNat = 48 + a := by simp; omega
theorem atoi1 : ∀ a : Fin 10, Lib.atoiAll (digs [a.val]) = .ok (a.val : Int) := by decide +kernel
theorem atoi2 : ∀ a b : Fin 10, Lib.atoiAll (digs [a.val, b.val]) = .ok (10 * (a.val : Int) + b.val) := by decide +kernel
theorem atoi3 : ∀ a b c : Fin 10, Lib.atoiAll (digs [a.val, b.val, c.val]) = .ok (100 * (a.val : Int) + 10 * b.val + c.val) := by decide +kernel
theorem atoi_it {n : Int} (h1 : 1 ≤ n) (h2 : n ≤ 999) : Lib.atoiAll (it n).data.toList = .ok n := by
  rcases it_cases h1 h2 with ⟨a, a1, a9, rfl, e⟩ | ⟨a, b, a1, a9, b9, rfl, e⟩ | ⟨a, b, c, a1, a9, b9, c9, rfl, e⟩
  · rw [e]; exact atoi1 ⟨a, by omega⟩
  · rw [e]; exact atoi2 ⟨a, by omega⟩ ⟨b, by omega⟩
  · rw [e]; exact atoi3 ⟨a, by omega⟩ ⟨b, by omega⟩ ⟨c, by omega⟩
theorem decimal_total (s : ByteArray) (hs : s.size ≤ 281474976710656) : F_impl_decimal s = some (decOf s) := by
  rw [F_impl_decimal_is, decide_eq_true hs]; rfl
theorem decimal_it {n : Int} (h1 : 1 ≤ n) (h2 : n ≤ 999) : decOf (it n) = (n, true) := by
  unfold decOf
  rw [atoi_it h1 h2]
  have : decide ((⟨(Lib.itoa n).toArray⟩ : ByteArray) = it n) = true := decide_eq_true rfl
  simp only [this, cond_true]
theorem it_digits {n : Int} (h1 : 1 ≤ n) (h2 : n ≤ 999) : 1 ≤ (it n).data.toList.length ∧ (it n).data.toList.length ≤ 3 ∧ ∀ b ∈ (it n).data.toList, 48 ≤ b.toNat ∧ b.toNat ≤ 57 := by
  have key : ∀ d : List Nat, 1 ≤ d.length → d.length ≤ 3 → (∀ k ∈ d, k ≤ 9) → 1 ≤ (digs d).length ∧ (digs d).length ≤ 3 ∧ ∀ b ∈ digs d, 48 ≤ b.toNat ∧ b.toNat ≤ 57 := by
    intro d h1 h3 h9
    refine ⟨by simpa [digs] using h1, by simpa [digs] using h3, fun b hb => ?_⟩
    obtain ⟨k, hk, rfl⟩ := List.mem_map.1 hb
    rw [dig_nat (h9 k hk)]
    have := h9 k hk
    omega
  rcases it_cases h1 h2 with ⟨a, a1, a9, rfl, e⟩ | ⟨a, b, a1, a9, b9, rfl, e⟩ | ⟨a, b, c, a1, a9, b9, c9, rfl, e⟩
  · rw [e]; exact key [a] (by simp) (by simp) (by simp; omega)
  · rw [e]; exact key [a, b] (by simp) (by simp) (by simp; omega)
  · rw [e]; exact key [a, b, c] (by simp) (by simp) (by simp; omega)

/-! ### The reference's reading of a number -/
theorem read_total (x : ByteArray) : ∃ n, F_spec_l1Read x = some n := by
  have loop : x.size ≤ 6 → ∃ o, runL step_spec_l1Read_0 (x, 0, 0) = some o := fun hx => by
    obtain ⟨o, e, _⟩ := runL_inv (f := step_spec_l1Read_0) (fun s => ∃ (v : Int) (i : Nat), s = (x, v, (i : Int)) ∧ i ≤ x.size) (fun _ => True) (fun s => x.size - s.2.2.toNat) (by
      rintro s ⟨v, i, rfl, hi⟩
      rcases Nat.lt_or_ge i x.size with hlt | hge
      · have hw := wrap_succ (i := i) (by omega)
        simp only [step_spec_l1Read_0, lt_len hlt, nonneg, Bool.and_self, cond_true, Int.toNat_natCast, hw]
        cases decide (byteAt x i < 48)
        · cases decide (byteAt x i > 57)
          · exact .inr ⟨_, rfl, ⟨_, i + 1, rfl, by omega⟩, by simp; omega⟩
          · exact .inl ⟨_, rfl, trivial⟩
        · exact .inl ⟨_, rfl, trivial⟩
      · have : i = x.size := by omega
        subst this
        exact .inl ⟨.inr v, by simp only [step_spec_l1Read_0, not_lt_len, cond_false], trivial⟩) (x, 0, 0) ⟨0, 0, rfl, by omega⟩
    exact ⟨o, e⟩
  unfold F_spec_l1Read
  rw [l1In_is]
  by_cases h6 : (x.size : Int) ≤ 6
  · by_cases h1 : 1 ≤ (x.size : Int)
    · obtain ⟨o, e⟩ := loop (by omega)
      have h0 : decide (0 < (x.size : Int)) = true := decide_eq_true (by omega)
      simp only [decide_eq_true h1, decide_eq_true h6, h0, Bool.and_self, Bool.not_true, cond_false, e, decide_true, Int.le_refl, cond_true]
      cases byteAt x (0 : Int).toNat == 48
      · cases o <;> exact ⟨_, rfl⟩
      · cases decide ((x.size : Int) > 1)
        · cases o <;> exact ⟨_, rfl⟩
        · exact ⟨_, rfl⟩
    · simp only [decide_eq_false h1, Bool.false_and, Bool.not_false, cond_true]
      exact ⟨_, rfl⟩
  · simp only [decide_eq_false h6, Bool.and_false, Bool.not_false, cond_true]
    exact ⟨_, rfl⟩
theorem read_it {n : Int} (h1 : 1 ≤ n) (h2 : n ≤ 999) : F_spec_l1Read (it n) = some n := by
  have key : ∀ (d : List Nat) (m : Nat), 1 ≤ d.length → d.length ≤ 3 → (∀ k ∈ d, k ≤ 9) → d.getD 0 0 ≠ 0 → d.foldl (fun v k => 10 * v + k) 0 = m → F_spec_l1Read (ba (digs d)) = some (m : Int) := by
    intro d m hd1 hd3 h9 hne hm
    have hsz : (ba (digs d)).size = d.length := by rw [ba_size]; simp [digs]
    have hat : ∀ i, i < d.length → byteAt (ba (digs d)) i = 48 + (d.getD i 0 : Int) ∧ d.getD i 0 ≤ 9 := by
      intro i hi
      have hk := h9 _ (getD_mem hi 0)
      refine ⟨?_, hk⟩
      rw [ba_byteAt]
      have : (digs d).getD i 0 = UInt8.ofNat (48 + d.getD i 0) := by simp [digs, List.getD, List.getElem?_eq_getElem hi]
      rw [this, dig_nat hk]
      omega
    have hval : ∀ i, i ≤ d.length → (d.take i).foldl (fun v k => 10 * v + k) 0 < 10 ^ i := by
      intro i
      induction i with
      | zero => intro _; simp
      | succ i ih =>
        intro hi
        rw [take_succ_getD (by omega) 0, List.foldl_append]
        have := ih (by omega)
        have hk := (hat i (by omega)).2
        simp only [List.foldl_cons, List.foldl_nil]
        rw [Nat.pow_succ]
        omega
    have hpow : ∀ i, i ≤ 3 → 10 ^ i ≤ 1000 := fun i hi => Nat.pow_le_pow_right (n := 10) (by decide) hi
    have tr := runL_traj (f := step_spec_l1Read_0) (fun i => (ba (digs d), (((d.take i).foldl (fun v k => 10 * v + k) 0 : Nat) : Int), (i : Int))) (.inr (m : Int)) d.length (fun i hi => by
      obtain ⟨hb, hk⟩ := hat i hi
      have hw := wrap_succ (i := i) (by omega)
      have hv := hval i (by omega)
      have hp := hpow i (by omega)
      have hlt : decide ((i : Int) < ((ba (digs d)).size : Int)) = true := by rw [hsz]; exact lt_len hi
      generalize hvv : (d.take i).foldl (fun v k => 10 * v + k) 0 = v at *
      have w1 : IntKind.i64.wrap (10 * (v : Int)) = 10 * (v : Int) := wrap_id (by omega) (by omega)
      have w2 : IntKind.u8.wrap (byteAt (ba (digs d)) i - 48) = (d.getD i 0 : Int) := by
        rw [hb, show (48 + (d.getD i 0 : Int) - 48) = (d.getD i 0 : Int) by omega]
        unfold IntKind.wrap
        simp only [IntKind.bits, IntKind.signed]
        simp only [Bool.false_and, Bool.false_eq_true, if_false]
        rw [show ((2 : Int) ^ 8) = 256 from rfl]
        omega
      have w3 : IntKind.i64.wrap (d.getD i 0 : Int) = (d.getD i 0 : Int) := wrap_id (by omega) (by omega)
      have w4 : IntKind.i64.wrap (10 * (v : Int) + (d.getD i 0 : Int)) = 10 * (v : Int) + (d.getD i 0 : Int) := wrap_id (by omega) (by omega)
      have c1 : decide (byteAt (ba (digs d)) i < 48) = false := decide_eq_false (by omega)
      have c2 : decide (byteAt (ba (digs d)) i > 57) = false := decide_eq_false (by omega)
      have hs : (d.take (i + 1)).foldl (fun v k => 10 * v + k) 0 = 10 * v + d.getD i 0 := by
        rw [take_succ_getD (by omega) 0, List.foldl_append, hvv]
        rfl
      simp only [step_spec_l1Read_0, hlt, nonneg, Bool.and_self, cond_true, Int.toNat_natCast, c1, c2, cond_false, w1, w2, w3, w4, hw, hs]
      push_cast
      rfl) (by
      have hn : decide (((d.length : Nat) : Int) < ((ba (digs d)).size : Int)) = false := by rw [hsz]; exact not_lt_len _
      simp only [step_spec_l1Read_0, hn, cond_false, List.take_length, hm])
    have tr' : runL step_spec_l1Read_0 (ba (digs d), (0 : Int), (0 : Int)) = some (.inr (m : Int)) := by
      have := tr
      simpa using this
    have hb0 : (byteAt (ba (digs d)) (0 : Int).toNat == 48) = false := by
      obtain ⟨hb, _⟩ := hat 0 (by omega)
      show (byteAt (ba (digs d)) 0 == 48) = false
      rw [hb]
      simp only [beq_eq_false_iff_ne, ne_eq]
      omega
    unfold F_spec_l1Read
    rw [l1In_is, hsz]
    have g1 : decide (1 ≤ (d.length : Int)) = true := decide_eq_true (by omega)
    have g2 : decide ((d.length : Int) ≤ 6) = true := decide_eq_true (by omega)
    have g3 : decide (0 < (d.length : Int)) = true := decide_eq_true (by omega)
    simp only [g1, g2, g3, Bool.and_self, Bool.not_true, cond_false, decide_true, Int.le_refl, cond_true, hb0, tr']
    rfl
  rcases it_cases h1 h2 with ⟨a, a1, a9, rfl, e⟩ | ⟨a, b, a1, a9, b9, rfl, e⟩ | ⟨a, b, c, a1, a9, b9, c9, rfl, e⟩
  · rw [e]; exact key [a] a (by simp) (by simp) (by simp; omega) (by simp; omega) (by simp)
  · rw [e, show (10 * (a : Int) + b) = ((10 * a + b : Nat) : Int) by omega]; exact key [a, b] _ (by simp) (by simp) (by simp; omega) (by simp; omega) (by simp)
  · rw [e, show (100 * (a : Int) + 10 * b + c) = ((10 * (10 * a + b) + c : Nat) : Int) by omega]; exact key [a, b, c] _ (by simp) (by simp) (by simp; omega) (by simp; omega) (by simp)
end Go.Proofs.YtjmagdcgniklgaaGreatDoor
/- A line of a text is parsed alike on both sides: the law. No conditions beyond the bounds that are named. -/
set_option linter.unusedVariables false
set_option linter.unusedSimpArgs false
namespace Go.Proofs.YtjmagdcgniklgaaGreatDoor
open Go

/-! ### The reference's splitting: what comes first -/
def FirstDot (x : ByteArray) (k : Nat) : Prop := k < x.size ∧ byteAt x k = 46 ∧ ∀ j, j < k → byteAt x j ≠ 46
theorem FirstDot.uniq {x : ByteArray} {k k' : Nat} (h : FirstDot x k) (h' : FirstDot x k') : k = k' := by
  rcases Nat.lt_trichotomy k k' with hl | he | hg
  · exact absurd h.2.1 (h'.2.2 k hl)
  · exact he
  · exact absurd h'.2.1 (h.2.2 k' hg)
theorem size_extract_le (x : ByteArray) (a b : Nat) : (x.extract a b).size ≤ x.size := by
  rw [eq_ba x, ba_extract, ba_size, ba_size]
  simp
  omega
theorem split_head (x : ByteArray) (hs : x.size ≤ 1048576) : ∃ l, F_spec_l1Split (x, 46) = some l ∧ 0 < l.length ∧ (l.getD 0 ByteArray.empty).size ≤ x.size ∧ ∀ k, FirstDot x k → l.getD 0 ByteArray.empty = x.extract 0 k := by
  obtain ⟨o, e, st, parts, rfl, h1, h2, h3⟩ := runL_inv (f := step_spec_l1Split_0)
    (fun s => ∃ (st i : Nat) (parts : List ByteArray), s = (x, 46, (st : Int), (i : Int), parts) ∧ st ≤ i ∧ i ≤ x.size ∧ parts.length ≤ i ∧ ((parts = [] ∧ st = 0 ∧ ∀ j, j < i → byteAt x j ≠ 46) ∨ ∃ k rest, parts = x.extract 0 k :: rest ∧ FirstDot x k))
    (fun o => ∃ (st : Nat) (parts : List ByteArray), o = (x, (st : Int), parts) ∧ st ≤ x.size ∧ parts.length ≤ x.size ∧ ((parts = [] ∧ st = 0 ∧ ∀ j, j < x.size → byteAt x j ≠ 46) ∨ ∃ k rest, parts = x.extract 0 k :: rest ∧ FirstDot x k)) (fun s => x.size - s.2.2.2.1.toNat) (by
    rintro s ⟨st, i, parts, rfl, h1, h2, h3, h4⟩
    rcases Nat.lt_or_ge i x.size with hlt | hge
    · right
      have hw := wrap_succ (i := i) (by omega)
      by_cases hd : byteAt x i = 46
      · have g1 : decide ((st : Int) ≤ (i : Int)) = true := decide_eq_true (by omega)
        have g2 : decide ((i : Int) ≤ (x.size : Int)) = true := decide_eq_true (by omega)
        have g3 : decide ((parts.length + [x.extract st i].length) * 16 ≤ 140737488355328) = true := decide_eq_true (by show (parts.length + 1) * 16 ≤ _; omega)
        refine ⟨(x, 46, ((i + 1 : Nat) : Int), ((i + 1 : Nat) : Int), parts ++ [x.extract st i]), ?_, ⟨i + 1, i + 1, _, rfl, by omega, by omega, by simp; omega, ?_⟩, by simp; omega⟩
        · simp only [step_spec_l1Split_0, lt_len hlt, nonneg, Bool.and_self, cond_true, Int.toNat_natCast, hd, beq_self_eq_true, g1, g2, g3, hw]
        · rcases h4 with ⟨rfl, rfl, hb⟩ | ⟨k, rest, rfl, hk⟩
          · exact .inr ⟨i, [], rfl, hlt, hd, hb⟩
          · exact .inr ⟨k, rest ++ [x.extract st i], rfl, hk⟩
      · have hd' : (byteAt x i == 46) = false := by simpa using hd
        refine ⟨(x, 46, (st : Int), ((i + 1 : Nat) : Int), parts), ?_, ⟨st, i + 1, _, rfl, by omega, by omega, by omega, ?_⟩, by simp; omega⟩
        · simp only [step_spec_l1Split_0, lt_len hlt, nonneg, Bool.and_self, cond_true, Int.toNat_natCast, hd', cond_false, hw]
        · rcases h4 with ⟨rfl, rfl, hb⟩ | h
          · refine .inl ⟨rfl, rfl, fun j hj => ?_⟩
            rcases Nat.lt_or_ge j i with q | q
            · exact hb j q
            · obtain rfl : j = i := by omega
              exact hd
          · exact .inr h
    · left
      have : i = x.size := by omega
      subst this
      exact ⟨(x, (st : Int), parts), by simp only [step_spec_l1Split_0, not_lt_len, cond_false], st, parts, rfl, h1, h3, h4⟩) (x, 46, 0, 0, []) ⟨0, 0, [], rfl, by omega, by omega, by simp, .inl ⟨rfl, rfl, fun j hj => by omega⟩⟩
  have g1 : decide ((st : Int) ≤ (x.size : Int)) = true := decide_eq_true (by omega)
  have g2 : decide ((x.size : Int) ≤ (x.size : Int)) = true := decide_eq_true (by omega)
  have g3 : decide ((parts.length + [x.extract st x.size].length) * 16 ≤ 140737488355328) = true := decide_eq_true (by show (parts.length + 1) * 16 ≤ _; omega)
  refine ⟨parts ++ [x.extract st x.size], ?_, by simp, ?_, ?_⟩
  · simp only [F_spec_l1Split, e, nonneg, g1, g2, Bool.and_self, cond_true, Int.toNat_natCast, g3]
  · rcases h3 with ⟨rfl, rfl, _⟩ | ⟨k, rest, rfl, _⟩
    · exact size_extract_le x _ _
    · exact size_extract_le x _ _
  · intro k hk
    rcases h3 with ⟨rfl, rfl, hb⟩ | ⟨k', rest, rfl, hk'⟩
    · exact absurd hk.2.1 (hb k hk.1)
    · rw [hk.uniq hk']
      rfl

/-! ### The bytes of a line -/
def sgn (b : Bool) : UInt8 := bif b then 45 else 43
noncomputable def lineL (e : Edit) (m : Int) : List UInt8 := (it e.1).data.toList ++ (sgn e.2.2 :: (e.2.1.data.toList ++ (46 :: ((it m).data.toList ++ [10]))))
theorem lineOf_ba (e : Edit) (m : Int) : lineOf e m = ba (lineL e m) := by
  obtain ⟨n, g, b⟩ := e
  have hb : (bif b then (⟨#[45]⟩ : ByteArray) else (⟨#[43]⟩ : ByteArray)) = ba [sgn b] := by cases b <;> rfl
  have h46 : (⟨#[46]⟩ : ByteArray) = ba [46] := rfl
  have h10 : (⟨#[10]⟩ : ByteArray) = ba [10] := rfl
  unfold lineOf lineL
  simp only []
  rw [hb, h46, h10]
  conv => lhs; rw [eq_ba (it n), eq_ba g, eq_ba (it m)]
  simp only [ba_app, ba_data]
  congr 1
  simp
theorem dec_len : ∀ (k u : Nat), 1 ≤ k → u < 10 ^ k → (Lib.decDigits u).length ≤ k
  | 0, _, h, _ => by omega
  | 1, u, _, h => by rw [Lib.decDigits_one (by simpa using h)]; simp
  | k + 2, u, _, h => by
    rw [Lib.decDigits]
    split
    · simp
    · rw [List.length_append]
      have := dec_len (k + 1) (u / 10) (by omega) (by rw [Nat.pow_succ] at h; omega)
      simp
      omega
theorem it_len {m : Int} (h0 : 0 ≤ m) (h1 : m ≤ 9999) : (it m).data.toList.length ≤ 4 := by
  obtain ⟨k, rfl⟩ : ∃ k : Nat, m = (k : Int) := ⟨m.toNat, by omega⟩
  have e : it (k : Int) = ba (Lib.decDigits k) := by rw [it, Lib.itoa_nonneg]; rfl
  rw [e]
  exact dec_len 4 k (by omega) (by have : (10 : Nat) ^ 4 = 10000 := rfl; omega)
theorem gl_bytes {g : ByteArray} (h : gl g = true) : g.data.toList.length ≤ 8 ∧ ∀ b ∈ g.data.toList, 65 ≤ b.toNat ∧ b.toNat ≤ 90 := by
  simp only [gl, Bool.and_eq_true, decide_eq_true_eq, capsOnly] at h
  obtain ⟨hc, h1, h8⟩ := h
  have hl : g.data.toList.length = g.size := rfl
  refine ⟨by omega, fun b hb => ?_⟩
  obtain ⟨i, hi, rfl⟩ := List.mem_iff_getElem.1 hb
  have := allN_true.1 hc i hi
  simp only [byteAt, List.getD, List.getElem?_eq_getElem hi, Option.getD_some, Bool.and_eq_true, decide_eq_true_eq] at this
  omega
theorem edOK_parts {e : Edit} (h : edOK e = true) : 1 ≤ e.1 ∧ e.1 ≤ 999 ∧ gl e.2.1 = true := by
  simp only [edOK, Bool.and_eq_true, decide_eq_true_eq] at h
  exact ⟨h.1.1, h.1.2, h.2⟩
theorem toList_eq (x y : ByteArray) : (x.toList == y.toList) = decide (x = y) := by
  rw [Lib.toList_data, Lib.toList_data]
  by_cases h : x = y
  · subst h
    simp
  · rw [decide_eq_false h]
    refine beq_eq_false_iff_ne.2 fun e => h ?_
    rw [eq_ba x, eq_ba y, e]

/-- where a line's parts lie -/
theorem line_parts {e : Edit} (hok : edOK e = true) {m : Int} (m0 : 0 ≤ m) (m1 : m ≤ 9972) {x : ByteArray} (hx : x = lineOf e m) :
    ∃ a z : Nat, 1 ≤ a ∧ a ≤ 3 ∧ z = a + 1 + e.2.1.size ∧ z < x.size ∧ x.size ≤ 100 ∧ x.extract 0 a = it e.1 ∧ x.extract (a + 1) z = e.2.1 ∧ byteAt x a = (sgn e.2.2).toNat ∧ byteAt x z = 46 ∧
      (∀ j, j < a → 48 ≤ byteAt x j ∧ byteAt x j ≤ 57) ∧ ∀ j, a < j → j < z → byteAt x j ≠ 46 := by
  obtain ⟨n1, n2, hg⟩ := edOK_parts hok
  obtain ⟨d1, d3, dd⟩ := it_digits n1 n2
  obtain ⟨g8, gg⟩ := gl_bytes hg
  have hm := it_len m0 (by omega)
  rw [lineOf_ba] at hx
  subst hx
  have hL : (lineL e m).length = (it e.1).data.toList.length + 1 + e.2.1.data.toList.length + 1 + (it m).data.toList.length + 1 := by simp [lineL]; omega
  refine ⟨(it e.1).data.toList.length, (it e.1).data.toList.length + 1 + e.2.1.data.toList.length, d1, d3, rfl, ?_, ?_, ?_, ?_, ?_, ?_, ?_, ?_⟩
  · rw [ba_size, hL]; omega
  · rw [ba_size, hL]; omega
  · rw [ba_extract]
    conv => rhs; rw [eq_ba (it e.1)]
    congr 1
    simp [lineL]
  · rw [ba_extract]
    conv => rhs; rw [eq_ba e.2.1]
    congr 1
    unfold lineL
    rw [List.drop_append, List.drop_of_length_le (by omega), List.nil_append, show (it e.1).data.toList.length + 1 - (it e.1).data.toList.length = 1 by omega, List.drop_one, List.tail_cons, show (it e.1).data.toList.length + 1 + e.2.1.data.toList.length - ((it e.1).data.toList.length + 1) = e.2.1.data.toList.length by omega]
    simp
  · rw [ba_byteAt]
    unfold lineL
    simp [List.getD]
  · rw [ba_byteAt]
    have : (lineL e m).getD ((it e.1).data.toList.length + 1 + e.2.1.data.toList.length) 0 = 46 := by
      unfold lineL
      rw [List.getD, List.getElem?_append_right (by omega), show (it e.1).data.toList.length + 1 + e.2.1.data.toList.length - (it e.1).data.toList.length = e.2.1.data.toList.length + 1 by omega, List.getElem?_cons_succ, List.getElem?_append_right (Nat.le_refl _), Nat.sub_self]
      rfl
    rw [this]
    rfl
  · intro j hj
    rw [ba_byteAt]
    have : (lineL e m).getD j 0 = (it e.1).data.toList[j] := by
      unfold lineL
      rw [List.getD, List.getElem?_append_left hj, List.getElem?_eq_getElem hj]
      rfl
    rw [this]
    have := dd _ (List.getElem_mem hj)
    omega
  · intro j h1 h2
    rw [ba_byteAt]
    have hj : j - ((it e.1).data.toList.length + 1) < e.2.1.data.toList.length := by omega
    have : (lineL e m).getD j 0 = e.2.1.data.toList[j - ((it e.1).data.toList.length + 1)] := by
      unfold lineL
      rw [List.getD, List.getElem?_append_right (by omega), show j - (it e.1).data.toList.length = (j - ((it e.1).data.toList.length + 1)) + 1 by omega, List.getElem?_cons_succ, List.getElem?_append_left hj, List.getElem?_eq_getElem hj]
      rfl
    rw [this]
    have := gg _ (List.getElem_mem hj)
    omega

theorem bytes_get {x : ByteArray} {i : Nat} (h : i < x.size) {b : UInt8} (hb : byteAt x i = (b.toNat : Int)) : x.data.toList[i]? = some b := by
  have hi : i < x.data.toList.length := h
  rw [List.getElem?_eq_getElem hi]
  simp only [byteAt, List.getD, List.getElem?_eq_getElem hi, Option.getD_some] at hb
  have : x.data.toList[i].toNat = b.toNat := by omega
  rw [UInt8.toNat_inj.1 this]
theorem get_bytes {x : ByteArray} {i : Nat} {b : UInt8} (h : x.data.toList[i]? = some b) : byteAt x i = (b.toNat : Int) := by
  simp only [byteAt, List.getD, h, Option.getD_some]
theorem sgn_cases (b : Bool) : sgn b = 43 ∨ sgn b = 45 := by cases b <;> simp [sgn]
theorem sgn_is (b : Bool) : (((sgn b).toNat : Int) == 45) = b := by cases b <;> rfl

/-! ### The program's side -/
theorem impl_line {e : Edit} (hok : edOK e = true) {m : Int} (m0 : 0 ≤ m) (m1 : m ≤ 9972) {x : ByteArray} (hx : x = lineOf e m) (hl : F_impl_LogEdit_line e = some x) : F_impl_ParseEditLine x = some (e, true) := by
  obtain ⟨a, z, a1, a3, rfl, zx, x100, p1, p2, p3, p4, p5, p6⟩ := line_parts hok m0 m1 hx
  obtain ⟨n1, n2, hg⟩ := edOK_parts hok
  obtain ⟨g8, gg⟩ := gl_bytes hg
  have g8 : e.2.1.size ≤ 8 := g8
  have i1 : Lib.indexAny x.data.toList [43, 45] = (a : Int) := by
    refine Lib.indexAny_hit (x := sgn e.2.2) ?_ (bytes_get (by omega) p3) ?_
    · intro j b hj hb
      have := p5 j hj
      rw [get_bytes hb] at this
      have h1 : b ≠ 43 := fun e => by subst e; simp at this
      have h2 : b ≠ 45 := fun e => by subst e; simp at this
      simp [h1, h2]
    · rcases sgn_cases e.2.2 with h | h <;> rw [h] <;> rfl
  have i2 : Lib.indexByte x.data.toList 46 = ((a + 1 + e.2.1.size : Nat) : Int) := by
    refine indexByte_at (bytes_get zx (by rw [p4]; rfl)) fun k hk hb => ?_
    have hb := get_bytes hb
    rcases Nat.lt_trichotomy k a with q | rfl | q
    · have := p5 k q
      rw [hb] at this
      simp at this
    · rw [p3] at hb
      rcases sgn_cases e.2.2 with h | h <;> rw [h] at hb <;> simp at hb
    · exact p6 k q hk (by rw [hb]; rfl)
  have y1 : F_strings_IndexAny (x, (⟨#[43, 45]⟩ : ByteArray)) = some (a : Int) := by
    rw [F_strings_IndexAny_is, i1, decide_eq_true (show x.size < 4294967281 by omega), decide_eq_true (show (⟨#[43, 45]⟩ : ByteArray) = pm from rfl)]
    rfl
  have y2 : F_strings_IndexByte (x, 46) = some ((a + 1 + e.2.1.size : Nat) : Int) := by
    rw [← i2]; rfl
  have c1 : decide ((a : Int) < 0) = false := decide_eq_false (by omega)
  have c2 : decide (((a + 1 + e.2.1.size : Nat) : Int) < (a : Int)) = false := decide_eq_false (by omega)
  have c3 : decide ((x.size : Int) > 2000) = false := decide_eq_false (by omega)
  have w := wrap_succ (i := a) (by omega)
  have g2 : decide (((a + 1 : Nat) : Int) ≤ ((a + 1 + e.2.1.size : Nat) : Int)) = true := decide_eq_true (by omega)
  have g3 : decide (((a + 1 + e.2.1.size : Nat) : Int) ≤ (x.size : Int)) = true := decide_eq_true (by omega)
  have g4 : decide ((a : Int) < (x.size : Int)) = true := decide_eq_true (by omega)
  have g5 : decide ((a : Int) ≤ (x.size : Int)) = true := decide_eq_true (by omega)
  have g6 : decide (0 ≤ (0 : Int)) = true := rfl
  have q1 : x.extract (0 : Int).toNat a = it e.1 := p1
  have q4 : F_impl_decimal (it e.1) = some (e.1, true) := by
    rw [decimal_total _ (by have := it_size (n := e.1) (by omega) (by omega); omega), decimal_it n1 n2]
  have he : (e.1, e.2.1, e.2.2) = e := rfl
  simp only [F_impl_ParseEditLine, y1, y2, c1, c2, c3, cond_false, w, nonneg, g2, g3, g4, g5, g6, Bool.and_self, cond_true, Int.toNat_natCast, q1, q4, p2, p3, sgn_is, he, isLogEdit_is e (by omega), hok, Bool.not_true, hl, beq_self_eq_true]
theorem impl_no {x : ByteArray} (hs : x.size ≤ 1048576) (hno : ∀ e t, edOK e = true → F_impl_LogEdit_line e = some t → t ≠ x) : F_impl_ParseEditLine x = some ((0, ByteArray.empty, false), false) := by
  have y1 : F_strings_IndexAny (x, (⟨#[43, 45]⟩ : ByteArray)) = some (Lib.indexAny x.data.toList [43, 45]) := by
    rw [F_strings_IndexAny_is, decide_eq_true (show x.size < 4294967281 by omega), decide_eq_true (show (⟨#[43, 45]⟩ : ByteArray) = pm from rfl)]
    rfl
  have y2 : F_strings_IndexByte (x, 46) = some (Lib.indexByte x.data.toList 46) := rfl
  have k1 := Lib.indexAny_ge [43, 45] x.data.toList
  have k2 := Lib.indexByte_ge x.data.toList 46
  generalize h1 : Lib.indexAny x.data.toList [43, 45] = a at *
  generalize h2 : Lib.indexByte x.data.toList 46 = z at *
  by_cases c1 : a < 0
  · simp only [F_impl_ParseEditLine, y1, y2, decide_eq_true c1, cond_true]
  by_cases c2 : z < a
  · simp only [F_impl_ParseEditLine, y1, y2, decide_eq_false c1, decide_eq_true c2, cond_true, cond_false]
  by_cases c3 : (x.size : Int) > 2000
  · simp only [F_impl_ParseEditLine, y1, y2, decide_eq_false c1, decide_eq_false c2, decide_eq_true c3, cond_true, cond_false]
  obtain ⟨a, rfl⟩ : ∃ n : Nat, a = (n : Int) := ⟨a.toNat, by omega⟩
  obtain ⟨z, rfl⟩ : ∃ n : Nat, z = (n : Int) := ⟨z.toNat, by omega⟩
  obtain ⟨a1, a2⟩ := indexAny_some h1
  obtain ⟨z1, _⟩ := Lib.indexByte_some h2
  have hz : z < x.size := (List.getElem?_eq_some_iff.1 z1).1
  have ha : a < x.size := a1
  have hne : a ≠ z := by
    rintro rfl
    have : x.data.toList.getD a 0 = 46 := by simp [List.getD, z1]
    rw [this] at a2
    simp at a2
  have w := wrap_succ (i := a) (by omega)
  have g2 : decide (((a + 1 : Nat) : Int) ≤ (z : Int)) = true := decide_eq_true (by omega)
  have g3 : decide ((z : Int) ≤ (x.size : Int)) = true := decide_eq_true (by omega)
  have g4 : decide ((a : Int) < (x.size : Int)) = true := decide_eq_true (by omega)
  have g5 : decide ((a : Int) ≤ (x.size : Int)) = true := decide_eq_true (by omega)
  have g6 : decide (0 ≤ (0 : Int)) = true := rfl
  have s1 := size_extract_le x (0 : Int).toNat a
  have s2 := size_extract_le x (a + 1) z
  have d := decimal_total (x.extract (0 : Int).toNat a) (by omega)
  generalize decOf (x.extract (0 : Int).toNat a) = y4 at d
  have hl := isLogEdit_is (y4.1, x.extract (a + 1) z, byteAt x a == 45) (by show (x.extract (a + 1) z).size ≤ _; omega)
  simp only [F_impl_ParseEditLine, y1, y2, decide_eq_false c1, decide_eq_false c2, decide_eq_false c3, cond_false, w, nonneg, g2, g3, g4, g5, g6, Bool.and_self, cond_true, Int.toNat_natCast, d, hl]
  cases hok : edOK (y4.1, x.extract (a + 1) z, byteAt x a == 45) with
  | false => simp only [Bool.not_false, cond_true]
  | true =>
    obtain ⟨m, _, e2, _⟩ := line_form _ hok
    have hn : (!(lineOf (y4.1, x.extract (a + 1) z, byteAt x a == 45) m).toList == x.toList) = true := by
      rw [toList_eq, decide_eq_false (hno _ _ hok e2)]; rfl
    simp only [Bool.not_true, cond_false, e2, hn, cond_true]

/-! ### The reference's side -/
theorem spec_line {e : Edit} (hok : edOK e = true) {m : Int} (m0 : 0 ≤ m) (m1 : m ≤ 9972) {x : ByteArray} (hx : x = lineOf e m) (hl : F_spec_joLine e = some x) : F_spec_joParse x = some (e, true) := by
  obtain ⟨a, z, a1, a3, rfl, zx, x100, p1, p2, p3, p4, p5, p6⟩ := line_parts hok m0 m1 hx
  obtain ⟨n1, n2, hg⟩ := edOK_parts hok
  obtain ⟨g8, gg⟩ := gl_bytes hg
  have g8 : e.2.1.size ≤ 8 := g8
  have tail : ∀ i, byteAt (x.extract (a + 1) x.size) i = byteAt x (a + 1 + i) := by
    intro i
    rw [eq_ba x, ba_extract, ba_byteAt, ba_byteAt]
    congr 2
    simp only [ba_size, List.getD, List.getElem?_take, List.getElem?_drop]
    split
    · rfl
    · rw [List.getElem?_eq_none (by omega)]
  have tsz : (x.extract (a + 1) x.size).size = x.size - (a + 1) := by
    rw [eq_ba x, ba_extract, ba_size, ba_size]
    simp
  obtain ⟨l, s1, s2, s3, s4⟩ := split_head (x.extract (a + 1) x.size) (by omega)
  have hh := s4 e.2.1.size ⟨by omega, by rw [tail, p4], fun j hj => by rw [tail]; exact p6 _ (by omega) (by omega)⟩
  have hh2 : l.getD (0 : Int).toNat ByteArray.empty = e.2.1 := by
    show l.getD 0 ByteArray.empty = _
    rw [hh]
    conv => rhs; rw [← p2]
    rw [eq_ba x, ba_extract, ba_extract, ba_extract, ba_size]
    congr 1
    rw [List.drop_zero, List.take_take]
    congr 1
    have : x.data.toList.length = x.size := rfl
    omega
  have w := wrap_succ (i := a) (by omega)
  have g2 : decide (((a + 1 : Nat) : Int) ≤ (x.size : Int)) = true := decide_eq_true (by omega)
  have g3 : decide ((x.size : Int) ≤ (x.size : Int)) = true := decide_eq_true (by omega)
  have g4 : decide ((a : Int) < (x.size : Int)) = true := decide_eq_true (by omega)
  have g5 : decide ((a : Int) ≤ (x.size : Int)) = true := decide_eq_true (by omega)
  have g6 : decide (0 ≤ (0 : Int)) = true := rfl
  have g7 : decide (0 < (l.length : Int)) = true := decide_eq_true (by omega)
  have g8' : decide ((a : Int) < 4) = true := decide_eq_true (by omega)
  have q1 : x.extract (0 : Int).toNat a = it e.1 := p1
  have he : (e.1, e.2.1, e.2.2) = e := rfl
  have hr := read_it n1 n2
  have hj := joOne_is e (by omega)
  have tr := runL_traj (f := step_spec_joParse_0) (fun i => (x, (i : Int), (0 : Int), ByteArray.empty, false)) (.inl (true, e)) a (fun i hi => by
    have hw := wrap_succ (i := i) (by omega)
    have hb := p5 i hi
    have c1 : (byteAt x i != 43) = true := by simp only [bne_iff_ne, ne_eq]; omega
    have c2 : (byteAt x i != 45) = true := by simp only [bne_iff_ne, ne_eq]; omega
    have c3 : decide ((i : Int) < 4) = true := decide_eq_true (by omega)
    have c4 : decide ((i : Int) < (x.size : Int)) = true := decide_eq_true (by omega)
    simp only [step_spec_joParse_0, c4, c3, nonneg, Bool.and_self, cond_true, Int.toNat_natCast, c1, c2, hw]) (by
    rcases sgn_cases e.2.2 with h | h
    · have c1 : (((43 : UInt8).toNat : Int) != 43) = false := rfl
      have p3' : byteAt x a = ((43 : UInt8).toNat : Int) := by rw [p3, h]
      have c5 : (((43 : UInt8).toNat : Int) == 45) = e.2.2 := by rw [← h]; exact sgn_is _
      simp only [step_spec_joParse_0, g4, g8', nonneg, Bool.and_self, cond_true, cond_false, Int.toNat_natCast, p3', c1, w, g2, g3, s1, g5, g6, g7, q1, hr, hh2, c5, he, hj, hok, hl, beq_self_eq_true]
      rfl
    · have c1 : (((45 : UInt8).toNat : Int) != 43) = true := rfl
      have c2 : (((45 : UInt8).toNat : Int) != 45) = false := rfl
      have p3' : byteAt x a = ((45 : UInt8).toNat : Int) := by rw [p3, h]
      have c5 : (((45 : UInt8).toNat : Int) == 45) = e.2.2 := by rw [← h]; exact sgn_is _
      simp only [step_spec_joParse_0, g4, g8', nonneg, Bool.and_self, cond_true, cond_false, Int.toNat_natCast, p3', c1, c2, w, g2, g3, s1, g5, g6, g7, q1, hr, hh2, c5, he, hj, hok, hl, beq_self_eq_true]
      rfl)
  have tr' : runL step_spec_joParse_0 (x, (0 : Int), (0 : Int), ByteArray.empty, false) = some (.inl (true, e)) := tr
  simp only [F_spec_joParse, tr']
theorem spec_no {x : ByteArray} (hs : x.size ≤ 1048576) (hno : ∀ e t, edOK e = true → F_spec_joLine e = some t → t ≠ x) : F_spec_joParse x = some ((0, ByteArray.empty, false), false) := by
  obtain ⟨o, e, z, rfl⟩ := runL_inv (f := step_spec_joParse_0) (fun s => ∃ i : Nat, s = (x, (i : Int), (0 : Int), ByteArray.empty, false) ∧ i ≤ x.size) (fun o => ∃ z, o = .inr z) (fun s => x.size - s.2.1.toNat) (by
    rintro s ⟨i, rfl, hi⟩
    rcases Nat.lt_or_ge i x.size with hlt | hge
    · have hw := wrap_succ (i := i) (by omega)
      by_cases h4 : (i : Int) < 4
      · have after : ∀ (sg : Bool), ∃ l n, F_spec_l1Split (x.extract (i + 1) x.size, 46) = some l ∧ decide (0 < (l.length : Int)) = true ∧ F_spec_l1Read (x.extract (0 : Int).toNat i) = some n ∧
            F_spec_joOne (n, l.getD (0 : Int).toNat ByteArray.empty, sg) = some (edOK (n, l.getD (0 : Int).toNat ByteArray.empty, sg)) ∧
            (edOK (n, l.getD (0 : Int).toNat ByteArray.empty, sg) = true → ∃ t, F_spec_joLine (n, l.getD (0 : Int).toNat ByteArray.empty, sg) = some t ∧ (t.toList == x.toList) = false) := by
          intro sg
          have q := size_extract_le x (i + 1) x.size
          obtain ⟨l, s1, s2, s3, _⟩ := split_head (x.extract (i + 1) x.size) (by omega)
          obtain ⟨n, hn⟩ := read_total (x.extract (0 : Int).toNat i)
          refine ⟨l, n, s1, decide_eq_true (by omega), hn, joOne_is _ (by show (l.getD 0 ByteArray.empty).size ≤ _; omega), fun hok => ?_⟩
          obtain ⟨t, t1, _⟩ := line_same _ hok
          exact ⟨t, t1, by rw [toList_eq, decide_eq_false (hno _ _ hok t1)]⟩
        have g2 : decide (((i + 1 : Nat) : Int) ≤ (x.size : Int)) = true := decide_eq_true (by omega)
        have g3 : decide ((x.size : Int) ≤ (x.size : Int)) = true := decide_eq_true (by omega)
        have g5 : decide ((i : Int) ≤ (x.size : Int)) = true := decide_eq_true (by omega)
        have g6 : decide (0 ≤ (0 : Int)) = true := rfl
        obtain ⟨l, n, s1, s2, s3, s4, s5⟩ := after (byteAt x i == 45)
        cases c1 : (byteAt x i != 43) with
        | true =>
          cases c2 : (byteAt x i != 45) with
          | true => exact .inr ⟨(x, ((i + 1 : Nat) : Int), (0 : Int), ByteArray.empty, false), by simp only [step_spec_joParse_0, lt_len hlt, decide_eq_true h4, nonneg, Bool.and_self, cond_true, Int.toNat_natCast, c1, c2, hw], ⟨i + 1, rfl, by omega⟩, by simp; omega⟩
          | false =>
            left
            simp only [step_spec_joParse_0, lt_len hlt, decide_eq_true h4, nonneg, Bool.and_self, cond_true, cond_false, Int.toNat_natCast, c1, c2, hw, g2, g3, g5, g6, s1, s2, s3, s4]
            cases hok : edOK (n, l.getD (0 : Int).toNat ByteArray.empty, byteAt x i == 45) with
            | false => exact ⟨_, rfl, _, rfl⟩
            | true =>
              obtain ⟨t, t1, t2⟩ := s5 hok
              simp only [t1, t2, cond_true, cond_false]
              exact ⟨_, rfl, _, rfl⟩
        | false =>
          left
          simp only [step_spec_joParse_0, lt_len hlt, decide_eq_true h4, nonneg, Bool.and_self, cond_true, cond_false, Int.toNat_natCast, c1, hw, g2, g3, g5, g6, s1, s2, s3, s4]
          cases hok : edOK (n, l.getD (0 : Int).toNat ByteArray.empty, byteAt x i == 45) with
          | false => exact ⟨_, rfl, _, rfl⟩
          | true =>
            obtain ⟨t, t1, t2⟩ := s5 hok
            simp only [t1, t2, cond_true, cond_false]
            exact ⟨_, rfl, _, rfl⟩
      · left
        exact ⟨.inr (0, ByteArray.empty, false), by simp only [step_spec_joParse_0, lt_len hlt, decide_eq_false h4, cond_true, cond_false], _, rfl⟩
    · left
      have : i = x.size := by omega
      subst this
      exact ⟨.inr (0, ByteArray.empty, false), by simp only [step_spec_joParse_0, not_lt_len, cond_false], _, rfl⟩) (x, 0, 0, ByteArray.empty, false) ⟨0, rfl, by omega⟩
  simp only [F_spec_joParse, e]

/-- a line is read alike -/
theorem parse_same (x : ByteArray) (hs : x.size ≤ 1048576) : ∃ r, F_spec_joParse x = some r ∧ F_impl_ParseEditLine x = some r ∧ (r.2 = true → edOK r.1 = true ∧ F_spec_joLine r.1 = some x ∧ F_impl_LogEdit_line r.1 = some x) := by
  by_cases h : ∃ e, edOK e = true ∧ F_spec_joLine e = some x
  · obtain ⟨e, hok, hl⟩ := h
    obtain ⟨m, e1, e2, _, m0, m1⟩ := line_form e hok
    have hx : x = lineOf e m := by rw [hl] at e1; exact Option.some.inj e1
    exact ⟨(e, true), spec_line hok m0 m1 hx hl, impl_line hok m0 m1 hx (by rw [e2, hx]), fun _ => ⟨hok, hl, by rw [e2, hx]⟩⟩
  · refine ⟨((0, ByteArray.empty, false), false), spec_no hs fun e t hok ht hx => h ⟨e, hok, by rw [ht, hx]⟩, impl_no hs fun e t hok ht hx => h ⟨e, hok, ?_⟩, fun h => by cases h⟩
    obtain ⟨t', t1, t2, _⟩ := line_same e hok
    rw [t2] at ht
    rw [t1, Option.some.inj ht, hx]
end Go.Proofs.YtjmagdcgniklgaaGreatDoor
/- Texts are read and salvaged alike on both sides: the laws. No conditions beyond the bounds that are named. -/
set_option linter.unusedVariables false
set_option linter.unusedSimpArgs false
namespace Go.Proofs.YtjmagdcgniklgaaGreatDoor
open Go

/-! ### What may follow -/
def canAdd (out : List Edit) (e : Edit) : Bool := decide ((out.length : Int) < 40) && (decide (out.length = 0) || decide ((out.getD (out.length - 1) dE).1 < e.1))
theorem joNext_is (out : List Edit) (e : Edit) (h : out.length ≤ 1048576) : F_spec_joNext (out, e) = some (canAdd out e) := by
  unfold F_spec_joNext canAdd
  by_cases h1 : (out.length : Int) < 40
  · by_cases h0 : out.length = 0
    · simp [h0]
    · have hwp := wrap_pred (i := out.length) (by omega) (by omega)
      have h0' : ((out.length : Int) == 0) = false := by simp; exact fun e => h0 (by simp [e])
      simp only [decide_eq_true h1, cond_true, h0', cond_false, hwp, nonneg, lt_len (show out.length - 1 < out.length by omega), Bool.and_self, Int.toNat_natCast, decide_eq_false h0, Bool.false_or, Bool.true_and]
  · simp only [decide_eq_false h1, cond_false, Bool.false_and]
theorem getD_left {α : Type} (a b : List α) (d : α) {i : Nat} (h : i < a.length) : (a ++ b).getD i d = a.getD i d := by
  simp [List.getD, List.getElem?_append_left h]
theorem goodE_iff (l : List Edit) : goodE l = true ↔ (∀ i, i < l.length → goodEAt l i = true) ∧ l.length ≤ 40 := by
  simp only [goodE, Bool.and_eq_true, allN_true, decide_eq_true_eq]
  constructor
  · rintro ⟨h1, h2⟩; exact ⟨h1, by omega⟩
  · rintro ⟨h1, h2⟩; exact ⟨h1, by omega⟩
theorem good_snoc {out : List Edit} {e : Edit} (hg : goodE out = true) (he : edOK e = true) : goodE (out ++ [e]) = canAdd out e := by
  obtain ⟨h1, h2⟩ := (goodE_iff out).1 hg
  have hat : ∀ i, i < out.length → goodEAt (out ++ [e]) i = goodEAt out i := fun i hi => by
    unfold goodEAt risesE
    rw [getD_left _ _ _ hi, getD_left _ _ _ (show i - 1 < out.length by omega)]
  have hlast : (out ++ [e]).getD out.length dE = e := by simp [List.getD]
  have hlast' : goodEAt (out ++ [e]) out.length = (decide (out.length = 0) || decide ((out.getD (out.length - 1) dE).1 < e.1)) := by
    unfold goodEAt risesE
    rw [hlast, he, Bool.true_and]
    by_cases h0 : out.length = 0
    · simp [h0]
    · rw [getD_left _ _ _ (show out.length - 1 < out.length by omega), decide_eq_false h0, Bool.false_or, Bool.false_or, ← lt_not]
  have hlen : (out ++ [e]).length = out.length + 1 := by simp
  rw [Bool.eq_iff_iff, goodE_iff, hlen]
  unfold canAdd
  rw [Bool.and_eq_true, decide_eq_true_eq, ← hlast']
  constructor
  · rintro ⟨q1, q2⟩
    exact ⟨by omega, q1 _ (by omega)⟩
  · rintro ⟨q1, q2⟩
    refine ⟨fun i hi => ?_, by omega⟩
    rcases Nat.lt_or_ge i out.length with hl | hg'
    · rw [hat i hl]; exact h1 i hl
    · obtain rfl : i = out.length := by omega
      exact q2
theorem goodE_fits {l : List Edit} (h : goodE l = true) : FitsE l := by
  refine ⟨by have := goodE_len h; omega, fun e he => ?_⟩
  obtain ⟨i, hi, rfl⟩ := List.mem_iff_getElem.1 he
  have := goodE_gloss h hi
  simp only [List.getD, List.getElem?_eq_getElem hi, Option.getD_some] at this
  omega
theorem snoc_fits {out : List Edit} {e : Edit} (hg : goodE out = true) (he : edOK e = true) : FitsE (out ++ [e]) := by
  have hf := goodE_fits hg
  have := goodE_len hg
  refine ⟨by simp; omega, fun x hx => ?_⟩
  rcases List.mem_append.1 hx with hx | hx
  · exact hf.gloss x hx
  · obtain rfl : x = e := by simpa using hx
    obtain ⟨_, _, hgl⟩ := edOK_parts he
    have h8 : x.2.1.size ≤ 8 := (gl_bytes hgl).1
    omega

/-! ### One line -/
noncomputable def pr (p : ByteArray) : Edit × Bool := (F_impl_ParseEditLine p).getD (dE, false)
theorem pr_is {p : ByteArray} (h : p.size ≤ 1048576) : F_spec_joParse p = some (pr p) ∧ F_impl_ParseEditLine p = some (pr p) ∧ ((pr p).2 = true → edOK (pr p).1 = true ∧ F_spec_joLine (pr p).1 = some p) := by
  obtain ⟨r, h1, h2, h3⟩ := parse_same p h
  have e : pr p = r := by unfold pr; rw [h2]; rfl
  rw [e]
  exact ⟨h1, h2, fun hr => ⟨(h3 hr).1, (h3 hr).2.1⟩⟩
noncomputable def takes (out : List Edit) (p : ByteArray) : Bool := (pr p).2 && canAdd out (pr p).1
noncomputable def nxt (out : List Edit) (p : ByteArray) : List Edit := bif takes out p then out ++ [(pr p).1] else out
theorem nxt_good {out : List Edit} {p : ByteArray} (hp : p.size ≤ 1048576) (hg : goodE out = true) : goodE (nxt out p) = true := by
  unfold nxt
  cases ht : takes out p with
  | false => exact hg
  | true =>
    obtain ⟨h1, h2⟩ := and_b ht
    rw [cond_true, good_snoc hg ((pr_is hp).2.2 h1).1]
    exact h2
theorem fold_good : ∀ (ls : List ByteArray) (out : List Edit), (∀ p ∈ ls, p.size ≤ 1048576) → goodE out = true → goodE (ls.foldl nxt out) = true
  | [], out, _, hg => hg
  | p :: ls, out, h, hg => fold_good ls _ (fun q hq => h q (List.mem_cons_of_mem _ hq)) (nxt_good (h p (List.mem_cons_self ..)) hg)
theorem good_nil : goodE [] = true := rfl
/-! ### Reading on -/
noncomputable def rd : List ByteArray → List Edit → Int → List Edit × Int
  | [], out, n => (out, n)
  | p :: ps, out, n => bif takes out p then rd ps (out ++ [(pr p).1]) (n + (p.size : Int)) else (out, n)
structure Bnd (out : List Edit) (n : Int) : Prop where
  h : n ≤ (out.length : Int) * 1048576
theorem Bnd.snoc {out : List Edit} {n : Int} {e : Edit} {k : Nat} (h : Bnd out n) (hk : k ≤ 1048576) : Bnd (out ++ [e]) (n + (k : Int)) := ⟨by have := h.h; simp only [List.length_append, List.length_singleton]; omega⟩
theorem takes_good {out : List Edit} {p : ByteArray} (hp : p.size ≤ 1048576) (hg : goodE out = true) (ht : takes out p = true) : goodE (out ++ [(pr p).1]) = true := by
  obtain ⟨h1, h2⟩ := and_b ht
  rw [good_snoc hg ((pr_is hp).2.2 h1).1]
  exact h2
theorem read_step {out : List Edit} {n : Int} {p : ByteArray} (hp : p.size ≤ 1048576) (hg : goodE out = true) (h0 : 0 ≤ n) (hn : Bnd out n) :
    step_impl_ReadEdits_L (out, n) p = some (bif takes out p then .inl (out ++ [(pr p).1], n + (p.size : Int)) else .inr (out, n)) := by
  obtain ⟨_, h2, h3⟩ := pr_is hp
  have hl := goodE_len hg
  unfold step_impl_ReadEdits_L takes
  rw [h2]
  simp only
  cases hb : (pr p).2 with
  | false => rfl
  | true =>
    have hok := (h3 hb).1
    have hc : F_slices_Clone_impl_LogEdit_impl_LogEdit out = some out := by
      unfold F_slices_Clone_impl_LogEdit_impl_LogEdit; rw [decide_eq_true (show out.length * 32 ≤ 140737488355328 by omega)]; rfl
    have hg2 : decide ((out.length + ([(pr p).1] : List Edit).length) * 32 ≤ 140737488355328) = true := decide_eq_true (by simp only [List.length_singleton]; omega)
    have ha := AreEdits_is (out ++ [(pr p).1]) (snoc_fits hg hok)
    rw [good_snoc hg hok] at ha
    have hn := hn.h
    have hw : IntKind.i64.wrap (n + (p.size : Int)) = n + (p.size : Int) := wrap_id (by omega) (by omega)
    simp only [Bool.not_true, cond_false, hc, hg2, cond_true, ha, hw, Bool.true_and]
    cases canAdd out (pr p).1 <;> rfl
theorem read_fold : ∀ (ls : List ByteArray) (out : List Edit) (n : Int), (∀ p ∈ ls, p.size ≤ 1048576) → goodE out = true → 0 ≤ n → Bnd out n →
    foldL step_impl_ReadEdits_L (out, n) ls = some (.inl (rd ls out n)) ∨ foldL step_impl_ReadEdits_L (out, n) ls = some (.inr (rd ls out n))
  | [], out, n, _, _, _, _ => .inl rfl
  | p :: ls, out, n, h, hg, h0, hn => by
    have hp := h p (List.mem_cons_self ..)
    simp only [foldL, read_step hp hg h0 hn, rd]
    cases ht : takes out p with
    | false => exact .inr rfl
    | true => exact read_fold ls _ _ (fun q hq => h q (List.mem_cons_of_mem _ hq)) (takes_good hp hg ht) (by omega) (hn.snoc hp)
theorem rd_good : ∀ (ls : List ByteArray) (out : List Edit) (n : Int), (∀ p ∈ ls, p.size ≤ 1048576) → goodE out = true → goodE (rd ls out n).1 = true
  | [], out, n, _, hg => hg
  | p :: ls, out, n, h, hg => by
    have hp := h p (List.mem_cons_self ..)
    simp only [rd]
    cases ht : takes out p with
    | false => exact hg
    | true => exact rd_good ls _ _ (fun q hq => h q (List.mem_cons_of_mem _ hq)) (takes_good hp hg ht)
theorem read_spec (ps : List ByteArray) (hps : ps.length ≤ 1048576) (h : ∀ p ∈ ps, p.size ≤ 1048576) : ∀ (k i : Nat) (out : List Edit) (n : Int), ps.length - i = k → i ≤ ps.length → goodE out = true → 0 ≤ n → Bnd out n →
    runL step_spec_ReadEdits_0 (n, (ps.length : Int), (i : Int), ps, out) = some ((rd (ps.drop i) out n).2, (rd (ps.drop i) out n).1) := by
  intro k
  induction k with
  | zero =>
    intro i out n hk hi hg h0 hn
    obtain rfl : i = ps.length := by omega
    rw [runL_eq]
    simp only [step_spec_ReadEdits_0, not_lt_len, cond_false, List.drop_length, rd]
  | succ k ih =>
    intro i out n hk hi hg h0 hn
    have hlt : i < ps.length := by omega
    have hw := wrap_succ (i := i) (by omega)
    have hmem : ps.getD i ByteArray.empty ∈ ps := getD_mem hlt _
    have hp := h _ hmem
    obtain ⟨h1, _, h3⟩ := pr_is hp
    have hl := goodE_len hg
    have hd : ps.drop i = ps.getD i ByteArray.empty :: ps.drop (i + 1) := by
      rw [List.drop_eq_getElem_cons hlt]
      simp [List.getD, List.getElem?_eq_getElem hlt]
    rw [hd]
    generalize ps.getD i ByteArray.empty = p at *
    have hj := joNext_is out (pr p).1 (by omega)
    have hg2 : decide ((out.length + [(pr p).1].length) * 32 ≤ 140737488355328) = true := decide_eq_true (by simp only [List.length_singleton]; omega)
    have hn' := hn.h
    have hw2 : IntKind.i64.wrap (n + (p.size : Int)) = n + (p.size : Int) := wrap_id (by omega) (by omega)
    have hstep : step_spec_ReadEdits_0 (n, (ps.length : Int), (i : Int), ps, out) = some (bif takes out p then .inl (n + (p.size : Int), (ps.length : Int), ((i + 1 : Nat) : Int), ps, out ++ [(pr p).1]) else .inr (n, out)) := by
      have hgd : ps.getD i ByteArray.empty = p := by
        have := congrArg (fun l : List ByteArray => l.head?) hd
        simpa [List.getD, List.getElem?_eq_getElem hlt] using this
      simp only [step_spec_ReadEdits_0, lt_len hlt, nonneg, Bool.and_self, cond_true, Int.toNat_natCast, hgd, h1, hj, hg2, hw, hw2, takes]
      cases (pr p).2 with
      | false => rfl
      | true => cases canAdd out (pr p).1 <;> rfl
    rw [runL_eq, hstep]
    simp only [rd]
    cases ht : takes out p with
    | false => rfl
    | true =>
      simp only [cond_true]
      exact ih (i + 1) _ _ (by omega) (by omega) (takes_good hp hg ht) (by omega) (hn.snoc hp)

/-! ### The parts of a text -/
theorem linesN_mem : ∀ (n : Nat) (s p : ByteArray), p ∈ linesN n s → p.size ≤ s.size
  | 0, s, p, h => by cases h
  | n + 1, s, p, h => by
    simp only [linesN] at h
    cases h0 : (s.size == 0) with
    | true => rw [h0] at h; cases h
    | false =>
      rw [h0] at h
      simp only [cond_false] at h
      cases hi : decide (0 ≤ Lib.indexByte s.data.toList 10) with
      | false =>
        rw [hi] at h
        obtain rfl : p = s := by simpa using h
        exact Nat.le_refl _
      | true =>
        rw [hi] at h
        simp only [cond_true] at h
        rcases List.mem_cons.1 h with rfl | h
        · exact size_extract_le _ _ _
        · exact Nat.le_trans (linesN_mem n _ p h) (size_extract_le _ _ _)
theorem indexByte_lt {l : List UInt8} {c : UInt8} (h : ∀ k : Nat, l[k]? ≠ some c) : Lib.indexByte l c < 0 := by
  have hge := Lib.indexByte_ge l c
  rcases Int.lt_or_le (Lib.indexByte l c) 0 with hl | hl
  · exact hl
  · obtain ⟨o, ho⟩ : ∃ o : Nat, Lib.indexByte l c = o := ⟨(Lib.indexByte l c).toNat, by omega⟩
    exact absurd (Lib.indexByte_some ho).1 (h o)
theorem ext_data (x : ByteArray) (a b : Nat) : (x.extract a b).data.toList = (x.data.toList.drop a).take (b - a) := by
  conv => lhs; rw [eq_ba x]
  rw [ba_extract]
  rfl
theorem data_inj {x y : ByteArray} (h : x.data.toList = y.data.toList) : x = y := by rw [eq_ba x, eq_ba y, h]
theorem lines_cut {x : ByteArray} {st i : Nat} (h1 : st ≤ i) (h2 : i < x.size) (h10 : byteAt x i = 10) (hb : ∀ j, st ≤ j → j < i → byteAt x j ≠ 10) : linesOf (x.extract st x.size) = x.extract st (i + 1) :: linesOf (x.extract (i + 1) x.size) := by
  have hlen : x.data.toList.length = x.size := rfl
  have hat : ∀ k, k < x.size - st → (x.extract st x.size).data.toList[k]? = x.data.toList[st + k]? := fun k hk => by
    rw [ext_data, List.getElem?_take, if_pos hk, List.getElem?_drop]
  have hsz : (x.extract st x.size).size = x.size - st := by
    have : (x.extract st x.size).data.toList.length = x.size - st := by rw [ext_data]; simp
    exact this
  have hix : Lib.indexByte (x.extract st x.size).data.toList 10 = ((i - st : Nat) : Int) := by
    refine indexByte_at ?_ fun k hk hb' => ?_
    · rw [hat _ (by omega), show st + (i - st) = i by omega]
      exact bytes_get h2 (by rw [h10]; rfl)
    · rw [hat _ (by omega)] at hb'
      exact hb (st + k) (by omega) (by omega) (by rw [get_bytes hb']; rfl)
  have e1 : (x.extract st x.size).extract 0 (i - st + 1) = x.extract st (i + 1) := by
    apply data_inj
    rw [ext_data, ext_data, ext_data, List.drop_zero, List.take_take, show min (i - st + 1 - 0) (x.size - st) = i + 1 - st by omega]
  have e2 : (x.extract st x.size).extract (i - st + 1) (x.extract st x.size).size = x.extract (i + 1) x.size := by
    apply data_inj
    rw [ext_data, ext_data, ext_data, hsz, List.drop_take, List.take_take, List.drop_drop, show st + (i - st + 1) = i + 1 by omega]
    congr 1
    omega
  rw [linesOf_next hix (by omega), e1, e2]
theorem parts_is (x : ByteArray) (hx : x.size ≤ 1048576) : ∃ ps tl, F_spec_joParts x = some ps ∧ linesOf x = ps ++ tl ∧ ps.length ≤ x.size ∧ (tl = [] ∨ ∃ s, tl = [s] ∧ s.size ≤ x.size ∧ ∀ j, byteAt s j ≠ 10) := by
  obtain ⟨o, e, st, h1, h2, h3, h4⟩ := runL_inv (f := step_spec_joParts_0) (fun s => ∃ (st i : Nat) (ps : List ByteArray), s = (x, (st : Int), (i : Int), ps) ∧ st ≤ i ∧ i ≤ x.size ∧ ps.length ≤ i ∧ linesOf x = ps ++ linesOf (x.extract st x.size) ∧ ∀ j, st ≤ j → j < i → byteAt x j ≠ 10)
    (fun o => ∃ st : Nat, st ≤ x.size ∧ o.length ≤ x.size ∧ linesOf x = o ++ linesOf (x.extract st x.size) ∧ ∀ j, st ≤ j → j < x.size → byteAt x j ≠ 10) (fun s => x.size - s.2.2.1.toNat) (by
    rintro s ⟨st, i, ps, rfl, h1, h2, h3, h4, h5⟩
    rcases Nat.lt_or_ge i x.size with hlt | hge
    · right
      have hw := wrap_succ (i := i) (by omega)
      by_cases hd : byteAt x i = 10
      · have g1 : decide ((st : Int) ≤ ((i + 1 : Nat) : Int)) = true := decide_eq_true (by omega)
        have g2 : decide (((i + 1 : Nat) : Int) ≤ (x.size : Int)) = true := decide_eq_true (by omega)
        have g3 : decide ((ps.length + [x.extract st (i + 1)].length) * 16 ≤ 140737488355328) = true := decide_eq_true (by show (ps.length + 1) * 16 ≤ _; omega)
        refine ⟨(x, ((i + 1 : Nat) : Int), ((i + 1 : Nat) : Int), ps ++ [x.extract st (i + 1)]), ?_, ⟨i + 1, i + 1, _, rfl, by omega, by omega, by simp; omega, ?_, fun j _ _ => by omega⟩, by simp; omega⟩
        · simp only [step_spec_joParts_0, lt_len hlt, nonneg, Bool.and_self, cond_true, Int.toNat_natCast, hd, beq_self_eq_true, hw, g1, g2, g3]
        · rw [h4, lines_cut h1 hlt hd h5]; simp
      · have hd' : (byteAt x i == 10) = false := by simpa using hd
        refine ⟨(x, (st : Int), ((i + 1 : Nat) : Int), ps), ?_, ⟨st, i + 1, _, rfl, by omega, by omega, by omega, h4, fun j q1 q2 => ?_⟩, by simp; omega⟩
        · simp only [step_spec_joParts_0, lt_len hlt, nonneg, Bool.and_self, cond_true, Int.toNat_natCast, hd', cond_false, hw]
        · rcases Nat.lt_or_ge j i with q | q
          · exact h5 j q1 q
          · obtain rfl : j = i := by omega
            exact hd
    · left
      have : i = x.size := by omega
      subst this
      exact ⟨ps, by simp only [step_spec_joParts_0, not_lt_len, cond_false], st, h1, h3, h4, h5⟩) (x, 0, 0, []) ⟨0, 0, [], rfl, by omega, by omega, by simp, by
        have : x.extract 0 x.size = x := by
          apply data_inj
          rw [ext_data]
          have hlen : x.data.toList.length = x.size := rfl
          rw [List.drop_zero, Nat.sub_zero, ← hlen, List.take_length]
        rw [this]; rfl, fun j _ _ => by omega⟩
  refine ⟨o, linesOf (x.extract st x.size), by simp only [F_spec_joParts, e], h3, h2, ?_⟩
  have hsz : (x.extract st x.size).size = x.size - st := by
    have : (x.extract st x.size).data.toList.length = x.size - st := by
      have hlen : x.data.toList.length = x.size := rfl
      rw [ext_data]; simp
    exact this
  have hno : ∀ k : Nat, (x.extract st x.size).data.toList[k]? ≠ some 10 := fun k hk => by
    have hk2 := hk
    rw [ext_data, List.getElem?_take] at hk
    split at hk
    · rename_i hlt
      rw [List.getElem?_drop] at hk
      exact h4 (st + k) (by omega) (by omega) (by rw [get_bytes hk]; rfl)
    · cases hk
  by_cases h0 : (x.extract st x.size).size = 0
  · left
    simp [linesOf, h0, linesN]
  · right
    refine ⟨x.extract st x.size, ?_, by omega, fun j => ?_⟩
    · rw [linesOf_last (by omega) (indexByte_lt hno)]
      rfl
    · intro hb
      by_cases hj : j < (x.extract st x.size).size
      · exact hno j (bytes_get hj (by rw [hb]; rfl))
      · have : (x.extract st x.size).data.toList[j]? = none := List.getElem?_eq_none (by have : (x.extract st x.size).data.toList.length = (x.extract st x.size).size := rfl; omega)
        have hb2 : byteAt (x.extract st x.size) j = ((0 : UInt8).toNat : Int) := by unfold byteAt List.getD; rw [this]; rfl
        rw [hb2] at hb
        exact absurd hb (by decide)
theorem line_newline {e : Edit} {m : Int} {s : ByteArray} (h : s = lineOf e m) : ∃ j, byteAt s j = 10 := by
  rw [lineOf_ba] at h
  subst h
  obtain ⟨X, hX⟩ : ∃ X, lineL e m = X ++ [10] := ⟨(it e.1).data.toList ++ (sgn e.2.2 :: (e.2.1.data.toList ++ (46 :: (it m).data.toList))), by simp [lineL]⟩
  refine ⟨X.length, ?_⟩
  rw [ba_byteAt, hX]
  simp [List.getD]
/-- what does not end with a newline is no line -/
theorem pr_torn {s : ByteArray} (hs : s.size ≤ 1048576) (h : ∀ j, byteAt s j ≠ 10) : (pr s).2 = false := by
  cases hb : (pr s).2 with
  | false => rfl
  | true =>
    obtain ⟨hok, hl⟩ := (pr_is hs).2.2 hb
    obtain ⟨m, e1, _⟩ := line_form _ hok
    obtain ⟨j, hj⟩ := line_newline (Option.some.inj (hl.symm.trans e1))
    exact absurd hj (h j)
theorem rd_tail (s : ByteArray) (hs : (pr s).2 = false) : ∀ (ps : List ByteArray) (out : List Edit) (n : Int), rd (ps ++ [s]) out n = rd ps out n
  | [], out, n => by simp [rd, takes, hs]
  | p :: ps, out, n => by
    simp only [List.cons_append, rd]
    cases takes out p with
    | false => rfl
    | true => exact rd_tail s hs ps _ _

/-! ### Both sides -/
theorem read_same (x : ByteArray) (hx : x.size ≤ 1048576) : ∃ o n b, F_spec_ReadEdits x = some (o, n, b) ∧ F_impl_ReadEdits x = some (o, n, b) ∧ goodE o = true := by
  by_cases hb : (x.size : Int) > 2000
  · exact ⟨[], 0, false, by simp only [F_spec_ReadEdits, decide_eq_true hb, cond_true], by simp only [F_impl_ReadEdits, decide_eq_true hb, cond_true], rfl⟩
  · obtain ⟨ps, tl, h1, h2, h3, h4⟩ := parts_is x hx
    have hall : ∀ p ∈ linesOf x, p.size ≤ 1048576 := fun p hp => Nat.le_trans (linesN_mem _ _ _ hp) hx
    have hps : ∀ p ∈ ps, p.size ≤ 1048576 := fun p hp => hall p (by rw [h2]; exact List.mem_append_left _ hp)
    have hs := read_spec ps (by omega) hps ps.length 0 [] 0 (by omega) (by omega) good_nil (by omega) ⟨by simp⟩
    rw [List.drop_zero] at hs
    have hs' : runL step_spec_ReadEdits_0 (0, (ps.length : Int), 0, ps, []) = some ((rd ps [] 0).2, (rd ps [] 0).1) := hs
    have ht : rd (linesOf x) [] 0 = rd ps [] 0 := by
      rw [h2]
      rcases h4 with rfl | ⟨s, rfl, hs1, hs2⟩
      · rw [List.append_nil]
      · exact rd_tail s (pr_torn (by omega) hs2) ps [] 0
    refine ⟨(rd ps [] 0).1, (rd ps [] 0).2, true, by simp only [F_spec_ReadEdits, decide_eq_false hb, cond_false, h1, hs'], ?_, rd_good ps [] 0 hps good_nil⟩
    rcases read_fold (linesOf x) [] 0 hall good_nil (by omega) ⟨by simp⟩ with hi | hi
    · rw [ht] at hi
      simp only [F_impl_ReadEdits, decide_eq_false hb, cond_false, hi]
    · rw [ht] at hi
      simp only [F_impl_ReadEdits, decide_eq_false hb, cond_false, hi]
end Go.Proofs.YtjmagdcgniklgaaGreatDoor
/- What the drawn arguments are like: plain laws. No conditions. -/
set_option linter.unusedVariables false
set_option linter.unusedSimpArgs false
namespace Go.Proofs.YtjmagdcgniklgaaGreatDoor
open Go
/-- a cursor that has taken at most n steps -/
structure CurOK (n : Nat) (c : List Int × (Int × Int)) : Prop where
  len : c.1.length ≤ 9223372036854775807
  bytes : ∀ b ∈ c.1, 0 ≤ b ∧ b ≤ 255
  at0 : 0 ≤ c.2.1
  atn : c.2.1 ≤ (n : Int)
theorem CurOK.mono {n m : Nat} {c : List Int × (Int × Int)} (h : CurOK n c) (hm : n ≤ m) : CurOK m c := ⟨h.len, h.bytes, h.at0, by have := h.atn; omega⟩
theorem masked (v : Int) : 0 ≤ IntKind.i64.wrap (IntKind.u64.wrap ((BitVec.ofInt IntKind.u64.bits v &&& BitVec.ofInt IntKind.u64.bits 255).toNat : Nat)) ∧ IntKind.i64.wrap (IntKind.u64.wrap ((BitVec.ofInt IntKind.u64.bits v &&& BitVec.ofInt IntKind.u64.bits 255).toNat : Nat)) ≤ 255 := by
  have h1 : (BitVec.ofInt IntKind.u64.bits v &&& BitVec.ofInt IntKind.u64.bits 255).toNat ≤ 255 := by
    rw [BitVec.toNat_and]
    exact Nat.le_trans Nat.and_le_right (by decide)
  generalize (BitVec.ofInt IntKind.u64.bits v &&& BitVec.ofInt IntKind.u64.bits 255).toNat = m at h1
  have h2 : IntKind.u64.wrap (m : Int) = (m : Int) := by
    simp [IntKind.wrap, IntKind.bits, IntKind.signed]
    omega
  rw [h2, wrap_id (by omega) (by omega)]
  omega
theorem next_ok {n : Nat} {c : List Int × (Int × Int)} (h : CurOK n c) (hn : n ≤ 4611686018427387904) : ∃ c' v, F_spec_l1Cur_next c = some (c', v) ∧ CurOK (n + 1) c' ∧ 0 ≤ v ∧ v ≤ 255 := by
  obtain ⟨code, i, seed⟩ := c
  have hat0 : 0 ≤ i := h.at0
  have hatn : i ≤ (n : Int) := h.atn
  have hw : IntKind.i64.wrap (i + 1) = i + 1 := wrap_id (by omega) (by omega)
  have q40 : decide (0 ≤ (40 : Int)) = true := rfl
  have ok : ∀ s, CurOK (n + 1) (code, (i + 1, s)) := fun s => ⟨h.len, h.bytes, by show 0 ≤ i + 1; omega, by show i + 1 ≤ _; omega⟩
  cases h1 : decide (i < (code.length : Int)) with
  | true =>
    have h1' : i < (code.length : Int) := of_decide_eq_true h1
    have h0 : decide (0 ≤ i) = true := decide_eq_true hat0
    have hlt : i.toNat < code.length := by omega
    have hb : 0 ≤ code.getD i.toNat 0 ∧ code.getD i.toNat 0 ≤ 255 := h.bytes _ (getD_mem hlt 0)
    have hwb : IntKind.i64.wrap (code.getD i.toNat 0) = code.getD i.toNat 0 := wrap_id (by omega) (by omega)
    simp only [F_spec_l1Cur_next, h1, h0, Bool.and_self, cond_true, hw, hwb, q40]
    cases decide (i + 1 ≤ (code.length : Int)) with
    | true => exact ⟨_, _, rfl, ok _, hb⟩
    | false => exact ⟨_, _, rfl, ok _, masked _⟩
  | false =>
    simp only [F_spec_l1Cur_next, h1, cond_false, hw, q40, cond_true]
    cases decide (i + 1 ≤ (code.length : Int)) with
    | true => exact ⟨_, _, rfl, ok _, by omega⟩
    | false => exact ⟨_, _, rfl, ok _, masked _⟩
theorem pick_ok {n : Nat} {c : List Int × (Int × Int)} (h : CurOK n c) (hn : n ≤ 4611686018427387904) {k : Int} (k0 : 1 ≤ k) (k1 : k ≤ 200) : ∃ c' v, F_spec_l1Cur_pick (c, k) = some (c', v) ∧ CurOK (n + 1) c' ∧ 0 ≤ v ∧ v < k := by
  cases h1 : decide (k ≤ 1) with
  | true =>
    have := of_decide_eq_true h1
    exact ⟨c, 0, by simp only [F_spec_l1Cur_pick, h1, cond_true], h.mono (by omega), by omega, by omega⟩
  | false =>
    have h1' := of_decide_eq_false h1
    obtain ⟨c', v, e, hc, v0, v1⟩ := next_ok h hn
    have h2 : decide (k > 200) = false := decide_eq_false (by omega)
    have h3 : decide (k = 0) = false := decide_eq_false (by omega)
    refine ⟨c', v.tmod k, by simp only [F_spec_l1Cur_pick, h1, cond_false, e, h2, h3, Bool.not_false, cond_true], hc, Int.tmod_nonneg _ v0, Int.tmod_lt_of_pos _ (by omega)⟩
theorem one_ok {n : Nat} {c : List Int × (Int × Int)} (h : CurOK n c) (hn : n ≤ 4611686018427387904) {k : Int} (k0 : 1 ≤ k) (k1 : k ≤ 200) : ∃ c' b, F_spec_l1Cur_one (c, k) = some (c', b) ∧ CurOK (n + 1) c' := by
  obtain ⟨c', v, e, hc, _⟩ := pick_ok h hn k0 k1
  exact ⟨c', v == 0, by simp only [F_spec_l1Cur_one, e], hc⟩
theorem of_ok {n : Nat} {c : List Int × (Int × Int)} (h : CurOK n c) (hn : n ≤ 4611686018427387904) {l : List ByteArray} (k0 : 1 ≤ l.length) (k1 : l.length ≤ 200) : ∃ c' v, F_spec_l1Cur_of (c, l) = some (c', v) ∧ CurOK (n + 1) c' ∧ v ∈ l := by
  obtain ⟨c', v, e, hc, v0, v1⟩ := pick_ok h hn (k := (l.length : Int)) (by omega) (by omega)
  have h0 : decide (0 ≤ v) = true := decide_eq_true v0
  have h1 : decide (v < (l.length : Int)) = true := decide_eq_true v1
  exact ⟨c', l.getD v.toNat ByteArray.empty, by simp only [F_spec_l1Cur_of, e, h0, h1, Bool.and_self, cond_true], hc, getD_mem (by omega) _⟩
theorem among_ok {n : Nat} {c : List Int × (Int × Int)} (h : CurOK n c) (hn : n ≤ 4611686018427387904) {l : List Int} (k0 : 1 ≤ l.length) (k1 : l.length ≤ 200) : ∃ c' v, F_spec_l1Cur_among (c, l) = some (c', v) ∧ CurOK (n + 1) c' ∧ v ∈ l := by
  obtain ⟨c', v, e, hc, v0, v1⟩ := pick_ok h hn (k := (l.length : Int)) (by omega) (by omega)
  have h0 : decide (0 ≤ v) = true := decide_eq_true v0
  have h1 : decide (v < (l.length : Int)) = true := decide_eq_true v1
  exact ⟨c', l.getD v.toNat 0, by simp only [F_spec_l1Cur_among, e, h0, h1, Bool.and_self, cond_true], hc, getD_mem (by omega) _⟩
end Go.Proofs.YtjmagdcgniklgaaGreatDoor
/- What the drawn edits and their texts are like: plain laws. No conditions beyond those that are named. -/
set_option linter.unusedVariables false
set_option linter.unusedSimpArgs false
namespace Go.Proofs.YtjmagdcgniklgaaGreatDoor
open Go
abbrev CurT := List Int × (Int × Int)
/-- a pick among many -/
theorem pick_big {n : Nat} {c : CurT} (h : CurOK n c) (hn : n ≤ 4611686018427387000) {k : Int} (k0 : 1 ≤ k) (k1 : k ≤ 1000000) : ∃ c' v, F_spec_l1Cur_pick (c, k) = some (c', v) ∧ CurOK (n + 2) c' ∧ 0 ≤ v ∧ v < k := by
  by_cases hk : k ≤ 200
  · obtain ⟨c', v, e, hc, q⟩ := pick_ok h (by omega) k0 hk
    exact ⟨c', v, e, hc.mono (by omega), q⟩
  · obtain ⟨c1, v1, e1, h1, a0, a1⟩ := next_ok h (by omega)
    obtain ⟨c2, v2, e2, h2, b0, b1⟩ := next_ok h1 (by omega)
    have q1 : decide (k ≤ 1) = false := decide_eq_false (by omega)
    have q2 : decide (k > 200) = true := decide_eq_true (by omega)
    have q3 : decide (k = 0) = false := decide_eq_false (by omega)
    have w1 : IntKind.i64.wrap (v1 * 256) = v1 * 256 := wrap_id (by omega) (by omega)
    have w2 : IntKind.i64.wrap (v1 * 256 + v2) = v1 * 256 + v2 := wrap_id (by omega) (by omega)
    exact ⟨c2, (v1 * 256 + v2).tmod k, by simp only [F_spec_l1Cur_pick, q1, q2, q3, cond_false, cond_true, e1, e2, w1, w2, Bool.not_false], h2.mono (by omega), Int.tmod_nonneg _ (by omega), Int.tmod_lt_of_pos _ (by omega)⟩

/-! ### Edits -/
theorem edit_ok {n : Nat} {c : CurT} (h : CurOK n c) (hn : n ≤ 4611686018427380000) (number : Int) : ∃ c' e, F_spec_l1Cur_edit (c, number) = some (c', e) ∧ CurOK (n + 5) c' ∧ e.2.1.size ≤ 9 := by
  obtain ⟨c1, g, e1, h1, m1⟩ := of_ok h (by omega) (l := [(⟨#[71, 79]⟩ : ByteArray), (⟨#[72, 79, 85, 83, 69]⟩ : ByteArray), (⟨#[71, 79]⟩ : ByteArray), (⟨#[73]⟩ : ByteArray), (⟨#[66, 79, 79, 75]⟩ : ByteArray), (⟨#[69, 73, 71, 72, 84, 76, 69, 84]⟩ : ByteArray)]) (by simp) (by simp)
  have z1 : g.size ≤ 9 := by
    simp only [List.mem_cons, List.not_mem_nil, or_false] at m1
    rcases m1 with rfl | rfl | rfl | rfl | rfl | rfl <;> decide
  obtain ⟨c2, b, e2, h2⟩ := one_ok h1 (by omega) (k := 4) (by omega) (by omega)
  obtain ⟨c3, v, e3, h3, _, _⟩ := pick_ok h2 (by omega) (k := 60) (by omega) (by omega)
  obtain ⟨c4, g4, e4, h4, m4⟩ := of_ok h3 (by omega) (l := [(⟨#[]⟩ : ByteArray), (⟨#[103, 111]⟩ : ByteArray), (⟨#[78, 73, 78, 69, 76, 69, 84, 84, 82]⟩ : ByteArray)]) (by simp) (by simp)
  have z4 : g4.size ≤ 9 := by
    simp only [List.mem_cons, List.not_mem_nil, or_false] at m4
    rcases m4 with rfl | rfl | rfl <;> decide
  obtain ⟨c5, k5, e5, h5, _⟩ := among_ok h3 (by omega) (l := [0, 999, 1000]) (by simp) (by simp)
  cases q0 : (v == 0) with
  | true => exact ⟨c4, (number, g4, b), by simp only [F_spec_l1Cur_edit, e1, e2, e3, q0, cond_true, e4], h4.mono (by omega), z4⟩
  | false =>
    cases q1 : (v == 1) with
    | true => exact ⟨c5, (k5, g, b), by simp only [F_spec_l1Cur_edit, e1, e2, e3, q0, q1, cond_true, cond_false, e5], h5.mono (by omega), z1⟩
    | false => exact ⟨c3, (number, g, b), by simp only [F_spec_l1Cur_edit, e1, e2, e3, q0, q1, cond_false], h3.mono (by omega), z1⟩
structure SmallE (l : List Edit) : Prop where
  len : l.length ≤ 41
  all : ∀ e ∈ l, e.2.1.size ≤ 9
theorem SmallE.fits {l : List Edit} (h : SmallE l) : FitsE l := ⟨by have := h.len; omega, fun e he => by have := h.all e he; omega⟩
theorem edits_loop {n : Nat} {c : CurT} (h : CurOK n c) (hn : n ≤ 4611686018427300000) {N : Int} (n0 : 0 ≤ N) (n1 : N ≤ 41) (num : Int) :
    ∃ o, runL step_spec_l1Cur_edits_0 (num, (N, c.1, (c.2.1, c.2.2, []))) = some o ∧ o.1 = N ∧ (o.2.1.length : Int) = N ∧ SmallE o.2.1 ∧ CurOK (n + 400) o.2.2 := by
  obtain ⟨o, eo, q1, q2, q3, q4⟩ := runL_inv (f := step_spec_l1Cur_edits_0)
    (fun s => s.2.1 = N ∧ (s.2.2.2.2.2.length : Int) ≤ N ∧ (∀ e ∈ s.2.2.2.2.2, e.2.1.size ≤ 9) ∧ CurOK (n + 8 * s.2.2.2.2.2.length) (s.2.2.1, s.2.2.2.1, s.2.2.2.2.1))
    (fun o => o.1 = N ∧ (o.2.1.length : Int) = N ∧ (∀ e ∈ o.2.1, e.2.1.size ≤ 9) ∧ CurOK (n + 400) o.2.2) (fun s => 41 - s.2.2.2.2.2.length) (by
    rintro ⟨s1, s2, code, i, seed, l⟩ ⟨r2, r3, r4, r5⟩
    simp only at r2 r3 r4 r5
    subst r2
    cases hl : decide ((l.length : Int) < s2) with
    | false =>
      left
      have hl' := of_decide_eq_false hl
      have hc : CurOK (n + 400) (code, i, seed) := r5.mono (by omega)
      exact ⟨_, by simp only [step_spec_l1Cur_edits_0, hl, cond_false]; rfl, rfl, by show (l.length : Int) = s2; omega, r4, hc⟩
    | true =>
      right
      have hl' := of_decide_eq_true hl
      obtain ⟨d1, p, f1, k1, sp⟩ := edit_ok r5 (by omega) s1
      obtain ⟨d2, w, f2, k2, _⟩ := among_ok k1 (by omega) (l := [1, 1, 1, 2, 5]) (by simp) (by simp)
      have room : decide ((l.length + ([p] : List Edit).length) * 32 ≤ 140737488355328) = true := decide_eq_true (by simp; omega)
      refine ⟨_, by simp only [step_spec_l1Cur_edits_0, hl, cond_true, f1, room, f2]; rfl, ⟨rfl, by simp; omega, fun e he => ?_, ?_⟩, by simp; omega⟩
      · rcases List.mem_append.1 he with h' | h'
        · exact r4 e h'
        · obtain rfl : e = p := by simpa using h'
          exact sp
      · simp only [List.length_append, List.length_singleton]
        exact k2.mono (by omega)) (num, (N, c.1, (c.2.1, c.2.2, []))) ⟨rfl, by simpa using n0, by simp, h.mono (by simp)⟩
  exact ⟨o, eo, q1, q2, ⟨by omega, q3⟩, q4⟩
theorem edits_ok {n : Nat} {c : CurT} (h : CurOK n c) (hn : n ≤ 4611686018427200000) : ∃ c' l, F_spec_l1Cur_edits c = some (c', l) ∧ CurOK (n + 410) c' ∧ SmallE l := by
  obtain ⟨c1, v1, e1, h1, _, _⟩ := pick_ok h (by omega) (k := 2) (by omega) (by omega)
  obtain ⟨c2, v2, e2, h2, a0, a1⟩ := pick_ok h1 (by omega) (k := 7) (by omega) (by omega)
  obtain ⟨c3, b3, e3, h3⟩ := one_ok h2 (by omega) (k := 12) (by omega) (by omega)
  have tail : ∀ (N : Int) (o : Int × List Edit × CurT), o.1 = N → (o.2.1.length : Int) = N → SmallE o.2.1 → CurOK (n + 404) o.2.2 → ∃ c' l, (bif (decide (o.1 > 0)) then
      match F_spec_l1Cur_one ((o.2.2, 12)) with
      | none => none
      | some y19 =>
        bif y19.2 then
          bif decide (0 ≤ IntKind.i64.wrap (o.1 - 1)) && decide (IntKind.i64.wrap (o.1 - 1) < (o.2.1.length : Int)) then
            some ((y19.1, o.2.1.set (IntKind.i64.wrap (o.1 - 1)).toNat ((999, (o.2.1.getD (IntKind.i64.wrap (o.1 - 1)).toNat (0, ByteArray.empty, false)).2))))
          else none
        else
          some ((y19.1, o.2.1))
    else
      some ((o.2.2, o.2.1))) = some (c', l) ∧ CurOK (n + 410) c' ∧ SmallE l := by
    intro N o o1 o2 o3 o4
    have hlen := o3.len
    cases hp : decide (o.1 > 0) with
    | false => exact ⟨_, _, rfl, o4.mono (by omega), o3⟩
    | true =>
      have hp' := of_decide_eq_true hp
      obtain ⟨c5, b5, e5, h5⟩ := one_ok o4 (by omega) (k := 12) (by omega) (by omega)
      have hw : IntKind.i64.wrap (o.1 - 1) = o.1 - 1 := wrap_id (by omega) (by omega)
      have g0 : decide (0 ≤ o.1 - 1) = true := decide_eq_true (by omega)
      have g1 : decide (o.1 - 1 < (o.2.1.length : Int)) = true := decide_eq_true (by omega)
      simp only [cond_true, e5, hw, g0, g1, Bool.and_self]
      cases b5 with
      | false => exact ⟨_, _, rfl, h5.mono (by omega), o3⟩
      | true =>
        refine ⟨_, _, rfl, h5.mono (by omega), ⟨by rw [List.length_set]; exact o3.len, fun e he => ?_⟩⟩
        rcases List.mem_or_eq_of_mem_set he with q | rfl
        · exact o3.all e q
        · show (o.2.1.getD (o.1 - 1).toNat (0, ByteArray.empty, false)).2.1.size ≤ 9
          exact o3.all _ (getD_mem (by omega) _)
  cases b3 with
  | true =>
    obtain ⟨c4, v4, e4, h4, d0, d1⟩ := pick_ok h3 (by omega) (k := 2) (by omega) (by omega)
    have hw : IntKind.i64.wrap (40 + v4) = 40 + v4 := wrap_id (by omega) (by omega)
    obtain ⟨o, eo, o1, o2, o3, o4⟩ := edits_loop h4 (by omega) (N := 40 + v4) (by omega) (by omega) (IntKind.i64.wrap (1 + v1))
    obtain ⟨c', l, r, hc, hs⟩ := tail _ o o1 o2 o3 (o4.mono (by omega))
    refine ⟨c', l, ?_, hc, hs⟩
    rw [← r]
    simp only [F_spec_l1Cur_edits, e1, e2, e3, cond_true, e4, hw, eo]
    rfl
  | false =>
    obtain ⟨o, eo, o1, o2, o3, o4⟩ := edits_loop h3 (by omega) (N := v2) (by omega) (by omega) (IntKind.i64.wrap (1 + v1))
    obtain ⟨c', l, r, hc, hs⟩ := tail _ o o1 o2 o3 (o4.mono (by omega))
    refine ⟨c', l, ?_, hc, hs⟩
    rw [← r]
    simp only [F_spec_l1Cur_edits, e1, e2, e3, cond_false, eo]
    rfl

/-! ### Their texts -/
theorem line_size {e : Edit} (hok : edOK e = true) {m : Int} (m0 : 0 ≤ m) (m1 : m ≤ 9972) : (lineOf e m).size ≤ 19 := by
  obtain ⟨p1, p2, p3⟩ := edOK_parts hok
  have h1 := it_len (m := e.1) (by omega) (by omega)
  have h2 := it_len (m := m) m0 (by omega)
  have h3 := (gl_bytes p3).1
  rw [lineOf_ba, ba_size]
  simp only [lineL, List.length_append, List.length_cons, List.length_nil]
  omega
theorem line_both {e : Edit} (hok : edOK e = true) : ∃ t, F_spec_joLine e = some t ∧ F_impl_LogEdit_line e = some t ∧ t.size ≤ 19 := by
  obtain ⟨m, e1, e2, _, m0, m1⟩ := line_form e hok
  exact ⟨_, e1, e2, line_size hok m0 m1⟩
theorem text_small {l : List Edit} (hg : goodE l = true) : ∃ t, F_spec_joText l = some t ∧ F_impl_editsText l = some t ∧ t.size ≤ 760 := by
  have hl := goodE_len hg
  have hok : ∀ i, i < l.length → edOK (l.getD i dE) = true := fun i hi => by
    simp only [goodE, Bool.and_eq_true] at hg
    have := allN_true.1 hg.1 i hi
    simp only [goodEAt, Bool.and_eq_true] at this
    exact this.1
  obtain ⟨o, p, e1, e2, rfl, h⟩ := runL_sim (f := step_spec_joText_0) (g := step_impl_editsText_0) (fun a b => a = b ∧ ∃ (t : ByteArray) (i : Nat), a = (t, l, (l.length : Int), (i : Int)) ∧ i ≤ l.length ∧ t.size ≤ i * 19)
    (fun o p => o = p ∧ o.size ≤ 760) (fun a => l.length - a.2.2.2.toNat) (by
    rintro a b ⟨rfl, t, i, rfl, hi, ht⟩
    rcases Nat.lt_or_ge i l.length with hlt | hge
    · right
      obtain ⟨y, y1, y2, y3⟩ := line_both (hok i hlt)
      have hw := wrap_succ (i := i) (by omega)
      have hg : decide (t.size + y.size ≤ 9223372036854775807) = true := decide_eq_true (by omega)
      refine ⟨(t ++ y, l, (l.length : Int), ((i + 1 : Nat) : Int)), _, ?_, ?_, ⟨rfl, _, i + 1, rfl, by omega, by simp only [ByteArray.size_append]; omega⟩, by simp; omega⟩
      · simp only [step_spec_joText_0, lt_len hlt, nonneg, Bool.and_self, cond_true, Int.toNat_natCast, y1, hg, hw]
      · simp only [step_impl_editsText_0, lt_len hlt, nonneg, Bool.and_self, cond_true, Int.toNat_natCast, y2, hg, hw]
    · left
      have : i = l.length := by omega
      subst this
      exact ⟨t, t, by simp only [step_spec_joText_0, not_lt_len, cond_false], by simp only [step_impl_editsText_0, not_lt_len, cond_false], rfl, by omega⟩) (⟨#[]⟩, l, (l.length : Int), 0) (⟨#[]⟩, l, (l.length : Int), 0) ⟨rfl, _, 0, rfl, by omega, by have hz : (⟨#[]⟩ : ByteArray).size = 0 := rfl; omega⟩
  exact ⟨o, by simp only [F_spec_joText, e1], by simp only [F_impl_editsText, e2], h⟩
theorem DrawTearText_ok {code : List Int} (h : CurOK 0 (code, ((0 : Int), (0 : Int)))) : ∃ l k, F_spec_DrawTearText code = some (l, k) ∧ SmallE l := by
  obtain ⟨c1, l, e1, h1, s1⟩ := edits_ok h (by omega)
  have hj := joGood_is l s1.fits
  cases hg : goodE l with
  | true =>
    obtain ⟨t, t1, _, t3⟩ := text_small hg
    have hw : IntKind.i64.wrap ((t.size : Int) + 1) = (t.size : Int) + 1 := wrap_id (by omega) (by omega)
    obtain ⟨c2, v2, e2, h2, _, _⟩ := pick_big h1 (by omega) (k := (t.size : Int) + 1) (by omega) (by omega)
    obtain ⟨c3, v3, e3, h3, _, _⟩ := pick_big h2 (by omega) (k := (t.size : Int) + 1) (by omega) (by omega)
    obtain ⟨c4, v4, e4, h4, _⟩ := among_ok h3 (by omega) (l := [0, (t.size : Int), v2, v3, (t.size : Int) + 1, (-1)]) (by simp) (by simp)
    exact ⟨l, v4, by simp only [F_spec_DrawTearText, e1, hj, hg, cond_true, t1, hw, e2, e3, e4], s1⟩
  | false =>
    have hw : IntKind.i64.wrap (0 + 1) = 1 := rfl
    obtain ⟨c2, v2, e2, h2, _, _⟩ := pick_ok h1 (by omega) (k := 1) (by omega) (by omega)
    obtain ⟨c3, v3, e3, h3, _, _⟩ := pick_ok h2 (by omega) (k := 1) (by omega) (by omega)
    obtain ⟨c4, v4, e4, h4, _⟩ := among_ok h3 (by omega) (l := [0, 0, v2, v3, 1, (-1)]) (by simp) (by simp)
    exact ⟨l, v4, by simp only [F_spec_DrawTearText, e1, hj, hg, cond_false, hw, e2, e3, e4], s1⟩
end Go.Proofs.YtjmagdcgniklgaaGreatDoor
/- Texts put into a rising list: plain laws. Lengths fit an int. -/
set_option linter.unusedVariables false
set_option linter.unusedSimpArgs false
namespace Go.Proofs.YtjmagdcgniklgaaGreatDoor
open Go
def lessB (a b : ByteArray) : Bool := Op.bytesLess a.toList b.toList
/-- how many stand ahead -/
def ahead (s : ByteArray) : List ByteArray → Nat
  | [] => 0
  | a :: l => if lessB a s = true then ahead s l + 1 else 0
theorem ahead_le (s : ByteArray) : ∀ l, ahead s l ≤ l.length
  | [] => Nat.le_refl _
  | a :: l => by
    unfold ahead
    split
    · have := ahead_le s l; simp; omega
    · simp
theorem ahead_less (s : ByteArray) : ∀ (l : List ByteArray) (i : Nat), i < ahead s l → lessB (l.getD i ByteArray.empty) s = true
  | [], i, h => by simp [ahead] at h
  | a :: l, i, h => by
    unfold ahead at h
    split at h
    · rename_i hl
      cases i with
      | zero => exact hl
      | succ i => exact ahead_less s l i (by omega)
    · omega
theorem ahead_stop (s : ByteArray) : ∀ (l : List ByteArray), ahead s l < l.length → lessB (l.getD (ahead s l) ByteArray.empty) s = false
  | [], h => by simp at h
  | a :: l, h => by
    unfold ahead at h ⊢
    split
    · rename_i hl
      rw [if_pos hl] at h
      exact ahead_stop s l (by simp at h; omega)
    · rename_i hl
      simpa using hl
/-- a text comes to its place, if it is not there -/
def put (l : List ByteArray) (s : ByteArray) : List ByteArray := if ahead s l < l.length ∧ ((l.getD (ahead s l) ByteArray.empty).toList == s.toList) = true then l else l.take (ahead s l) ++ [s] ++ l.drop (ahead s l)
end Go.Proofs.YtjmagdcgniklgaaGreatDoor
/- Strictly rising lists of texts: plain laws. Lengths fit an int. -/
set_option linter.unusedVariables false
set_option linter.unusedSimpArgs false
namespace Go.Proofs.YtjmagdcgniklgaaGreatDoor
open Go Classical
theorem lessB_lt (a b : ByteArray) : lessB a b = decide (a.data.toList < b.data.toList) := by
  unfold lessB
  rw [bytesLess_eq, Lib.toList_data, Lib.toList_data]
theorem bytes_ext {a b : ByteArray} (h : a.data.toList = b.data.toList) : a = b := by
  obtain ⟨⟨a⟩⟩ := a
  obtain ⟨⟨b⟩⟩ := b
  have : a = b := h
  rw [this]
theorem lessB_irrefl (a : ByteArray) : lessB a a = false := by
  rw [lessB_lt]; exact decide_eq_false (List.lt_irrefl _)
theorem lessB_trans {a b c : ByteArray} (h : lessB a b = true) (k : lessB b c = true) : lessB a c = true := by
  rw [lessB_lt] at *
  exact decide_eq_true (List.lt_trans (of_decide_eq_true h) (of_decide_eq_true k))
theorem lessB_tri {a b : ByteArray} (h : lessB a b = false) (k : lessB b a = false) : a = b := by
  rw [lessB_lt] at *
  have h := of_decide_eq_false h
  have k := of_decide_eq_false k
  exact bytes_ext (List.le_antisymm (List.not_lt.1 k) (List.not_lt.1 h))
theorem beq_is (a b : ByteArray) : (a.toList == b.toList) = decide (a = b) := by
  rw [Lib.toList_data, Lib.toList_data]
  by_cases h : a = b
  · subst h; simp
  · have : ¬ a.data.toList = b.data.toList := fun e => h (bytes_ext e)
    rw [decide_eq_false h]
    exact beq_eq_false_iff_ne.2 this
def Rise (l : List ByteArray) : Prop := l.Pairwise fun a b => lessB a b = true
theorem Rise.ext : ∀ {l m : List ByteArray}, Rise l → Rise m → (∀ x, x ∈ l ↔ x ∈ m) → l = m
  | [], [], _, _, _ => rfl
  | [], b :: m, _, _, h => by have := (h b).2 (by simp); cases this
  | a :: l, [], _, _, h => by have := (h a).1 (by simp); cases this
  | a :: l, b :: m, hl, hm, h => by
    obtain ⟨l1, l2⟩ := List.pairwise_cons.1 hl
    obtain ⟨m1, m2⟩ := List.pairwise_cons.1 hm
    have hab : a = b := by
      rcases List.mem_cons.1 ((h a).1 (by simp)) with e | e
      · exact e
      · rcases List.mem_cons.1 ((h b).2 (by simp)) with e' | e'
        · exact e'.symm
        · have := lessB_trans (l1 b e') (m1 a e)
          rw [lessB_irrefl] at this
          cases this
    subst hab
    rw [Rise.ext l2 m2 fun x => ⟨fun hx => by
      rcases List.mem_cons.1 ((h x).1 (by simp [hx])) with e | e
      · subst e
        have := l1 x hx
        rw [lessB_irrefl] at this
        cases this
      · exact e, fun hx => by
      rcases List.mem_cons.1 ((h x).2 (by simp [hx])) with e | e
      · subst e
        have := m1 x hx
        rw [lessB_irrefl] at this
        cases this
      · exact e⟩]
theorem Rise.lt {l : List ByteArray} (h : Rise l) {i j : Nat} (hij : i < j) (hj : j < l.length) : lessB (l.getD i ByteArray.empty) (l.getD j ByteArray.empty) = true := by
  have := List.pairwise_iff_getElem.1 h i j (by omega) hj hij
  simpa [List.getD, List.getElem?_eq_getElem hj, List.getElem?_eq_getElem (show i < l.length by omega)] using this
theorem rise_of {l : List ByteArray} (h : ∀ i, 0 < i → i < l.length → lessB (l.getD (i - 1) ByteArray.empty) (l.getD i ByteArray.empty) = true) : Rise l := by
  refine List.pairwise_iff_getElem.2 fun i j hi hj hij => ?_
  have go : ∀ d i, i + d + 1 < l.length → lessB (l.getD i ByteArray.empty) (l.getD (i + d + 1) ByteArray.empty) = true := by
    intro d
    induction d with
    | zero => intro i hi; exact h (i + 1) (by omega) hi
    | succ d ih => intro i hi; exact lessB_trans (ih i (by omega)) (h (i + (d + 1) + 1) (by omega) hi)
  have := go (j - i - 1) i (by omega)
  rw [show i + (j - i - 1) + 1 = j by omega] at this
  simpa [List.getD, List.getElem?_eq_getElem hj, List.getElem?_eq_getElem hi] using this
theorem Rise.before {l : List ByteArray} (h : Rise l) (s : ByteArray) {i : Nat} (hi : i < l.length) : lessB (l.getD i ByteArray.empty) s = decide (i < ahead s l) := by
  rcases Nat.lt_or_ge i (ahead s l) with hk | hk
  · rw [ahead_less s l i hk, decide_eq_true hk]
  · rw [decide_eq_false (by omega)]
    have hs := ahead_stop s l (by omega)
    rcases Nat.eq_or_lt_of_le hk with e | e
    · rw [← e]; exact hs
    · have hl := h.lt e hi
      cases hq : lessB (l.getD i ByteArray.empty) s with
      | false => rfl
      | true => rw [lessB_trans hl hq] at hs; cases hs
theorem Rise.mem {l : List ByteArray} (h : Rise l) (s : ByteArray) : s ∈ l ↔ ahead s l < l.length ∧ l.getD (ahead s l) ByteArray.empty = s := by
  constructor
  · intro hs
    obtain ⟨i, hi, e⟩ := List.getElem_of_mem hs
    have hd : l.getD i ByteArray.empty = s := by simp [List.getD, List.getElem?_eq_getElem hi, e]
    have hb := h.before s hi
    rw [hd, lessB_irrefl] at hb
    have hge : ahead s l ≤ i := by have := of_decide_eq_false hb.symm; omega
    rcases Nat.eq_or_lt_of_le hge with e' | e'
    · exact ⟨by omega, by rw [e']; exact hd⟩
    · have hl := h.lt e' hi
      rw [hd, ahead_stop s l (by omega)] at hl
      cases hl
  · rintro ⟨h1, h2⟩
    rw [← h2]
    exact getD_mem h1 _
theorem put_is {l : List ByteArray} (h : Rise l) (s : ByteArray) : put l s = if s ∈ l then l else l.take (ahead s l) ++ [s] ++ l.drop (ahead s l) := by
  unfold put
  have e : (ahead s l < l.length ∧ ((l.getD (ahead s l) ByteArray.empty).toList == s.toList) = true) ↔ s ∈ l := by
    rw [h.mem s, beq_is, decide_eq_true_iff]
  by_cases hs : s ∈ l
  · rw [if_pos hs, if_pos (e.2 hs)]
  · rw [if_neg hs, if_neg fun h => hs (e.1 h)]
theorem put_mem {l : List ByteArray} (h : Rise l) (s x : ByteArray) : x ∈ put l s ↔ x = s ∨ x ∈ l := by
  rw [put_is h]
  split
  · rename_i hs
    exact ⟨.inr, fun h => h.elim (fun e => e ▸ hs) id⟩
  · have : x ∈ l ↔ x ∈ l.take (ahead s l) ∨ x ∈ l.drop (ahead s l) := by
      rw [← List.mem_append, List.take_append_drop]
    rw [this]
    simp only [List.mem_append, List.mem_singleton]
    constructor
    · rintro ((h | h) | h)
      · exact .inr (.inl h)
      · exact .inl h
      · exact .inr (.inr h)
    · rintro (h | h | h)
      · exact .inl (.inr h)
      · exact .inl (.inl h)
      · exact .inr h
theorem Rise.put {l : List ByteArray} (h : Rise l) (s : ByteArray) : Rise (put l s) := by
  rw [put_is h]
  split
  · exact h
  · rename_i hs
    have h1 : ∀ x ∈ l.take (ahead s l), lessB x s = true := by
      intro x hx
      obtain ⟨i, hi, e⟩ := List.getElem_of_mem hx
      have hi' : i < ahead s l ∧ i < l.length := by simp at hi; omega
      have := ahead_less s l i hi'.1
      rw [List.getElem_take] at e
      rw [← e]
      simpa [List.getD, List.getElem?_eq_getElem hi'.2] using this
    have h2 : ∀ x ∈ l.drop (ahead s l), lessB s x = true := by
      intro x hx
      obtain ⟨i, hi, e⟩ := List.getElem_of_mem hx
      have hi' : ahead s l + i < l.length := by simp at hi; omega
      rw [List.getElem_drop] at e
      have hb := h.before s hi'
      rw [decide_eq_false (by omega)] at hb
      have hd : l.getD (ahead s l + i) ByteArray.empty = x := by simp [List.getD, List.getElem?_eq_getElem hi', e]
      rw [hd] at hb
      cases hq : lessB s x with
      | true => rfl
      | false =>
        have := lessB_tri hb hq
        subst this
        exact absurd (List.mem_of_mem_drop hx) hs
    have hp : Rise (l.take (ahead s l) ++ l.drop (ahead s l)) := by rw [List.take_append_drop]; exact h
    obtain ⟨p1, p2, p3⟩ := List.pairwise_append.1 hp
    rw [List.append_assoc]
    refine List.pairwise_append.2 ⟨p1, List.pairwise_cons.2 ⟨h2, p2⟩, fun a ha b hb => ?_⟩
    rcases List.mem_cons.1 hb with rfl | hb
    · exact h1 a ha
    · exact p3 a ha b hb
theorem put_len {l : List ByteArray} (s : ByteArray) : (put l s).length ≤ l.length + 1 := by
  unfold put
  split
  · omega
  · have := ahead_le s l
    simp; omega
theorem Rise.remove {l : List ByteArray} (h : Rise l) {s : ByteArray} (hs : s ∈ l) : l.take (ahead s l) ++ l.drop (ahead s l + 1) = l.filter fun x => decide (x ≠ s) := by
  obtain ⟨hk, hd⟩ := (h.mem s).1 hs
  have hl : l = l.take (ahead s l) ++ s :: l.drop (ahead s l + 1) := by
    have e1 : l[ahead s l] = s := by simpa [List.getD, List.getElem?_eq_getElem hk] using hd
    have : l.drop (ahead s l) = s :: l.drop (ahead s l + 1) := by rw [List.drop_eq_getElem_cons hk, e1]
    rw [← this, List.take_append_drop]
  generalize hA : l.take (ahead s l) = A at hl ⊢
  generalize hB : l.drop (ahead s l + 1) = B at hl ⊢
  subst hl
  obtain ⟨p1, p2, p3⟩ := List.pairwise_append.1 h
  obtain ⟨q1, q2⟩ := List.pairwise_cons.1 p2
  have f1 : A.filter (fun x => decide (x ≠ s)) = A := List.filter_eq_self.2 fun x hx => by
    have := p3 x hx s (by simp)
    refine decide_eq_true fun e => ?_
    subst e
    rw [lessB_irrefl] at this; cases this
  have f2 : B.filter (fun x => decide (x ≠ s)) = B := List.filter_eq_self.2 fun x hx => by
    have := q1 x hx
    refine decide_eq_true fun e => ?_
    subst e
    rw [lessB_irrefl] at this; cases this
  rw [List.filter_append, List.filter_cons, f1, f2]
  simp
theorem Rise.filter {l : List ByteArray} (h : Rise l) (p : ByteArray → Bool) : Rise (l.filter p) := List.Pairwise.sublist List.filter_sublist h
theorem filter_there {l : List ByteArray} {s : ByteArray} : (l.filter fun x => decide (x ≠ s)).length < l.length ↔ s ∈ l := by
  constructor
  · intro h
    refine Classical.byContradiction fun hs => ?_
    have hf : l.filter (fun x => decide (x ≠ s)) = l := List.filter_eq_self.2 fun x hx => by
      refine decide_eq_true fun e => ?_
      subst e
      exact hs hx
    rw [hf] at h
    omega
  · intro hs
    rcases Nat.lt_or_ge (l.filter fun x => decide (x ≠ s)).length l.length with h | h
    · exact h
    · have := List.length_filter_eq_length_iff.1 (Nat.le_antisymm (List.length_filter_le _ _) h) s hs
      simp at this
end Go.Proofs.YtjmagdcgniklgaaGreatDoor
/- What distinct comes to: the elements of a list of texts, strictly rising. Lengths fit an int. -/
set_option linter.unusedVariables false
set_option linter.unusedSimpArgs false
namespace Go.Proofs.YtjmagdcgniklgaaGreatDoor
open Go Classical
/-- runs of the same become one -/
def cpt : List ByteArray → List ByteArray
  | [] => []
  | [a] => [a]
  | a :: b :: l => if a = b then cpt (b :: l) else a :: cpt (b :: l)
theorem cpt_snoc (x : ByteArray) : ∀ l : List ByteArray, cpt (l ++ [x]) = if l.getLast? = some x then cpt l else cpt l ++ [x]
  | [] => rfl
  | [a] => by
    show (if a = x then [x] else a :: [x]) = _
    by_cases h : a = x
    · subst h; simp [cpt]
    · simp [cpt, h]
  | a :: b :: l => by
    have ih := cpt_snoc x (b :: l)
    show (if a = b then cpt (b :: l ++ [x]) else a :: cpt (b :: l ++ [x])) = _
    rw [ih, List.getLast?_cons_cons]
    by_cases h : a = b
    · simp [cpt, h]
    · by_cases hx : (b :: l).getLast? = some x
      · simp [cpt, h, hx]
      · simp [cpt, h, hx]
theorem cpt_mem : ∀ (l : List ByteArray) (x : ByteArray), x ∈ cpt l ↔ x ∈ l
  | [], _ => Iff.rfl
  | [_], _ => Iff.rfl
  | a :: b :: l, x => by
    have ih := cpt_mem (b :: l) x
    unfold cpt
    split
    · rename_i h
      rw [ih, h]
      simp
    · simp only [List.mem_cons] at ih ⊢
      rw [ih]
theorem cpt_rise : ∀ {l : List ByteArray}, l.Pairwise (fun a b => lessB b a = false) → Rise (cpt l)
  | [], _ => List.Pairwise.nil
  | [a], _ => by simp [cpt, Rise]
  | a :: b :: l, h => by
    obtain ⟨h1, h2⟩ := List.pairwise_cons.1 h
    have ih := cpt_rise h2
    unfold cpt
    split
    · exact ih
    · rename_i hne
      refine List.pairwise_cons.2 ⟨fun x hx => ?_, ih⟩
      have hx := (cpt_mem _ x).1 hx
      have hab : lessB a b = true := by
        cases hq : lessB a b with
        | true => rfl
        | false => exact absurd (lessB_tri hq (h1 b (by simp))) hne
      rcases List.mem_cons.1 hx with rfl | hx
      · exact hab
      · cases hq : lessB a x with
        | true => rfl
        | false =>
          have hbx := (List.pairwise_cons.1 h2).1 x hx
          have hxa := h1 x (by simp [hx])
          have e := lessB_tri hq hxa
          subst e
          rw [hbx] at hab
          cases hab
theorem cpt_len : ∀ l : List ByteArray, (cpt l).length ≤ l.length
  | [] => Nat.le_refl _
  | [_] => Nat.le_refl _
  | a :: b :: l => by
    have ih := cpt_len (b :: l)
    unfold cpt
    split
    · simp at ih ⊢; omega
    · simp at ih ⊢; omega
theorem take_last {l : List ByteArray} {i : Nat} (h0 : 0 < i) (h : i ≤ l.length) : (l.take i).getLast? = some (l.getD (i - 1) ByteArray.empty) := by
  have e : l.take i = l.take (i - 1) ++ [l.getD (i - 1) ByteArray.empty] := by
    have := take_succ_getD (l := l) (i := i - 1) (by omega) ByteArray.empty
    rwa [show i - 1 + 1 = i by omega] at this
  rw [e, List.getLast?_append]
  simp
theorem cpt_next {l : List ByteArray} {i : Nat} (h0 : 0 < i) (h : i < l.length) : cpt (l.take (i + 1)) = if l.getD (i - 1) ByteArray.empty = l.getD i ByteArray.empty then cpt (l.take i) else cpt (l.take i) ++ [l.getD i ByteArray.empty] := by
  rw [take_succ_getD h ByteArray.empty, cpt_snoc, take_last h0 (by omega)]
  simp

theorem compact_inner (x : List ByteArray) (i : Nat) (hx : x.length ≤ 1048576000) (h0 : 0 < i) (hi : i < x.length) (hp : cpt (x.take i) = x.take i) (he : x.getD (i - 1) ByteArray.empty = x.getD i ByteArray.empty) :
    ∃ o, runL step_slices_Compact_string_string_0 ((i : Int), (i : Int), (((x.length - i : Nat) : Int), 1, x)) = some o ∧ ∃ (k : Nat) (cur : List ByteArray), o = ((k : Int), cur) ∧ k ≤ x.length ∧ cur.length = x.length ∧ cur.take k = cpt x := by
  refine runL_inv (f := step_slices_Compact_string_string_0) (fun s => ∃ (k j : Nat) (cur : List ByteArray), s = ((k : Int), (i : Int), (((x.length - i : Nat) : Int), (j : Int), cur)) ∧ 1 ≤ j ∧ j ≤ x.length - i ∧ k < i + j ∧ cur.length = x.length ∧ cur.take k = cpt (x.take (i + j)) ∧ ∀ t, i + j ≤ t + 1 → t < x.length → cur.getD t ByteArray.empty = x.getD t ByteArray.empty)
    (fun o => ∃ (k : Nat) (cur : List ByteArray), o = ((k : Int), cur) ∧ k ≤ x.length ∧ cur.length = x.length ∧ cur.take k = cpt x) (fun s => x.length - s.2.2.2.1.toNat) ?_ _
    ⟨i, 1, x, rfl, Nat.le_refl _, by omega, by omega, rfl, by rw [cpt_next h0 hi, if_pos he, hp], fun t _ _ => rfl⟩
  rintro s ⟨k, j, cur, rfl, hj1, hj2, hk, hcl, hct, hsame⟩
  rcases Nat.lt_or_ge j (x.length - i) with hlt | hge
  · right
    have w1 := wrap_pred (i := j) (by omega) (by omega)
    have w2 := wrap_succ (i := k) (by omega)
    have w3 := wrap_succ (i := j) (by omega)
    have g1 : cur.getD (i + j) ByteArray.empty = x.getD (i + j) ByteArray.empty := hsame _ (by omega) (by omega)
    have g2 : cur.getD (i + (j - 1)) ByteArray.empty = x.getD (i + j - 1) ByteArray.empty := by rw [show i + (j - 1) = i + j - 1 by omega]; exact hsame _ (by omega) (by omega)
    have hn := cpt_next (l := x) (i := i + j) (by omega) (by omega)
    have hkl : k < cur.length := by omega
    by_cases hq : x.getD (i + j) ByteArray.empty = x.getD (i + j - 1) ByteArray.empty
    · have hb : ((x.getD (i + j) ByteArray.empty).toList == (x.getD (i + j - 1) ByteArray.empty).toList) = true := by rw [beq_is]; exact decide_eq_true hq
      refine ⟨((k : Int), (i : Int), (((x.length - i : Nat) : Int), ((j + 1 : Nat) : Int), cur)), ?_, ⟨k, j + 1, cur, rfl, by omega, by omega, by omega, hcl, ?_, fun t ht htl => hsame t (by omega) htl⟩, by simp; omega⟩
      · simp only [step_slices_Compact_string_string_0, Int.toNat_natCast, lt_len hlt, nonneg, Bool.and_self, cond_true, w1, lt_len (show j - 1 < x.length - i by omega), g1, g2, hb, Bool.not_true, cond_false, w3]
      · rw [show i + (j + 1) = i + j + 1 by omega, hn, if_pos hq.symm]; exact hct
    · have hb : ((x.getD (i + j) ByteArray.empty).toList == (x.getD (i + j - 1) ByteArray.empty).toList) = false := by rw [beq_is]; exact decide_eq_false hq
      refine ⟨(((k + 1 : Nat) : Int), (i : Int), (((x.length - i : Nat) : Int), ((j + 1 : Nat) : Int), cur.set k (x.getD (i + j) ByteArray.empty))), ?_, ⟨k + 1, j + 1, _, rfl, by omega, by omega, by omega, by simp [hcl], ?_, fun t ht htl => ?_⟩, by simp; omega⟩
      · simp only [step_slices_Compact_string_string_0, Int.toNat_natCast, lt_len hlt, nonneg, Bool.and_self, cond_true, w1, lt_len (show j - 1 < x.length - i by omega), g1, g2, hb, Bool.not_false, lt_len hkl, w2, w3]
      · rw [show i + (j + 1) = i + j + 1 by omega, hn, if_neg (fun e => hq e.symm), ← hct]
        rw [take_succ_getD (by simpa using hkl) ByteArray.empty, List.take_set, List.set_eq_of_length_le (by simp; omega)]
        simp [List.getD, hkl]
      · have hne : k ≠ t := by omega
        have := hsame t (by omega) htl
        simpa [List.getD, List.getElem?_set, hne] using this
  · left
    have hj : j = x.length - i := by omega
    subst hj
    refine ⟨((k : Int), cur), by simp only [step_slices_Compact_string_string_0, Int.toNat_natCast, not_lt_len, cond_false], k, cur, rfl, by omega, hcl, ?_⟩
    rw [hct, show i + (x.length - i) = x.length by omega, List.take_length]

theorem compact_is (x : List ByteArray) (hx : x.length ≤ 1048576000) : F_slices_Compact_string_string x = some (cpt x) := by
  unfold F_slices_Compact_string_string
  by_cases h2 : (x.length : Int) < 2
  · rw [decide_eq_true h2]
    match x, h2 with
    | [], _ => rfl
    | [a], _ => rfl
    | a :: b :: l, h2 => simp at h2; omega
  · rw [decide_eq_false h2]
    obtain ⟨o, ho, hq⟩ := runL_inv (f := step_slices_Compact_string_string_1) (fun s => ∃ i : Nat, s = ((i : Int), x) ∧ 1 ≤ i ∧ i ≤ x.length ∧ cpt (x.take i) = x.take i)
      (fun o => (o = .inr x ∧ cpt x = x) ∨ ∃ (k : Nat) (c : List ByteArray), o = .inl (0, ((k : Int), c)) ∧ c.take k = cpt x) (fun s => x.length - s.1.toNat) (by
      rintro s ⟨i, rfl, hi1, hi2, hp⟩
      rcases Nat.lt_or_ge i x.length with hlt | hge
      · have w1 := wrap_pred (i := i) (by omega) hi1
        have w2 := wrap_succ (i := i) (by omega)
        by_cases hq : x.getD i ByteArray.empty = x.getD (i - 1) ByteArray.empty
        · left
          have hb : ((x.getD i ByteArray.empty).toList == (x.getD (i - 1) ByteArray.empty).toList) = true := by rw [beq_is]; exact decide_eq_true hq
          obtain ⟨o, ho, k, cur, rfl, hk, hcl, hct⟩ := compact_inner x i hx hi1 hlt hp hq.symm
          have g1 : decide ((i : Int) ≤ (x.length : Int)) = true := decide_eq_true (by omega)
          have g2 : decide ((x.length : Int) ≤ (x.length : Int)) = true := decide_eq_true (Int.le_refl _)
          have g3 : decide ((k : Int) ≤ (cur.length : Int)) = true := decide_eq_true (by omega)
          have g4 : decide ((cur.length : Int) ≤ (cur.length : Int)) = true := decide_eq_true (Int.le_refl _)
          have g5 : decide (k + (cur.length - k) ≤ cur.length) = true := decide_eq_true (by omega)
          have g6 : decide ((k : Int) ≤ (((cur.take k ++ List.replicate (cur.length - k) ByteArray.empty ++ cur.drop (k + (cur.length - k))).length : Nat) : Int)) = true := decide_eq_true (by simp; omega)
          have g0 : decide (0 ≤ (0 : Int)) = true := rfl
          have z0 : ((0 : Int).toNat) = 0 := rfl
          refine ⟨.inl (0, ((k : Int), cur.take k ++ List.replicate (cur.length - k) ByteArray.empty ++ cur.drop (k + (cur.length - k)))), ?_, .inr ⟨k, _, rfl, ?_⟩⟩
          · simp only [step_slices_Compact_string_string_1, lt_len hlt, nonneg, Bool.and_self, cond_true, w1, lt_len (show i - 1 < x.length by omega), Int.toNat_natCast, hb, g1, g2, ho, g3, g4, g5, g6, g0, z0, Nat.sub_zero, Int.ofNat_zero]
          · rw [List.append_assoc, List.take_append_of_le_length (by simp; omega), List.take_take, Nat.min_self, hct]
        · right
          have hb : ((x.getD i ByteArray.empty).toList == (x.getD (i - 1) ByteArray.empty).toList) = false := by rw [beq_is]; exact decide_eq_false hq
          refine ⟨(((i + 1 : Nat) : Int), x), ?_, ⟨i + 1, rfl, by omega, by omega, ?_⟩, by simp; omega⟩
          · simp only [step_slices_Compact_string_string_1, lt_len hlt, nonneg, Bool.and_self, cond_true, w1, lt_len (show i - 1 < x.length by omega), Int.toNat_natCast, hb, cond_false, w2]
          · rw [cpt_next hi1 hlt, if_neg (fun e => hq e.symm), hp, take_succ_getD hlt ByteArray.empty]
      · left
        have : i = x.length := by omega
        subst this
        refine ⟨.inr x, by simp only [step_slices_Compact_string_string_1, not_lt_len, cond_false], .inl ⟨rfl, ?_⟩⟩
        rwa [List.take_length] at hp) (1, x) ⟨1, rfl, Nat.le_refl _, by omega, by
        match x, h2 with
        | a :: l, _ => rfl⟩
    simp only [ho, cond_false]
    rcases hq with ⟨rfl, e⟩ | ⟨k, c, rfl, e⟩
    · simp only [e]
    · have h0 : ((0 : Int).toNat) = 0 := rfl
      simp [e]

theorem mergeSort_bytes (x : List ByteArray) : ∃ S : List ByteArray, F_slices_Sort_string_string x = (if x.length < 4611686018427387904 then some S else none) ∧ S.Perm x ∧ S.Pairwise (fun a b => lessB b a = false) := by
  refine ⟨((x.map fun b => b.data.toList).mergeSort fun a b => decide (a ≤ b)).map fun l => ⟨l.toArray⟩, ?_, ?_, ?_⟩
  · simp only [F_slices_Sort_string_string, F_sort]
    by_cases h : x.length < 4611686018427387904 <;> simp [h]
  · have h1 : (((x.map fun b : ByteArray => b.data.toList).mergeSort fun a b => decide (a ≤ b)).map fun l : List UInt8 => (⟨l.toArray⟩ : ByteArray)).Perm ((x.map fun b : ByteArray => b.data.toList).map fun l : List UInt8 => (⟨l.toArray⟩ : ByteArray)) := List.Perm.map _ (List.mergeSort_perm _ _)
    have h2 : (x.map fun b : ByteArray => b.data.toList).map (fun l : List UInt8 => (⟨l.toArray⟩ : ByteArray)) = x := by
      rw [List.map_map]
      have : ((fun l : List UInt8 => (⟨l.toArray⟩ : ByteArray)) ∘ fun b : ByteArray => b.data.toList) = id := by
        funext b
        obtain ⟨⟨l⟩⟩ := b
        rfl
      rw [this, List.map_id]
    rw [h2] at h1
    exact h1
  · refine List.pairwise_map.2 ?_
    have h := List.pairwise_mergeSort (le := fun a b : List UInt8 => decide (a ≤ b)) (fun a b c h k => decide_eq_true (List.le_trans (of_decide_eq_true h) (of_decide_eq_true k))) (fun a b => by
      rcases List.le_total a b with h | h
      · simp [h]
      · simp [h]) (x.map fun b => b.data.toList)
    refine h.imp fun {a b} hab => ?_
    rw [lessB_lt]
    exact decide_eq_false (List.not_lt.2 (of_decide_eq_true hab))
theorem distinct_is (x : List ByteArray) (hx : x.length ≤ 1048576000) : ∃ D, F_impl_distinct_string x = some D ∧ Rise D ∧ (∀ s, s ∈ D ↔ s ∈ x) ∧ D.length ≤ x.length := by
  obtain ⟨S, e, hp, hs⟩ := mergeSort_bytes x
  have hl := hp.length_eq
  rw [if_pos (by omega)] at e
  have h1 : F_slices_Clone_string_string x = some x := by
    simp only [F_slices_Clone_string_string]
    rw [decide_eq_true (by omega)]; rfl
  have h2 := compact_is S (by omega)
  refine ⟨cpt S, by simp only [F_impl_distinct_string, h1, e, h2], cpt_rise hs, fun s => ?_, ?_⟩
  · rw [cpt_mem]
    exact hp.mem_iff
  · have := cpt_len S; omega
end Go.Proofs.YtjmagdcgniklgaaGreatDoor
/- What slices.DeleteFunc and slices.Contains come to at texts. Lengths fit an int. -/
set_option linter.unusedVariables false
set_option linter.unusedSimpArgs false
namespace Go.Proofs.YtjmagdcgniklgaaGreatDoor
open Go Classical
theorem deleteFunc_is (l : List ByteArray) (hl : l.length ≤ 1048576000) (φ : ByteArray → Option Bool) (p : ByteArray → Bool) (hφ : ∀ x ∈ l, φ x = some (p x)) : F_slices_DeleteFunc_string_string (l, φ) = some (l.filter fun x => !p x) := by
  have hφ' : ∀ i, i < l.length → φ (l.getD i ByteArray.empty) = some (p (l.getD i ByteArray.empty)) := fun i hi => hφ _ (getD_mem hi _)
  have hfind : F_slices_IndexFunc_string_string (l, φ) = some (firstN (fun i => p (l.getD i ByteArray.empty)) l.length) := by
    rcases runL_first (f := step_slices_IndexFunc_string_string_0) (fun i => !p (l.getD i ByteArray.empty)) (fun i => (l, φ, (l.length : Int), (i : Int))) (fun i => .inl (i : Int)) (.inr ()) l.length (fun i hi => by
      have hw := wrap_succ (i := i) (by omega)
      simp only [step_slices_IndexFunc_string_string_0, lt_len hi, nonneg, Bool.and_self, cond_true, Int.toNat_natCast, hw, hφ' i hi]
      cases p (l.getD i ByteArray.empty) <;> rfl) (by simp [step_slices_IndexFunc_string_string_0]) with ⟨t, hp⟩ | ⟨i, hi, hp, hj, t⟩
    · have t' : runL step_slices_IndexFunc_string_string_0 (l, φ, (l.length : Int), (0 : Int)) = _ := t
      simp only [F_slices_IndexFunc_string_string, t']
      rw [firstN_none (fun j hj => by simpa only [Bool.not_eq_true'] using hp j hj)]
    · have t' : runL step_slices_IndexFunc_string_string_0 (l, φ, (l.length : Int), (0 : Int)) = _ := t
      simp only [F_slices_IndexFunc_string_string, t']
      rw [firstN_at hi (by simpa only [Bool.not_eq_false'] using hp) (fun j hj' => by simpa only [Bool.not_eq_true'] using hj j hj')]
  have hnone : ∀ k, k ≤ l.length → (∀ j, j < k → p (l.getD j ByteArray.empty) = false) → (l.take k).filter (fun x => !p x) = l.take k := fun k hk h => List.filter_eq_self.2 fun x hx => by
    obtain ⟨i, hi, rfl⟩ := List.getElem_of_mem hx
    have hi' : i < k ∧ i < l.length := by simp at hi; omega
    have := h i hi'.1
    rw [List.getElem_take]
    simpa [List.getD, List.getElem?_eq_getElem hi'.2] using this
  unfold F_slices_DeleteFunc_string_string
  rw [hfind]
  rcases firstN_cases (fun i => p (l.getD i ByteArray.empty)) l.length with ⟨e, h⟩ | ⟨k, hk, e, hp, hj⟩
  · rw [e]
    have := hnone l.length (Nat.le_refl _) h
    rw [List.take_length] at this
    rw [this]
    rfl
  · rw [e]
    have ne1 : ((k : Int) == -1) = false := beq_eq_false_iff_ne.2 (by omega)
    have hw := wrap_succ (i := k) (by omega)
    have hstart : (l.take (k + 1)).filter (fun x => !p x) = l.take k := by
      rw [take_succ_getD hk ByteArray.empty, List.filter_append, hnone k (by omega) hj]
      simp only [List.filter_cons, List.filter_nil, hp, Bool.not_true, Bool.false_eq_true, if_false, List.append_nil]
    obtain ⟨o, ho, i, cur, rfl, hi, hcl, hct⟩ := runL_inv (f := step_slices_DeleteFunc_string_string_0) (fun s => ∃ (i j : Nat) (cur : List ByteArray), s = (φ, ((i : Int), (j : Int), cur)) ∧ i < j ∧ j ≤ l.length ∧ cur.length = l.length ∧ cur.take i = (l.take j).filter (fun x => !p x) ∧ ∀ t, j ≤ t → t < l.length → cur.getD t ByteArray.empty = l.getD t ByteArray.empty)
      (fun o => ∃ (i : Nat) (cur : List ByteArray), o = ((i : Int), cur) ∧ i ≤ l.length ∧ cur.length = l.length ∧ cur.take i = l.filter (fun x => !p x)) (fun s => l.length - s.2.2.1.toNat) (by
      rintro s ⟨i, j, cur, rfl, hij, hjl, hcl, hct, hsame⟩
      rcases Nat.lt_or_ge j l.length with hlt | hge
      · right
        have hw1 := wrap_succ (i := i) (by omega)
        have hw2 := wrap_succ (i := j) (by omega)
        have hg := hsame j (Nat.le_refl _) hlt
        have hlc : j < cur.length := by omega
        have hic : i < cur.length := by omega
        cases hq : p (l.getD j ByteArray.empty) with
        | true =>
          refine ⟨(φ, ((i : Int), ((j + 1 : Nat) : Int), cur)), ?_, ⟨i, j + 1, cur, rfl, by omega, by omega, hcl, ?_, fun t h1 h2 => hsame t (by omega) h2⟩, by simp; omega⟩
          · simp only [step_slices_DeleteFunc_string_string_0, lt_len hlc, nonneg, Bool.and_self, cond_true, Int.toNat_natCast, hg, hφ' j hlt, hq, Bool.not_true, cond_false, hw2]
          · rw [hct, take_succ_getD hlt ByteArray.empty, List.filter_append]
            simp only [List.filter_cons, List.filter_nil, hq, Bool.not_true, Bool.false_eq_true, if_false, List.append_nil]
        | false =>
          refine ⟨(φ, (((i + 1 : Nat) : Int), ((j + 1 : Nat) : Int), cur.set i (l.getD j ByteArray.empty))), ?_, ⟨i + 1, j + 1, _, rfl, by omega, by omega, by simp [hcl], ?_, fun t h1 h2 => ?_⟩, by simp; omega⟩
          · simp only [step_slices_DeleteFunc_string_string_0, lt_len hlc, lt_len hic, nonneg, Bool.and_self, cond_true, Int.toNat_natCast, hg, hφ' j hlt, hq, Bool.not_false, hw1, hw2]
          · rw [take_succ_getD (by simpa using hic) ByteArray.empty, List.take_set, List.set_eq_of_length_le (by simp; omega), hct, take_succ_getD hlt ByteArray.empty, List.filter_append]
            simp only [List.filter_cons, List.filter_nil, hq, Bool.not_false, if_true]
            simp [List.getD, hic]
          · have hne : i ≠ t := by omega
            have := hsame t (by omega) h2
            simpa [List.getD, List.getElem?_set, hne] using this
      · left
        have : j = cur.length := by omega
        subst this
        refine ⟨((i : Int), cur), by simp only [step_slices_DeleteFunc_string_string_0, not_lt_len, cond_false], i, cur, rfl, by omega, hcl, ?_⟩
        rw [hct, hcl, List.take_length]) (φ, ((k : Int), ((k + 1 : Nat) : Int), l)) ⟨k, k + 1, l, rfl, by omega, by omega, rfl, hstart.symm, fun t _ _ => rfl⟩
    have g3 : decide ((i : Int) ≤ (cur.length : Int)) = true := decide_eq_true (by omega)
    have g4 : decide ((cur.length : Int) ≤ (cur.length : Int)) = true := decide_eq_true (Int.le_refl _)
    have g5 : decide (i + (cur.length - i) ≤ cur.length) = true := decide_eq_true (by omega)
    have g6 : decide ((i : Int) ≤ (((cur.take i ++ List.replicate (cur.length - i) ByteArray.empty ++ cur.drop (i + (cur.length - i))).length : Nat) : Int)) = true := decide_eq_true (by simp; omega)
    have g0 : decide (0 ≤ (0 : Int)) = true := rfl
    have z0 : ((0 : Int).toNat) = 0 := rfl
    simp only [ne1, cond_false, hw, ho, nonneg, g3, g4, g5, g6, g0, z0, Bool.and_self, cond_true, Int.toNat_natCast, Nat.sub_zero]
    congr 1
    rw [List.append_assoc, List.take_append_of_le_length (by simp; omega), List.take_take, Nat.min_self, hct]
end Go.Proofs.YtjmagdcgniklgaaGreatDoor
/- The law of GlossesIn, as plain Lean: it answers true. Lengths fit an int. -/
set_option linter.unusedVariables false
set_option linter.unusedSimpArgs false
namespace Go.Proofs.YtjmagdcgniklgaaGreatDoor
open Go

/-! ### What is in -/
theorem keq_is (a b : ByteArray) : Ty.keq .str a b = decide (a = b) := beq_is a b
theorem mfind_cons (s g : ByteArray) (x : Bool) (r : List (ByteArray × Bool)) : mfind .str .bool s ((g, x) :: r) = if s = g then some x else mfind .str .bool s r := by
  have e : mfind .str .bool s ((g, x) :: r) = bif Ty.keq .str s g then some x else mfind .str .bool s r := rfl
  rw [e, keq_is]
  by_cases h : s = g
  · rw [decide_eq_true h, if_pos h]; rfl
  · rw [decide_eq_false h, if_neg h]; rfl
theorem mput_cons (g h : ByteArray) (x y : Bool) (r : List (ByteArray × Bool)) : mput .str .bool g x ((h, y) :: r) = if g = h then (g, x) :: r else (h, y) :: mput .str .bool g x r := by
  have e : mput .str .bool g x ((h, y) :: r) = bif Ty.keq .str g h then (g, x) :: r else (h, y) :: mput .str .bool g x r := rfl
  rw [e, keq_is]
  by_cases h : g = h
  · rw [decide_eq_true h, if_pos h]; rfl
  · rw [decide_eq_false h, if_neg h]; rfl
theorem mfind_mput (s g : ByteArray) (x : Bool) : ∀ es : List (ByteArray × Bool), mfind .str .bool s (mput .str .bool g x es) = if s = g then some x else mfind .str .bool s es
  | [] => mfind_cons s g x []
  | (h, y) :: r => by
    rw [mput_cons]
    by_cases hg : g = h
    · rw [if_pos hg, mfind_cons, mfind_cons]
      by_cases hs : s = g
      · rw [if_pos hs, if_pos hs]
      · rw [if_neg hs, if_neg hs, if_neg (by rw [← hg]; exact hs)]
    · rw [if_neg hg, mfind_cons, mfind_cons, mfind_mput s g x r]
      by_cases hs : s = g
      · rw [if_pos hs, if_pos hs, if_neg (by rw [hs]; exact hg)]
      · rw [if_neg hs, if_neg hs]
def inn (s : ByteArray) (es : List (ByteArray × Bool)) : Bool := mget .str .bool s es false
theorem inn_put (s g : ByteArray) (x : Bool) (es : List (ByteArray × Bool)) : inn s (mput .str .bool g x es) = if s = g then x else inn s es := by
  unfold inn mget
  rw [mfind_mput]
  by_cases h : s = g
  · simp [h]
  · simp [h]
def updE (es : List (ByteArray × Bool)) (e : Edit) : List (ByteArray × Bool) := mput .str .bool e.2.1 (!e.2.2) es
def upd (out : List ByteArray) (e : Edit) : List ByteArray := bif !e.2.2 then put out e.2.1 else out.filter fun x => decide (x ≠ e.2.1)
theorem upd_ok {out : List ByteArray} {es : List (ByteArray × Bool)} (hr : Rise out) (hm : ∀ s, s ∈ out ↔ inn s es = true) (e : Edit) : Rise (upd out e) ∧ (∀ s, s ∈ upd out e ↔ inn s (updE es e) = true) ∧ (upd out e).length ≤ out.length + 1 := by
  unfold upd updE
  cases he : e.2.2 with
  | true =>
    simp only [Bool.not_true, cond_false]
    refine ⟨hr.filter _, fun s => ?_, Nat.le_trans (List.length_filter_le _ _) (by omega)⟩
    rw [List.mem_filter, hm s, inn_put]
    by_cases h : s = e.2.1
    · simp [h]
    · simp [h]
  | false =>
    simp only [Bool.not_false, cond_true]
    refine ⟨hr.put _, fun s => ?_, put_len _⟩
    rw [put_mem hr, hm s, inn_put]
    by_cases h : s = e.2.1
    · simp [h]
    · simp [h]
theorem upds_ok : ∀ (l : List Edit) (out : List ByteArray) (es : List (ByteArray × Bool)), Rise out → (∀ s, s ∈ out ↔ inn s es = true) → Rise (l.foldl upd out) ∧ (∀ s, s ∈ l.foldl upd out ↔ inn s (l.foldl updE es) = true) ∧ (l.foldl upd out).length ≤ out.length + l.length
  | [], out, es, hr, hm => ⟨hr, hm, by simp⟩
  | e :: l, out, es, hr, hm => by
    obtain ⟨h1, h2, h3⟩ := upd_ok hr hm e
    obtain ⟨k1, k2, k3⟩ := upds_ok l _ _ h1 h2
    exact ⟨k1, k2, by simp only [List.foldl_cons, List.length_cons]; omega⟩
theorem inn_all : ∀ (l : List Edit) (es : List (ByteArray × Bool)) (s : ByteArray), inn s (l.foldl updE es) = true → inn s es = true ∨ s ∈ l.map fun e => e.2.1
  | [], es, s, h => .inl h
  | e :: l, es, s, h => by
    rcases inn_all l _ s h with h | h
    · rw [updE, inn_put] at h
      by_cases hs : s = e.2.1
      · exact .inr (by simp [hs])
      · rw [if_neg hs] at h
        exact .inl h
    · exact .inr (List.mem_cons_of_mem _ h)

/-! ### The reference's round -/
theorem keep_at {l : List ByteArray} {k : Nat} (h : k < l.length) {g : ByteArray} (hg : l.getD k ByteArray.empty = g) : l.take k ++ [g] ++ l.drop (k + 1) = l := by
  have e : l[k] = g := by simpa [List.getD, List.getElem?_eq_getElem h] using hg
  rw [List.append_assoc, ← e]
  simp
theorem gin_step (l : List Edit) (hn : l.length ≤ 40) (i : Nat) (hi : i < l.length) (out : List ByteArray) (hr : Rise out) (ho : out.length ≤ 40) :
    step_spec_GlossesIn_1 (out, (l, (l.length : Int), (i : Int))) = some (.inl (upd out (l.getD i dE), (l, (l.length : Int), ((i + 1 : Nat) : Int)))) := by
  have hw := wrap_succ (i := i) (by omega)
  have hk := ahead_le (l.getD i dE).2.1 out
  have t := runL_traj (f := step_spec_GlossesIn_0) (fun k => (out, (k : Int), l, (l.length : Int), (i : Int), l.getD i (0, ByteArray.empty, false))) (out, ((ahead (l.getD i dE).2.1 out : Nat) : Int), l, (l.length : Int), (i : Int), l.getD i (0, ByteArray.empty, false)) (ahead (l.getD i dE).2.1 out) (fun k hk' => by
    have hwk := wrap_succ (i := k) (by omega)
    have hless : Op.bytesLess (out.getD k ByteArray.empty).toList (l.getD i (0, ByteArray.empty, false)).2.1.toList = true := ahead_less _ out k hk'
    simp only [step_spec_GlossesIn_0, lt_len (show k < out.length by omega), nonneg, Bool.and_self, cond_true, Int.toNat_natCast, hless, hwk]) (by
    rcases Nat.lt_or_ge (ahead (l.getD i dE).2.1 out) out.length with h | h
    · have hless : Op.bytesLess (out.getD (ahead (l.getD i dE).2.1 out) ByteArray.empty).toList (l.getD i (0, ByteArray.empty, false)).2.1.toList = false := ahead_stop _ out h
      simp only [step_spec_GlossesIn_0, lt_len h, nonneg, Bool.and_self, cond_true, Int.toNat_natCast, hless, cond_false]
    · have h0 : decide (((ahead (l.getD i dE).2.1 out : Nat) : Int) < (out.length : Int)) = false := decide_eq_false (by omega)
      simp only [step_spec_GlossesIn_0, h0, cond_false])
  have t' : runL step_spec_GlossesIn_0 (out, (0, l, ((l.length : Int), (i : Int), l.getD i (0, ByteArray.empty, false)))) = some (out, (((ahead (l.getD i dE).2.1 out : Nat) : Int), l, ((l.length : Int), (i : Int), l.getD i (0, ByteArray.empty, false)))) := t
  have hmem := hr.mem (l.getD i dE).2.1
  have hput := put_is hr (l.getD i dE).2.1
  have hrem := fun hs => hr.remove (s := (l.getD i dE).2.1) hs
  clear t
  have hdE : (0, ByteArray.empty, false) = dE := rfl
  rw [hdE] at t'
  simp only [step_spec_GlossesIn_1, lt_len hi, nonneg, Bool.and_self, cond_true, Int.toNat_natCast, hdE]
  generalize l.getD i dE = e at *
  generalize hka : ahead e.2.1 out = k at *
  rw [t']
  have q0 : decide (0 ≤ (0 : Int)) = true := rfl
  have q01 : decide ((0 : Nat) ≤ 1) = true := rfl
  have q00 : decide ((0 : Nat) ≤ 0) = true := rfl
  have q1 : decide ((0 : Int) ≤ ((k : Nat) : Int)) = true := decide_eq_true (by omega)
  have q2 : decide (((k : Nat) : Int) ≤ (out.length : Int)) = true := decide_eq_true (by omega)
  have q3 : decide ((out.length : Int) ≤ (out.length : Int)) = true := decide_eq_true (Int.le_refl _)
  have e1 : (out.drop ((0 : Int)).toNat).take (k - ((0 : Int)).toNat) = out.take k := by simp
  have e2 : (out.drop k).take (out.length - k) = out.drop k := List.take_of_length_le (by simp)
  have l1 : (out.take k).length = k := by simp; omega
  have l2 : (out.drop k).length = out.length - k := by simp
  have e3 : ((out.drop k).drop (1 : Int).toNat).take ((out.drop k).length - (1 : Int).toNat) = out.drop (k + 1) := by
    rw [List.drop_drop]
    exact List.take_of_length_le (by simp; omega)
  have e4 : (out.drop k).getD (0 : Int).toNat ByteArray.empty = out.getD k ByteArray.empty := by simp [List.getD]
  have r1 : decide ((([] : List ByteArray).length + (out.take k).length) * 16 ≤ 140737488355328) = true := decide_eq_true (by simp; omega)
  have r2 : decide (((out.take k).length + ([e.2.1] : List ByteArray).length) * 16 ≤ 140737488355328) = true := decide_eq_true (by simp; omega)
  have r3 : decide (((out.take k ++ [e.2.1]).length + (out.drop k).length) * 16 ≤ 140737488355328) = true := decide_eq_true (by simp; omega)
  have r4 : decide (((out.take k ++ [e.2.1]).length + (out.drop (k + 1)).length) * 16 ≤ 140737488355328) = true := decide_eq_true (by simp; omega)
  have r5 : decide (((out.take k).length + (out.drop k).length) * 16 ≤ 140737488355328) = true := decide_eq_true (by simp; omega)
  have r6 : decide (((out.take k).length + (out.drop (k + 1)).length) * 16 ≤ 140737488355328) = true := decide_eq_true (by simp; omega)
  have j0 : ([] : List ByteArray) ++ out.take k = out.take k := rfl
  unfold upd
  rcases Nat.lt_or_ge k out.length with h | h
  · have p1 : decide (((out.drop k).length : Int) > 0) = true := decide_eq_true (by rw [l2]; omega)
    have p2 : decide ((0 : Int) < ((out.drop k).length : Int)) = true := decide_eq_true (by rw [l2]; omega)
    have p3 : decide ((1 : Int) ≤ ((out.drop k).length : Int)) = true := decide_eq_true (by rw [l2]; omega)
    have p4 : decide (((out.drop k).length : Int) ≤ ((out.drop k).length : Int)) = true := decide_eq_true (Int.le_refl _)
    by_cases hg : out.getD k ByteArray.empty = e.2.1
    · have hb : ((out.getD k ByteArray.empty).toList == e.2.1.toList) = true := by rw [beq_is]; exact decide_eq_true hg
      have hin : e.2.1 ∈ out := hmem.2 ⟨h, hg⟩
      rw [if_pos hin] at hput
      cases he : e.2.2 with
      | true =>
        simp only [q0, q00, q01, q1, q2, q3, p1, p2, p3, p4, Bool.and_self, cond_true, Int.toNat_natCast, e1, e2, e3, e4, hb, r1, r6, he, Bool.not_true, cond_false, hw, j0, hrem hin]
      | false =>
        simp only [q0, q00, q01, q1, q2, q3, p1, p2, p3, p4, Bool.and_self, cond_true, Int.toNat_natCast, e1, e2, e3, e4, hb, r1, r2, r4, he, Bool.not_false, hw, j0, hput, keep_at h hg]
    · have hb : ((out.getD k ByteArray.empty).toList == e.2.1.toList) = false := by rw [beq_is]; exact decide_eq_false hg
      have hin : ¬ e.2.1 ∈ out := fun hin => hg (hmem.1 hin).2
      have hf : (out.filter fun x => decide (x ≠ e.2.1)) = out := List.filter_eq_self.2 fun x hx => decide_eq_true fun (q : x = e.2.1) => hin (q ▸ hx)
      rw [if_neg hin] at hput
      cases he : e.2.2 with
      | true =>
        simp only [q0, q00, q01, q1, q2, q3, p1, p2, Bool.and_self, cond_true, Int.toNat_natCast, e1, e2, e4, hb, r1, r5, he, Bool.not_true, cond_false, hw, j0, hf, List.take_append_drop]
      | false =>
        simp only [q0, q00, q01, q1, q2, q3, p1, p2, Bool.and_self, cond_true, Int.toNat_natCast, e1, e2, e4, hb, r1, r2, r3, he, Bool.not_false, cond_false, hw, j0, hput]
  · have p1 : decide (((out.drop k).length : Int) > 0) = false := decide_eq_false (by rw [l2]; omega)
    have hin : ¬ e.2.1 ∈ out := fun hin => by have := (hmem.1 hin).1; omega
    have hf : (out.filter fun x => decide (x ≠ e.2.1)) = out := List.filter_eq_self.2 fun x hx => decide_eq_true fun (q : x = e.2.1) => hin (q ▸ hx)
    rw [if_neg hin] at hput
    cases he : e.2.2 with
    | true =>
      simp only [q0, q00, q01, q1, q2, q3, p1, Bool.and_self, cond_true, Int.toNat_natCast, e1, e2, r1, r5, he, Bool.not_true, cond_false, hw, j0, hf, List.take_append_drop]
    | false =>
      simp only [q0, q00, q01, q1, q2, q3, p1, Bool.and_self, cond_true, Int.toNat_natCast, e1, e2, r1, r2, r3, he, Bool.not_false, cond_false, hw, j0, hput]

theorem inn_nil (s : ByteArray) : s ∈ ([] : List ByteArray) ↔ inn s [] = true := ⟨fun h => (by cases h), fun h => (by cases h)⟩
theorem gin_spec (l : List Edit) (hn : l.length ≤ 40) : runL step_spec_GlossesIn_1 ([], (l, (l.length : Int), 0)) = some (l.foldl upd []) := by
  have t := runL_traj (f := step_spec_GlossesIn_1) (fun i => ((l.take i).foldl upd [], (l, (l.length : Int), (i : Int)))) (l.foldl upd []) l.length (fun i hi => by
    obtain ⟨h1, _, h3⟩ := upds_ok (l.take i) [] [] List.Pairwise.nil inn_nil
    have h3' : ((l.take i).foldl upd []).length ≤ 40 := by
      have : (l.take i).length ≤ l.length := by simp; omega
      simp only [List.length_nil] at h3
      omega
    have hs : (l.take (i + 1)).foldl upd [] = upd ((l.take i).foldl upd []) (l.getD i dE) := by
      rw [take_succ_getD hi dE, List.foldl_append]; rfl
    rw [hs]
    exact gin_step l hn i hi _ h1 h3') (by simp only [step_spec_GlossesIn_1, not_lt_len, cond_false, List.take_length])
  exact t
theorem gin_impl (l : List Edit) (hn : l.length ≤ 40) : runL step_impl_GlossesIn_0 (l, (l.length : Int), (0, [], [])) = some (l.map (fun e => e.2.1), l.foldl updE []) := by
  have t := runL_traj (f := step_impl_GlossesIn_0) (fun i => (l, (l.length : Int), ((i : Int), (l.take i).foldl updE [], (l.take i).map fun e => e.2.1))) (l.map (fun e => e.2.1), l.foldl updE []) l.length (fun i hi => by
    have hw := wrap_succ (i := i) (by omega)
    have hs : (l.take (i + 1)).foldl updE [] = mput .str .bool (l.getD i (0, ByteArray.empty, false)).2.1 (!(l.getD i (0, ByteArray.empty, false)).2.2) ((l.take i).foldl updE []) := by
      rw [take_succ_getD hi dE, List.foldl_append]; rfl
    have hm : (l.take (i + 1)).map (fun e => e.2.1) = (l.take i).map (fun e => e.2.1) ++ [(l.getD i (0, ByteArray.empty, false)).2.1] := by
      rw [take_succ_getD hi dE, List.map_append]; rfl
    have hg : decide ((((l.take i).map fun e => e.2.1).length + [(l.getD i (0, ByteArray.empty, false)).2.1].length) * 16 ≤ 140737488355328) = true := decide_eq_true (by simp; omega)
    rw [hs, hm]
    simp only [step_impl_GlossesIn_0, lt_len hi, nonneg, Bool.and_self, cond_true, Int.toNat_natCast, hg, hw]) (by simp only [step_impl_GlossesIn_0, not_lt_len, cond_false, List.take_length])
  exact t

theorem GlossesIn_val (l : List Edit) (hf : FitsE l) (hg : goodE l = true) : F_spec_GlossesIn l = some (l.foldl upd [], true) ∧ F_impl_GlossesIn l = some (l.foldl upd [], true) ∧ (l.foldl upd []).length ≤ 40 := by
  have hn := goodE_len hg
  obtain ⟨r1, m1, n1⟩ := upds_ok l [] [] List.Pairwise.nil inn_nil
  simp only [List.length_nil] at n1
  obtain ⟨D, e3, r3, m3, l3⟩ := distinct_is (l.map fun e => e.2.1) (by simp; omega)
  have hφ : ∀ x ∈ D, K_impl_GlossesIn_1 (l.foldl updE []) x = some (!inn x (l.foldl updE [])) := fun x _ => rfl
  have e4 := deleteFunc_is D (by simp at l3; omega) (K_impl_GlossesIn_1 (l.foldl updE [])) (fun x => !inn x (l.foldl updE [])) hφ
  have he : D.filter (fun x => !!inn x (l.foldl updE [])) = l.foldl upd [] := Rise.ext (r3.filter _) r1 fun s => by
    rw [List.mem_filter, m3, m1]
    simp only [Bool.not_not]
    constructor
    · exact fun h => h.2
    · intro h
      rcases inn_all l [] s h with h' | h'
      · cases h'
      · exact ⟨h', h⟩
  rw [he] at e4
  refine ⟨?_, ?_, by omega⟩
  · simp only [F_spec_GlossesIn, joGood_is l hf, hg, Bool.not_true, cond_false, gin_spec l hn]
  · simp only [F_impl_GlossesIn, AreEdits_is l hf, hg, Bool.not_true, cond_false, gin_impl l hn, e3, e4]
theorem GlossesIn_same (l : List Edit) (hf : FitsE l) : ∃ o, F_spec_GlossesIn l = some o ∧ F_impl_GlossesIn l = some o ∧ o.1.length ≤ 40 ∧ o.2 = goodE l := by
  cases hg : goodE l with
  | false => exact ⟨([], false), by simp [F_spec_GlossesIn, joGood_is l hf, hg], by simp [F_impl_GlossesIn, AreEdits_is l hf, hg], by simp, rfl⟩
  | true =>
    obtain ⟨h1, h2, h3⟩ := GlossesIn_val l hf hg
    exact ⟨_, h1, h2, h3, rfl⟩
end Go.Proofs.YtjmagdcgniklgaaGreatDoor
/- The law of ShortenEdits, as plain Lean: it answers true. Lengths fit an int. -/
set_option linter.unusedVariables false
set_option linter.unusedSimpArgs false
namespace Go.Proofs.YtjmagdcgniklgaaGreatDoor
open Go

theorem firstN_ge (p : Nat → Bool) (m : Nat) : decide (firstN p m ≥ 0) = !allN (fun i => !p i) m := by
  rcases firstN_cases p m with ⟨e, h⟩ | ⟨i, hi, e, hp, hj⟩
  · rw [e, allN_true.2 (fun i hi => by simp [h i hi])]; simp
  · rw [e, allN_false.2 ⟨i, hi, by simp [hp]⟩]; simp

/-- none of the rest has this gloss -/
def noneLater (r : List Edit) (g : ByteArray) : Bool := allN (fun j => !((r.getD j dE).2.1.toList == g.toList)) r.length

theorem IndexFunc_edit_is (l : List Edit) (hl : l.length ≤ 9223372036854775807) (φ : Edit → Option Bool) (p : Nat → Bool) (hφ : ∀ i, i < l.length → φ (l.getD i dE) = some (p i)) :
    F_slices_IndexFunc_impl_LogEdit_impl_LogEdit (l, φ) = some (firstN p l.length) := by
  rcases runL_first (f := step_slices_IndexFunc_impl_LogEdit_impl_LogEdit_0) (fun i => !p i) (fun i => (l, φ, (l.length : Int), (i : Int))) (fun i => .inl (i : Int)) (.inr ()) l.length (fun i hi => by
    have hw := wrap_succ (i := i) (by omega)
    simp only [step_slices_IndexFunc_impl_LogEdit_impl_LogEdit_0, lt_len hi, nonneg, Bool.and_self, cond_true, Int.toNat_natCast, hw, hφ i hi]
    cases p i <;> rfl) (by simp [step_slices_IndexFunc_impl_LogEdit_impl_LogEdit_0]) with ⟨t, hp⟩ | ⟨i, hi, hp, hj, t⟩
  · have t' : runL step_slices_IndexFunc_impl_LogEdit_impl_LogEdit_0 (l, φ, (l.length : Int), (0 : Int)) = _ := t
    simp only [F_slices_IndexFunc_impl_LogEdit_impl_LogEdit, t']
    rw [firstN_none (fun j hj => by simpa using hp j hj)]
  · have t' : runL step_slices_IndexFunc_impl_LogEdit_impl_LogEdit_0 (l, φ, (l.length : Int), (0 : Int)) = _ := t
    simp only [F_slices_IndexFunc_impl_LogEdit_impl_LogEdit, t']
    rw [firstN_at hi (by simpa using hp) (fun j hj' => by simpa using hj j hj')]

theorem contains_is (r : List Edit) (hl : r.length ≤ 9223372036854775807) (e : Edit) : F_slices_ContainsFunc_impl_LogEdit_impl_LogEdit (r, K_impl_ShortenEdits_1 e) = some (!noneLater r e.2.1) := by
  have h := IndexFunc_edit_is r hl (K_impl_ShortenEdits_1 e) (fun j => ((r.getD j dE).2.1.toList == e.2.1.toList)) (fun i hi => rfl)
  simp only [F_slices_ContainsFunc_impl_LogEdit_impl_LogEdit, h, firstN_ge, noneLater]

/-- the rounds of the specification over the rest -/
theorem later_is (L : List Edit) (M : List Edit) (n i : Int) (r : List Edit) (hr : r.length ≤ 1048576) (e : Edit) (out : List Edit) :
    runL step_spec_ShortenEdits_0 (L, true, M, n, i, r, (r.length : Int), 0, e.1, e.2.1, e.2.2, out) = some (L, noneLater r e.2.1, M, n, i, e.1, e.2.1, e.2.2, out) := by
  have key : ∀ k, k ≤ r.length → (allN (fun j => !((r.getD j dE).2.1.toList == e.2.1.toList)) (k + 1) = (bif allN (fun j => !((r.getD j dE).2.1.toList == e.2.1.toList)) k then !((r.getD k dE).2.1.toList == e.2.1.toList) else false)) := by
    intro k _
    simp only [allN, List.range_succ, List.all_append, List.all_cons, List.all_nil, Bool.and_true]
    cases (List.range k).all _ <;> rfl
  have t := runL_traj (f := step_spec_ShortenEdits_0) (fun k => (L, allN (fun j => !((r.getD j dE).2.1.toList == e.2.1.toList)) k, M, n, i, r, (r.length : Int), (k : Int), e.1, e.2.1, e.2.2, out)) (L, noneLater r e.2.1, M, n, i, e.1, e.2.1, e.2.2, out) r.length (fun k hk => by
    have hw := wrap_succ (i := k) (by omega)
    simp only [step_spec_ShortenEdits_0, lt_len hk, nonneg, Bool.and_self, cond_true, Int.toNat_natCast, hw, key k (by omega)]
    cases allN (fun j => !((r.getD j dE).2.1.toList == e.2.1.toList)) k <;> rfl) (by simp [step_spec_ShortenEdits_0, noneLater])
  exact t

end Go.Proofs.YtjmagdcgniklgaaGreatDoor
/- The law of MissingEdits, as plain Lean: it answers true. Lengths fit an int. -/
set_option linter.unusedVariables false
set_option linter.unusedSimpArgs false
namespace Go.Proofs.YtjmagdcgniklgaaGreatDoor
open Go

/-- the rounds of the specification behind 100 numbers add none -/
theorem missing_full (L : List Edit) (n i num : Int) (g : ByteArray) (b : Bool) (out : List Int) (ho : ¬ (out.length : Int) < 100) (hn : num ≤ 1000) : ∀ (k : Nat) (nx : Int), (num - nx).toNat = k → 0 ≤ nx →
    runL step_spec_MissingEdits_0 (nx, L, n, i, num, g, b, out) = some (L, n, i, num, g, b, out)
  | 0, nx, hk, h0 => by
    rw [runL_eq]
    have : ¬ nx < num := by omega
    simp [step_spec_MissingEdits_0, this]
  | k + 1, nx, hk, h0 => by
    rw [runL_eq]
    have h1 : nx < num := by omega
    have hw : IntKind.i64.wrap (nx + 1) = nx + 1 := wrap_id (by omega) (by omega)
    simp only [step_spec_MissingEdits_0, decide_eq_true h1, decide_eq_false ho, cond_true, cond_false, hw]
    exact missing_full L n i num g b out ho hn k (nx + 1) (by omega) (by omega)

end Go.Proofs.YtjmagdcgniklgaaGreatDoor
/- Missing numbers, shortened lists, and what is in: plain laws. No conditions beyond those that are named. -/
set_option linter.unusedVariables false
set_option linter.unusedSimpArgs false
namespace Go.Proofs.YtjmagdcgniklgaaGreatDoor
open Go

/-! ### Good lists -/
theorem goodE_iff0 (l : List Edit) : goodE l = true ↔ (∀ i, i < l.length → goodEAt l i = true) ∧ l.length ≤ 40 := by
  simp only [goodE, Bool.and_eq_true, allN_true, decide_eq_true_eq]
  constructor
  · rintro ⟨h1, h2⟩; exact ⟨h1, by omega⟩
  · rintro ⟨h1, h2⟩; exact ⟨h1, by omega⟩
theorem goodE_lt {l : List Edit} (h : goodE l = true) : ∀ (d i : Nat), i + d + 1 < l.length → (l.getD i dE).1 < (l.getD (i + d + 1) dE).1
  | 0, i, hi => by
    have := ((goodE_iff0 l).1 h).1 (i + 1) hi
    simp only [goodEAt, risesE, Bool.and_eq_true] at this
    have h2 := this.2
    rw [decide_eq_false (by omega : ¬ i + 1 = 0), Bool.false_or, show i + 1 - 1 = i by omega] at h2
    have h3 : ¬ (l.getD (i + 1) dE).1 ≤ (l.getD i dE).1 := by simpa using h2
    show (l.getD i dE).1 < (l.getD (i + 1) dE).1
    omega
  | d + 1, i, hi => by
    have h1 := goodE_lt h d i (by omega)
    have h2 := goodE_lt h 0 (i + d + 1) (by omega)
    have e : i + (d + 1) + 1 = i + d + 1 + 0 + 1 := by omega
    rw [e]
    omega
structure Good (l : List Edit) : Prop where
  ok : ∀ e ∈ l, edOK e = true
  up : l.Pairwise fun a b => a.1 < b.1
  len : l.length ≤ 40
theorem good_of {l : List Edit} (h : goodE l = true) : Good l := by
  obtain ⟨h1, h2⟩ := (goodE_iff0 l).1 h
  refine ⟨fun e he => ?_, List.pairwise_iff_getElem.2 fun i j hi hj hij => ?_, h2⟩
  · obtain ⟨i, hi, rfl⟩ := List.mem_iff_getElem.1 he
    have := h1 i hi
    simp only [goodEAt, Bool.and_eq_true] at this
    simpa [List.getD, List.getElem?_eq_getElem hi] using this.1
  · have := goodE_lt h (j - i - 1) i (by omega)
    rw [show i + (j - i - 1) + 1 = j by omega] at this
    simpa [List.getD, List.getElem?_eq_getElem hi, List.getElem?_eq_getElem hj] using this
theorem good_to {l : List Edit} (h : Good l) : goodE l = true := by
  refine (goodE_iff0 l).2 ⟨fun i hi => ?_, h.len⟩
  simp only [goodEAt, risesE, Bool.and_eq_true]
  refine ⟨h.ok _ (getD_mem hi dE), ?_⟩
  by_cases h0 : i = 0
  · simp [h0]
  · rw [decide_eq_false h0, Bool.false_or]
    have := List.pairwise_iff_getElem.1 h.up (i - 1) i (by omega) hi (by omega)
    have e : ¬ (l.getD i dE).1 ≤ (l.getD (i - 1) dE).1 := by
      simp only [List.getD, List.getElem?_eq_getElem hi, List.getElem?_eq_getElem (show i - 1 < l.length by omega), Option.getD_some]
      omega
    simpa using e
theorem goodE_sub {l m : List Edit} (h : goodE l = true) (hs : m.Sublist l) : goodE m = true := by
  have g := good_of h
  exact good_to ⟨fun e he => g.ok e (hs.subset he), g.up.sublist hs, Nat.le_trans hs.length_le g.len⟩
theorem goodE_fits0 {l : List Edit} (h : goodE l = true) : FitsE l := by
  have g := good_of h
  refine ⟨by have := g.len; omega, fun e he => ?_⟩
  obtain ⟨i, hi, rfl⟩ := List.mem_iff_getElem.1 he
  have := goodE_gloss h hi
  simp only [List.getD, List.getElem?_eq_getElem hi, Option.getD_some] at this
  omega

/-! ### Missing numbers -/
theorem missing_in (L : List Edit) (n i num : Int) (g : ByteArray) (b : Bool) (hn : num ≤ 1000) : ∀ (k : Nat) (nx : Int) (out : List Int), (num - nx).toNat = k → 0 ≤ nx → out.length ≤ 100 →
    ∃ out', runL step_spec_MissingEdits_0 (nx, L, n, i, num, g, b, out) = some (L, n, i, num, g, b, out') ∧ runL step_impl_MissingEdits_0 (nx, L, n, i, num, g, b, out) = some (L, n, i, out', num, g, b) ∧ out'.length ≤ 100 ∧ ∀ x ∈ out', x ∈ out ∨ (nx ≤ x ∧ x < num)
  | 0, nx, out, hk, h0, ho => by
    have h1 : ¬ nx < num := by omega
    exact ⟨out, by rw [runL_eq]; simp [step_spec_MissingEdits_0, h1], by rw [runL_eq]; simp [step_impl_MissingEdits_0, h1], ho, fun x hx => .inl hx⟩
  | k + 1, nx, out, hk, h0, ho => by
    have h1 : nx < num := by omega
    have hw : IntKind.i64.wrap (nx + 1) = nx + 1 := wrap_id (by omega) (by omega)
    by_cases h2 : (out.length : Int) < 100
    · obtain ⟨out', e1, e2, e3, e4⟩ := missing_in L n i num g b hn k (nx + 1) (out ++ [nx]) (by omega) (by omega) (by simp; omega)
      refine ⟨out', ?_, ?_, e3, fun x hx => ?_⟩
      · rw [runL_eq]
        have hg : decide ((out.length + [nx].length) * 8 ≤ 140737488355328) = true := decide_eq_true (by simp; omega)
        simp only [step_spec_MissingEdits_0, decide_eq_true h1, decide_eq_true h2, cond_true, hg, hw]
        exact e1
      · rw [runL_eq]
        have hg : decide ((out.length + [nx].length) * 8 ≤ 140737488355328) = true := decide_eq_true (by simp; omega)
        simp only [step_impl_MissingEdits_0, decide_eq_true h1, decide_eq_true h2, cond_true, hg, hw]
        exact e2
      · rcases e4 x hx with h | h
        · rcases List.mem_append.1 h with h | h
          · exact .inl h
          · obtain rfl : x = nx := by simpa using h
            exact .inr ⟨by omega, h1⟩
        · exact .inr ⟨by omega, h.2⟩
    · refine ⟨out, missing_full L n i num g b out h2 hn (k + 1) nx hk h0, ?_, ho, fun x hx => .inl hx⟩
      rw [runL_eq]
      simp only [step_impl_MissingEdits_0, decide_eq_true h1, decide_eq_false h2, cond_true, cond_false]
theorem missing_val (l : List Edit) (hg : goodE l = true) : ∃ o, F_spec_MissingEdits l = some (o, true) ∧ F_impl_MissingEdits l = some (o, true) ∧ o.length ≤ 100 ∧ ∀ x ∈ o, ∀ e ∈ l, e.1 ≠ x := by
  have hl := goodE_len hg
  have hf := goodE_fits0 hg
  have hat : ∀ j, j < l.length → ∀ e, e = l.getD j dE → e ∈ l := fun j hj e he => by rw [he]; exact getD_mem hj _
  obtain ⟨o, p, e1, e2, rfl, e3, e4⟩ := runL_sim (f := step_spec_MissingEdits_1) (g := step_impl_MissingEdits_1) (fun s t => s = t ∧ ∃ (nx : Int) (i : Nat) (out : List Int), s = (nx, l, (l.length : Int), (i : Int), out) ∧ 0 ≤ nx ∧ nx ≤ 1000 ∧ i ≤ l.length ∧ out.length ≤ 100 ∧
      (∀ j, j < i → (l.getD j dE).1 < nx) ∧ ∀ x ∈ out, ∀ j, j < l.length → (l.getD j dE).1 ≠ x) (fun o p => o = p ∧ o.length ≤ 100 ∧ ∀ x ∈ o, ∀ j, j < l.length → (l.getD j dE).1 ≠ x) (fun s => l.length - s.2.2.2.1.toNat) (by
    rintro s t ⟨rfl, nx, i, out, rfl, h0, h1, hi, ho, hb, hx⟩
    rcases Nat.lt_or_ge i l.length with hlt | hge
    · right
      obtain ⟨q1, q2⟩ := goodE_num hg hlt
      obtain ⟨out', e1, e2, e3, e4⟩ := missing_in l (l.length : Int) (i : Int) (l.getD i dE).1 (l.getD i dE).2.1 (l.getD i dE).2.2 (by omega) _ nx out rfl h0 ho
      have hw := wrap_succ (i := i) (by omega)
      have hw2 : IntKind.i64.wrap ((l.getD i dE).1 + 1) = (l.getD i dE).1 + 1 := wrap_id (by omega) (by omega)
      have up : ∀ j k, j < k → k < l.length → (l.getD j dE).1 < (l.getD k dE).1 := fun j k hjk hk => by
        have := goodE_lt hg (k - j - 1) j (by omega)
        rwa [show j + (k - j - 1) + 1 = k by omega] at this
      refine ⟨((l.getD i dE).1 + 1, l, (l.length : Int), ((i + 1 : Nat) : Int), out'), _, ?_, ?_, ⟨rfl, _, _, _, rfl, by omega, by omega, by omega, e3, fun j hj => ?_, fun x hx' j hj => ?_⟩, by simp; omega⟩
      · simp only [step_spec_MissingEdits_1, lt_len hlt, nonneg, Bool.and_self, cond_true, Int.toNat_natCast, e1, hw, hw2]
      · simp only [step_impl_MissingEdits_1, lt_len hlt, nonneg, Bool.and_self, cond_true, Int.toNat_natCast, e2, hw, hw2]
      · rcases Nat.lt_succ_iff_lt_or_eq.1 hj with h | rfl
        · have := up j i h hlt; omega
        · omega
      · rcases e4 x hx' with h | ⟨h, h'⟩
        · exact hx x h j hj
        · rcases Nat.lt_trichotomy j i with q | rfl | q
          · have := hb j q; omega
          · omega
          · have := up i j q hj; omega
    · left
      have : i = l.length := by omega
      subst this
      exact ⟨out, out, by simp [step_spec_MissingEdits_1], by simp [step_impl_MissingEdits_1], rfl, ho, hx⟩) (1, l, (l.length : Int), 0, []) (1, l, (l.length : Int), 0, []) ⟨rfl, 1, 0, [], rfl, by omega, by omega, by omega, by simp, fun j hj => absurd hj (by omega), fun x hx => by cases hx⟩
  refine ⟨o, by simp [F_spec_MissingEdits, joGood_is l hf, hg, e1], by simp [F_impl_MissingEdits, AreEdits_is l hf, hg, e2], e3, fun x hx e he => ?_⟩
  obtain ⟨j, hj, rfl⟩ := List.mem_iff_getElem.1 he
  have := e4 x hx j hj
  simpa [List.getD, List.getElem?_eq_getElem hj] using this

/-! ### Shortened lists -/
def shorten : List Edit → List Edit
  | [] => []
  | e :: r => bif noneLater r e.2.1 then e :: shorten r else shorten r
theorem shorten_sub : ∀ l : List Edit, (shorten l).Sublist l
  | [] => List.Sublist.slnil
  | e :: r => by
    simp only [shorten]
    cases noneLater r e.2.1 with
    | true => exact (shorten_sub r).cons_cons e
    | false => exact (shorten_sub r).cons e
theorem shorten_val (l : List Edit) (hg : goodE l = true) : F_spec_ShortenEdits l = some (shorten l, true) ∧ F_impl_ShortenEdits l = some (shorten l, true) := by
  have hl := goodE_len hg
  have hf := goodE_fits0 hg
  have hd : ∀ i, i < l.length → l.drop i = l.getD i dE :: l.drop (i + 1) := fun i hi => by
    rw [List.drop_eq_getElem_cons hi]
    simp [List.getD, List.getElem?_eq_getElem hi]
  obtain ⟨o, p, e1, e2, rfl, e3⟩ := runL_sim (f := step_spec_ShortenEdits_1) (g := step_impl_ShortenEdits_0) (fun s t => s = t ∧ ∃ (i : Nat) (out : List Edit), s = (l, l, (l.length : Int), (i : Int), out) ∧ i ≤ l.length ∧ out.length ≤ i ∧ out ++ shorten (l.drop i) = shorten l) (fun o p => o = p ∧ o = shorten l) (fun s => l.length - s.2.2.2.1.toNat) (by
    rintro s t ⟨rfl, i, out, rfl, hi, ho, hs⟩
    rcases Nat.lt_or_ge i l.length with hlt | hge
    · right
      have hw := wrap_succ (i := i) (by omega)
      have hle : decide (((i + 1 : Nat) : Int) ≤ (l.length : Int)) = true := decide_eq_true (by omega)
      have ht : (l.drop (i + 1)).take (l.length - (i + 1)) = l.drop (i + 1) := List.take_of_length_le (by simp)
      have hlr : (l.drop (i + 1)).length ≤ 1048576 := by simp; omega
      have e1 := later_is l l (l.length : Int) (i : Int) (l.drop (i + 1)) hlr (l.getD i dE) out
      have e2 := contains_is (l.drop (i + 1)) (by omega) (l.getD i dE)
      have hg : decide ((out.length + [l.getD i dE].length) * 32 ≤ 140737488355328) = true := decide_eq_true (by simp only [List.length_singleton]; omega)
      have hg' : decide ((out.length + [((l.getD i dE).1, (l.getD i dE).2.1, (l.getD i dE).2.2)].length) * 32 ≤ 140737488355328) = true := hg
      rw [hd i hlt] at hs
      cases hn : noneLater (l.drop (i + 1)) (l.getD i dE).2.1 with
      | true =>
        have hs' : (out ++ [l.getD i dE]) ++ shorten (l.drop (i + 1)) = shorten l := by
          rw [← hs]; simp only [shorten, hn, cond_true, List.append_assoc, List.singleton_append]
        refine ⟨(l, l, (l.length : Int), ((i + 1 : Nat) : Int), out ++ [l.getD i dE]), _, ?_, ?_, ⟨rfl, i + 1, _, rfl, by omega, by simp only [List.length_append, List.length_singleton]; omega, hs'⟩, by simp; omega⟩
        · simp only [step_spec_ShortenEdits_1, lt_len hlt, nonneg, Bool.and_self, cond_true, Int.toNat_natCast, hw, hle, Int.le_refl, decide_true, ht, e1, hn, hg']
        · simp only [step_impl_ShortenEdits_0, lt_len hlt, nonneg, Bool.and_self, cond_true, Int.toNat_natCast, hw, hle, Int.le_refl, decide_true, ht, e2, hn, Bool.not_true, Bool.not_false, hg]
      | false =>
        have hs' : out ++ shorten (l.drop (i + 1)) = shorten l := by
          rw [← hs]; simp only [shorten, hn, cond_false]
        refine ⟨(l, l, (l.length : Int), ((i + 1 : Nat) : Int), out), _, ?_, ?_, ⟨rfl, i + 1, _, rfl, by omega, by omega, hs'⟩, by simp; omega⟩
        · simp only [step_spec_ShortenEdits_1, lt_len hlt, nonneg, Bool.and_self, cond_true, Int.toNat_natCast, hw, hle, Int.le_refl, decide_true, ht, e1, hn, cond_false]
        · simp only [step_impl_ShortenEdits_0, lt_len hlt, nonneg, Bool.and_self, cond_true, Int.toNat_natCast, hw, hle, Int.le_refl, decide_true, ht, e2, hn, Bool.not_true, Bool.not_false, cond_false]
    · left
      have : i = l.length := by omega
      subst this
      have hs' : out = shorten l := by rw [← hs]; simp [shorten]
      exact ⟨out, out, by simp [step_spec_ShortenEdits_1], by simp [step_impl_ShortenEdits_0], rfl, hs'⟩) (l, l, (l.length : Int), 0, []) (l, l, (l.length : Int), 0, []) ⟨rfl, 0, [], rfl, by omega, by simp, by simp⟩
  subst e3
  exact ⟨by simp [F_spec_ShortenEdits, joGood_is l hf, hg, e1], by simp [F_impl_ShortenEdits, AreEdits_is l hf, hg, e2]⟩
theorem inn_upd (s : ByteArray) (es : List (ByteArray × Bool)) (e : Edit) : inn s (updE es e) = if s = e.2.1 then !e.2.2 else inn s es := inn_put s e.2.1 (!e.2.2) es
theorem inn_fold_same (s : ByteArray) : ∀ (r : List Edit) (es es' : List (ByteArray × Bool)), inn s es = inn s es' → inn s (r.foldl updE es) = inn s (r.foldl updE es')
  | [], es, es', h => h
  | e :: r, es, es', h => inn_fold_same s r _ _ (by rw [inn_upd, inn_upd, h])
theorem inn_fold_there (s : ByteArray) : ∀ (r : List Edit) (es es' : List (ByteArray × Bool)), (∃ e ∈ r, e.2.1 = s) → inn s (r.foldl updE es) = inn s (r.foldl updE es')
  | [], es, es', h => by obtain ⟨_, h, _⟩ := h; cases h
  | e :: r, es, es', h => by
    by_cases hs : s = e.2.1
    · exact inn_fold_same s r _ _ (by rw [inn_upd, inn_upd, if_pos hs, if_pos hs])
    · obtain ⟨x, hx, hxs⟩ := h
      rcases List.mem_cons.1 hx with rfl | hx
      · exact absurd hxs.symm hs
      · exact inn_fold_there s r _ _ ⟨x, hx, hxs⟩
theorem noneLater_false {r : List Edit} {g : ByteArray} (h : noneLater r g = false) : ∃ e ∈ r, e.2.1 = g := by
  obtain ⟨j, hj, hp⟩ := allN_false.1 h
  refine ⟨r.getD j dE, getD_mem hj _, ?_⟩
  have hp' : ((r.getD j dE).2.1.toList == g.toList) = true := by simpa using hp
  rw [beq_is] at hp'
  exact of_decide_eq_true hp'
theorem shorten_inn (s : ByteArray) : ∀ (l : List Edit) (es : List (ByteArray × Bool)), inn s ((shorten l).foldl updE es) = inn s (l.foldl updE es)
  | [], es => rfl
  | e :: r, es => by
    simp only [shorten]
    cases hn : noneLater r e.2.1 with
    | true => exact shorten_inn s r (updE es e)
    | false =>
      rw [cond_false, shorten_inn s r es, List.foldl_cons]
      by_cases hs : s = e.2.1
      · obtain ⟨x, hx, hxg⟩ := noneLater_false hn
        exact inn_fold_there s r _ _ ⟨x, hx, by rw [hxg, hs]⟩
      · exact inn_fold_same s r _ _ (by rw [inn_upd, if_neg hs])
theorem shorten_glosses (l : List Edit) : (shorten l).foldl upd [] = l.foldl upd [] := by
  obtain ⟨r1, m1, _⟩ := upds_ok (shorten l) [] [] List.Pairwise.nil inn_nil
  obtain ⟨r2, m2, _⟩ := upds_ok l [] [] List.Pairwise.nil inn_nil
  exact Rise.ext r1 r2 fun s => by rw [m1, m2, shorten_inn]
end Go.Proofs.YtjmagdcgniklgaaGreatDoor
/- Texts of edits are read back, torn ones up to their last whole line: plain laws. No conditions beyond those that are named. -/
set_option linter.unusedVariables false
set_option linter.unusedSimpArgs false
namespace Go.Proofs.YtjmagdcgniklgaaGreatDoor
open Go

/-! ### One line -/
theorem dec_no10 (u : Nat) : ∀ b ∈ Lib.decDigits u, b ≠ 10 := by
  have key : ∀ k : Nat, k ≤ 9 → UInt8.ofNat (48 + k) ≠ 10 := by
    intro k hk h
    have := congrArg UInt8.toNat h
    rw [dig_nat hk] at this
    have h10 : (10 : UInt8).toNat = 10 := rfl
    omega
  induction u using Nat.strongRecOn with
  | ind u ih =>
    rw [Lib.decDigits]
    split
    · rename_i h
      intro b hb
      rw [List.mem_singleton.1 hb]
      exact key u (by omega)
    · rename_i h
      intro b hb
      rcases List.mem_append.1 hb with hb | hb
      · exact ih (u / 10) (by omega) b hb
      · rw [List.mem_singleton.1 hb]
        exact key (u % 10) (by omega)
theorem it_no10 {n : Int} (h0 : 0 ≤ n) : ∀ b ∈ (it n).data.toList, b ≠ 10 := by
  obtain ⟨k, rfl⟩ : ∃ k : Nat, n = (k : Int) := ⟨n.toNat, by omega⟩
  have e : it (k : Int) = ba (Lib.decDigits k) := by rw [it, Lib.itoa_nonneg]; rfl
  rw [e]
  exact dec_no10 k
noncomputable def lineE (e : Edit) : ByteArray := (F_spec_joLine e).getD ByteArray.empty
theorem lineE_is {e : Edit} (hok : edOK e = true) : (∃ X, lineE e = ba (X ++ [10]) ∧ ∀ b ∈ X, b ≠ 10) ∧ F_spec_joLine e = some (lineE e) ∧ F_impl_LogEdit_line e = some (lineE e) ∧ (lineE e).size ≤ 19 ∧ pr (lineE e) = (e, true) := by
  obtain ⟨m, e1, e2, _, m0, m1⟩ := line_form e hok
  have hl : lineE e = lineOf e m := by unfold lineE; rw [e1]; rfl
  obtain ⟨p1, p2, p3⟩ := edOK_parts hok
  have hs := line_size hok m0 m1
  have hp := impl_line hok m0 m1 rfl e2
  refine ⟨⟨(it e.1).data.toList ++ (sgn e.2.2 :: (e.2.1.data.toList ++ (46 :: (it m).data.toList))), by rw [hl, lineOf_ba]; simp [lineL], ?_⟩, by rw [hl]; exact e1, by rw [hl]; exact e2, by rw [hl]; exact hs, by unfold pr; rw [hl, hp]; rfl⟩
  intro b hb
  rcases List.mem_append.1 hb with hb | hb
  · exact it_no10 (by omega) b hb
  · rcases List.mem_cons.1 hb with rfl | hb
    · cases e.2.2 <;> decide
    · rcases List.mem_append.1 hb with hb | hb
      · have := (gl_bytes p3).2 b hb
        intro h
        subst h
        have h10 : (10 : UInt8).toNat = 10 := rfl
        omega
      · rcases List.mem_cons.1 hb with rfl | hb
        · decide
        · exact it_no10 m0 b hb

/-! ### Texts -/
def catL (qs : List ByteArray) : List UInt8 := qs.flatMap fun q => q.data.toList
theorem catL_cons (q : ByteArray) (qs : List ByteArray) : catL (q :: qs) = q.data.toList ++ catL qs := rfl
theorem catL_append (a b : List ByteArray) : catL (a ++ b) = catL a ++ catL b := by simp [catL]
theorem catL_small : ∀ (l : List Edit), (∀ e ∈ l, edOK e = true) → (catL (l.map lineE)).length ≤ 19 * l.length
  | [], _ => by simp [catL]
  | e :: l, h => by
    have h1 := (lineE_is (h e (List.mem_cons_self ..))).2.2.2.1
    have h2 := catL_small l fun x hx => h x (List.mem_cons_of_mem _ hx)
    have h3 : (lineE e).data.toList.length = (lineE e).size := rfl
    rw [List.map_cons, catL_cons, List.length_append, List.length_cons]
    omega
theorem text_val {l : List Edit} (hg : goodE l = true) : F_spec_joText l = some (ba (catL (l.map lineE))) ∧ F_impl_editsText l = some (ba (catL (l.map lineE))) ∧ (catL (l.map lineE)).length ≤ 760 := by
  have g := good_of hg
  have hsm := catL_small l g.ok
  have hl := g.len
  have t := runL_traj (f := step_spec_joText_0) (fun i => (ba (catL ((l.take i).map lineE)), l, (l.length : Int), (i : Int))) (ba (catL (l.map lineE))) l.length (fun i hi => by
    have hw := wrap_succ (i := i) (by omega)
    have hok := g.ok _ (getD_mem hi dE)
    obtain ⟨_, q1, _, q3, _⟩ := lineE_is hok
    have hcut : catL ((l.take (i + 1)).map lineE) = catL ((l.take i).map lineE) ++ (lineE (l.getD i dE)).data.toList := by
      rw [take_succ_getD hi dE, List.map_append, catL_append]; simp [catL]
    have hsz := catL_small (l.take i) fun e he => g.ok e (List.mem_of_mem_take he)
    have hlt : (l.take i).length ≤ 40 := by simp; omega
    have hgd : decide ((ba (catL ((l.take i).map lineE))).size + (lineE (l.getD i dE)).size ≤ 9223372036854775807) = true := decide_eq_true (by rw [ba_size]; omega)
    have hcat : ba (catL ((l.take i).map lineE)) ++ lineE (l.getD i dE) = ba (catL ((l.take (i + 1)).map lineE)) := by rw [hcut, ← ba_app, ← eq_ba]
    have q1' : F_spec_joLine (l.getD i (0, ByteArray.empty, false)) = some (lineE (l.getD i dE)) := q1
    simp only [step_spec_joText_0, lt_len hi, nonneg, Bool.and_self, cond_true, Int.toNat_natCast, q1', hgd, hw, hcat]) (by simp only [step_spec_joText_0, not_lt_len, cond_false, List.take_length])
  have t' : runL step_spec_joText_0 ((⟨#[]⟩ : ByteArray), l, (l.length : Int), (0 : Int)) = some (ba (catL (l.map lineE))) := t
  have h1 : F_spec_joText l = some (ba (catL (l.map lineE))) := by simp only [F_spec_joText, t']
  obtain ⟨x, x1, x2, _⟩ := text_small hg
  rw [h1] at x1
  exact ⟨h1, by rw [x2, ← Option.some.inj x1], by omega⟩
theorem no10_at {X : List UInt8} (h : ∀ b ∈ X, b ≠ 10) (j : Nat) : byteAt (ba X) j ≠ 10 := by
  rw [ba_byteAt]
  intro hb
  have h10 : (10 : UInt8).toNat = 10 := rfl
  rcases Nat.lt_or_ge j X.length with hlt | hge
  · have e : X.getD j 0 = X[j] := by simp [List.getD, List.getElem?_eq_getElem hlt]
    rw [e] at hb
    exact h _ (List.getElem_mem hlt) (UInt8.toNat_inj.1 (by omega))
  · have e : X.getD j 0 = 0 := by simp [List.getD, List.getElem?_eq_none hge]
    rw [e] at hb
    exact absurd hb (by decide)
theorem idx_no {X : List UInt8} (h : ∀ b ∈ X, b ≠ 10) : Lib.indexByte X 10 < 0 := indexByte_lt fun k hk => h 10 (List.mem_of_getElem? hk) rfl
theorem torn_lines : ∀ (l : List Edit), (∀ e ∈ l, edOK e = true) → ∀ k : Nat, ∃ m tl, m ≤ l.length ∧ linesOf (ba ((catL (l.map lineE)).take k)) = (l.take m).map lineE ++ tl ∧ (catL ((l.take m).map lineE)).length ≤ k ∧
    (tl = [] ∨ ∃ s, tl = [s] ∧ s.size ≤ 19 ∧ ∀ j, byteAt s j ≠ 10) ∧ ((catL (l.map lineE)).length ≤ k → m = l.length ∧ tl = [])
  | [], _, k => ⟨0, [], Nat.le_refl _, by simp [catL]; rfl, by simp [catL], .inl rfl, fun _ => ⟨rfl, rfl⟩⟩
  | e :: l, h, k => by
    obtain ⟨⟨X, hX, hno⟩, _, _, hsz, _⟩ := lineE_is (h e (List.mem_cons_self ..))
    have hq : (lineE e).data.toList = X ++ [10] := by rw [hX]; rfl
    have hlen : X.length + 1 ≤ 19 := by rw [hX, ba_size] at hsz; simpa using hsz
    have hcat : catL ((e :: l).map lineE) = (X ++ [10]) ++ catL (l.map lineE) := by rw [List.map_cons, catL_cons, hq]
    rcases Nat.lt_or_ge k (X.length + 1) with hk | hk
    · have ht : (catL ((e :: l).map lineE)).take k = X.take k := by
        rw [hcat, List.append_assoc, List.take_append_of_le_length (by omega)]
      have hno' : ∀ b ∈ X.take k, b ≠ 10 := fun b hb => hno b (List.mem_of_mem_take hb)
      have hfin : (catL ((e :: l).map lineE)).length ≤ k → False := by
        rw [hcat]
        simp only [List.length_append, List.length_singleton]
        omega
      rcases Nat.eq_zero_or_pos (X.take k).length with h0 | h0
      · refine ⟨0, [], by omega, ?_, by simp [catL], .inl rfl, fun q => (hfin q).elim⟩
        rw [ht, List.eq_nil_of_length_eq_zero h0]
        rfl
      · refine ⟨0, [ba (X.take k)], by omega, ?_, by simp [catL], .inr ⟨_, rfl, ?_, no10_at hno'⟩, fun q => (hfin q).elim⟩
        · rw [ht, linesOf_last (by rw [ba_size]; omega) (idx_no hno')]
          rfl
        · rw [ba_size]; simp; omega
    · obtain ⟨m, tl, m1, m2, m3, m4, m5⟩ := torn_lines l (fun x hx => h x (List.mem_cons_of_mem _ hx)) (k - (X.length + 1))
      have ht : (catL ((e :: l).map lineE)).take k = (X ++ [10]) ++ (catL (l.map lineE)).take (k - (X.length + 1)) := by
        rw [hcat, List.take_append, List.take_of_length_le (by simp; omega)]
        simp
      have hix : Lib.indexByte (ba ((catL ((e :: l).map lineE)).take k)).data.toList 10 = ((X.length : Nat) : Int) := by
        rw [ba_data, ht]
        refine indexByte_at ?_ fun j hj hb => ?_
        · rw [List.append_assoc, List.getElem?_append_right (Nat.le_refl _)]; simp
        · rw [List.append_assoc, List.getElem?_append_left hj] at hb
          exact hno 10 (List.mem_of_getElem? hb) rfl
      have hsize : (ba ((catL ((e :: l).map lineE)).take k)).size = X.length + 1 + ((catL (l.map lineE)).take (k - (X.length + 1))).length := by
        rw [ba_size, ht, List.length_append, List.length_append, List.length_singleton]
      have c1 : (ba ((catL ((e :: l).map lineE)).take k)).extract 0 (X.length + 1) = lineE e := by
        rw [ba_extract, ht, hX, List.drop_zero, Nat.sub_zero, List.take_left' (by simp)]
      have c2 : (ba ((catL ((e :: l).map lineE)).take k)).extract (X.length + 1) (ba ((catL ((e :: l).map lineE)).take k)).size = ba ((catL (l.map lineE)).take (k - (X.length + 1))) := by
        rw [ba_extract, hsize, ht, List.drop_left' (by simp)]
        congr 1
        exact List.take_of_length_le (by omega)
      refine ⟨m + 1, tl, by simp; omega, ?_, ?_, m4, fun q => ?_⟩
      · rw [linesOf_next hix (by rw [hsize]; omega), c1, c2, m2]
        rfl
      · rw [List.take_succ_cons, List.map_cons, catL_cons, hq, List.length_append]
        simp only [List.length_append, List.length_singleton]
        omega
      · have : (catL (l.map lineE)).length ≤ k - (X.length + 1) := by
          rw [hcat] at q
          simp only [List.length_append, List.length_singleton] at q
          omega
        obtain ⟨q1, q2⟩ := m5 this
        exact ⟨by rw [q1]; rfl, q2⟩

/-! ### Reading -/
theorem rd_lines : ∀ (b out : List Edit) (n : Int), goodE (out ++ b) = true → rd (b.map lineE) out n = (out ++ b, n + ((catL (b.map lineE)).length : Int))
  | [], out, n, _ => by simp [rd, catL]
  | e :: b, out, n, hg => by
    have g := good_of hg
    have hok := g.ok e (by simp)
    obtain ⟨_, _, _, _, hp⟩ := lineE_is hok
    have hg1 : goodE out = true := goodE_sub hg (List.sublist_append_left _ _)
    have hg2 : goodE (out ++ [e]) = true := goodE_sub hg (by
      rw [show out ++ e :: b = (out ++ [e]) ++ b by simp]
      exact List.sublist_append_left _ _)
    have ht : takes out (lineE e) = true := by
      unfold takes
      rw [hp, Bool.true_and, ← good_snoc hg1 hok]
      exact hg2
    have hrec := rd_lines b (out ++ [e]) (n + ((lineE e).size : Int)) (by simpa using hg)
    have hsz : (lineE e).data.toList.length = (lineE e).size := rfl
    rw [List.map_cons]
    simp only [rd, ht, cond_true, hp]
    rw [hrec, List.append_assoc, catL_cons, List.length_append]
    refine Prod.ext rfl ?_
    show n + ((lineE e).size : Int) + ((catL (b.map lineE)).length : Int) = n + (((lineE e).data.toList.length + (catL (b.map lineE)).length : Nat) : Int)
    omega
theorem read_val (x : ByteArray) (hx : x.size ≤ 2000) : F_spec_ReadEdits x = some ((rd (linesOf x) [] 0).1, (rd (linesOf x) [] 0).2, true) ∧ F_impl_ReadEdits x = some ((rd (linesOf x) [] 0).1, (rd (linesOf x) [] 0).2, true) := by
  have hb : ¬ (x.size : Int) > 2000 := by omega
  obtain ⟨ps, tl, h1, h2, h3, h4⟩ := parts_is x (by omega)
  have hall : ∀ p ∈ linesOf x, p.size ≤ 1048576 := fun p hp => Nat.le_trans (linesN_mem _ _ _ hp) (by omega)
  have hps : ∀ p ∈ ps, p.size ≤ 1048576 := fun p hp => hall p (by rw [h2]; exact List.mem_append_left _ hp)
  have ks := read_spec ps (by omega) hps ps.length 0 [] 0 (by omega) (by omega) good_nil (by omega) ⟨by simp⟩
  rw [List.drop_zero] at ks
  have ks' : runL step_spec_ReadEdits_0 (0, (ps.length : Int), 0, ps, []) = some ((rd ps [] 0).2, (rd ps [] 0).1) := ks
  have kt : rd (linesOf x) [] 0 = rd ps [] 0 := by
    rw [h2]
    rcases h4 with rfl | ⟨s, rfl, hs1, hs2⟩
    · rw [List.append_nil]
    · exact rd_tail s (pr_torn (by omega) hs2) ps [] 0
  refine ⟨by rw [kt]; simp only [F_spec_ReadEdits, decide_eq_false hb, cond_false, h1, ks'], ?_⟩
  rcases read_fold (linesOf x) [] 0 hall good_nil (by omega) ⟨by simp⟩ with hi | hi
  · simp only [F_impl_ReadEdits, decide_eq_false hb, cond_false, hi]
  · simp only [F_impl_ReadEdits, decide_eq_false hb, cond_false, hi]
/-- a text that is torn behind k bytes -/
theorem torn_read {l : List Edit} (hg : goodE l = true) (k : Nat) : ∃ m n : Nat, m ≤ l.length ∧ n ≤ k ∧ F_spec_ReadEdits (ba ((catL (l.map lineE)).take k)) = some (l.take m, (n : Int), true) ∧ F_impl_ReadEdits (ba ((catL (l.map lineE)).take k)) = some (l.take m, (n : Int), true) ∧
    ((catL (l.map lineE)).length ≤ k → m = l.length ∧ n = (catL (l.map lineE)).length) := by
  have g := good_of hg
  obtain ⟨m, tl, m1, m2, m3, m4, m5⟩ := torn_lines l g.ok k
  obtain ⟨_, _, h760⟩ := text_val hg
  obtain ⟨r1, r2⟩ := read_val (ba ((catL (l.map lineE)).take k)) (by rw [ba_size, List.length_take]; omega)
  have hgm : goodE (l.take m) = true := goodE_sub hg (List.take_sublist _ _)
  have hrd : rd (linesOf (ba ((catL (l.map lineE)).take k))) [] 0 = (l.take m, (((catL ((l.take m).map lineE)).length : Nat) : Int)) := by
    rw [m2]
    have h0 := rd_lines (l.take m) [] 0 hgm
    rw [List.nil_append, Int.zero_add] at h0
    rcases m4 with rfl | ⟨s, rfl, hs1, hs2⟩
    · rw [List.append_nil, h0]
    · rw [rd_tail s (pr_torn (by omega) hs2), h0]
  rw [hrd] at r1 r2
  refine ⟨m, _, m1, m3, r1, r2, fun q => ?_⟩
  obtain ⟨q1, _⟩ := m5 q
  refine ⟨q1, by rw [q1, List.take_length]⟩
end Go.Proofs.YtjmagdcgniklgaaGreatDoor
/- The law of Journals, as plain Lean: it answers true. Lengths fit an int; bytes are bytes. -/
set_option linter.unusedVariables false
set_option linter.unusedSimpArgs false
namespace Go.Proofs.YtjmagdcgniklgaaGreatDoor
open Go
theorem byte_wf {n : Int} (h : (Lit.int .u8 n).wf = true) : 0 ≤ n ∧ n ≤ 255 := by
  simp only [Lit.wf, Bool.and_eq_true, decide_eq_true_eq] at h
  have h1 : IntKind.u8.min = 0 := by decide
  have h2 : IntKind.u8.max = 255 := by decide
  omega
theorem qEdits_refl (l : List Edit) (hl : l.length ≤ 1048576) : F_laws_qEdits (l, l) = some true := by
  have t := runL_traj (f := step_laws_qEdits_0) (fun i => (l, l, (l.length : Int), (i : Int))) (.inr ()) l.length (fun i hi => by
    have hw := wrap_succ (i := i) (by omega)
    simp only [step_laws_qEdits_0, lt_len hi, nonneg, Bool.and_self, cond_true, Int.toNat_natCast, hw, BEq.rfl, Bool.and_true, Bool.not_true, cond_false]) (by simp only [step_laws_qEdits_0, not_lt_len, cond_false])
  have t' : runL step_laws_qEdits_0 (l, l, (l.length : Int), (0 : Int)) = some (.inr ()) := t
  simp only [F_laws_qEdits, bne_self_eq_false, cond_false, t']
theorem qTexts_refl (l : List ByteArray) (hl : l.length ≤ 1048576) : F_laws_qTexts (l, l) = some true := by
  have t := runL_traj (f := step_laws_qTexts_0) (fun i => (l, l, (l.length : Int), (i : Int))) (.inr ()) l.length (fun i hi => by
    have hw := wrap_succ (i := i) (by omega)
    simp only [step_laws_qTexts_0, lt_len hi, nonneg, Bool.and_self, cond_true, Int.toNat_natCast, hw, BEq.rfl, Bool.not_true, cond_false]) (by simp only [step_laws_qTexts_0, not_lt_len, cond_false])
  have t' : runL step_laws_qTexts_0 (l, l, (l.length : Int), (0 : Int)) = some (.inr ()) := t
  simp only [F_laws_qTexts, bne_self_eq_false, cond_false, t']
theorem qInts_refl (l : List Int) (hl : l.length ≤ 1048576) : F_laws_qInts (l, l) = some true := by
  have t := runL_traj (f := step_laws_qInts_0) (fun i => (l, l, (l.length : Int), (i : Int))) (.inr ()) l.length (fun i hi => by
    have hw := wrap_succ (i := i) (by omega)
    simp only [step_laws_qInts_0, lt_len hi, nonneg, Bool.and_self, cond_true, Int.toNat_natCast, hw, bne_self_eq_false, cond_false]) (by simp only [step_laws_qInts_0, not_lt_len, cond_false])
  have t' : runL step_laws_qInts_0 (l, l, (l.length : Int), (0 : Int)) = some (.inr ()) := t
  simp only [F_laws_qInts, bne_self_eq_false, cond_false, t']
theorem DrawEditLine_ok {code : List Int} (h : CurOK 0 (code, ((0 : Int), (0 : Int)))) : ∃ e, F_spec_DrawEditLine code = some e ∧ e.2.1.size ≤ 9 := by
  obtain ⟨c1, k1, e1, h1, _⟩ := among_ok h (by omega) (l := [5, 0, 1000]) (by simp) (by simp)
  obtain ⟨c2, k2, e2, h2, _⟩ := among_ok h1 (by omega) (l := [1, 7, 12, 999, k1]) (by simp) (by simp)
  obtain ⟨c3, e, e3, _, z⟩ := edit_ok h2 (by omega) k2
  exact ⟨e, by simp only [F_spec_DrawEditLine, e1, e2, e3], z⟩

/-! ### Missing numbers are no edit's -/
theorem miss_inner (l : List Edit) (k : Int) (t : ByteArray) (ok : Bool) (torn ln : ByteArray) (nine : Bool) (v M : Int) (i : Int) (ms : List Int) (e : Edit) (hl : l.length ≤ 40) (h : ∀ x ∈ l, x.1 ≠ v) :
    runL step_laws_FnJournals_0 (l, (k, t, (ok, torn, (ln, nine, (v, M, (i, l, ((l.length : Int), 0, (ms, (e.1, e.2.1, e.2.2))))))))) = some (.inr (l, (k, t, (ok, torn, (ln, nine, (M, i, (ms, (e.1, e.2.1, e.2.2)))))))) := by
  have tr := runL_traj (f := step_laws_FnJournals_0) (fun j => (l, (k, t, (ok, torn, (ln, nine, (v, M, (i, l, ((l.length : Int), (j : Int), (ms, (e.1, e.2.1, e.2.2)))))))))) (.inr (l, (k, t, (ok, torn, (ln, nine, (M, i, (ms, (e.1, e.2.1, e.2.2)))))))) l.length (fun j hj => by
    have hw := wrap_succ (i := j) (by omega)
    have hne : ((l.getD j (0, ByteArray.empty, false)).1 == v) = false := by simpa using h _ (getD_mem hj _)
    simp only [step_laws_FnJournals_0, lt_len hj, nonneg, Bool.and_self, cond_true, Int.toNat_natCast, hne, cond_false, hw]) (by simp only [step_laws_FnJournals_0, not_lt_len, cond_false])
  exact tr
theorem miss_outer (l : List Edit) (k : Int) (t : ByteArray) (ok : Bool) (torn ln : ByteArray) (nine : Bool) (ms : List Int) (e : Edit) (hl : l.length ≤ 40) (hm : ms.length ≤ 100) (h : ∀ v ∈ ms, ∀ x ∈ l, x.1 ≠ v) :
    runL step_laws_FnJournals_1 (l, (k, t, (ok, torn, (ln, nine, ((ms.length : Int), (0, (ms, (e.1, e.2.1, e.2.2)))))))) = some (.inr (l, (k, t, (ok, torn, (ln, nine, (e.1, e.2.1, e.2.2)))))) := by
  have tr := runL_traj (f := step_laws_FnJournals_1) (fun i => (l, (k, t, (ok, torn, (ln, nine, ((ms.length : Int), ((i : Int), (ms, (e.1, e.2.1, e.2.2))))))))) (.inr (l, (k, t, (ok, torn, (ln, nine, (e.1, e.2.1, e.2.2)))))) ms.length (fun i hi => by
    have hw := wrap_succ (i := i) (by omega)
    have hin := miss_inner l k t ok torn ln nine (ms.getD i 0) (ms.length : Int) (i : Int) ms e hl (h _ (getD_mem hi 0))
    simp only [step_laws_FnJournals_1, lt_len hi, nonneg, Bool.and_self, cond_true, Int.toNat_natCast, hin, hw]) (by simp only [step_laws_FnJournals_1, not_lt_len, cond_false])
  exact tr

/-! ### Torn texts -/
theorem tear_more (l : List Edit) (k : Int) (hg : goodE l = true) : ∃ o, F_spec_TearText (l, k) = some o ∧ F_impl_TearText (l, k) = some o ∧ (o.2 = true → ∃ n : Nat, k = (n : Int) ∧ o.1 = ba ((catL (l.map lineE)).take n)) := by
  have hf := goodE_fits0 hg
  obtain ⟨t1, t2, t3⟩ := text_val hg
  have hz : (ba (catL (l.map lineE))).size = (catL (l.map lineE)).length := ba_size _
  by_cases h0 : 0 ≤ k
  · by_cases h1 : k ≤ ((ba (catL (l.map lineE))).size : Int)
    · refine ⟨((ba (catL (l.map lineE))).extract 0 k.toNat, true), by simp [F_spec_TearText, joGood_is l hf, hg, t1, l1In_is, h0, h1], by simp [F_impl_TearText, AreEdits_is l hf, hg, t2, within_is, h0, h1], fun _ => ⟨k.toNat, by omega, ?_⟩⟩
      show (ba (catL (l.map lineE))).extract 0 k.toNat = _
      rw [ba_extract, List.drop_zero, Nat.sub_zero]
    · exact ⟨(⟨#[]⟩, false), by simp [F_spec_TearText, joGood_is l hf, hg, t1, l1In_is, h0, h1], by simp [F_impl_TearText, AreEdits_is l hf, hg, t2, within_is, h0, h1], fun h => by cases h⟩
  · exact ⟨(⟨#[]⟩, false), by simp [F_spec_TearText, joGood_is l hf, hg, t1, l1In_is, h0], by simp [F_impl_TearText, AreEdits_is l hf, hg, t2, within_is, h0], fun h => by cases h⟩

/-! ### The law -/
theorem law_FnJournals (code more : List Int) (h1 : code.length ≤ 9223372036854775807) (h2 : more.length ≤ 9223372036854775807) (b1 : ∀ b ∈ code, 0 ≤ b ∧ b ≤ 255) (b2 : ∀ b ∈ more, 0 ≤ b ∧ b ≤ 255) : F_laws_FnJournals (code, more) = some true := by
  cases hb : decide (IntKind.i64.wrap ((code.length : Int) + (more.length : Int)) > 1048576) with
  | true => simp only [F_laws_FnJournals, hb, cond_true]
  | false =>
    have C1 : CurOK 0 (code, ((0 : Int), (0 : Int))) := ⟨h1, b1, by simp, by simp⟩
    have C2 : CurOK 0 (more, ((0 : Int), (0 : Int))) := ⟨h2, b2, by simp, by simp⟩
    obtain ⟨l, k, d1, sl⟩ := DrawTearText_ok C1
    obtain ⟨x, d2, zx⟩ := DrawEditLine_ok C2
    have hf := sl.fits
    have hj := joGood_is l hf
    have ha := AreEdits_is l hf
    -- the line of the drawn edit
    have hline : ∃ y : ByteArray × Bool, F_impl_EditLine x = some y ∧ F_spec_EditLine x = some y ∧ (y.2 = true → F_impl_ParseEditLine y.1 = some (x, true)) := by
      cases hok : edOK x with
      | false => exact ⟨(⟨#[]⟩, false), by simp only [F_impl_EditLine, isLogEdit_is x (by omega), hok, Bool.not_false, cond_true], by simp only [F_spec_EditLine, joOne_is x (by omega), hok, Bool.not_false, cond_true], fun h => by cases h⟩
      | true =>
        obtain ⟨_, q1, q2, q3, q4⟩ := lineE_is hok
        obtain ⟨_, r2, _⟩ := pr_is (p := lineE x) (by omega)
        exact ⟨(lineE x, true), by simp only [F_impl_EditLine, isLogEdit_is x (by omega), hok, Bool.not_true, cond_false, q2], by simp only [F_spec_EditLine, joOne_is x (by omega), hok, Bool.not_true, cond_false, q1], fun _ => by rw [← q4]; exact r2⟩
    obtain ⟨y, y1, y2, y3⟩ := hline
    have pe : ((x.1 == x.1) && ((x.2.1.toList == x.2.1.toList) && ((x.2.2 == x.2.2) && true))) = true := by simp
    cases hg : goodE l with
    | false =>
      have t1 : F_impl_TearText (l, k) = some (⟨#[]⟩, false) := by simp only [F_impl_TearText, ha, hg, Bool.not_false, cond_true]
      have t2 : F_spec_TearText (l, k) = some (⟨#[]⟩, false) := by simp only [F_spec_TearText, hj, hg, Bool.not_false, cond_true]
      have t3 : F_impl_EditsText l = some (⟨#[]⟩, false) := by simp only [F_impl_EditsText, ha, hg, Bool.not_false, cond_true]
      have t4 : F_spec_EditsText l = some (⟨#[]⟩, false) := by simp only [F_spec_EditsText, hj, hg, Bool.not_false, cond_true]
      have t5 : F_impl_GlossesIn l = some ([], false) := by simp only [F_impl_GlossesIn, ha, hg, Bool.not_false, cond_true]
      have t6 : F_spec_GlossesIn l = some ([], false) := by simp only [F_spec_GlossesIn, hj, hg, Bool.not_false, cond_true]
      have t7 : F_impl_ShortenEdits l = some ([], false) := by simp only [F_impl_ShortenEdits, ha, hg, Bool.not_false, cond_true]
      have t8 : F_spec_ShortenEdits l = some ([], false) := by simp only [F_spec_ShortenEdits, hj, hg, Bool.not_false, cond_true]
      have t9 : F_impl_MissingEdits l = some ([], false) := by simp only [F_impl_MissingEdits, ha, hg, Bool.not_false, cond_true]
      have t10 : F_spec_MissingEdits l = some ([], false) := by simp only [F_spec_MissingEdits, hj, hg, Bool.not_false, cond_true]
      have q1 := qTexts_refl [] (by simp)
      have q2 := qEdits_refl [] (by simp)
      have q3 := qInts_refl [] (by simp)
      simp only [F_laws_FnJournals, hb, cond_false, d1, d2, t1, t2, t3, t4, t5, t6, t7, t8, t9, t10, y1, y2, q1, q2, q3, BEq.rfl, Bool.not_true, ha, hg]
      cases hy : y.2 with
      | false => simp only [cond_false]
      | true => simp only [cond_true, y3 hy, pe]
    | true =>
      have g := good_of hg
      have hlen := g.len
      obtain ⟨o, o1, o2, o3⟩ := tear_more l k hg
      obtain ⟨t1, t2, t3⟩ := text_val hg
      have hz : (ba (catL (l.map lineE))).size = (catL (l.map lineE)).length := ba_size _
      have e1 : F_impl_EditsText l = some (ba (catL (l.map lineE)), true) := by simp only [F_impl_EditsText, ha, hg, Bool.not_true, cond_false, t2]
      have e2 : F_spec_EditsText l = some (ba (catL (l.map lineE)), true) := by simp only [F_spec_EditsText, hj, hg, Bool.not_true, cond_false, t1]
      obtain ⟨g1, g2, g3⟩ := GlossesIn_val l hf hg
      obtain ⟨s1, s2⟩ := shorten_val l hg
      have hgs : goodE (shorten l) = true := goodE_sub hg (shorten_sub l)
      obtain ⟨_, k2, _⟩ := GlossesIn_val (shorten l) (goodE_fits0 hgs) hgs
      rw [shorten_glosses] at k2
      have hlen2 := goodE_len hgs
      have aes := AreEdits_is (shorten l) (goodE_fits0 hgs)
      obtain ⟨ms, m1, m2, m3, m4⟩ := missing_val l hg
      obtain ⟨m, n, _, _, _, rr, rfin⟩ := torn_read hg (catL (l.map lineE)).length
      obtain ⟨rm, rn⟩ := rfin (Nat.le_refl _)
      rw [rm, rn, List.take_length, List.take_length] at rr
      have w1 := qTexts_refl (l.foldl upd []) (by omega)
      have w2 := qEdits_refl (shorten l) (by omega)
      have w3 := qInts_refl ms (by omega)
      have w4 := qEdits_refl l (by omega)
      have c1 : decide (((ba (catL (l.map lineE))).size : Int) ≤ 2000) = true := decide_eq_true (by omega)
      have c2 : ((((catL (l.map lineE)).length : Nat) : Int) != ((ba (catL (l.map lineE))).size : Int)) = false := by rw [hz]; simp
      have mo := miss_outer l k o.1 o.2 o.1 y.1 y.2 ms x hlen m3 m4
      -- what is torn
      have torn : o.2 = true → ∃ a b : Nat, a ≤ l.length ∧ (b : Int) ≤ k ∧ F_impl_ReadEdits o.1 = some (l.take a, (b : Int), true) ∧ F_spec_ReadEdits o.1 = some (l.take a, (b : Int), true) := fun ho => by
        obtain ⟨p, rfl, ep⟩ := o3 ho
        obtain ⟨a, b, a1, a2, a3, a4, _⟩ := torn_read hg p
        exact ⟨a, b, a1, by omega, by rw [ep]; exact a4, by rw [ep]; exact a3⟩
      cases ho : o.2 with
      | false =>
        rw [ho] at mo
        simp only [F_laws_FnJournals, hb, cond_false, d1, d2, o1, o2, ho, e1, e2, g1, g2, s1, s2, m1, m2, y1, y2, w1, w2, w3, w4, BEq.rfl, Bool.not_true, ha, hg, cond_true, rr, k2, c1, c2, aes, hgs, mo]
        cases hy : y.2 with
        | false => simp only [cond_false]
        | true => simp only [cond_true, y3 hy, pe]
      | true =>
        rw [ho] at mo
        obtain ⟨a, b, a1, a2, a3, a4⟩ := torn ho
        have v1 : decide ((b : Int) > k) = false := decide_eq_false (by omega)
        have hal : (l.take a).length = a := by simp; omega
        have v2 : decide (((l.take a).length : Int) > (l.length : Int)) = false := decide_eq_false (by omega)
        have v3 : decide ((0 : Int) ≤ 0) = true := rfl
        have v4 : decide (((l.take a).length : Int) ≤ (l.length : Int)) = true := decide_eq_true (by omega)
        have p0 : ((0 : Int)).toNat = 0 := rfl
        have v5 : (l.drop 0).take ((l.take a).length - 0) = l.take a := by rw [List.drop_zero, Nat.sub_zero, hal]
        have w5 := qEdits_refl (l.take a) (by omega)
        simp only [F_laws_FnJournals, hb, cond_false, d1, d2, o1, o2, ho, e1, e2, g1, g2, s1, s2, m1, m2, y1, y2, w1, w2, w3, w4, BEq.rfl, Bool.not_true, ha, hg, cond_true, rr, k2, c1, c2, aes, hgs, mo, a3, a4, bne_self_eq_false, v1, v2, v3, v4, nonneg, Bool.and_self, p0, Int.toNat_natCast, v5, w5]
        cases hy : y.2 with
        | false => simp only [cond_false]
        | true => simp only [cond_true, y3 hy, pe]
end Go.Proofs.YtjmagdcgniklgaaGreatDoor
