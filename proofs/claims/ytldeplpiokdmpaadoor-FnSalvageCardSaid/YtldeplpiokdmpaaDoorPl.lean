/- Plain laws for this claim, several texts in one. No conditions beyond the bounds that are named. -/
import Derived.Test.YtldeplpiokdmpaaDoorEvZk
import Derived.Test.YtldeplpiokdmpaaDoorC0
import Derived.Lib.AtoiTie
import Derived.Lib.IndexLaws
import Derived.Lib.IndexBytes
/- Words for pure laws: rounds of loops, bounds of numbers. No conditions. -/
set_option linter.unusedVariables false
namespace Go.Proofs.YtldeplpiokdmpaaDoor
open Go
theorem wrap_id {n : Int} (h0 : -9223372036854775808 ≤ n) (h1 : n ≤ 9223372036854775807) : IntKind.i64.wrap n = n := by
  simp [IntKind.wrap, IntKind.bits, IntKind.signed]
  omega
theorem wrap_succ {i : Nat} (h : i < 9223372036854775807) : IntKind.i64.wrap ((i : Int) + 1) = ((i + 1 : Nat) : Int) := by rw [wrap_id (by omega) (by omega)]; omega
theorem wrap_pred {i : Nat} (h : i < 9223372036854775807) (h0 : 0 < i) : IntKind.i64.wrap ((i : Int) - 1) = ((i - 1 : Nat) : Int) := by rw [wrap_id (by omega) (by omega)]; omega

/-- a loop that keeps R and comes to an end has Q behind it -/
theorem runL_inv {S O : Type} {f : S → Option (S ⊕ O)} (R : S → Prop) (Q : O → Prop) (μ : S → Nat)
    (h : ∀ s, R s → (∃ o, f s = some (.inr o) ∧ Q o) ∨ ∃ s', f s = some (.inl s') ∧ R s' ∧ μ s' < μ s) : ∀ s, R s → ∃ o, runL f s = some o ∧ Q o := by
  have go : ∀ n s, μ s ≤ n → R s → ∃ o, runL f s = some o ∧ Q o := by
    intro n
    induction n with
    | zero =>
      intro s hn hs
      rcases h s hs with ⟨o, e, q⟩ | ⟨s', e, r, l⟩
      · exact ⟨o, by rw [runL_eq, e], q⟩
      · omega
    | succ n ih =>
      intro s hn hs
      rcases h s hs with ⟨o, e, q⟩ | ⟨s', e, r, l⟩
      · exact ⟨o, by rw [runL_eq, e], q⟩
      · obtain ⟨o, e2, q⟩ := ih s' (by omega) r
        exact ⟨o, by rw [runL_eq, e]; exact e2, q⟩
  exact fun s hs => go _ s (Nat.le_refl _) hs

/-- two loops, round by round -/
theorem runL_sim {S T O P : Type} {f : S → Option (S ⊕ O)} {g : T → Option (T ⊕ P)} (R : S → T → Prop) (Q : O → P → Prop) (μ : S → Nat)
    (h : ∀ s t, R s t → (∃ o p, f s = some (.inr o) ∧ g t = some (.inr p) ∧ Q o p) ∨ ∃ s' t', f s = some (.inl s') ∧ g t = some (.inl t') ∧ R s' t' ∧ μ s' < μ s) :
    ∀ s t, R s t → ∃ o p, runL f s = some o ∧ runL g t = some p ∧ Q o p := by
  have go : ∀ n s t, μ s ≤ n → R s t → ∃ o p, runL f s = some o ∧ runL g t = some p ∧ Q o p := by
    intro n
    induction n with
    | zero =>
      intro s t hn hs
      rcases h s t hs with ⟨o, p, e, e2, q⟩ | ⟨s', t', e, e2, r, l⟩
      · exact ⟨o, p, by rw [runL_eq, e], by rw [runL_eq, e2], q⟩
      · omega
    | succ n ih =>
      intro s t hn hs
      rcases h s t hs with ⟨o, p, e, e2, q⟩ | ⟨s', t', e, e2, r, l⟩
      · exact ⟨o, p, by rw [runL_eq, e], by rw [runL_eq, e2], q⟩
      · obtain ⟨o, p, e3, e4, q⟩ := ih s' t' (by omega) r
        exact ⟨o, p, by rw [runL_eq, e]; exact e3, by rw [runL_eq, e2]; exact e4, q⟩
  exact fun s t hs => go _ s t (Nat.le_refl _) hs

/-- a loop over m rounds whose states are known -/
theorem runL_traj {S O : Type} {f : S → Option (S ⊕ O)} (s : Nat → S) (o : O) (m : Nat) (h : ∀ i, i < m → f (s i) = some (.inl (s (i + 1)))) (hend : f (s m) = some (.inr o)) : runL f (s 0) = some o := by
  have go : ∀ k i, m - i = k → i ≤ m → runL f (s i) = some o := by
    intro k
    induction k with
    | zero => intro i hk hi; rw [runL_eq, show i = m by omega, hend]
    | succ k ih => intro i hk hi; rw [runL_eq, h i (by omega)]; exact ih (i + 1) (by omega) (by omega)
  exact go m 0 (by omega) (by omega)

/-- a loop that goes on while p holds: the first place where it fails -/
theorem runL_first {S O : Type} {f : S → Option (S ⊕ O)} (p : Nat → Bool) (s : Nat → S) (no : Nat → O) (yes : O) (m : Nat)
    (h : ∀ i, i < m → f (s i) = some (bif p i then .inl (s (i + 1)) else .inr (no i))) (hend : f (s m) = some (.inr yes)) :
    (runL f (s 0) = some yes ∧ ∀ i, i < m → p i = true) ∨ ∃ i, i < m ∧ p i = false ∧ (∀ j, j < i → p j = true) ∧ runL f (s 0) = some (no i) := by
  have go : ∀ k i, m - i = k → i ≤ m → (∀ j, j < i → p j = true) → runL f (s 0) = runL f (s i) → (runL f (s 0) = some yes ∧ ∀ i, i < m → p i = true) ∨ ∃ i, i < m ∧ p i = false ∧ (∀ j, j < i → p j = true) ∧ runL f (s 0) = some (no i) := by
    intro k
    induction k with
    | zero =>
      intro i hk hi hp he
      have : i = m := by omega
      subst this
      exact .inl ⟨by rw [he, runL_eq, hend], hp⟩
    | succ k ih =>
      intro i hk hi hp he
      have hi' : i < m := by omega
      cases hpi : p i with
      | false => exact .inr ⟨i, hi', hpi, hp, by rw [he, runL_eq, h i hi', hpi]; rfl⟩
      | true =>
        refine ih (i + 1) (by omega) (by omega) (fun j hj => ?_) ?_
        · rcases Nat.lt_succ_iff_lt_or_eq.1 hj with hj | hj
          · exact hp j hj
          · exact hj ▸ hpi
        · rw [he, runL_eq f (s i), h i hi', hpi]; rfl
  exact go m 0 (by omega) (by omega) (fun j hj => by omega) rfl

/-- all of the first m places -/
def allN (p : Nat → Bool) (m : Nat) : Bool := (List.range m).all p
theorem allN_true {p : Nat → Bool} {m : Nat} : allN p m = true ↔ ∀ i, i < m → p i = true := by simp [allN]
theorem allN_false {p : Nat → Bool} {m : Nat} : allN p m = false ↔ ∃ i, i < m ∧ p i = false := by simp [allN]

theorem runL_all {S O : Type} {f : S → Option (S ⊕ O)} (p : Nat → Bool) (s : Nat → S) (no yes : O) (m : Nat)
    (h : ∀ i, i < m → f (s i) = some (bif p i then .inl (s (i + 1)) else .inr no)) (hend : f (s m) = some (.inr yes)) : runL f (s 0) = some (bif allN p m then yes else no) := by
  rcases runL_first p s (fun _ => no) yes m h hend with ⟨e, hp⟩ | ⟨i, hi, hp, _, e⟩
  · rw [e, allN_true.2 hp]; rfl
  · rw [e, allN_false.2 ⟨i, hi, hp⟩]; rfl

/-- the first of m places where p holds, or -1 -/
def firstN (p : Nat → Bool) (m : Nat) : Int := match (List.range m).find? p with | some i => (i : Int) | none => -1
theorem firstN_at {p : Nat → Bool} {m i : Nat} (hi : i < m) (hp : p i = true) (hj : ∀ j, j < i → p j = false) : firstN p m = (i : Int) := by
  unfold firstN
  have : (List.range m).find? p = some i := by
    rw [List.find?_range_eq_some]
    refine ⟨hp, by simpa using hi, fun j hj' => by simp [hj j hj']⟩
  rw [this]
theorem firstN_none {p : Nat → Bool} {m : Nat} (h : ∀ j, j < m → p j = false) : firstN p m = -1 := by
  unfold firstN
  have : (List.range m).find? p = none := by
    rw [List.find?_eq_none]
    intro x hx
    simp [h x (by simpa using hx)]
  rw [this]
theorem firstN_cases (p : Nat → Bool) (m : Nat) : (firstN p m = -1 ∧ ∀ j, j < m → p j = false) ∨ ∃ i, i < m ∧ firstN p m = (i : Int) ∧ p i = true ∧ ∀ j, j < i → p j = false := by
  cases h : (List.range m).find? p with
  | none =>
    have h' := List.find?_eq_none.1 h
    have : ∀ j, j < m → p j = false := fun j hj => by simpa using h' j (by simpa using hj)
    exact .inl ⟨firstN_none this, this⟩
  | some i =>
    obtain ⟨h1, h2, h3⟩ := List.find?_range_eq_some.1 h
    have h2' : i < m := by simpa using h2
    have h3' : ∀ j, j < i → p j = false := fun j hj => by simpa using h3 j hj
    exact .inr ⟨i, h2', firstN_at h2' h1 h3', h1, h3'⟩

/-- a loop that looks for the first place where p holds -/
theorem runL_find {S O : Type} {f : S → Option (S ⊕ O)} (p : Nat → Bool) (s : Nat → S) (o : Int → O) (m : Nat)
    (h : ∀ i, i < m → f (s i) = some (bif p i then .inr (o i) else .inl (s (i + 1)))) (hend : f (s m) = some (.inr (o (-1)))) : runL f (s 0) = some (o (firstN p m)) := by
  rcases runL_first (fun i => !p i) s (fun i => o i) (o (-1)) m (fun i hi => by rw [h i hi]; cases p i <;> rfl) hend with ⟨e, hp⟩ | ⟨i, hi, hp, hj, e⟩
  · rw [e, firstN_none (fun j hj => by simpa using hp j hj)]
  · rw [e, firstN_at hi (by simpa using hp) (fun j hj' => by simpa using hj j hj')]

theorem getD_mem {α : Type} {l : List α} {i : Nat} (h : i < l.length) (d : α) : l.getD i d ∈ l := by simp [List.getD, List.getElem?_eq_getElem h]
theorem take_succ_getD {α : Type} {l : List α} {i : Nat} (h : i < l.length) (d : α) : l.take (i + 1) = l.take i ++ [l.getD i d] := by
  rw [List.take_add_one, List.getD, List.getElem?_eq_getElem h]; rfl
theorem lt_len {i n : Nat} (h : i < n) : decide ((i : Int) < (n : Int)) = true := by simp; omega
theorem not_lt_len (n : Nat) : decide ((n : Int) < (n : Int)) = false := by simp
theorem nonneg (i : Nat) : decide (0 ≤ (i : Int)) = true := by simp

/-- a copy that is written place by place -/
theorem set_copy {α : Type} (l : List α) (d : α) {i : Nat} (h : i < l.length) : (l.take i ++ List.replicate (l.length - i) d).set i (l.getD i d) = l.take (i + 1) ++ List.replicate (l.length - (i + 1)) d := by
  have e : l.length - i = (l.length - (i + 1)) + 1 := by omega
  have hi : (l.take i).length = i := by simp; omega
  rw [take_succ_getD h d, e, List.replicate_succ, List.set_append, if_neg (by omega), hi, Nat.sub_self, List.set_cons_zero, List.append_assoc]
  rfl
theorem copy_len {α : Type} (l : List α) (d : α) {i : Nat} (h : i ≤ l.length) : (l.take i ++ List.replicate (l.length - i) d).length = l.length := by simp; omega
end Go.Proofs.YtldeplpiokdmpaaDoor
/- The words of the laws. No conditions beyond the bounds that are named. -/
set_option linter.unusedVariables false
set_option linter.unusedSimpArgs false
namespace Go.Proofs.YtldeplpiokdmpaaDoor
open Go
end Go.Proofs.YtldeplpiokdmpaaDoor
/- Glosses: what a word of capitals is, on both sides. No conditions beyond the bounds that are named. -/
set_option linter.unusedVariables false
set_option linter.unusedSimpArgs false
namespace Go.Proofs.YtldeplpiokdmpaaDoor
open Go
/-- the bytes of the capitals -/
theorem cap_byte : ∀ b : Fin 256, (decide (Lib.indexByte [65, 66, 67, 68, 69, 70, 71, 72, 73, 74, 75, 76, 77, 78, 79, 80, 81, 82, 83, 84, 85, 86, 87, 88, 89, 90] (UInt8.ofNat b.val) < 0)) = !(decide (65 ≤ (b.val : Int)) && decide ((b.val : Int) ≤ 90)) := by decide +kernel
abbrev capitals : ByteArray := ⟨#[65, 66, 67, 68, 69, 70, 71, 72, 73, 74, 75, 76, 77, 78, 79, 80, 81, 82, 83, 84, 85, 86, 87, 88, 89, 90]⟩
theorem cap_index (s : ByteArray) (i : Nat) : ∃ n, F_strings_IndexByte (capitals, byteAt s i) = some n ∧ decide (n < 0) = !(decide (65 ≤ byteAt s i) && decide (byteAt s i ≤ 90)) := by
  obtain ⟨b, hb⟩ : ∃ b : UInt8, byteAt s i = (b.toNat : Int) := ⟨_, rfl⟩
  refine ⟨_, rfl, ?_⟩
  rw [hb]
  have hc := cap_byte ⟨b.toNat, b.toNat_lt⟩
  simpa [Nat.toUInt8] using hc

/-- capitals alone -/
def capsOnly (s : ByteArray) : Bool := allN (fun i => decide (65 ≤ byteAt s i) && decide (byteAt s i ≤ 90)) s.size
/-- a gloss -/
def gl (s : ByteArray) : Bool := capsOnly s && (decide (1 ≤ (s.size : Int)) && decide ((s.size : Int) ≤ 8))

theorem l1In_is (a b c : Int) : F_spec_l1In (a, b, c) = some (decide (b ≤ a) && decide (a ≤ c)) := by
  unfold F_spec_l1In
  by_cases h : b ≤ a <;> simp [h]
theorem within_is (a b c : Int) : F_impl_within (a, b, c) = some (decide (b ≤ a) && decide (a ≤ c)) := by
  unfold F_impl_within
  by_cases h : b ≤ a <;> simp [h]

theorem lt_not {a b : Int} : decide (a < b) = !decide (b ≤ a) := by by_cases h : b ≤ a <;> simp [h] <;> omega
theorem gt_not {a b : Int} : decide (a > b) = !decide (a ≤ b) := by by_cases h : a ≤ b <;> simp [h] <;> omega

theorem hasOnly_is (s : ByteArray) (hs : s.size ≤ 9223372036854775807) : F_impl_hasOnly (s, capitals) = some (capsOnly s) := by
  have t := runL_all (f := step_impl_hasOnly_0) (fun i => decide (65 ≤ byteAt s i) && decide (byteAt s i ≤ 90)) (fun i => (s, capitals, (s.size : Int), (i : Int))) (.inl false) (.inr ()) s.size (fun i hi => by
    have hw := wrap_succ (i := i) (by omega)
    obtain ⟨n, e1, e2⟩ := cap_index s i
    simp only [step_impl_hasOnly_0, lt_len hi, nonneg, Bool.and_self, cond_true, Int.toNat_natCast, e1, e2, hw]
    cases (decide (65 ≤ byteAt s i) && decide (byteAt s i ≤ 90)) <;> rfl) (by simp [step_impl_hasOnly_0])
  have t' : runL step_impl_hasOnly_0 (s, capitals, (s.size : Int), (0 : Int)) = _ := t
  simp only [F_impl_hasOnly, t']
  unfold capsOnly
  cases allN _ _ <;> rfl

theorem IsGloss_is (s : ByteArray) (hs : s.size ≤ 9223372036854775807) : F_impl_IsGloss s = some (gl s) := by
  simp only [F_impl_IsGloss, F_impl_isWordOf, within_is, gl, hasOnly_is s hs]
  cases decide (1 ≤ (s.size : Int)) <;> cases decide ((s.size : Int) ≤ 8) <;> simp

end Go.Proofs.YtldeplpiokdmpaaDoor
/- What the functions of the journal come to, on both sides: plain laws. No conditions beyond the bounds that are named. -/
set_option linter.unusedVariables false
set_option linter.unusedSimpArgs false
namespace Go.Proofs.YtldeplpiokdmpaaDoor
open Go

abbrev Edit := Int × (ByteArray × Bool)
abbrev dE : Edit := (0, ByteArray.empty, false)

theorem fsWord_is (s : ByteArray) (hs : s.size ≤ 9223372036854775807) : F_spec_fsWord s = some (gl s) := by
  have t := runL_all (f := step_spec_fsWord_0) (fun i => decide (65 ≤ byteAt s i) && decide (byteAt s i ≤ 90)) (fun i => (s, (i : Int))) (.inl false) (.inr s) s.size (fun i hi => by
    have hw := wrap_succ (i := i) (by omega)
    simp only [step_spec_fsWord_0, lt_len hi, nonneg, Bool.and_self, cond_true, Int.toNat_natCast, hw, lt_not, gt_not]
    cases decide (65 ≤ byteAt s i) <;> cases decide (byteAt s i ≤ 90) <;> rfl) (by simp [step_spec_fsWord_0])
  have t' : runL step_spec_fsWord_0 (s, (0 : Int)) = _ := t
  simp only [F_spec_fsWord, t']
  unfold gl capsOnly
  cases allN (fun i => decide (65 ≤ byteAt s i) && decide (byteAt s i ≤ 90)) s.size <;> simp [l1In_is]

def edOK (e : Edit) : Bool := (decide (1 ≤ e.1) && decide (e.1 ≤ 999)) && gl e.2.1
theorem joOne_is (e : Edit) (hg : e.2.1.size ≤ 9223372036854775807) : F_spec_joOne e = some (edOK e) := by
  simp only [F_spec_joOne, l1In_is, fsWord_is _ hg, edOK]
  cases (decide (1 ≤ e.1) && decide (e.1 ≤ 999)) <;> simp
theorem isLogEdit_is (e : Edit) (hg : e.2.1.size ≤ 9223372036854775807) : F_impl_isLogEdit e = some (edOK e) := by
  simp only [F_impl_isLogEdit, within_is, IsGloss_is _ hg, edOK]
  cases (decide (1 ≤ e.1) && decide (e.1 ≤ 999)) <;> simp

def risesE (l : List Edit) (i : Nat) : Bool := decide (i = 0) || !decide ((l.getD i dE).1 ≤ (l.getD (i - 1) dE).1)
def goodEAt (l : List Edit) (i : Nat) : Bool := edOK (l.getD i dE) && risesE l i
def goodE (l : List Edit) : Bool := allN (goodEAt l) l.length && decide ((l.length : Int) ≤ 40)

structure FitsE (l : List Edit) : Prop where
  len : l.length ≤ 1048576
  gloss : ∀ e ∈ l, e.2.1.size ≤ 9223372036854775807

theorem joGood_is (l : List Edit) (hf : FitsE l) : F_spec_joGood l = some (goodE l) := by
  have hlen := hf.len
  have t := runL_all (f := step_spec_joGood_0) (goodEAt l) (fun i => (l, l, (l.length : Int), (i : Int))) (.inl false) (.inr l) l.length (fun i hi => by
    have hw := wrap_succ (i := i) (by omega)
    have h1 := joOne_is (l.getD i dE) (hf.gloss _ (getD_mem hi dE))
    simp only [step_spec_joGood_0, lt_len hi, nonneg, Bool.and_self, cond_true, Int.toNat_natCast, hw, h1, goodEAt]
    cases edOK (l.getD i dE) with
    | false => rfl
    | true =>
      rcases Nat.eq_zero_or_pos i with rfl | hp
      · simp [risesE]
      · have hwp := wrap_pred (i := i) (by omega) hp
        have hp' : decide ((i : Int) > 0) = true := by simp; omega
        have h0 : decide (i = 0) = false := by simp; omega
        simp only [Bool.not_true, cond_false, hp', cond_true, hwp, lt_len (show i - 1 < l.length by omega), nonneg, Bool.and_self, Int.toNat_natCast, risesE, h0, Bool.false_or, Bool.true_and, ge_iff_le]
        cases decide ((l.getD i dE).1 ≤ (l.getD (i - 1) dE).1) <;> rfl) (by simp [step_spec_joGood_0])
  have t' : runL step_spec_joGood_0 (l, l, (l.length : Int), (0 : Int)) = _ := t
  simp only [F_spec_joGood, t', goodE]
  cases allN (goodEAt l) l.length <;> simp

theorem AreEdits_is (l : List Edit) (hf : FitsE l) : F_impl_AreEdits l = some (goodE l) := by
  have hlen := hf.len
  have t := runL_all (f := step_impl_AreEdits_0) (goodEAt l) (fun i => (l, l, (l.length : Int), (i : Int))) (.inl false) (.inr l) l.length (fun i hi => by
    have hw := wrap_succ (i := i) (by omega)
    have h1 := isLogEdit_is (l.getD i dE) (hf.gloss _ (getD_mem hi dE))
    simp only [step_impl_AreEdits_0, lt_len hi, nonneg, Bool.and_self, cond_true, Int.toNat_natCast, hw, h1, goodEAt]
    cases edOK (l.getD i dE) with
    | false => rfl
    | true =>
      rcases Nat.eq_zero_or_pos i with rfl | hp
      · simp [risesE]
      · have hwp := wrap_pred (i := i) (by omega) hp
        have hp' : decide ((i : Int) > 0) = true := by simp; omega
        have h0 : decide (i = 0) = false := by simp; omega
        simp only [Bool.not_true, cond_false, hp', cond_true, hwp, lt_len (show i - 1 < l.length by omega), nonneg, Bool.and_self, Int.toNat_natCast, risesE, h0, Bool.false_or, Bool.true_and, ge_iff_le]
        cases decide ((l.getD i dE).1 ≤ (l.getD (i - 1) dE).1) <;> rfl) (by simp [step_impl_AreEdits_0])
  have t' : runL step_impl_AreEdits_0 (l, l, (l.length : Int), (0 : Int)) = _ := t
  simp only [F_impl_AreEdits, t', goodE]
  cases allN (goodEAt l) l.length <;> simp

theorem goodE_len {l : List Edit} (h : goodE l = true) : l.length ≤ 40 := by
  simp only [goodE, Bool.and_eq_true, decide_eq_true_eq] at h
  omega
theorem goodE_num {l : List Edit} (h : goodE l = true) {i : Nat} (hi : i < l.length) : 1 ≤ (l.getD i dE).1 ∧ (l.getD i dE).1 ≤ 999 := by
  simp only [goodE, Bool.and_eq_true] at h
  have := allN_true.1 h.1 i hi
  simp only [goodEAt, edOK, Bool.and_eq_true, decide_eq_true_eq] at this
  exact this.1.1
theorem goodE_gloss {l : List Edit} (h : goodE l = true) {i : Nat} (hi : i < l.length) : (l.getD i dE).2.1.size ≤ 8 := by
  simp only [goodE, Bool.and_eq_true] at h
  have := allN_true.1 h.1 i hi
  simp only [goodEAt, edOK, gl, Bool.and_eq_true, decide_eq_true_eq] at this
  have := this.1.2.2.2
  omega
end Go.Proofs.YtldeplpiokdmpaaDoor
/- Lines of edits and their texts are the same on both sides: plain laws. No conditions beyond the bounds that are named. -/
set_option linter.unusedVariables false
set_option linter.unusedSimpArgs false
namespace Go.Proofs.YtldeplpiokdmpaaDoor
open Go

/-- a decimal numeral -/
noncomputable def it (n : Int) : ByteArray := ⟨(Lib.itoa n).toArray⟩
theorem it_size {n : Int} (h0 : 0 ≤ n) (h1 : n ≤ 9999) : (it n).size ≤ 10000 := by
  obtain ⟨k, rfl⟩ : ∃ k : Nat, n = (k : Int) := ⟨n.toNat, by omega⟩
  have := decDigits_short k
  have e : (it (k : Int)).size = (Lib.decDigits k).length := by rw [it, Lib.itoa_nonneg]; show ((Lib.decDigits k).toArray).size = _; simp
  omega
theorem l1Num_is {n : Int} (h0 : 0 ≤ n) (h1 : n ≤ 9999) : F_spec_l1Num n = some (it n) := by
  rw [F_spec_l1Num_is, decide_eq_true h0, decide_eq_true (show n ≤ 9223372036854775807 by omega)]; rfl
theorem Itoa_is {n : Int} (h0 : 0 ≤ n) (h1 : n ≤ 9999) : F_strconv_Itoa n = some (it n) := by
  rw [F_strconv_Itoa_is, decide_eq_true (show -9223372036854775808 ≤ n by omega), decide_eq_true (show n ≤ 9223372036854775807 by omega)]; rfl

theorem cat_ok {a b : ByteArray} (h : a.size + b.size ≤ 9223372036854775807) : decide (a.size + b.size ≤ 9223372036854775807) = true := decide_eq_true h
theorem byteAt_le (s : ByteArray) (i : Nat) : 0 ≤ byteAt s i ∧ byteAt s i ≤ 255 := by
  obtain ⟨b, hb⟩ : ∃ b : UInt8, byteAt s i = (b.toNat : Int) := ⟨_, rfl⟩
  have := b.toNat_lt
  omega

theorem sum_loop (s : ByteArray) (hs : s.size ≤ 1000000) : ∃ m : Int, runL step_spec_joLine_0 (s, 3, 0) = some (s, m) ∧ runL step_impl_LogEdit_line_0 (s, 3, (s.size : Int), 0) = some (s, m) ∧ 0 ≤ m ∧ m ≤ 9972 := by
  obtain ⟨o, p, e1, e2, rfl, m, rfl, h0, h1⟩ := runL_sim (f := step_spec_joLine_0) (g := step_impl_LogEdit_line_0) (fun a b => ∃ (m : Int) (i : Nat), a = (s, m, (i : Int)) ∧ b = (s, m, (s.size : Int), (i : Int)) ∧ i ≤ s.size ∧ 0 ≤ m ∧ m ≤ 9972)
    (fun o p => o = p ∧ ∃ m : Int, o = (s, m) ∧ 0 ≤ m ∧ m ≤ 9972) (fun a => s.size - a.2.2.toNat) (by
    rintro a b ⟨m, i, rfl, rfl, hi, h0, h1⟩
    rcases Nat.lt_or_ge i s.size with hlt | hge
    · right
      obtain ⟨b0, b1⟩ := byteAt_le s i
      have hw := wrap_succ (i := i) (by omega)
      have w1 : IntKind.i64.wrap (7 * m) = 7 * m := wrap_id (by omega) (by omega)
      have w2 : IntKind.i64.wrap (byteAt s i) = byteAt s i := wrap_id (by omega) (by omega)
      have w3 : IntKind.i64.wrap (7 * m + byteAt s i) = 7 * m + byteAt s i := wrap_id (by omega) (by omega)
      have hm : (7 * m + byteAt s i).tmod 9973 = (7 * m + byteAt s i) % 9973 := Int.tmod_eq_emod_of_nonneg (by omega)
      have hz : (!decide ((9973 : Int) = 0)) = true := rfl
      refine ⟨(s, (7 * m + byteAt s i) % 9973, ((i + 1 : Nat) : Int)), (s, (7 * m + byteAt s i) % 9973, (s.size : Int), ((i + 1 : Nat) : Int)), ?_, ?_, ⟨_, i + 1, rfl, rfl, by omega, by omega, by omega⟩, by simp; omega⟩
      · simp only [step_spec_joLine_0, lt_len hlt, nonneg, Bool.and_self, cond_true, Int.toNat_natCast, w1, w2, w3, hm, hw]
        rfl
      · simp only [step_impl_LogEdit_line_0, lt_len hlt, nonneg, Bool.and_self, cond_true, Int.toNat_natCast, w1, w2, w3, hm, hw]
        rfl
    · left
      have : i = s.size := by omega
      subst this
      exact ⟨(s, m), (s, m), by simp only [step_spec_joLine_0, not_lt_len, cond_false], by simp only [step_impl_LogEdit_line_0, not_lt_len, cond_false], rfl, m, rfl, h0, h1⟩) (s, 3, 0) (s, 3, (s.size : Int), 0) ⟨3, 0, rfl, rfl, by omega, by omega, by omega⟩
  exact ⟨m, e1, e2, h0, h1⟩

/-- a line: the number, the sign, the gloss, a full stop, the check number, a newline -/
noncomputable def lineOf (e : Edit) (m : Int) : ByteArray := ((((it e.1 ++ (bif e.2.2 then (⟨#[45]⟩ : ByteArray) else (⟨#[43]⟩ : ByteArray))) ++ e.2.1) ++ (⟨#[46]⟩ : ByteArray)) ++ it m) ++ (⟨#[10]⟩ : ByteArray)
theorem line_form (e : Edit) (hok : edOK e = true) : ∃ m, F_spec_joLine e = some (lineOf e m) ∧ F_impl_LogEdit_line e = some (lineOf e m) ∧ (lineOf e m).size ≤ 30000 ∧ 0 ≤ m ∧ m ≤ 9972 := by
  obtain ⟨n, g, out⟩ := e
  simp only [edOK, gl, Bool.and_eq_true, decide_eq_true_eq] at hok
  obtain ⟨⟨n1, n2⟩, _, _, g2⟩ := hok
  have hy := it_size (n := n) (by omega) (by omega)
  have l1 := l1Num_is (n := n) (by omega) (by omega)
  have l2 := Itoa_is (n := n) (by omega) (by omega)
  have go : ∀ c : UInt8, ∃ t, (bif decide ((it n).size + (⟨#[c]⟩ : ByteArray).size ≤ 9223372036854775807) then true else false) = true ∧ decide ((it n ++ (⟨#[c]⟩ : ByteArray)).size + g.size ≤ 9223372036854775807) = true ∧
      ∃ m : Int, runL step_spec_joLine_0 ((it n ++ (⟨#[c]⟩ : ByteArray)) ++ g, 3, 0) = some ((it n ++ (⟨#[c]⟩ : ByteArray)) ++ g, m) ∧ runL step_impl_LogEdit_line_0 ((it n ++ (⟨#[c]⟩ : ByteArray)) ++ g, 3, (((it n ++ (⟨#[c]⟩ : ByteArray)) ++ g).size : Int), 0) = some ((it n ++ (⟨#[c]⟩ : ByteArray)) ++ g, m) ∧ (0 ≤ m ∧ m ≤ 9972) ∧
      F_spec_l1Num m = some (it m) ∧ F_strconv_Itoa m = some (it m) ∧
      decide (((it n ++ (⟨#[c]⟩ : ByteArray)) ++ g).size + (⟨#[46]⟩ : ByteArray).size ≤ 9223372036854775807) = true ∧
      decide ((((it n ++ (⟨#[c]⟩ : ByteArray)) ++ g) ++ (⟨#[46]⟩ : ByteArray)).size + (it m).size ≤ 9223372036854775807) = true ∧
      decide (((((it n ++ (⟨#[c]⟩ : ByteArray)) ++ g) ++ (⟨#[46]⟩ : ByteArray)) ++ it m).size + (⟨#[10]⟩ : ByteArray).size ≤ 9223372036854775807) = true ∧
      t = ((((it n ++ (⟨#[c]⟩ : ByteArray)) ++ g) ++ (⟨#[46]⟩ : ByteArray)) ++ it m) ++ (⟨#[10]⟩ : ByteArray) ∧ t.size ≤ 30000 := by
    intro c
    have z1 : (⟨#[c]⟩ : ByteArray).size = 1 := rfl
    have z2 : (⟨#[46]⟩ : ByteArray).size = 1 := rfl
    have z3 : (⟨#[10]⟩ : ByteArray).size = 1 := rfl
    have hg : g.size ≤ 8 := by omega
    obtain ⟨m, e1, e2, m0, m1⟩ := sum_loop ((it n ++ (⟨#[c]⟩ : ByteArray)) ++ g) (by simp only [ByteArray.size_append, z1]; omega)
    have hz := it_size (n := m) (by omega) (by omega)
    refine ⟨_, ?_, ?_, m, e1, e2, ⟨m0, m1⟩, l1Num_is (by omega) (by omega), Itoa_is (by omega) (by omega), ?_, ?_, ?_, rfl, ?_⟩
    · rw [decide_eq_true (show (it n).size + (⟨#[c]⟩ : ByteArray).size ≤ 9223372036854775807 by rw [z1]; omega)]; rfl
    · exact decide_eq_true (by simp only [ByteArray.size_append, z1]; omega)
    · exact decide_eq_true (by simp only [ByteArray.size_append, z1, z2]; omega)
    · exact decide_eq_true (by simp only [ByteArray.size_append, z1, z2]; omega)
    · exact decide_eq_true (by simp only [ByteArray.size_append, z1, z2, z3]; omega)
    · simp only [ByteArray.size_append, z1, z2, z3]; omega
  have un : ∀ b : Bool, (bif b then true else false) = true → b = true := by intro b; cases b <;> simp
  obtain ⟨tp, p1, p2, mp, p3, p4, pm, p5, p6, p7, p8, p9, rfl, p10⟩ := go 43
  obtain ⟨tm, q1, q2, mm, q3, q4, qm, q5, q6, q7, q8, q9, rfl, q10⟩ := go 45
  have p1 := un _ p1
  have q1 := un _ q1
  cases out with
  | false => exact ⟨mp, by simp only [F_spec_joLine, l1, p1, p2, p3, p5, p7, p8, p9, cond_true, cond_false, lineOf], by simp only [F_impl_LogEdit_line, l2, p1, p2, p4, p6, p7, p8, p9, cond_true, cond_false, lineOf], p10, pm⟩
  | true => exact ⟨mm, by simp only [F_spec_joLine, l1, p1, p2, q1, q2, q3, q5, q7, q8, q9, cond_true, cond_false, lineOf], by simp only [F_impl_LogEdit_line, l2, p1, p2, q1, q2, q4, q6, q7, q8, q9, cond_true, cond_false, lineOf], q10, qm⟩
theorem line_same (e : Edit) (hok : edOK e = true) : ∃ t, F_spec_joLine e = some t ∧ F_impl_LogEdit_line e = some t ∧ t.size ≤ 30000 := by
  obtain ⟨m, h1, h2, h3, _⟩ := line_form e hok
  exact ⟨_, h1, h2, h3⟩

theorem goodE_ok {l : List Edit} (h : goodE l = true) {i : Nat} (hi : i < l.length) : edOK (l.getD i dE) = true := by
  simp only [goodE, Bool.and_eq_true] at h
  have := allN_true.1 h.1 i hi
  simp only [goodEAt, Bool.and_eq_true] at this
  exact this.1

theorem text_same (l : List Edit) (hl : l.length ≤ 40) (hok : ∀ i, i < l.length → edOK (l.getD i dE) = true) : ∃ t, F_spec_joText l = some t ∧ F_impl_editsText l = some t ∧ t.size ≤ 1200000 := by
  obtain ⟨o, p, e1, e2, rfl, h⟩ := runL_sim (f := step_spec_joText_0) (g := step_impl_editsText_0) (fun a b => a = b ∧ ∃ (t : ByteArray) (i : Nat), a = (t, l, (l.length : Int), (i : Int)) ∧ i ≤ l.length ∧ t.size ≤ i * 30000)
    (fun o p => o = p ∧ o.size ≤ 1200000) (fun a => l.length - a.2.2.2.toNat) (by
    rintro a b ⟨rfl, t, i, rfl, hi, ht⟩
    rcases Nat.lt_or_ge i l.length with hlt | hge
    · right
      obtain ⟨y, y1, y2, y3⟩ := line_same (l.getD i dE) (hok i hlt)
      have hw := wrap_succ (i := i) (by omega)
      have hg : decide (t.size + y.size ≤ 9223372036854775807) = true := decide_eq_true (by omega)
      refine ⟨(t ++ y, l, (l.length : Int), ((i + 1 : Nat) : Int)), _, ?_, ?_, ⟨rfl, _, i + 1, rfl, by omega, by simp only [ByteArray.size_append]; omega⟩, by simp; omega⟩
      · simp only [step_spec_joText_0, lt_len hlt, nonneg, Bool.and_self, cond_true, Int.toNat_natCast, y1, hg, hw]
      · simp only [step_impl_editsText_0, lt_len hlt, nonneg, Bool.and_self, cond_true, Int.toNat_natCast, y2, hg, hw]
    · left
      have : i = l.length := by omega
      subst this
      exact ⟨t, t, by simp only [step_spec_joText_0, not_lt_len, cond_false], by simp only [step_impl_editsText_0, not_lt_len, cond_false], rfl, by omega⟩) (⟨#[]⟩, l, (l.length : Int), 0) (⟨#[]⟩, l, (l.length : Int), 0) ⟨rfl, _, 0, rfl, by omega, by have hz : (⟨#[]⟩ : ByteArray).size = 0 := rfl; omega⟩
  exact ⟨o, by simp only [F_spec_joText, e1], by simp only [F_impl_editsText, e2], h⟩

end Go.Proofs.YtldeplpiokdmpaaDoor
/- A line of a text is parsed alike on both sides: plain laws. No conditions beyond the bounds that are named. -/
set_option linter.unusedVariables false
set_option linter.unusedSimpArgs false
namespace Go.Proofs.YtldeplpiokdmpaaDoor
open Go

/-! ### Bytes -/
def ba (l : List UInt8) : ByteArray := ⟨l.toArray⟩
theorem ba_data (l : List UInt8) : (ba l).data.toList = l := rfl
theorem eq_ba (x : ByteArray) : x = ba x.data.toList := by
  rcases x with ⟨⟨l⟩⟩
  rfl
theorem ba_size (l : List UInt8) : (ba l).size = l.length := rfl
theorem ba_app (a b : List UInt8) : ba a ++ ba b = ba (a ++ b) := by
  have h : ∀ (x y : ByteArray), x.data.toList = y.data.toList → x = y := fun x y h => by rw [eq_ba x, eq_ba y, h]
  apply h
  simp [ba, ByteArray.data_append]
theorem ba_extract (l : List UInt8) (a b : Nat) : (ba l).extract a b = ba ((l.drop a).take (b - a)) := by
  have h : ∀ (x y : ByteArray), x.data.toList = y.data.toList → x = y := fun x y h => by rw [eq_ba x, eq_ba y, h]
  apply h
  rw [Lib.extract_data]
  rfl
theorem ba_byteAt (l : List UInt8) (i : Nat) : byteAt (ba l) i = ((l.getD i 0).toNat : Int) := rfl

/-! ### indexAny at the two signs, indexByte -/
theorem indexAny_some : ∀ {l : List UInt8} {o : Nat}, Lib.indexAny l [43, 45] = o → o < l.length ∧ (l.getD o 0 = 43 ∨ l.getD o 0 = 45)
  | [], o, h => by simp [Lib.indexAny] at h
  | b :: l, o, h => by
    unfold Lib.indexAny at h
    split at h
    · rename_i hb
      have : o = 0 := by omega
      subst this
      refine ⟨by simp, ?_⟩
      simpa using hb
    · split at h
      · omega
      · rename_i hl
        have hge := Lib.indexAny_ge [43, 45] l
        have hne : Lib.indexAny l [43, 45] ≠ -1 := fun e => hl (by rw [e]; rfl)
        obtain ⟨o', rfl⟩ : ∃ o', o = o' + 1 := ⟨o - 1, by omega⟩
        have ih := indexAny_some (l := l) (o := o') (by push_cast at h; omega)
        exact ⟨by simpa using ih.1, by simpa using ih.2⟩
theorem indexByte_at {l : List UInt8} {c : UInt8} {o : Nat} (h : l[o]? = some c) (hb : ∀ k, k < o → l[k]? ≠ some c) : Lib.indexByte l c = o := by
  have hge := Lib.indexByte_ge l c
  by_cases hn : Lib.indexByte l c = -1
  · exact absurd h (Lib.indexByte_none hn o)
  · obtain ⟨o', ho'⟩ : ∃ o' : Nat, Lib.indexByte l c = o' := ⟨(Lib.indexByte l c).toNat, by omega⟩
    obtain ⟨q1, q2⟩ := Lib.indexByte_some ho'
    rcases Nat.lt_trichotomy o o' with hlt | rfl | hgt
    · exact absurd h (q2 o hlt)
    · exact ho'
    · exact absurd q1 (hb o' hgt)

/-! ### Numerals of 1 to 999 -/
def digs (d : List Nat) : List UInt8 := d.map fun k => UInt8.ofNat (48 + k)
theorem it_cases {n : Int} (h1 : 1 ≤ n) (h2 : n ≤ 999) : (∃ a : Nat, 1 ≤ a ∧ a ≤ 9 ∧ n = a ∧ it n = ba (digs [a])) ∨ (∃ a b : Nat, 1 ≤ a ∧ a ≤ 9 ∧ b ≤ 9 ∧ n = 10 * a + b ∧ it n = ba (digs [a, b])) ∨
    (∃ a b c : Nat, 1 ≤ a ∧ a ≤ 9 ∧ b ≤ 9 ∧ c ≤ 9 ∧ n = 100 * a + 10 * b + c ∧ it n = ba (digs [a, b, c])) := by
  obtain ⟨k, rfl⟩ : ∃ k : Nat, n = (k : Int) := ⟨n.toNat, by omega⟩
  have e : it (k : Int) = ba (Lib.decDigits k) := by rw [it, Lib.itoa_nonneg]; rfl
  rcases Nat.lt_or_ge k 10 with h10 | h10
  · exact .inl ⟨k, by omega, by omega, rfl, by rw [e, Lib.decDigits_one h10]; rfl⟩
  · rcases Nat.lt_or_ge k 100 with h100 | h100
    · exact .inr (.inl ⟨k / 10, k % 10, by omega, by omega, by omega, by omega, by rw [e, Lib.decDigits_two (by omega) h100]; rfl⟩)
    · refine .inr (.inr ⟨k / 100, k / 10 % 10, k % 10, by omega, by omega, by omega, by omega, by omega, ?_⟩)
      rw [e, Lib.decDigits, dif_neg (by omega), Lib.decDigits_two (by omega) (by omega), Nat.div_div_eq_div_mul]
      rfl
theorem dig_nat {a : Nat} (h : a ≤ 9) : (UInt8.ofNat (48 + a)).toNat = 48 + a := by simp; omega
theorem atoi1 : ∀ a : Fin 10, Lib.atoiAll (digs [a.val]) = .ok (a.val : Int) := by decide +kernel
theorem atoi2 : ∀ a b : Fin 10, Lib.atoiAll (digs [a.val, b.val]) = .ok (10 * (a.val : Int) + b.val) := by decide +kernel
theorem atoi3 : ∀ a b c : Fin 10, Lib.atoiAll (digs [a.val, b.val, c.val]) = .ok (100 * (a.val : Int) + 10 * b.val + c.val) := by decide +kernel
theorem atoi_it {n : Int} (h1 : 1 ≤ n) (h2 : n ≤ 999) : Lib.atoiAll (it n).data.toList = .ok n := by
  rcases it_cases h1 h2 with ⟨a, a1, a9, rfl, e⟩ | ⟨a, b, a1, a9, b9, rfl, e⟩ | ⟨a, b, c, a1, a9, b9, c9, rfl, e⟩
  · rw [e]; exact atoi1 ⟨a, by omega⟩
  · rw [e]; exact atoi2 ⟨a, by omega⟩ ⟨b, by omega⟩
  · rw [e]; exact atoi3 ⟨a, by omega⟩ ⟨b, by omega⟩ ⟨c, by omega⟩
theorem decimal_total (s : ByteArray) (hs : s.size ≤ 281474976710656) : F_impl_decimal s = some (decOf s) := by
  rw [F_impl_decimal_is, decide_eq_true hs]; rfl
theorem decimal_it {n : Int} (h1 : 1 ≤ n) (h2 : n ≤ 999) : decOf (it n) = (n, true) := by
  unfold decOf
  rw [atoi_it h1 h2]
  have : decide ((⟨(Lib.itoa n).toArray⟩ : ByteArray) = it n) = true := decide_eq_true rfl
  simp only [this, cond_true]
theorem it_digits {n : Int} (h1 : 1 ≤ n) (h2 : n ≤ 999) : 1 ≤ (it n).data.toList.length ∧ (it n).data.toList.length ≤ 3 ∧ ∀ b ∈ (it n).data.toList, 48 ≤ b.toNat ∧ b.toNat ≤ 57 := by
  have key : ∀ d : List Nat, 1 ≤ d.length → d.length ≤ 3 → (∀ k ∈ d, k ≤ 9) → 1 ≤ (digs d).length ∧ (digs d).length ≤ 3 ∧ ∀ b ∈ digs d, 48 ≤ b.toNat ∧ b.toNat ≤ 57 := by
    intro d h1 h3 h9
    refine ⟨by simpa [digs] using h1, by simpa [digs] using h3, fun b hb => ?_⟩
    obtain ⟨k, hk, rfl⟩ := List.mem_map.1 hb
    rw [dig_nat (h9 k hk)]
    have := h9 k hk
    omega
  rcases it_cases h1 h2 with ⟨a, a1, a9, rfl, e⟩ | ⟨a, b, a1, a9, b9, rfl, e⟩ | ⟨a, b, c, a1, a9, b9, c9, rfl, e⟩
  · rw [e]; exact key [a] (by simp) (by simp) (by simp; omega)
  · rw [e]; exact key [a, b] (by simp) (by simp) (by simp; omega)
  · rw [e]; exact key [a, b, c] (by simp) (by simp) (by simp; omega)

/-! ### The reference's reading of a number -/
theorem read_total (x : ByteArray) : ∃ n, F_spec_l1Read x = some n := by
  have loop : x.size ≤ 6 → ∃ o, runL step_spec_l1Read_0 (x, 0, 0) = some o := fun hx => by
    obtain ⟨o, e, _⟩ := runL_inv (f := step_spec_l1Read_0) (fun s => ∃ (v : Int) (i : Nat), s = (x, v, (i : Int)) ∧ i ≤ x.size) (fun _ => True) (fun s => x.size - s.2.2.toNat) (by
      rintro s ⟨v, i, rfl, hi⟩
      rcases Nat.lt_or_ge i x.size with hlt | hge
      · have hw := wrap_succ (i := i) (by omega)
        simp only [step_spec_l1Read_0, lt_len hlt, nonneg, Bool.and_self, cond_true, Int.toNat_natCast, hw]
        cases decide (byteAt x i < 48)
        · cases decide (byteAt x i > 57)
          · exact .inr ⟨_, rfl, ⟨_, i + 1, rfl, by omega⟩, by simp; omega⟩
          · exact .inl ⟨_, rfl, trivial⟩
        · exact .inl ⟨_, rfl, trivial⟩
      · have : i = x.size := by omega
        subst this
        exact .inl ⟨.inr v, by simp only [step_spec_l1Read_0, not_lt_len, cond_false], trivial⟩) (x, 0, 0) ⟨0, 0, rfl, by omega⟩
    exact ⟨o, e⟩
  unfold F_spec_l1Read
  rw [l1In_is]
  by_cases h6 : (x.size : Int) ≤ 6
  · by_cases h1 : 1 ≤ (x.size : Int)
    · obtain ⟨o, e⟩ := loop (by omega)
      have h0 : decide (0 < (x.size : Int)) = true := decide_eq_true (by omega)
      simp only [decide_eq_true h1, decide_eq_true h6, h0, Bool.and_self, Bool.not_true, cond_false, e, decide_true, Int.le_refl, cond_true]
      cases byteAt x (0 : Int).toNat == 48
      · cases o <;> exact ⟨_, rfl⟩
      · cases decide ((x.size : Int) > 1)
        · cases o <;> exact ⟨_, rfl⟩
        · exact ⟨_, rfl⟩
    · simp only [decide_eq_false h1, Bool.false_and, Bool.not_false, cond_true]
      exact ⟨_, rfl⟩
  · simp only [decide_eq_false h6, Bool.and_false, Bool.not_false, cond_true]
    exact ⟨_, rfl⟩
theorem read_it {n : Int} (h1 : 1 ≤ n) (h2 : n ≤ 999) : F_spec_l1Read (it n) = some n := by
  have key : ∀ (d : List Nat) (m : Nat), 1 ≤ d.length → d.length ≤ 3 → (∀ k ∈ d, k ≤ 9) → d.getD 0 0 ≠ 0 → d.foldl (fun v k => 10 * v + k) 0 = m → F_spec_l1Read (ba (digs d)) = some (m : Int) := by
    intro d m hd1 hd3 h9 hne hm
    have hsz : (ba (digs d)).size = d.length := by rw [ba_size]; simp [digs]
    have hat : ∀ i, i < d.length → byteAt (ba (digs d)) i = 48 + (d.getD i 0 : Int) ∧ d.getD i 0 ≤ 9 := by
      intro i hi
      have hk := h9 _ (getD_mem hi 0)
      refine ⟨?_, hk⟩
      rw [ba_byteAt]
      have : (digs d).getD i 0 = UInt8.ofNat (48 + d.getD i 0) := by simp [digs, List.getD, List.getElem?_eq_getElem hi]
      rw [this, dig_nat hk]
      omega
    have hval : ∀ i, i ≤ d.length → (d.take i).foldl (fun v k => 10 * v + k) 0 < 10 ^ i := by
      intro i
      induction i with
      | zero => intro _; simp
      | succ i ih =>
        intro hi
        rw [take_succ_getD (by omega) 0, List.foldl_append]
        have := ih (by omega)
        have hk := (hat i (by omega)).2
        simp only [List.foldl_cons, List.foldl_nil]
        rw [Nat.pow_succ]
        omega
    have hpow : ∀ i, i ≤ 3 → 10 ^ i ≤ 1000 := fun i hi => Nat.pow_le_pow_right (n := 10) (by decide) hi
    have tr := runL_traj (f := step_spec_l1Read_0) (fun i => (ba (digs d), (((d.take i).foldl (fun v k => 10 * v + k) 0 : Nat) : Int), (i : Int))) (.inr (m : Int)) d.length (fun i hi => by
      obtain ⟨hb, hk⟩ := hat i hi
      have hw := wrap_succ (i := i) (by omega)
      have hv := hval i (by omega)
      have hp := hpow i (by omega)
      have hlt : decide ((i : Int) < ((ba (digs d)).size : Int)) = true := by rw [hsz]; exact lt_len hi
      generalize hvv : (d.take i).foldl (fun v k => 10 * v + k) 0 = v at *
      have w1 : IntKind.i64.wrap (10 * (v : Int)) = 10 * (v : Int) := wrap_id (by omega) (by omega)
      have w2 : IntKind.u8.wrap (byteAt (ba (digs d)) i - 48) = (d.getD i 0 : Int) := by
        rw [hb, show (48 + (d.getD i 0 : Int) - 48) = (d.getD i 0 : Int) by omega]
        unfold IntKind.wrap
        simp only [IntKind.bits, IntKind.signed]
        simp only [Bool.false_and, Bool.false_eq_true, if_false]
        rw [show ((2 : Int) ^ 8) = 256 from rfl]
        omega
      have w3 : IntKind.i64.wrap (d.getD i 0 : Int) = (d.getD i 0 : Int) := wrap_id (by omega) (by omega)
      have w4 : IntKind.i64.wrap (10 * (v : Int) + (d.getD i 0 : Int)) = 10 * (v : Int) + (d.getD i 0 : Int) := wrap_id (by omega) (by omega)
      have c1 : decide (byteAt (ba (digs d)) i < 48) = false := decide_eq_false (by omega)
      have c2 : decide (byteAt (ba (digs d)) i > 57) = false := decide_eq_false (by omega)
      have hs : (d.take (i + 1)).foldl (fun v k => 10 * v + k) 0 = 10 * v + d.getD i 0 := by
        rw [take_succ_getD (by omega) 0, List.foldl_append, hvv]
        rfl
      simp only [step_spec_l1Read_0, hlt, nonneg, Bool.and_self, cond_true, Int.toNat_natCast, c1, c2, cond_false, w1, w2, w3, w4, hw, hs]
      push_cast
      rfl) (by
      have hn : decide (((d.length : Nat) : Int) < ((ba (digs d)).size : Int)) = false := by rw [hsz]; exact not_lt_len _
      simp only [step_spec_l1Read_0, hn, cond_false, List.take_length, hm])
    have tr' : runL step_spec_l1Read_0 (ba (digs d), (0 : Int), (0 : Int)) = some (.inr (m : Int)) := by
      have := tr
      simpa using this
    have hb0 : (byteAt (ba (digs d)) (0 : Int).toNat == 48) = false := by
      obtain ⟨hb, _⟩ := hat 0 (by omega)
      show (byteAt (ba (digs d)) 0 == 48) = false
      rw [hb]
      simp only [beq_eq_false_iff_ne, ne_eq]
      omega
    unfold F_spec_l1Read
    rw [l1In_is, hsz]
    have g1 : decide (1 ≤ (d.length : Int)) = true := decide_eq_true (by omega)
    have g2 : decide ((d.length : Int) ≤ 6) = true := decide_eq_true (by omega)
    have g3 : decide (0 < (d.length : Int)) = true := decide_eq_true (by omega)
    simp only [g1, g2, g3, Bool.and_self, Bool.not_true, cond_false, decide_true, Int.le_refl, cond_true, hb0, tr']
    rfl
  rcases it_cases h1 h2 with ⟨a, a1, a9, rfl, e⟩ | ⟨a, b, a1, a9, b9, rfl, e⟩ | ⟨a, b, c, a1, a9, b9, c9, rfl, e⟩
  · rw [e]; exact key [a] a (by simp) (by simp) (by simp; omega) (by simp; omega) (by simp)
  · rw [e, show (10 * (a : Int) + b) = ((10 * a + b : Nat) : Int) by omega]; exact key [a, b] _ (by simp) (by simp) (by simp; omega) (by simp; omega) (by simp)
  · rw [e, show (100 * (a : Int) + 10 * b + c) = ((10 * (10 * a + b) + c : Nat) : Int) by omega]; exact key [a, b, c] _ (by simp) (by simp) (by simp; omega) (by simp; omega) (by simp)
end Go.Proofs.YtldeplpiokdmpaaDoor
/- A line of a text is parsed alike on both sides: the law. No conditions beyond the bounds that are named. -/
set_option linter.unusedVariables false
set_option linter.unusedSimpArgs false
namespace Go.Proofs.YtldeplpiokdmpaaDoor
open Go

/-! ### The reference's splitting: what comes first -/
def FirstDot (x : ByteArray) (k : Nat) : Prop := k < x.size ∧ byteAt x k = 46 ∧ ∀ j, j < k → byteAt x j ≠ 46
theorem FirstDot.uniq {x : ByteArray} {k k' : Nat} (h : FirstDot x k) (h' : FirstDot x k') : k = k' := by
  rcases Nat.lt_trichotomy k k' with hl | he | hg
  · exact absurd h.2.1 (h'.2.2 k hl)
  · exact he
  · exact absurd h'.2.1 (h.2.2 k' hg)
theorem size_extract_le (x : ByteArray) (a b : Nat) : (x.extract a b).size ≤ x.size := by
  rw [eq_ba x, ba_extract, ba_size, ba_size]
  simp
  omega
theorem split_head (x : ByteArray) (hs : x.size ≤ 1048576) : ∃ l, F_spec_l1Split (x, 46) = some l ∧ 0 < l.length ∧ (l.getD 0 ByteArray.empty).size ≤ x.size ∧ ∀ k, FirstDot x k → l.getD 0 ByteArray.empty = x.extract 0 k := by
  obtain ⟨o, e, st, parts, rfl, h1, h2, h3⟩ := runL_inv (f := step_spec_l1Split_0)
    (fun s => ∃ (st i : Nat) (parts : List ByteArray), s = (x, 46, (st : Int), (i : Int), parts) ∧ st ≤ i ∧ i ≤ x.size ∧ parts.length ≤ i ∧ ((parts = [] ∧ st = 0 ∧ ∀ j, j < i → byteAt x j ≠ 46) ∨ ∃ k rest, parts = x.extract 0 k :: rest ∧ FirstDot x k))
    (fun o => ∃ (st : Nat) (parts : List ByteArray), o = (x, (st : Int), parts) ∧ st ≤ x.size ∧ parts.length ≤ x.size ∧ ((parts = [] ∧ st = 0 ∧ ∀ j, j < x.size → byteAt x j ≠ 46) ∨ ∃ k rest, parts = x.extract 0 k :: rest ∧ FirstDot x k)) (fun s => x.size - s.2.2.2.1.toNat) (by
    rintro s ⟨st, i, parts, rfl, h1, h2, h3, h4⟩
    rcases Nat.lt_or_ge i x.size with hlt | hge
    · right
      have hw := wrap_succ (i := i) (by omega)
      by_cases hd : byteAt x i = 46
      · have g1 : decide ((st : Int) ≤ (i : Int)) = true := decide_eq_true (by omega)
        have g2 : decide ((i : Int) ≤ (x.size : Int)) = true := decide_eq_true (by omega)
        have g3 : decide ((parts.length + [x.extract st i].length) * 16 ≤ 140737488355328) = true := decide_eq_true (by show (parts.length + 1) * 16 ≤ _; omega)
        refine ⟨(x, 46, ((i + 1 : Nat) : Int), ((i + 1 : Nat) : Int), parts ++ [x.extract st i]), ?_, ⟨i + 1, i + 1, _, rfl, by omega, by omega, by simp; omega, ?_⟩, by simp; omega⟩
        · simp only [step_spec_l1Split_0, lt_len hlt, nonneg, Bool.and_self, cond_true, Int.toNat_natCast, hd, beq_self_eq_true, g1, g2, g3, hw]
        · rcases h4 with ⟨rfl, rfl, hb⟩ | ⟨k, rest, rfl, hk⟩
          · exact .inr ⟨i, [], rfl, hlt, hd, hb⟩
          · exact .inr ⟨k, rest ++ [x.extract st i], rfl, hk⟩
      · have hd' : (byteAt x i == 46) = false := by simpa using hd
        refine ⟨(x, 46, (st : Int), ((i + 1 : Nat) : Int), parts), ?_, ⟨st, i + 1, _, rfl, by omega, by omega, by omega, ?_⟩, by simp; omega⟩
        · simp only [step_spec_l1Split_0, lt_len hlt, nonneg, Bool.and_self, cond_true, Int.toNat_natCast, hd', cond_false, hw]
        · rcases h4 with ⟨rfl, rfl, hb⟩ | h
          · refine .inl ⟨rfl, rfl, fun j hj => ?_⟩
            rcases Nat.lt_or_ge j i with q | q
            · exact hb j q
            · obtain rfl : j = i := by omega
              exact hd
          · exact .inr h
    · left
      have : i = x.size := by omega
      subst this
      exact ⟨(x, (st : Int), parts), by simp only [step_spec_l1Split_0, not_lt_len, cond_false], st, parts, rfl, h1, h3, h4⟩) (x, 46, 0, 0, []) ⟨0, 0, [], rfl, by omega, by omega, by simp, .inl ⟨rfl, rfl, fun j hj => by omega⟩⟩
  have g1 : decide ((st : Int) ≤ (x.size : Int)) = true := decide_eq_true (by omega)
  have g2 : decide ((x.size : Int) ≤ (x.size : Int)) = true := decide_eq_true (by omega)
  have g3 : decide ((parts.length + [x.extract st x.size].length) * 16 ≤ 140737488355328) = true := decide_eq_true (by show (parts.length + 1) * 16 ≤ _; omega)
  refine ⟨parts ++ [x.extract st x.size], ?_, by simp, ?_, ?_⟩
  · simp only [F_spec_l1Split, e, nonneg, g1, g2, Bool.and_self, cond_true, Int.toNat_natCast, g3]
  · rcases h3 with ⟨rfl, rfl, _⟩ | ⟨k, rest, rfl, _⟩
    · exact size_extract_le x _ _
    · exact size_extract_le x _ _
  · intro k hk
    rcases h3 with ⟨rfl, rfl, hb⟩ | ⟨k', rest, rfl, hk'⟩
    · exact absurd hk.2.1 (hb k hk.1)
    · rw [hk.uniq hk']
      rfl

/-! ### The bytes of a line -/
def sgn (b : Bool) : UInt8 := bif b then 45 else 43
noncomputable def lineL (e : Edit) (m : Int) : List UInt8 := (it e.1).data.toList ++ (sgn e.2.2 :: (e.2.1.data.toList ++ (46 :: ((it m).data.toList ++ [10]))))
theorem lineOf_ba (e : Edit) (m : Int) : lineOf e m = ba (lineL e m) := by
  obtain ⟨n, g, b⟩ := e
  have hb : (bif b then (⟨#[45]⟩ : ByteArray) else (⟨#[43]⟩ : ByteArray)) = ba [sgn b] := by cases b <;> rfl
  have h46 : (⟨#[46]⟩ : ByteArray) = ba [46] := rfl
  have h10 : (⟨#[10]⟩ : ByteArray) = ba [10] := rfl
  unfold lineOf lineL
  simp only []
  rw [hb, h46, h10]
  conv => lhs; rw [eq_ba (it n), eq_ba g, eq_ba (it m)]
  simp only [ba_app, ba_data]
  congr 1
  simp
theorem dec_len : ∀ (k u : Nat), 1 ≤ k → u < 10 ^ k → (Lib.decDigits u).length ≤ k
  | 0, _, h, _ => by omega
  | 1, u, _, h => by rw [Lib.decDigits_one (by simpa using h)]; simp
  | k + 2, u, _, h => by
    rw [Lib.decDigits]
    split
    · simp
    · rw [List.length_append]
      have := dec_len (k + 1) (u / 10) (by omega) (by rw [Nat.pow_succ] at h; omega)
      simp
      omega
theorem it_len {m : Int} (h0 : 0 ≤ m) (h1 : m ≤ 9999) : (it m).data.toList.length ≤ 4 := by
  obtain ⟨k, rfl⟩ : ∃ k : Nat, m = (k : Int) := ⟨m.toNat, by omega⟩
  have e : it (k : Int) = ba (Lib.decDigits k) := by rw [it, Lib.itoa_nonneg]; rfl
  rw [e]
  exact dec_len 4 k (by omega) (by have : (10 : Nat) ^ 4 = 10000 := rfl; omega)
theorem gl_bytes {g : ByteArray} (h : gl g = true) : g.data.toList.length ≤ 8 ∧ ∀ b ∈ g.data.toList, 65 ≤ b.toNat ∧ b.toNat ≤ 90 := by
  simp only [gl, Bool.and_eq_true, decide_eq_true_eq, capsOnly] at h
  obtain ⟨hc, h1, h8⟩ := h
  have hl : g.data.toList.length = g.size := rfl
  refine ⟨by omega, fun b hb => ?_⟩
  obtain ⟨i, hi, rfl⟩ := List.mem_iff_getElem.1 hb
  have := allN_true.1 hc i hi
  simp only [byteAt, List.getD, List.getElem?_eq_getElem hi, Option.getD_some, Bool.and_eq_true, decide_eq_true_eq] at this
  omega
theorem edOK_parts {e : Edit} (h : edOK e = true) : 1 ≤ e.1 ∧ e.1 ≤ 999 ∧ gl e.2.1 = true := by
  simp only [edOK, Bool.and_eq_true, decide_eq_true_eq] at h
  exact ⟨h.1.1, h.1.2, h.2⟩
theorem toList_eq (x y : ByteArray) : (x.toList == y.toList) = decide (x = y) := by
  rw [Lib.toList_data, Lib.toList_data]
  by_cases h : x = y
  · subst h
    simp
  · rw [decide_eq_false h]
    refine beq_eq_false_iff_ne.2 fun e => h ?_
    rw [eq_ba x, eq_ba y, e]

/-- where a line's parts lie -/
theorem line_parts {e : Edit} (hok : edOK e = true) {m : Int} (m0 : 0 ≤ m) (m1 : m ≤ 9972) {x : ByteArray} (hx : x = lineOf e m) :
    ∃ a z : Nat, 1 ≤ a ∧ a ≤ 3 ∧ z = a + 1 + e.2.1.size ∧ z < x.size ∧ x.size ≤ 100 ∧ x.extract 0 a = it e.1 ∧ x.extract (a + 1) z = e.2.1 ∧ byteAt x a = (sgn e.2.2).toNat ∧ byteAt x z = 46 ∧
      (∀ j, j < a → 48 ≤ byteAt x j ∧ byteAt x j ≤ 57) ∧ ∀ j, a < j → j < z → byteAt x j ≠ 46 := by
  obtain ⟨n1, n2, hg⟩ := edOK_parts hok
  obtain ⟨d1, d3, dd⟩ := it_digits n1 n2
  obtain ⟨g8, gg⟩ := gl_bytes hg
  have hm := it_len m0 (by omega)
  rw [lineOf_ba] at hx
  subst hx
  have hL : (lineL e m).length = (it e.1).data.toList.length + 1 + e.2.1.data.toList.length + 1 + (it m).data.toList.length + 1 := by simp [lineL]; omega
  refine ⟨(it e.1).data.toList.length, (it e.1).data.toList.length + 1 + e.2.1.data.toList.length, d1, d3, rfl, ?_, ?_, ?_, ?_, ?_, ?_, ?_, ?_⟩
  · rw [ba_size, hL]; omega
  · rw [ba_size, hL]; omega
  · rw [ba_extract]
    conv => rhs; rw [eq_ba (it e.1)]
    congr 1
    simp [lineL]
  · rw [ba_extract]
    conv => rhs; rw [eq_ba e.2.1]
    congr 1
    unfold lineL
    rw [List.drop_append, List.drop_of_length_le (by omega), List.nil_append, show (it e.1).data.toList.length + 1 - (it e.1).data.toList.length = 1 by omega, List.drop_one, List.tail_cons, show (it e.1).data.toList.length + 1 + e.2.1.data.toList.length - ((it e.1).data.toList.length + 1) = e.2.1.data.toList.length by omega]
    simp
  · rw [ba_byteAt]
    unfold lineL
    simp [List.getD]
  · rw [ba_byteAt]
    have : (lineL e m).getD ((it e.1).data.toList.length + 1 + e.2.1.data.toList.length) 0 = 46 := by
      unfold lineL
      rw [List.getD, List.getElem?_append_right (by omega), show (it e.1).data.toList.length + 1 + e.2.1.data.toList.length - (it e.1).data.toList.length = e.2.1.data.toList.length + 1 by omega, List.getElem?_cons_succ, List.getElem?_append_right (Nat.le_refl _), Nat.sub_self]
      rfl
    rw [this]
    rfl
  · intro j hj
    rw [ba_byteAt]
    have : (lineL e m).getD j 0 = (it e.1).data.toList[j] := by
      unfold lineL
      rw [List.getD, List.getElem?_append_left hj, List.getElem?_eq_getElem hj]
      rfl
    rw [this]
    have := dd _ (List.getElem_mem hj)
    omega
  · intro j h1 h2
    rw [ba_byteAt]
    have hj : j - ((it e.1).data.toList.length + 1) < e.2.1.data.toList.length := by omega
    have : (lineL e m).getD j 0 = e.2.1.data.toList[j - ((it e.1).data.toList.length + 1)] := by
      unfold lineL
      rw [List.getD, List.getElem?_append_right (by omega), show j - (it e.1).data.toList.length = (j - ((it e.1).data.toList.length + 1)) + 1 by omega, List.getElem?_cons_succ, List.getElem?_append_left hj, List.getElem?_eq_getElem hj]
      rfl
    rw [this]
    have := gg _ (List.getElem_mem hj)
    omega

theorem bytes_get {x : ByteArray} {i : Nat} (h : i < x.size) {b : UInt8} (hb : byteAt x i = (b.toNat : Int)) : x.data.toList[i]? = some b := by
  have hi : i < x.data.toList.length := h
  rw [List.getElem?_eq_getElem hi]
  simp only [byteAt, List.getD, List.getElem?_eq_getElem hi, Option.getD_some] at hb
  have : x.data.toList[i].toNat = b.toNat := by omega
  rw [UInt8.toNat_inj.1 this]
theorem get_bytes {x : ByteArray} {i : Nat} {b : UInt8} (h : x.data.toList[i]? = some b) : byteAt x i = (b.toNat : Int) := by
  simp only [byteAt, List.getD, h, Option.getD_some]
theorem sgn_cases (b : Bool) : sgn b = 43 ∨ sgn b = 45 := by cases b <;> simp [sgn]
theorem sgn_is (b : Bool) : (((sgn b).toNat : Int) == 45) = b := by cases b <;> rfl

/-! ### The program's side -/
theorem impl_line {e : Edit} (hok : edOK e = true) {m : Int} (m0 : 0 ≤ m) (m1 : m ≤ 9972) {x : ByteArray} (hx : x = lineOf e m) (hl : F_impl_LogEdit_line e = some x) : F_impl_ParseEditLine x = some (e, true) := by
  obtain ⟨a, z, a1, a3, rfl, zx, x100, p1, p2, p3, p4, p5, p6⟩ := line_parts hok m0 m1 hx
  obtain ⟨n1, n2, hg⟩ := edOK_parts hok
  obtain ⟨g8, gg⟩ := gl_bytes hg
  have g8 : e.2.1.size ≤ 8 := g8
  have i1 : Lib.indexAny x.data.toList [43, 45] = (a : Int) := by
    refine Lib.indexAny_hit (x := sgn e.2.2) ?_ (bytes_get (by omega) p3) ?_
    · intro j b hj hb
      have := p5 j hj
      rw [get_bytes hb] at this
      have h1 : b ≠ 43 := fun e => by subst e; simp at this
      have h2 : b ≠ 45 := fun e => by subst e; simp at this
      simp [h1, h2]
    · rcases sgn_cases e.2.2 with h | h <;> rw [h] <;> rfl
  have i2 : Lib.indexByte x.data.toList 46 = ((a + 1 + e.2.1.size : Nat) : Int) := by
    refine indexByte_at (bytes_get zx (by rw [p4]; rfl)) fun k hk hb => ?_
    have hb := get_bytes hb
    rcases Nat.lt_trichotomy k a with q | rfl | q
    · have := p5 k q
      rw [hb] at this
      simp at this
    · rw [p3] at hb
      rcases sgn_cases e.2.2 with h | h <;> rw [h] at hb <;> simp at hb
    · exact p6 k q hk (by rw [hb]; rfl)
  have y1 : F_strings_IndexAny (x, (⟨#[43, 45]⟩ : ByteArray)) = some (a : Int) := by
    rw [F_strings_IndexAny_is, i1, decide_eq_true (show x.size < 4294967281 by omega), decide_eq_true (show (⟨#[43, 45]⟩ : ByteArray) = pm from rfl)]
    rfl
  have y2 : F_strings_IndexByte (x, 46) = some ((a + 1 + e.2.1.size : Nat) : Int) := by
    rw [← i2]; rfl
  have c1 : decide ((a : Int) < 0) = false := decide_eq_false (by omega)
  have c2 : decide (((a + 1 + e.2.1.size : Nat) : Int) < (a : Int)) = false := decide_eq_false (by omega)
  have c3 : decide ((x.size : Int) > 2000) = false := decide_eq_false (by omega)
  have w := wrap_succ (i := a) (by omega)
  have g2 : decide (((a + 1 : Nat) : Int) ≤ ((a + 1 + e.2.1.size : Nat) : Int)) = true := decide_eq_true (by omega)
  have g3 : decide (((a + 1 + e.2.1.size : Nat) : Int) ≤ (x.size : Int)) = true := decide_eq_true (by omega)
  have g4 : decide ((a : Int) < (x.size : Int)) = true := decide_eq_true (by omega)
  have g5 : decide ((a : Int) ≤ (x.size : Int)) = true := decide_eq_true (by omega)
  have g6 : decide (0 ≤ (0 : Int)) = true := rfl
  have q1 : x.extract (0 : Int).toNat a = it e.1 := p1
  have q4 : F_impl_decimal (it e.1) = some (e.1, true) := by
    rw [decimal_total _ (by have := it_size (n := e.1) (by omega) (by omega); omega), decimal_it n1 n2]
  have he : (e.1, e.2.1, e.2.2) = e := rfl
  simp only [F_impl_ParseEditLine, y1, y2, c1, c2, c3, cond_false, w, nonneg, g2, g3, g4, g5, g6, Bool.and_self, cond_true, Int.toNat_natCast, q1, q4, p2, p3, sgn_is, he, isLogEdit_is e (by omega), hok, Bool.not_true, hl, beq_self_eq_true]
theorem impl_no {x : ByteArray} (hs : x.size ≤ 1048576) (hno : ∀ e t, edOK e = true → F_impl_LogEdit_line e = some t → t ≠ x) : F_impl_ParseEditLine x = some ((0, ByteArray.empty, false), false) := by
  have y1 : F_strings_IndexAny (x, (⟨#[43, 45]⟩ : ByteArray)) = some (Lib.indexAny x.data.toList [43, 45]) := by
    rw [F_strings_IndexAny_is, decide_eq_true (show x.size < 4294967281 by omega), decide_eq_true (show (⟨#[43, 45]⟩ : ByteArray) = pm from rfl)]
    rfl
  have y2 : F_strings_IndexByte (x, 46) = some (Lib.indexByte x.data.toList 46) := rfl
  have k1 := Lib.indexAny_ge [43, 45] x.data.toList
  have k2 := Lib.indexByte_ge x.data.toList 46
  generalize h1 : Lib.indexAny x.data.toList [43, 45] = a at *
  generalize h2 : Lib.indexByte x.data.toList 46 = z at *
  by_cases c1 : a < 0
  · simp only [F_impl_ParseEditLine, y1, y2, decide_eq_true c1, cond_true]
  by_cases c2 : z < a
  · simp only [F_impl_ParseEditLine, y1, y2, decide_eq_false c1, decide_eq_true c2, cond_true, cond_false]
  by_cases c3 : (x.size : Int) > 2000
  · simp only [F_impl_ParseEditLine, y1, y2, decide_eq_false c1, decide_eq_false c2, decide_eq_true c3, cond_true, cond_false]
  obtain ⟨a, rfl⟩ : ∃ n : Nat, a = (n : Int) := ⟨a.toNat, by omega⟩
  obtain ⟨z, rfl⟩ : ∃ n : Nat, z = (n : Int) := ⟨z.toNat, by omega⟩
  obtain ⟨a1, a2⟩ := indexAny_some h1
  obtain ⟨z1, _⟩ := Lib.indexByte_some h2
  have hz : z < x.size := (List.getElem?_eq_some_iff.1 z1).1
  have ha : a < x.size := a1
  have hne : a ≠ z := by
    rintro rfl
    have : x.data.toList.getD a 0 = 46 := by simp [List.getD, z1]
    rw [this] at a2
    simp at a2
  have w := wrap_succ (i := a) (by omega)
  have g2 : decide (((a + 1 : Nat) : Int) ≤ (z : Int)) = true := decide_eq_true (by omega)
  have g3 : decide ((z : Int) ≤ (x.size : Int)) = true := decide_eq_true (by omega)
  have g4 : decide ((a : Int) < (x.size : Int)) = true := decide_eq_true (by omega)
  have g5 : decide ((a : Int) ≤ (x.size : Int)) = true := decide_eq_true (by omega)
  have g6 : decide (0 ≤ (0 : Int)) = true := rfl
  have s1 := size_extract_le x (0 : Int).toNat a
  have s2 := size_extract_le x (a + 1) z
  have d := decimal_total (x.extract (0 : Int).toNat a) (by omega)
  generalize decOf (x.extract (0 : Int).toNat a) = y4 at d
  have hl := isLogEdit_is (y4.1, x.extract (a + 1) z, byteAt x a == 45) (by show (x.extract (a + 1) z).size ≤ _; omega)
  simp only [F_impl_ParseEditLine, y1, y2, decide_eq_false c1, decide_eq_false c2, decide_eq_false c3, cond_false, w, nonneg, g2, g3, g4, g5, g6, Bool.and_self, cond_true, Int.toNat_natCast, d, hl]
  cases hok : edOK (y4.1, x.extract (a + 1) z, byteAt x a == 45) with
  | false => simp only [Bool.not_false, cond_true]
  | true =>
    obtain ⟨m, _, e2, _⟩ := line_form _ hok
    have hn : (!(lineOf (y4.1, x.extract (a + 1) z, byteAt x a == 45) m).toList == x.toList) = true := by
      rw [toList_eq, decide_eq_false (hno _ _ hok e2)]; rfl
    simp only [Bool.not_true, cond_false, e2, hn, cond_true]

/-! ### The reference's side -/
theorem spec_line {e : Edit} (hok : edOK e = true) {m : Int} (m0 : 0 ≤ m) (m1 : m ≤ 9972) {x : ByteArray} (hx : x = lineOf e m) (hl : F_spec_joLine e = some x) : F_spec_joParse x = some (e, true) := by
  obtain ⟨a, z, a1, a3, rfl, zx, x100, p1, p2, p3, p4, p5, p6⟩ := line_parts hok m0 m1 hx
  obtain ⟨n1, n2, hg⟩ := edOK_parts hok
  obtain ⟨g8, gg⟩ := gl_bytes hg
  have g8 : e.2.1.size ≤ 8 := g8
  have tail : ∀ i, byteAt (x.extract (a + 1) x.size) i = byteAt x (a + 1 + i) := by
    intro i
    rw [eq_ba x, ba_extract, ba_byteAt, ba_byteAt]
    congr 2
    simp only [ba_size, List.getD, List.getElem?_take, List.getElem?_drop]
    split
    · rfl
    · rw [List.getElem?_eq_none (by omega)]
  have tsz : (x.extract (a + 1) x.size).size = x.size - (a + 1) := by
    rw [eq_ba x, ba_extract, ba_size, ba_size]
    simp
  obtain ⟨l, s1, s2, s3, s4⟩ := split_head (x.extract (a + 1) x.size) (by omega)
  have hh := s4 e.2.1.size ⟨by omega, by rw [tail, p4], fun j hj => by rw [tail]; exact p6 _ (by omega) (by omega)⟩
  have hh2 : l.getD (0 : Int).toNat ByteArray.empty = e.2.1 := by
    show l.getD 0 ByteArray.empty = _
    rw [hh]
    conv => rhs; rw [← p2]
    rw [eq_ba x, ba_extract, ba_extract, ba_extract, ba_size]
    congr 1
    rw [List.drop_zero, List.take_take]
    congr 1
    have : x.data.toList.length = x.size := rfl
    omega
  have w := wrap_succ (i := a) (by omega)
  have g2 : decide (((a + 1 : Nat) : Int) ≤ (x.size : Int)) = true := decide_eq_true (by omega)
  have g3 : decide ((x.size : Int) ≤ (x.size : Int)) = true := decide_eq_true (by omega)
  have g4 : decide ((a : Int) < (x.size : Int)) = true := decide_eq_true (by omega)
  have g5 : decide ((a : Int) ≤ (x.size : Int)) = true := decide_eq_true (by omega)
  have g6 : decide (0 ≤ (0 : Int)) = true := rfl
  have g7 : decide (0 < (l.length : Int)) = true := decide_eq_true (by omega)
  have g8' : decide ((a : Int) < 4) = true := decide_eq_true (by omega)
  have q1 : x.extract (0 : Int).toNat a = it e.1 := p1
  have he : (e.1, e.2.1, e.2.2) = e := rfl
  have hr := read_it n1 n2
  have hj := joOne_is e (by omega)
  have tr := runL_traj (f := step_spec_joParse_0) (fun i => (x, (i : Int), (0 : Int), ByteArray.empty, false)) (.inl (true, e)) a (fun i hi => by
    have hw := wrap_succ (i := i) (by omega)
    have hb := p5 i hi
    have c1 : (byteAt x i != 43) = true := by simp only [bne_iff_ne, ne_eq]; omega
    have c2 : (byteAt x i != 45) = true := by simp only [bne_iff_ne, ne_eq]; omega
    have c3 : decide ((i : Int) < 4) = true := decide_eq_true (by omega)
    have c4 : decide ((i : Int) < (x.size : Int)) = true := decide_eq_true (by omega)
    simp only [step_spec_joParse_0, c4, c3, nonneg, Bool.and_self, cond_true, Int.toNat_natCast, c1, c2, hw]) (by
    rcases sgn_cases e.2.2 with h | h
    · have c1 : (((43 : UInt8).toNat : Int) != 43) = false := rfl
      have p3' : byteAt x a = ((43 : UInt8).toNat : Int) := by rw [p3, h]
      have c5 : (((43 : UInt8).toNat : Int) == 45) = e.2.2 := by rw [← h]; exact sgn_is _
      simp only [step_spec_joParse_0, g4, g8', nonneg, Bool.and_self, cond_true, cond_false, Int.toNat_natCast, p3', c1, w, g2, g3, s1, g5, g6, g7, q1, hr, hh2, c5, he, hj, hok, hl, beq_self_eq_true]
      rfl
    · have c1 : (((45 : UInt8).toNat : Int) != 43) = true := rfl
      have c2 : (((45 : UInt8).toNat : Int) != 45) = false := rfl
      have p3' : byteAt x a = ((45 : UInt8).toNat : Int) := by rw [p3, h]
      have c5 : (((45 : UInt8).toNat : Int) == 45) = e.2.2 := by rw [← h]; exact sgn_is _
      simp only [step_spec_joParse_0, g4, g8', nonneg, Bool.and_self, cond_true, cond_false, Int.toNat_natCast, p3', c1, c2, w, g2, g3, s1, g5, g6, g7, q1, hr, hh2, c5, he, hj, hok, hl, beq_self_eq_true]
      rfl)
  have tr' : runL step_spec_joParse_0 (x, (0 : Int), (0 : Int), ByteArray.empty, false) = some (.inl (true, e)) := tr
  simp only [F_spec_joParse, tr']
theorem spec_no {x : ByteArray} (hs : x.size ≤ 1048576) (hno : ∀ e t, edOK e = true → F_spec_joLine e = some t → t ≠ x) : F_spec_joParse x = some ((0, ByteArray.empty, false), false) := by
  obtain ⟨o, e, z, rfl⟩ := runL_inv (f := step_spec_joParse_0) (fun s => ∃ i : Nat, s = (x, (i : Int), (0 : Int), ByteArray.empty, false) ∧ i ≤ x.size) (fun o => ∃ z, o = .inr z) (fun s => x.size - s.2.1.toNat) (by
    rintro s ⟨i, rfl, hi⟩
    rcases Nat.lt_or_ge i x.size with hlt | hge
    · have hw := wrap_succ (i := i) (by omega)
      by_cases h4 : (i : Int) < 4
      · have after : ∀ (sg : Bool), ∃ l n, F_spec_l1Split (x.extract (i + 1) x.size, 46) = some l ∧ decide (0 < (l.length : Int)) = true ∧ F_spec_l1Read (x.extract (0 : Int).toNat i) = some n ∧
            F_spec_joOne (n, l.getD (0 : Int).toNat ByteArray.empty, sg) = some (edOK (n, l.getD (0 : Int).toNat ByteArray.empty, sg)) ∧
            (edOK (n, l.getD (0 : Int).toNat ByteArray.empty, sg) = true → ∃ t, F_spec_joLine (n, l.getD (0 : Int).toNat ByteArray.empty, sg) = some t ∧ (t.toList == x.toList) = false) := by
          intro sg
          have q := size_extract_le x (i + 1) x.size
          obtain ⟨l, s1, s2, s3, _⟩ := split_head (x.extract (i + 1) x.size) (by omega)
          obtain ⟨n, hn⟩ := read_total (x.extract (0 : Int).toNat i)
          refine ⟨l, n, s1, decide_eq_true (by omega), hn, joOne_is _ (by show (l.getD 0 ByteArray.empty).size ≤ _; omega), fun hok => ?_⟩
          obtain ⟨t, t1, _⟩ := line_same _ hok
          exact ⟨t, t1, by rw [toList_eq, decide_eq_false (hno _ _ hok t1)]⟩
        have g2 : decide (((i + 1 : Nat) : Int) ≤ (x.size : Int)) = true := decide_eq_true (by omega)
        have g3 : decide ((x.size : Int) ≤ (x.size : Int)) = true := decide_eq_true (by omega)
        have g5 : decide ((i : Int) ≤ (x.size : Int)) = true := decide_eq_true (by omega)
        have g6 : decide (0 ≤ (0 : Int)) = true := rfl
        obtain ⟨l, n, s1, s2, s3, s4, s5⟩ := after (byteAt x i == 45)
        cases c1 : (byteAt x i != 43) with
        | true =>
          cases c2 : (byteAt x i != 45) with
          | true => exact .inr ⟨(x, ((i + 1 : Nat) : Int), (0 : Int), ByteArray.empty, false), by simp only [step_spec_joParse_0, lt_len hlt, decide_eq_true h4, nonneg, Bool.and_self, cond_true, Int.toNat_natCast, c1, c2, hw], ⟨i + 1, rfl, by omega⟩, by simp; omega⟩
          | false =>
            left
            simp only [step_spec_joParse_0, lt_len hlt, decide_eq_true h4, nonneg, Bool.and_self, cond_true, cond_false, Int.toNat_natCast, c1, c2, hw, g2, g3, g5, g6, s1, s2, s3, s4]
            cases hok : edOK (n, l.getD (0 : Int).toNat ByteArray.empty, byteAt x i == 45) with
            | false => exact ⟨_, rfl, _, rfl⟩
            | true =>
              obtain ⟨t, t1, t2⟩ := s5 hok
              simp only [t1, t2, cond_true, cond_false]
              exact ⟨_, rfl, _, rfl⟩
        | false =>
          left
          simp only [step_spec_joParse_0, lt_len hlt, decide_eq_true h4, nonneg, Bool.and_self, cond_true, cond_false, Int.toNat_natCast, c1, hw, g2, g3, g5, g6, s1, s2, s3, s4]
          cases hok : edOK (n, l.getD (0 : Int).toNat ByteArray.empty, byteAt x i == 45) with
          | false => exact ⟨_, rfl, _, rfl⟩
          | true =>
            obtain ⟨t, t1, t2⟩ := s5 hok
            simp only [t1, t2, cond_true, cond_false]
            exact ⟨_, rfl, _, rfl⟩
      · left
        exact ⟨.inr (0, ByteArray.empty, false), by simp only [step_spec_joParse_0, lt_len hlt, decide_eq_false h4, cond_true, cond_false], _, rfl⟩
    · left
      have : i = x.size := by omega
      subst this
      exact ⟨.inr (0, ByteArray.empty, false), by simp only [step_spec_joParse_0, not_lt_len, cond_false], _, rfl⟩) (x, 0, 0, ByteArray.empty, false) ⟨0, rfl, by omega⟩
  simp only [F_spec_joParse, e]

/-- a line is read alike -/
theorem parse_same (x : ByteArray) (hs : x.size ≤ 1048576) : ∃ r, F_spec_joParse x = some r ∧ F_impl_ParseEditLine x = some r ∧ (r.2 = true → edOK r.1 = true ∧ F_spec_joLine r.1 = some x ∧ F_impl_LogEdit_line r.1 = some x) := by
  by_cases h : ∃ e, edOK e = true ∧ F_spec_joLine e = some x
  · obtain ⟨e, hok, hl⟩ := h
    obtain ⟨m, e1, e2, _, m0, m1⟩ := line_form e hok
    have hx : x = lineOf e m := by rw [hl] at e1; exact Option.some.inj e1
    exact ⟨(e, true), spec_line hok m0 m1 hx hl, impl_line hok m0 m1 hx (by rw [e2, hx]), fun _ => ⟨hok, hl, by rw [e2, hx]⟩⟩
  · refine ⟨((0, ByteArray.empty, false), false), spec_no hs fun e t hok ht hx => h ⟨e, hok, by rw [ht, hx]⟩, impl_no hs fun e t hok ht hx => h ⟨e, hok, ?_⟩, fun h => by cases h⟩
    obtain ⟨t', t1, t2, _⟩ := line_same e hok
    rw [t2] at ht
    rw [t1, Option.some.inj ht, hx]
end Go.Proofs.YtldeplpiokdmpaaDoor
/- Texts are read and salvaged alike on both sides: the laws. No conditions beyond the bounds that are named. -/
set_option linter.unusedVariables false
set_option linter.unusedSimpArgs false
namespace Go.Proofs.YtldeplpiokdmpaaDoor
open Go

/-! ### What may follow -/
def canAdd (out : List Edit) (e : Edit) : Bool := decide ((out.length : Int) < 40) && (decide (out.length = 0) || decide ((out.getD (out.length - 1) dE).1 < e.1))
theorem joNext_is (out : List Edit) (e : Edit) (h : out.length ≤ 1048576) : F_spec_joNext (out, e) = some (canAdd out e) := by
  unfold F_spec_joNext canAdd
  by_cases h1 : (out.length : Int) < 40
  · by_cases h0 : out.length = 0
    · simp [h0]
    · have hwp := wrap_pred (i := out.length) (by omega) (by omega)
      have h0' : ((out.length : Int) == 0) = false := by simp; exact fun e => h0 (by simp [e])
      simp only [decide_eq_true h1, cond_true, h0', cond_false, hwp, nonneg, lt_len (show out.length - 1 < out.length by omega), Bool.and_self, Int.toNat_natCast, decide_eq_false h0, Bool.false_or, Bool.true_and]
  · simp only [decide_eq_false h1, cond_false, Bool.false_and]
theorem getD_left {α : Type} (a b : List α) (d : α) {i : Nat} (h : i < a.length) : (a ++ b).getD i d = a.getD i d := by
  simp [List.getD, List.getElem?_append_left h]
theorem goodE_iff (l : List Edit) : goodE l = true ↔ (∀ i, i < l.length → goodEAt l i = true) ∧ l.length ≤ 40 := by
  simp only [goodE, Bool.and_eq_true, allN_true, decide_eq_true_eq]
  constructor
  · rintro ⟨h1, h2⟩; exact ⟨h1, by omega⟩
  · rintro ⟨h1, h2⟩; exact ⟨h1, by omega⟩
theorem good_snoc {out : List Edit} {e : Edit} (hg : goodE out = true) (he : edOK e = true) : goodE (out ++ [e]) = canAdd out e := by
  obtain ⟨h1, h2⟩ := (goodE_iff out).1 hg
  have hat : ∀ i, i < out.length → goodEAt (out ++ [e]) i = goodEAt out i := fun i hi => by
    unfold goodEAt risesE
    rw [getD_left _ _ _ hi, getD_left _ _ _ (show i - 1 < out.length by omega)]
  have hlast : (out ++ [e]).getD out.length dE = e := by simp [List.getD]
  have hlast' : goodEAt (out ++ [e]) out.length = (decide (out.length = 0) || decide ((out.getD (out.length - 1) dE).1 < e.1)) := by
    unfold goodEAt risesE
    rw [hlast, he, Bool.true_and]
    by_cases h0 : out.length = 0
    · simp [h0]
    · rw [getD_left _ _ _ (show out.length - 1 < out.length by omega), decide_eq_false h0, Bool.false_or, Bool.false_or, ← lt_not]
  have hlen : (out ++ [e]).length = out.length + 1 := by simp
  rw [Bool.eq_iff_iff, goodE_iff, hlen]
  unfold canAdd
  rw [Bool.and_eq_true, decide_eq_true_eq, ← hlast']
  constructor
  · rintro ⟨q1, q2⟩
    exact ⟨by omega, q1 _ (by omega)⟩
  · rintro ⟨q1, q2⟩
    refine ⟨fun i hi => ?_, by omega⟩
    rcases Nat.lt_or_ge i out.length with hl | hg'
    · rw [hat i hl]; exact h1 i hl
    · obtain rfl : i = out.length := by omega
      exact q2
theorem goodE_fits {l : List Edit} (h : goodE l = true) : FitsE l := by
  refine ⟨by have := goodE_len h; omega, fun e he => ?_⟩
  obtain ⟨i, hi, rfl⟩ := List.mem_iff_getElem.1 he
  have := goodE_gloss h hi
  simp only [List.getD, List.getElem?_eq_getElem hi, Option.getD_some] at this
  omega
theorem snoc_fits {out : List Edit} {e : Edit} (hg : goodE out = true) (he : edOK e = true) : FitsE (out ++ [e]) := by
  have hf := goodE_fits hg
  have := goodE_len hg
  refine ⟨by simp; omega, fun x hx => ?_⟩
  rcases List.mem_append.1 hx with hx | hx
  · exact hf.gloss x hx
  · obtain rfl : x = e := by simpa using hx
    obtain ⟨_, _, hgl⟩ := edOK_parts he
    have h8 : x.2.1.size ≤ 8 := (gl_bytes hgl).1
    omega

/-! ### One line -/
noncomputable def pr (p : ByteArray) : Edit × Bool := (F_impl_ParseEditLine p).getD (dE, false)
theorem pr_is {p : ByteArray} (h : p.size ≤ 1048576) : F_spec_joParse p = some (pr p) ∧ F_impl_ParseEditLine p = some (pr p) ∧ ((pr p).2 = true → edOK (pr p).1 = true ∧ F_spec_joLine (pr p).1 = some p) := by
  obtain ⟨r, h1, h2, h3⟩ := parse_same p h
  have e : pr p = r := by unfold pr; rw [h2]; rfl
  rw [e]
  exact ⟨h1, h2, fun hr => ⟨(h3 hr).1, (h3 hr).2.1⟩⟩
noncomputable def takes (out : List Edit) (p : ByteArray) : Bool := (pr p).2 && canAdd out (pr p).1
noncomputable def nxt (out : List Edit) (p : ByteArray) : List Edit := bif takes out p then out ++ [(pr p).1] else out
theorem nxt_good {out : List Edit} {p : ByteArray} (hp : p.size ≤ 1048576) (hg : goodE out = true) : goodE (nxt out p) = true := by
  unfold nxt
  cases ht : takes out p with
  | false => exact hg
  | true =>
    obtain ⟨h1, h2⟩ := and_b ht
    rw [cond_true, good_snoc hg ((pr_is hp).2.2 h1).1]
    exact h2
theorem salvage_step {out : List Edit} {p : ByteArray} (hp : p.size ≤ 1048576) (hg : goodE out = true) : step_impl_SalvageEdits_L out p = some (.inl (nxt out p)) := by
  obtain ⟨_, h2, h3⟩ := pr_is hp
  have hl := goodE_len hg
  unfold step_impl_SalvageEdits_L nxt takes
  rw [h2]
  simp only
  cases hb : (pr p).2 with
  | false => rfl
  | true =>
    have hok := (h3 hb).1
    have hc : F_slices_Clone_impl_LogEdit_impl_LogEdit out = some out := by
      unfold F_slices_Clone_impl_LogEdit_impl_LogEdit; rw [decide_eq_true (show out.length * 32 ≤ 140737488355328 by omega)]; rfl
    have hg2 : decide ((out.length + ([(pr p).1] : List Edit).length) * 32 ≤ 140737488355328) = true := decide_eq_true (by simp only [List.length_singleton]; omega)
    have ha := AreEdits_is (out ++ [(pr p).1]) (snoc_fits hg hok)
    rw [good_snoc hg hok] at ha
    simp only [cond_true, hc, hg2, ha, Bool.true_and]
    cases canAdd out (pr p).1 <;> rfl
theorem fold_good : ∀ (ls : List ByteArray) (out : List Edit), (∀ p ∈ ls, p.size ≤ 1048576) → goodE out = true → goodE (ls.foldl nxt out) = true
  | [], out, _, hg => hg
  | p :: ls, out, h, hg => fold_good ls _ (fun q hq => h q (List.mem_cons_of_mem _ hq)) (nxt_good (h p (List.mem_cons_self ..)) hg)
theorem salvage_fold : ∀ (ls : List ByteArray) (out : List Edit), (∀ p ∈ ls, p.size ≤ 1048576) → goodE out = true → foldL step_impl_SalvageEdits_L out ls = some (.inl (ls.foldl nxt out))
  | [], out, _, _ => rfl
  | p :: ls, out, h, hg => by
    have hp := h p (List.mem_cons_self ..)
    simp only [foldL, salvage_step hp hg, List.foldl_cons]
    exact salvage_fold ls _ (fun q hq => h q (List.mem_cons_of_mem _ hq)) (nxt_good hp hg)
theorem good_nil : goodE [] = true := rfl
theorem salvage_spec (ps : List ByteArray) (hps : ps.length ≤ 1048576) (h : ∀ p ∈ ps, p.size ≤ 1048576) : runL step_spec_SalvageEdits_0 ((ps.length : Int), 0, ps, []) = some (ps.foldl nxt []) := by
  have tr := runL_traj (f := step_spec_SalvageEdits_0) (fun i => ((ps.length : Int), (i : Int), ps, (ps.take i).foldl nxt [])) (ps.foldl nxt []) ps.length (fun i hi => by
    have hw := wrap_succ (i := i) (by omega)
    have hmem : ps.getD i ByteArray.empty ∈ ps := getD_mem hi _
    obtain ⟨h1, _, h3⟩ := pr_is (h _ hmem)
    have hg := fold_good (ps.take i) [] (fun p hp => h p (List.mem_of_mem_take hp)) good_nil
    have hl := goodE_len hg
    have hs : (ps.take (i + 1)).foldl nxt [] = nxt ((ps.take i).foldl nxt []) (ps.getD i ByteArray.empty) := by
      rw [take_succ_getD hi ByteArray.empty, List.foldl_append]; rfl
    rw [hs]
    generalize (ps.take i).foldl nxt [] = out at *
    have hj := joNext_is out (pr (ps.getD i ByteArray.empty)).1 (by omega)
    have hg2 : decide ((out.length + [(pr (ps.getD i ByteArray.empty)).1].length) * 32 ≤ 140737488355328) = true := decide_eq_true (by simp only [List.length_singleton]; omega)
    simp only [step_spec_SalvageEdits_0, lt_len hi, nonneg, Bool.and_self, cond_true, Int.toNat_natCast, h1, hj, hg2, hw, nxt, takes]
    cases (pr (ps.getD i ByteArray.empty)).2 with
    | false => rfl
    | true => cases canAdd out (pr (ps.getD i ByteArray.empty)).1 <;> rfl) (by simp only [step_spec_SalvageEdits_0, not_lt_len, cond_false, List.take_length])
  exact tr

/-! ### Reading on -/
noncomputable def rd : List ByteArray → List Edit → Int → List Edit × Int
  | [], out, n => (out, n)
  | p :: ps, out, n => bif takes out p then rd ps (out ++ [(pr p).1]) (n + (p.size : Int)) else (out, n)
structure Bnd (out : List Edit) (n : Int) : Prop where
  h : n ≤ (out.length : Int) * 1048576
theorem Bnd.snoc {out : List Edit} {n : Int} {e : Edit} {k : Nat} (h : Bnd out n) (hk : k ≤ 1048576) : Bnd (out ++ [e]) (n + (k : Int)) := ⟨by have := h.h; simp only [List.length_append, List.length_singleton]; omega⟩
theorem takes_good {out : List Edit} {p : ByteArray} (hp : p.size ≤ 1048576) (hg : goodE out = true) (ht : takes out p = true) : goodE (out ++ [(pr p).1]) = true := by
  obtain ⟨h1, h2⟩ := and_b ht
  rw [good_snoc hg ((pr_is hp).2.2 h1).1]
  exact h2
theorem read_step {out : List Edit} {n : Int} {p : ByteArray} (hp : p.size ≤ 1048576) (hg : goodE out = true) (h0 : 0 ≤ n) (hn : Bnd out n) :
    step_impl_ReadEdits_L (out, n) p = some (bif takes out p then .inl (out ++ [(pr p).1], n + (p.size : Int)) else .inr (out, n)) := by
  obtain ⟨_, h2, h3⟩ := pr_is hp
  have hl := goodE_len hg
  unfold step_impl_ReadEdits_L takes
  rw [h2]
  simp only
  cases hb : (pr p).2 with
  | false => rfl
  | true =>
    have hok := (h3 hb).1
    have hc : F_slices_Clone_impl_LogEdit_impl_LogEdit out = some out := by
      unfold F_slices_Clone_impl_LogEdit_impl_LogEdit; rw [decide_eq_true (show out.length * 32 ≤ 140737488355328 by omega)]; rfl
    have hg2 : decide ((out.length + ([(pr p).1] : List Edit).length) * 32 ≤ 140737488355328) = true := decide_eq_true (by simp only [List.length_singleton]; omega)
    have ha := AreEdits_is (out ++ [(pr p).1]) (snoc_fits hg hok)
    rw [good_snoc hg hok] at ha
    have hn := hn.h
    have hw : IntKind.i64.wrap (n + (p.size : Int)) = n + (p.size : Int) := wrap_id (by omega) (by omega)
    simp only [Bool.not_true, cond_false, hc, hg2, cond_true, ha, hw, Bool.true_and]
    cases canAdd out (pr p).1 <;> rfl
theorem read_fold : ∀ (ls : List ByteArray) (out : List Edit) (n : Int), (∀ p ∈ ls, p.size ≤ 1048576) → goodE out = true → 0 ≤ n → Bnd out n →
    foldL step_impl_ReadEdits_L (out, n) ls = some (.inl (rd ls out n)) ∨ foldL step_impl_ReadEdits_L (out, n) ls = some (.inr (rd ls out n))
  | [], out, n, _, _, _, _ => .inl rfl
  | p :: ls, out, n, h, hg, h0, hn => by
    have hp := h p (List.mem_cons_self ..)
    simp only [foldL, read_step hp hg h0 hn, rd]
    cases ht : takes out p with
    | false => exact .inr rfl
    | true => exact read_fold ls _ _ (fun q hq => h q (List.mem_cons_of_mem _ hq)) (takes_good hp hg ht) (by omega) (hn.snoc hp)
theorem rd_good : ∀ (ls : List ByteArray) (out : List Edit) (n : Int), (∀ p ∈ ls, p.size ≤ 1048576) → goodE out = true → goodE (rd ls out n).1 = true
  | [], out, n, _, hg => hg
  | p :: ls, out, n, h, hg => by
    have hp := h p (List.mem_cons_self ..)
    simp only [rd]
    cases ht : takes out p with
    | false => exact hg
    | true => exact rd_good ls _ _ (fun q hq => h q (List.mem_cons_of_mem _ hq)) (takes_good hp hg ht)
theorem read_spec (ps : List ByteArray) (hps : ps.length ≤ 1048576) (h : ∀ p ∈ ps, p.size ≤ 1048576) : ∀ (k i : Nat) (out : List Edit) (n : Int), ps.length - i = k → i ≤ ps.length → goodE out = true → 0 ≤ n → Bnd out n →
    runL step_spec_ReadEdits_0 (n, (ps.length : Int), (i : Int), ps, out) = some ((rd (ps.drop i) out n).2, (rd (ps.drop i) out n).1) := by
  intro k
  induction k with
  | zero =>
    intro i out n hk hi hg h0 hn
    obtain rfl : i = ps.length := by omega
    rw [runL_eq]
    simp only [step_spec_ReadEdits_0, not_lt_len, cond_false, List.drop_length, rd]
  | succ k ih =>
    intro i out n hk hi hg h0 hn
    have hlt : i < ps.length := by omega
    have hw := wrap_succ (i := i) (by omega)
    have hmem : ps.getD i ByteArray.empty ∈ ps := getD_mem hlt _
    have hp := h _ hmem
    obtain ⟨h1, _, h3⟩ := pr_is hp
    have hl := goodE_len hg
    have hd : ps.drop i = ps.getD i ByteArray.empty :: ps.drop (i + 1) := by
      rw [List.drop_eq_getElem_cons hlt]
      simp [List.getD, List.getElem?_eq_getElem hlt]
    rw [hd]
    generalize ps.getD i ByteArray.empty = p at *
    have hj := joNext_is out (pr p).1 (by omega)
    have hg2 : decide ((out.length + [(pr p).1].length) * 32 ≤ 140737488355328) = true := decide_eq_true (by simp only [List.length_singleton]; omega)
    have hn' := hn.h
    have hw2 : IntKind.i64.wrap (n + (p.size : Int)) = n + (p.size : Int) := wrap_id (by omega) (by omega)
    have hstep : step_spec_ReadEdits_0 (n, (ps.length : Int), (i : Int), ps, out) = some (bif takes out p then .inl (n + (p.size : Int), (ps.length : Int), ((i + 1 : Nat) : Int), ps, out ++ [(pr p).1]) else .inr (n, out)) := by
      have hgd : ps.getD i ByteArray.empty = p := by
        have := congrArg (fun l : List ByteArray => l.head?) hd
        simpa [List.getD, List.getElem?_eq_getElem hlt] using this
      simp only [step_spec_ReadEdits_0, lt_len hlt, nonneg, Bool.and_self, cond_true, Int.toNat_natCast, hgd, h1, hj, hg2, hw, hw2, takes]
      cases (pr p).2 with
      | false => rfl
      | true => cases canAdd out (pr p).1 <;> rfl
    rw [runL_eq, hstep]
    simp only [rd]
    cases ht : takes out p with
    | false => rfl
    | true =>
      simp only [cond_true]
      exact ih (i + 1) _ _ (by omega) (by omega) (takes_good hp hg ht) (by omega) (hn.snoc hp)

/-! ### The parts of a text -/
theorem linesN_mem : ∀ (n : Nat) (s p : ByteArray), p ∈ linesN n s → p.size ≤ s.size
  | 0, s, p, h => by cases h
  | n + 1, s, p, h => by
    simp only [linesN] at h
    cases h0 : (s.size == 0) with
    | true => rw [h0] at h; cases h
    | false =>
      rw [h0] at h
      simp only [cond_false] at h
      cases hi : decide (0 ≤ Lib.indexByte s.data.toList 10) with
      | false =>
        rw [hi] at h
        obtain rfl : p = s := by simpa using h
        exact Nat.le_refl _
      | true =>
        rw [hi] at h
        simp only [cond_true] at h
        rcases List.mem_cons.1 h with rfl | h
        · exact size_extract_le _ _ _
        · exact Nat.le_trans (linesN_mem n _ p h) (size_extract_le _ _ _)
theorem indexByte_lt {l : List UInt8} {c : UInt8} (h : ∀ k : Nat, l[k]? ≠ some c) : Lib.indexByte l c < 0 := by
  have hge := Lib.indexByte_ge l c
  rcases Int.lt_or_le (Lib.indexByte l c) 0 with hl | hl
  · exact hl
  · obtain ⟨o, ho⟩ : ∃ o : Nat, Lib.indexByte l c = o := ⟨(Lib.indexByte l c).toNat, by omega⟩
    exact absurd (Lib.indexByte_some ho).1 (h o)
theorem ext_data (x : ByteArray) (a b : Nat) : (x.extract a b).data.toList = (x.data.toList.drop a).take (b - a) := by
  conv => lhs; rw [eq_ba x]
  rw [ba_extract]
  rfl
theorem data_inj {x y : ByteArray} (h : x.data.toList = y.data.toList) : x = y := by rw [eq_ba x, eq_ba y, h]
theorem lines_cut {x : ByteArray} {st i : Nat} (h1 : st ≤ i) (h2 : i < x.size) (h10 : byteAt x i = 10) (hb : ∀ j, st ≤ j → j < i → byteAt x j ≠ 10) : linesOf (x.extract st x.size) = x.extract st (i + 1) :: linesOf (x.extract (i + 1) x.size) := by
  have hlen : x.data.toList.length = x.size := rfl
  have hat : ∀ k, k < x.size - st → (x.extract st x.size).data.toList[k]? = x.data.toList[st + k]? := fun k hk => by
    rw [ext_data, List.getElem?_take, if_pos hk, List.getElem?_drop]
  have hsz : (x.extract st x.size).size = x.size - st := by
    have : (x.extract st x.size).data.toList.length = x.size - st := by rw [ext_data]; simp
    exact this
  have hix : Lib.indexByte (x.extract st x.size).data.toList 10 = ((i - st : Nat) : Int) := by
    refine indexByte_at ?_ fun k hk hb' => ?_
    · rw [hat _ (by omega), show st + (i - st) = i by omega]
      exact bytes_get h2 (by rw [h10]; rfl)
    · rw [hat _ (by omega)] at hb'
      exact hb (st + k) (by omega) (by omega) (by rw [get_bytes hb']; rfl)
  have e1 : (x.extract st x.size).extract 0 (i - st + 1) = x.extract st (i + 1) := by
    apply data_inj
    rw [ext_data, ext_data, ext_data, List.drop_zero, List.take_take, show min (i - st + 1 - 0) (x.size - st) = i + 1 - st by omega]
  have e2 : (x.extract st x.size).extract (i - st + 1) (x.extract st x.size).size = x.extract (i + 1) x.size := by
    apply data_inj
    rw [ext_data, ext_data, ext_data, hsz, List.drop_take, List.take_take, List.drop_drop, show st + (i - st + 1) = i + 1 by omega]
    congr 1
    omega
  rw [linesOf_next hix (by omega), e1, e2]
theorem parts_is (x : ByteArray) (hx : x.size ≤ 1048576) : ∃ ps tl, F_spec_joParts x = some ps ∧ linesOf x = ps ++ tl ∧ ps.length ≤ x.size ∧ (tl = [] ∨ ∃ s, tl = [s] ∧ s.size ≤ x.size ∧ ∀ j, byteAt s j ≠ 10) := by
  obtain ⟨o, e, st, h1, h2, h3, h4⟩ := runL_inv (f := step_spec_joParts_0) (fun s => ∃ (st i : Nat) (ps : List ByteArray), s = (x, (st : Int), (i : Int), ps) ∧ st ≤ i ∧ i ≤ x.size ∧ ps.length ≤ i ∧ linesOf x = ps ++ linesOf (x.extract st x.size) ∧ ∀ j, st ≤ j → j < i → byteAt x j ≠ 10)
    (fun o => ∃ st : Nat, st ≤ x.size ∧ o.length ≤ x.size ∧ linesOf x = o ++ linesOf (x.extract st x.size) ∧ ∀ j, st ≤ j → j < x.size → byteAt x j ≠ 10) (fun s => x.size - s.2.2.1.toNat) (by
    rintro s ⟨st, i, ps, rfl, h1, h2, h3, h4, h5⟩
    rcases Nat.lt_or_ge i x.size with hlt | hge
    · right
      have hw := wrap_succ (i := i) (by omega)
      by_cases hd : byteAt x i = 10
      · have g1 : decide ((st : Int) ≤ ((i + 1 : Nat) : Int)) = true := decide_eq_true (by omega)
        have g2 : decide (((i + 1 : Nat) : Int) ≤ (x.size : Int)) = true := decide_eq_true (by omega)
        have g3 : decide ((ps.length + [x.extract st (i + 1)].length) * 16 ≤ 140737488355328) = true := decide_eq_true (by show (ps.length + 1) * 16 ≤ _; omega)
        refine ⟨(x, ((i + 1 : Nat) : Int), ((i + 1 : Nat) : Int), ps ++ [x.extract st (i + 1)]), ?_, ⟨i + 1, i + 1, _, rfl, by omega, by omega, by simp; omega, ?_, fun j _ _ => by omega⟩, by simp; omega⟩
        · simp only [step_spec_joParts_0, lt_len hlt, nonneg, Bool.and_self, cond_true, Int.toNat_natCast, hd, beq_self_eq_true, hw, g1, g2, g3]
        · rw [h4, lines_cut h1 hlt hd h5]; simp
      · have hd' : (byteAt x i == 10) = false := by simpa using hd
        refine ⟨(x, (st : Int), ((i + 1 : Nat) : Int), ps), ?_, ⟨st, i + 1, _, rfl, by omega, by omega, by omega, h4, fun j q1 q2 => ?_⟩, by simp; omega⟩
        · simp only [step_spec_joParts_0, lt_len hlt, nonneg, Bool.and_self, cond_true, Int.toNat_natCast, hd', cond_false, hw]
        · rcases Nat.lt_or_ge j i with q | q
          · exact h5 j q1 q
          · obtain rfl : j = i := by omega
            exact hd
    · left
      have : i = x.size := by omega
      subst this
      exact ⟨ps, by simp only [step_spec_joParts_0, not_lt_len, cond_false], st, h1, h3, h4, h5⟩) (x, 0, 0, []) ⟨0, 0, [], rfl, by omega, by omega, by simp, by
        have : x.extract 0 x.size = x := by
          apply data_inj
          rw [ext_data]
          have hlen : x.data.toList.length = x.size := rfl
          rw [List.drop_zero, Nat.sub_zero, ← hlen, List.take_length]
        rw [this]; rfl, fun j _ _ => by omega⟩
  refine ⟨o, linesOf (x.extract st x.size), by simp only [F_spec_joParts, e], h3, h2, ?_⟩
  have hsz : (x.extract st x.size).size = x.size - st := by
    have : (x.extract st x.size).data.toList.length = x.size - st := by
      have hlen : x.data.toList.length = x.size := rfl
      rw [ext_data]; simp
    exact this
  have hno : ∀ k : Nat, (x.extract st x.size).data.toList[k]? ≠ some 10 := fun k hk => by
    have hk2 := hk
    rw [ext_data, List.getElem?_take] at hk
    split at hk
    · rename_i hlt
      rw [List.getElem?_drop] at hk
      exact h4 (st + k) (by omega) (by omega) (by rw [get_bytes hk]; rfl)
    · cases hk
  by_cases h0 : (x.extract st x.size).size = 0
  · left
    simp [linesOf, h0, linesN]
  · right
    refine ⟨x.extract st x.size, ?_, by omega, fun j => ?_⟩
    · rw [linesOf_last (by omega) (indexByte_lt hno)]
      rfl
    · intro hb
      by_cases hj : j < (x.extract st x.size).size
      · exact hno j (bytes_get hj (by rw [hb]; rfl))
      · have : (x.extract st x.size).data.toList[j]? = none := List.getElem?_eq_none (by have : (x.extract st x.size).data.toList.length = (x.extract st x.size).size := rfl; omega)
        have hb2 : byteAt (x.extract st x.size) j = ((0 : UInt8).toNat : Int) := by unfold byteAt List.getD; rw [this]; rfl
        rw [hb2] at hb
        exact absurd hb (by decide)
theorem line_newline {e : Edit} {m : Int} {s : ByteArray} (h : s = lineOf e m) : ∃ j, byteAt s j = 10 := by
  rw [lineOf_ba] at h
  subst h
  obtain ⟨X, hX⟩ : ∃ X, lineL e m = X ++ [10] := ⟨(it e.1).data.toList ++ (sgn e.2.2 :: (e.2.1.data.toList ++ (46 :: (it m).data.toList))), by simp [lineL]⟩
  refine ⟨X.length, ?_⟩
  rw [ba_byteAt, hX]
  simp [List.getD]
/-- what does not end with a newline is no line -/
theorem pr_torn {s : ByteArray} (hs : s.size ≤ 1048576) (h : ∀ j, byteAt s j ≠ 10) : (pr s).2 = false := by
  cases hb : (pr s).2 with
  | false => rfl
  | true =>
    obtain ⟨hok, hl⟩ := (pr_is hs).2.2 hb
    obtain ⟨m, e1, _⟩ := line_form _ hok
    obtain ⟨j, hj⟩ := line_newline (Option.some.inj (hl.symm.trans e1))
    exact absurd hj (h j)
theorem rd_tail (s : ByteArray) (hs : (pr s).2 = false) : ∀ (ps : List ByteArray) (out : List Edit) (n : Int), rd (ps ++ [s]) out n = rd ps out n
  | [], out, n => by simp [rd, takes, hs]
  | p :: ps, out, n => by
    simp only [List.cons_append, rd]
    cases takes out p with
    | false => rfl
    | true => exact rd_tail s hs ps _ _

/-! ### Both sides -/
theorem salvage_same (x : ByteArray) (hx : x.size ≤ 1048576) : ∃ o b, F_spec_SalvageEdits x = some (o, b) ∧ F_impl_SalvageEdits x = some (o, b) ∧ goodE o = true := by
  by_cases hb : (x.size : Int) > 2000
  · exact ⟨[], false, by simp only [F_spec_SalvageEdits, decide_eq_true hb, cond_true], by simp only [F_impl_SalvageEdits, decide_eq_true hb, cond_true], rfl⟩
  · obtain ⟨ps, tl, h1, h2, h3, h4⟩ := parts_is x hx
    have hall : ∀ p ∈ linesOf x, p.size ≤ 1048576 := fun p hp => Nat.le_trans (linesN_mem _ _ _ hp) hx
    have hps : ∀ p ∈ ps, p.size ≤ 1048576 := fun p hp => hall p (by rw [h2]; exact List.mem_append_left _ hp)
    have hs := salvage_spec ps (by omega) hps
    have hi := salvage_fold (linesOf x) [] hall good_nil
    have ht : (linesOf x).foldl nxt [] = ps.foldl nxt [] := by
      rw [h2, List.foldl_append]
      rcases h4 with rfl | ⟨s, rfl, hs1, hs2⟩
      · rfl
      · simp only [List.foldl_cons, List.foldl_nil]
        unfold nxt
        simp only [takes, pr_torn (by omega) hs2, Bool.false_and, cond_false]
    rw [ht] at hi
    exact ⟨ps.foldl nxt [], true, by simp only [F_spec_SalvageEdits, decide_eq_false hb, cond_false, h1, hs], by simp only [F_impl_SalvageEdits, decide_eq_false hb, cond_false, hi], fold_good ps [] hps good_nil⟩
theorem read_same (x : ByteArray) (hx : x.size ≤ 1048576) : ∃ o n b, F_spec_ReadEdits x = some (o, n, b) ∧ F_impl_ReadEdits x = some (o, n, b) ∧ goodE o = true := by
  by_cases hb : (x.size : Int) > 2000
  · exact ⟨[], 0, false, by simp only [F_spec_ReadEdits, decide_eq_true hb, cond_true], by simp only [F_impl_ReadEdits, decide_eq_true hb, cond_true], rfl⟩
  · obtain ⟨ps, tl, h1, h2, h3, h4⟩ := parts_is x hx
    have hall : ∀ p ∈ linesOf x, p.size ≤ 1048576 := fun p hp => Nat.le_trans (linesN_mem _ _ _ hp) hx
    have hps : ∀ p ∈ ps, p.size ≤ 1048576 := fun p hp => hall p (by rw [h2]; exact List.mem_append_left _ hp)
    have hs := read_spec ps (by omega) hps ps.length 0 [] 0 (by omega) (by omega) good_nil (by omega) ⟨by simp⟩
    rw [List.drop_zero] at hs
    have hs' : runL step_spec_ReadEdits_0 (0, (ps.length : Int), 0, ps, []) = some ((rd ps [] 0).2, (rd ps [] 0).1) := hs
    have ht : rd (linesOf x) [] 0 = rd ps [] 0 := by
      rw [h2]
      rcases h4 with rfl | ⟨s, rfl, hs1, hs2⟩
      · rw [List.append_nil]
      · exact rd_tail s (pr_torn (by omega) hs2) ps [] 0
    refine ⟨(rd ps [] 0).1, (rd ps [] 0).2, true, by simp only [F_spec_ReadEdits, decide_eq_false hb, cond_false, h1, hs'], ?_, rd_good ps [] 0 hps good_nil⟩
    rcases read_fold (linesOf x) [] 0 hall good_nil (by omega) ⟨by simp⟩ with hi | hi
    · rw [ht] at hi
      simp only [F_impl_ReadEdits, decide_eq_false hb, cond_false, hi]
    · rw [ht] at hi
      simp only [F_impl_ReadEdits, decide_eq_false hb, cond_false, hi]
end Go.Proofs.YtldeplpiokdmpaaDoor
/- What the drawn arguments are like: plain laws. No conditions. -/
set_option linter.unusedVariables false
set_option linter.unusedSimpArgs false
namespace Go.Proofs.YtldeplpiokdmpaaDoor
open Go
/-- a cursor that has taken at most n steps -/
structure CurOK (n : Nat) (c : List Int × (Int × Int)) : Prop where
  len : c.1.length ≤ 9223372036854775807
  bytes : ∀ b ∈ c.1, 0 ≤ b ∧ b ≤ 255
  at0 : 0 ≤ c.2.1
  atn : c.2.1 ≤ (n : Int)
theorem CurOK.mono {n m : Nat} {c : List Int × (Int × Int)} (h : CurOK n c) (hm : n ≤ m) : CurOK m c := ⟨h.len, h.bytes, h.at0, by have := h.atn; omega⟩
theorem masked (v : Int) : 0 ≤ IntKind.i64.wrap (IntKind.u64.wrap ((BitVec.ofInt IntKind.u64.bits v &&& BitVec.ofInt IntKind.u64.bits 255).toNat : Nat)) ∧ IntKind.i64.wrap (IntKind.u64.wrap ((BitVec.ofInt IntKind.u64.bits v &&& BitVec.ofInt IntKind.u64.bits 255).toNat : Nat)) ≤ 255 := by
  have h1 : (BitVec.ofInt IntKind.u64.bits v &&& BitVec.ofInt IntKind.u64.bits 255).toNat ≤ 255 := by
    rw [BitVec.toNat_and]
    exact Nat.le_trans Nat.and_le_right (by decide)
  generalize (BitVec.ofInt IntKind.u64.bits v &&& BitVec.ofInt IntKind.u64.bits 255).toNat = m at h1
  have h2 : IntKind.u64.wrap (m : Int) = (m : Int) := by
    simp [IntKind.wrap, IntKind.bits, IntKind.signed]
    omega
  rw [h2, wrap_id (by omega) (by omega)]
  omega
theorem next_ok {n : Nat} {c : List Int × (Int × Int)} (h : CurOK n c) (hn : n ≤ 4611686018427387904) : ∃ c' v, F_spec_l1Cur_next c = some (c', v) ∧ CurOK (n + 1) c' ∧ 0 ≤ v ∧ v ≤ 255 := by
  obtain ⟨code, i, seed⟩ := c
  have hat0 : 0 ≤ i := h.at0
  have hatn : i ≤ (n : Int) := h.atn
  have hw : IntKind.i64.wrap (i + 1) = i + 1 := wrap_id (by omega) (by omega)
  have q40 : decide (0 ≤ (40 : Int)) = true := rfl
  have ok : ∀ s, CurOK (n + 1) (code, (i + 1, s)) := fun s => ⟨h.len, h.bytes, by show 0 ≤ i + 1; omega, by show i + 1 ≤ _; omega⟩
  cases h1 : decide (i < (code.length : Int)) with
  | true =>
    have h1' : i < (code.length : Int) := of_decide_eq_true h1
    have h0 : decide (0 ≤ i) = true := decide_eq_true hat0
    have hlt : i.toNat < code.length := by omega
    have hb : 0 ≤ code.getD i.toNat 0 ∧ code.getD i.toNat 0 ≤ 255 := h.bytes _ (getD_mem hlt 0)
    have hwb : IntKind.i64.wrap (code.getD i.toNat 0) = code.getD i.toNat 0 := wrap_id (by omega) (by omega)
    simp only [F_spec_l1Cur_next, h1, h0, Bool.and_self, cond_true, hw, hwb, q40]
    cases decide (i + 1 ≤ (code.length : Int)) with
    | true => exact ⟨_, _, rfl, ok _, hb⟩
    | false => exact ⟨_, _, rfl, ok _, masked _⟩
  | false =>
    simp only [F_spec_l1Cur_next, h1, cond_false, hw, q40, cond_true]
    cases decide (i + 1 ≤ (code.length : Int)) with
    | true => exact ⟨_, _, rfl, ok _, by omega⟩
    | false => exact ⟨_, _, rfl, ok _, masked _⟩
theorem pick_ok {n : Nat} {c : List Int × (Int × Int)} (h : CurOK n c) (hn : n ≤ 4611686018427387904) {k : Int} (k0 : 1 ≤ k) (k1 : k ≤ 200) : ∃ c' v, F_spec_l1Cur_pick (c, k) = some (c', v) ∧ CurOK (n + 1) c' ∧ 0 ≤ v ∧ v < k := by
  cases h1 : decide (k ≤ 1) with
  | true =>
    have := of_decide_eq_true h1
    exact ⟨c, 0, by simp only [F_spec_l1Cur_pick, h1, cond_true], h.mono (by omega), by omega, by omega⟩
  | false =>
    have h1' := of_decide_eq_false h1
    obtain ⟨c', v, e, hc, v0, v1⟩ := next_ok h hn
    have h2 : decide (k > 200) = false := decide_eq_false (by omega)
    have h3 : decide (k = 0) = false := decide_eq_false (by omega)
    refine ⟨c', v.tmod k, by simp only [F_spec_l1Cur_pick, h1, cond_false, e, h2, h3, Bool.not_false, cond_true], hc, Int.tmod_nonneg _ v0, Int.tmod_lt_of_pos _ (by omega)⟩
theorem one_ok {n : Nat} {c : List Int × (Int × Int)} (h : CurOK n c) (hn : n ≤ 4611686018427387904) {k : Int} (k0 : 1 ≤ k) (k1 : k ≤ 200) : ∃ c' b, F_spec_l1Cur_one (c, k) = some (c', b) ∧ CurOK (n + 1) c' := by
  obtain ⟨c', v, e, hc, _⟩ := pick_ok h hn k0 k1
  exact ⟨c', v == 0, by simp only [F_spec_l1Cur_one, e], hc⟩
theorem of_ok {n : Nat} {c : List Int × (Int × Int)} (h : CurOK n c) (hn : n ≤ 4611686018427387904) {l : List ByteArray} (k0 : 1 ≤ l.length) (k1 : l.length ≤ 200) : ∃ c' v, F_spec_l1Cur_of (c, l) = some (c', v) ∧ CurOK (n + 1) c' ∧ v ∈ l := by
  obtain ⟨c', v, e, hc, v0, v1⟩ := pick_ok h hn (k := (l.length : Int)) (by omega) (by omega)
  have h0 : decide (0 ≤ v) = true := decide_eq_true v0
  have h1 : decide (v < (l.length : Int)) = true := decide_eq_true v1
  exact ⟨c', l.getD v.toNat ByteArray.empty, by simp only [F_spec_l1Cur_of, e, h0, h1, Bool.and_self, cond_true], hc, getD_mem (by omega) _⟩
theorem among_ok {n : Nat} {c : List Int × (Int × Int)} (h : CurOK n c) (hn : n ≤ 4611686018427387904) {l : List Int} (k0 : 1 ≤ l.length) (k1 : l.length ≤ 200) : ∃ c' v, F_spec_l1Cur_among (c, l) = some (c', v) ∧ CurOK (n + 1) c' ∧ v ∈ l := by
  obtain ⟨c', v, e, hc, v0, v1⟩ := pick_ok h hn (k := (l.length : Int)) (by omega) (by omega)
  have h0 : decide (0 ≤ v) = true := decide_eq_true v0
  have h1 : decide (v < (l.length : Int)) = true := decide_eq_true v1
  exact ⟨c', l.getD v.toNat 0, by simp only [F_spec_l1Cur_among, e, h0, h1, Bool.and_self, cond_true], hc, getD_mem (by omega) _⟩
end Go.Proofs.YtldeplpiokdmpaaDoor
/- What the drawn edits and their texts are like: plain laws. No conditions beyond those that are named. -/
set_option linter.unusedVariables false
set_option linter.unusedSimpArgs false
namespace Go.Proofs.YtldeplpiokdmpaaDoor
open Go
abbrev CurT := List Int × (Int × Int)
/-- a pick among many -/
theorem pick_big {n : Nat} {c : CurT} (h : CurOK n c) (hn : n ≤ 4611686018427387000) {k : Int} (k0 : 1 ≤ k) (k1 : k ≤ 1000000) : ∃ c' v, F_spec_l1Cur_pick (c, k) = some (c', v) ∧ CurOK (n + 2) c' ∧ 0 ≤ v ∧ v < k := by
  by_cases hk : k ≤ 200
  · obtain ⟨c', v, e, hc, q⟩ := pick_ok h (by omega) k0 hk
    exact ⟨c', v, e, hc.mono (by omega), q⟩
  · obtain ⟨c1, v1, e1, h1, a0, a1⟩ := next_ok h (by omega)
    obtain ⟨c2, v2, e2, h2, b0, b1⟩ := next_ok h1 (by omega)
    have q1 : decide (k ≤ 1) = false := decide_eq_false (by omega)
    have q2 : decide (k > 200) = true := decide_eq_true (by omega)
    have q3 : decide (k = 0) = false := decide_eq_false (by omega)
    have w1 : IntKind.i64.wrap (v1 * 256) = v1 * 256 := wrap_id (by omega) (by omega)
    have w2 : IntKind.i64.wrap (v1 * 256 + v2) = v1 * 256 + v2 := wrap_id (by omega) (by omega)
    exact ⟨c2, (v1 * 256 + v2).tmod k, by simp only [F_spec_l1Cur_pick, q1, q2, q3, cond_false, cond_true, e1, e2, w1, w2, Bool.not_false], h2.mono (by omega), Int.tmod_nonneg _ (by omega), Int.tmod_lt_of_pos _ (by omega)⟩

/-! ### Edits -/
theorem edit_ok {n : Nat} {c : CurT} (h : CurOK n c) (hn : n ≤ 4611686018427380000) (number : Int) : ∃ c' e, F_spec_l1Cur_edit (c, number) = some (c', e) ∧ CurOK (n + 5) c' ∧ e.2.1.size ≤ 9 := by
  obtain ⟨c1, g, e1, h1, m1⟩ := of_ok h (by omega) (l := [(⟨#[71, 79]⟩ : ByteArray), (⟨#[72, 79, 85, 83, 69]⟩ : ByteArray), (⟨#[71, 79]⟩ : ByteArray), (⟨#[73]⟩ : ByteArray), (⟨#[66, 79, 79, 75]⟩ : ByteArray), (⟨#[69, 73, 71, 72, 84, 76, 69, 84]⟩ : ByteArray)]) (by simp) (by simp)
  have z1 : g.size ≤ 9 := by
    simp only [List.mem_cons, List.not_mem_nil, or_false] at m1
    rcases m1 with rfl | rfl | rfl | rfl | rfl | rfl <;> decide
  obtain ⟨c2, b, e2, h2⟩ := one_ok h1 (by omega) (k := 4) (by omega) (by omega)
  obtain ⟨c3, v, e3, h3, _, _⟩ := pick_ok h2 (by omega) (k := 60) (by omega) (by omega)
  obtain ⟨c4, g4, e4, h4, m4⟩ := of_ok h3 (by omega) (l := [(⟨#[]⟩ : ByteArray), (⟨#[103, 111]⟩ : ByteArray), (⟨#[78, 73, 78, 69, 76, 69, 84, 84, 82]⟩ : ByteArray)]) (by simp) (by simp)
  have z4 : g4.size ≤ 9 := by
    simp only [List.mem_cons, List.not_mem_nil, or_false] at m4
    rcases m4 with rfl | rfl | rfl <;> decide
  obtain ⟨c5, k5, e5, h5, _⟩ := among_ok h3 (by omega) (l := [0, 999, 1000]) (by simp) (by simp)
  cases q0 : (v == 0) with
  | true => exact ⟨c4, (number, g4, b), by simp only [F_spec_l1Cur_edit, e1, e2, e3, q0, cond_true, e4], h4.mono (by omega), z4⟩
  | false =>
    cases q1 : (v == 1) with
    | true => exact ⟨c5, (k5, g, b), by simp only [F_spec_l1Cur_edit, e1, e2, e3, q0, q1, cond_true, cond_false, e5], h5.mono (by omega), z1⟩
    | false => exact ⟨c3, (number, g, b), by simp only [F_spec_l1Cur_edit, e1, e2, e3, q0, q1, cond_false], h3.mono (by omega), z1⟩
structure SmallE (l : List Edit) : Prop where
  len : l.length ≤ 41
  all : ∀ e ∈ l, e.2.1.size ≤ 9
theorem SmallE.fits {l : List Edit} (h : SmallE l) : FitsE l := ⟨by have := h.len; omega, fun e he => by have := h.all e he; omega⟩
theorem edits_loop {n : Nat} {c : CurT} (h : CurOK n c) (hn : n ≤ 4611686018427300000) {N : Int} (n0 : 0 ≤ N) (n1 : N ≤ 41) (num : Int) :
    ∃ o, runL step_spec_l1Cur_edits_0 (num, (N, c.1, (c.2.1, c.2.2, []))) = some o ∧ o.1 = N ∧ (o.2.1.length : Int) = N ∧ SmallE o.2.1 ∧ CurOK (n + 400) o.2.2 := by
  obtain ⟨o, eo, q1, q2, q3, q4⟩ := runL_inv (f := step_spec_l1Cur_edits_0)
    (fun s => s.2.1 = N ∧ (s.2.2.2.2.2.length : Int) ≤ N ∧ (∀ e ∈ s.2.2.2.2.2, e.2.1.size ≤ 9) ∧ CurOK (n + 8 * s.2.2.2.2.2.length) (s.2.2.1, s.2.2.2.1, s.2.2.2.2.1))
    (fun o => o.1 = N ∧ (o.2.1.length : Int) = N ∧ (∀ e ∈ o.2.1, e.2.1.size ≤ 9) ∧ CurOK (n + 400) o.2.2) (fun s => 41 - s.2.2.2.2.2.length) (by
    rintro ⟨s1, s2, code, i, seed, l⟩ ⟨r2, r3, r4, r5⟩
    simp only at r2 r3 r4 r5
    subst r2
    cases hl : decide ((l.length : Int) < s2) with
    | false =>
      left
      have hl' := of_decide_eq_false hl
      have hc : CurOK (n + 400) (code, i, seed) := r5.mono (by omega)
      exact ⟨_, by simp only [step_spec_l1Cur_edits_0, hl, cond_false]; rfl, rfl, by show (l.length : Int) = s2; omega, r4, hc⟩
    | true =>
      right
      have hl' := of_decide_eq_true hl
      obtain ⟨d1, p, f1, k1, sp⟩ := edit_ok r5 (by omega) s1
      obtain ⟨d2, w, f2, k2, _⟩ := among_ok k1 (by omega) (l := [1, 1, 1, 2, 5]) (by simp) (by simp)
      have room : decide ((l.length + ([p] : List Edit).length) * 32 ≤ 140737488355328) = true := decide_eq_true (by simp; omega)
      refine ⟨_, by simp only [step_spec_l1Cur_edits_0, hl, cond_true, f1, room, f2]; rfl, ⟨rfl, by simp; omega, fun e he => ?_, ?_⟩, by simp; omega⟩
      · rcases List.mem_append.1 he with h' | h'
        · exact r4 e h'
        · obtain rfl : e = p := by simpa using h'
          exact sp
      · simp only [List.length_append, List.length_singleton]
        exact k2.mono (by omega)) (num, (N, c.1, (c.2.1, c.2.2, []))) ⟨rfl, by simpa using n0, by simp, h.mono (by simp)⟩
  exact ⟨o, eo, q1, q2, ⟨by omega, q3⟩, q4⟩
theorem edits_ok {n : Nat} {c : CurT} (h : CurOK n c) (hn : n ≤ 4611686018427200000) : ∃ c' l, F_spec_l1Cur_edits c = some (c', l) ∧ CurOK (n + 410) c' ∧ SmallE l := by
  obtain ⟨c1, v1, e1, h1, _, _⟩ := pick_ok h (by omega) (k := 2) (by omega) (by omega)
  obtain ⟨c2, v2, e2, h2, a0, a1⟩ := pick_ok h1 (by omega) (k := 7) (by omega) (by omega)
  obtain ⟨c3, b3, e3, h3⟩ := one_ok h2 (by omega) (k := 12) (by omega) (by omega)
  have tail : ∀ (N : Int) (o : Int × List Edit × CurT), o.1 = N → (o.2.1.length : Int) = N → SmallE o.2.1 → CurOK (n + 404) o.2.2 → ∃ c' l, (bif (decide (o.1 > 0)) then
      match F_spec_l1Cur_one ((o.2.2, 12)) with
      | none => none
      | some y19 =>
        bif y19.2 then
          bif decide (0 ≤ IntKind.i64.wrap (o.1 - 1)) && decide (IntKind.i64.wrap (o.1 - 1) < (o.2.1.length : Int)) then
            some ((y19.1, o.2.1.set (IntKind.i64.wrap (o.1 - 1)).toNat ((999, (o.2.1.getD (IntKind.i64.wrap (o.1 - 1)).toNat (0, ByteArray.empty, false)).2))))
          else none
        else
          some ((y19.1, o.2.1))
    else
      some ((o.2.2, o.2.1))) = some (c', l) ∧ CurOK (n + 410) c' ∧ SmallE l := by
    intro N o o1 o2 o3 o4
    have hlen := o3.len
    cases hp : decide (o.1 > 0) with
    | false => exact ⟨_, _, rfl, o4.mono (by omega), o3⟩
    | true =>
      have hp' := of_decide_eq_true hp
      obtain ⟨c5, b5, e5, h5⟩ := one_ok o4 (by omega) (k := 12) (by omega) (by omega)
      have hw : IntKind.i64.wrap (o.1 - 1) = o.1 - 1 := wrap_id (by omega) (by omega)
      have g0 : decide (0 ≤ o.1 - 1) = true := decide_eq_true (by omega)
      have g1 : decide (o.1 - 1 < (o.2.1.length : Int)) = true := decide_eq_true (by omega)
      simp only [cond_true, e5, hw, g0, g1, Bool.and_self]
      cases b5 with
      | false => exact ⟨_, _, rfl, h5.mono (by omega), o3⟩
      | true =>
        refine ⟨_, _, rfl, h5.mono (by omega), ⟨by rw [List.length_set]; exact o3.len, fun e he => ?_⟩⟩
        rcases List.mem_or_eq_of_mem_set he with q | rfl
        · exact o3.all e q
        · show (o.2.1.getD (o.1 - 1).toNat (0, ByteArray.empty, false)).2.1.size ≤ 9
          exact o3.all _ (getD_mem (by omega) _)
  cases b3 with
  | true =>
    obtain ⟨c4, v4, e4, h4, d0, d1⟩ := pick_ok h3 (by omega) (k := 2) (by omega) (by omega)
    have hw : IntKind.i64.wrap (40 + v4) = 40 + v4 := wrap_id (by omega) (by omega)
    obtain ⟨o, eo, o1, o2, o3, o4⟩ := edits_loop h4 (by omega) (N := 40 + v4) (by omega) (by omega) (IntKind.i64.wrap (1 + v1))
    obtain ⟨c', l, r, hc, hs⟩ := tail _ o o1 o2 o3 (o4.mono (by omega))
    refine ⟨c', l, ?_, hc, hs⟩
    rw [← r]
    simp only [F_spec_l1Cur_edits, e1, e2, e3, cond_true, e4, hw, eo]
    rfl
  | false =>
    obtain ⟨o, eo, o1, o2, o3, o4⟩ := edits_loop h3 (by omega) (N := v2) (by omega) (by omega) (IntKind.i64.wrap (1 + v1))
    obtain ⟨c', l, r, hc, hs⟩ := tail _ o o1 o2 o3 (o4.mono (by omega))
    refine ⟨c', l, ?_, hc, hs⟩
    rw [← r]
    simp only [F_spec_l1Cur_edits, e1, e2, e3, cond_false, eo]
    rfl

/-! ### Their texts -/
theorem line_size {e : Edit} (hok : edOK e = true) {m : Int} (m0 : 0 ≤ m) (m1 : m ≤ 9972) : (lineOf e m).size ≤ 19 := by
  obtain ⟨p1, p2, p3⟩ := edOK_parts hok
  have h1 := it_len (m := e.1) (by omega) (by omega)
  have h2 := it_len (m := m) m0 (by omega)
  have h3 := (gl_bytes p3).1
  rw [lineOf_ba, ba_size]
  simp only [lineL, List.length_append, List.length_cons, List.length_nil]
  omega
theorem line_both {e : Edit} (hok : edOK e = true) : ∃ t, F_spec_joLine e = some t ∧ F_impl_LogEdit_line e = some t ∧ t.size ≤ 19 := by
  obtain ⟨m, e1, e2, _, m0, m1⟩ := line_form e hok
  exact ⟨_, e1, e2, line_size hok m0 m1⟩
theorem text_small {l : List Edit} (hg : goodE l = true) : ∃ t, F_spec_joText l = some t ∧ F_impl_editsText l = some t ∧ t.size ≤ 760 := by
  have hl := goodE_len hg
  have hok : ∀ i, i < l.length → edOK (l.getD i dE) = true := fun i hi => by
    simp only [goodE, Bool.and_eq_true] at hg
    have := allN_true.1 hg.1 i hi
    simp only [goodEAt, Bool.and_eq_true] at this
    exact this.1
  obtain ⟨o, p, e1, e2, rfl, h⟩ := runL_sim (f := step_spec_joText_0) (g := step_impl_editsText_0) (fun a b => a = b ∧ ∃ (t : ByteArray) (i : Nat), a = (t, l, (l.length : Int), (i : Int)) ∧ i ≤ l.length ∧ t.size ≤ i * 19)
    (fun o p => o = p ∧ o.size ≤ 760) (fun a => l.length - a.2.2.2.toNat) (by
    rintro a b ⟨rfl, t, i, rfl, hi, ht⟩
    rcases Nat.lt_or_ge i l.length with hlt | hge
    · right
      obtain ⟨y, y1, y2, y3⟩ := line_both (hok i hlt)
      have hw := wrap_succ (i := i) (by omega)
      have hg : decide (t.size + y.size ≤ 9223372036854775807) = true := decide_eq_true (by omega)
      refine ⟨(t ++ y, l, (l.length : Int), ((i + 1 : Nat) : Int)), _, ?_, ?_, ⟨rfl, _, i + 1, rfl, by omega, by simp only [ByteArray.size_append]; omega⟩, by simp; omega⟩
      · simp only [step_spec_joText_0, lt_len hlt, nonneg, Bool.and_self, cond_true, Int.toNat_natCast, y1, hg, hw]
      · simp only [step_impl_editsText_0, lt_len hlt, nonneg, Bool.and_self, cond_true, Int.toNat_natCast, y2, hg, hw]
    · left
      have : i = l.length := by omega
      subst this
      exact ⟨t, t, by simp only [step_spec_joText_0, not_lt_len, cond_false], by simp only [step_impl_editsText_0, not_lt_len, cond_false], rfl, by omega⟩) (⟨#[]⟩, l, (l.length : Int), 0) (⟨#[]⟩, l, (l.length : Int), 0) ⟨rfl, _, 0, rfl, by omega, by have hz : (⟨#[]⟩ : ByteArray).size = 0 := rfl; omega⟩
  exact ⟨o, by simp only [F_spec_joText, e1], by simp only [F_impl_editsText, e2], h⟩
theorem DrawTearText_ok {code : List Int} (h : CurOK 0 (code, ((0 : Int), (0 : Int)))) : ∃ l k, F_spec_DrawTearText code = some (l, k) ∧ SmallE l := by
  obtain ⟨c1, l, e1, h1, s1⟩ := edits_ok h (by omega)
  have hj := joGood_is l s1.fits
  cases hg : goodE l with
  | true =>
    obtain ⟨t, t1, _, t3⟩ := text_small hg
    have hw : IntKind.i64.wrap ((t.size : Int) + 1) = (t.size : Int) + 1 := wrap_id (by omega) (by omega)
    obtain ⟨c2, v2, e2, h2, _, _⟩ := pick_big h1 (by omega) (k := (t.size : Int) + 1) (by omega) (by omega)
    obtain ⟨c3, v3, e3, h3, _, _⟩ := pick_big h2 (by omega) (k := (t.size : Int) + 1) (by omega) (by omega)
    obtain ⟨c4, v4, e4, h4, _⟩ := among_ok h3 (by omega) (l := [0, (t.size : Int), v2, v3, (t.size : Int) + 1, (-1)]) (by simp) (by simp)
    exact ⟨l, v4, by simp only [F_spec_DrawTearText, e1, hj, hg, cond_true, t1, hw, e2, e3, e4], s1⟩
  | false =>
    have hw : IntKind.i64.wrap (0 + 1) = 1 := rfl
    obtain ⟨c2, v2, e2, h2, _, _⟩ := pick_ok h1 (by omega) (k := 1) (by omega) (by omega)
    obtain ⟨c3, v3, e3, h3, _, _⟩ := pick_ok h2 (by omega) (k := 1) (by omega) (by omega)
    obtain ⟨c4, v4, e4, h4, _⟩ := among_ok h3 (by omega) (l := [0, 0, v2, v3, 1, (-1)]) (by simp) (by simp)
    exact ⟨l, v4, by simp only [F_spec_DrawTearText, e1, hj, hg, cond_false, hw, e2, e3, e4], s1⟩
end Go.Proofs.YtldeplpiokdmpaaDoor
/- What the drawn texts of edits are like: plain laws. No conditions beyond those that are named. -/
set_option linter.unusedVariables false
set_option linter.unusedSimpArgs false
namespace Go.Proofs.YtldeplpiokdmpaaDoor
open Go
theorem spoilt_ok {n : Nat} {c : CurT} (h : CurOK n c) (hn : n ≤ 4611686018427100000) (t w : ByteArray) (ht : t.size ≤ 900000) (w0 : 1 ≤ w.size) (w1 : w.size ≤ 200) : ∃ c' t', F_spec_l1Cur_spoilt (c, t, w) = some (c', t') ∧ CurOK (n + 20) c' ∧ t'.size ≤ t.size + 2 := by
  obtain ⟨c1, v1, e1, h1, a0, a1⟩ := pick_ok h (by omega) (k := 2) (by omega) (by omega)
  have hw : IntKind.i64.wrap (1 + v1) = 1 + v1 := wrap_id (by omega) (by omega)
  obtain ⟨o, eo, q1, q2⟩ := runL_inv (f := step_spec_l1Cur_spoilt_0)
    (fun s => s.2.1 = w ∧ 0 ≤ s.2.2.1 ∧ s.2.2.1 ≤ 2 ∧ (s.1.size : Int) + s.2.2.1 ≤ (t.size : Int) + 2 ∧ CurOK (n + 16 - 6 * s.2.2.1.toNat) s.2.2.2)
    (fun o => o.1.size ≤ t.size + 2 ∧ CurOK (n + 20) o.2) (fun s => s.2.2.1.toNat) (by
    rintro ⟨x, w', k, c2⟩ ⟨r1, r2, r3, r4, r5⟩
    simp only at r1 r2 r3 r4 r5
    subst r1
    have r4' : x.size ≤ t.size + 2 := by omega
    have r5' : CurOK (n + 20) c2 := r5.mono (by omega)
    cases hk : decide (k > 0) with
    | false => exact .inl ⟨_, by simp only [step_spec_l1Cur_spoilt_0, hk, cond_false]; rfl, r4', r5'⟩
    | true =>
      have hk' := of_decide_eq_true hk
      cases hz : decide ((x.size : Int) > 0) with
      | false => exact .inl ⟨_, by simp only [step_spec_l1Cur_spoilt_0, hk, cond_true, hz, cond_false]; rfl, r4', r5'⟩
      | true =>
        right
        have hz' := of_decide_eq_true hz
        obtain ⟨c3, v3, e3, h3, b0, b1⟩ := pick_big r5 (by omega) (k := (x.size : Int)) (by omega) (by omega)
        obtain ⟨c4, v4, e4, h4, d0, d1⟩ := pick_ok h3 (by omega) (k := (w'.size : Int)) (by omega) (by omega)
        obtain ⟨c5, v5, e5, h5, f0, f1⟩ := pick_ok h4 (by omega) (k := 3) (by omega) (by omega)
        obtain ⟨i, rfl⟩ : ∃ i : Nat, v3 = (i : Int) := ⟨v3.toNat, by omega⟩
        have hi : i < x.size := by omega
        have hw1 : IntKind.i64.wrap (k - 1) = k - 1 := wrap_id (by omega) (by omega)
        have hw2 := wrap_succ (i := i) (by omega)
        have p0 : ((0 : Int)).toNat = 0 := rfl
        have g1 : decide (0 ≤ v4) = true := decide_eq_true d0
        have g2 : decide (v4 < (w'.size : Int)) = true := decide_eq_true d1
        have g3 : decide ((0 : Int) ≤ 0) = true := rfl
        have g4 : decide ((i : Int) ≤ (x.size : Int)) = true := decide_eq_true (by omega)
        have g5 : decide ((x.size : Int) ≤ (x.size : Int)) = true := decide_eq_true (by omega)
        have g6 : decide (((i + 1 : Nat) : Int) ≤ (x.size : Int)) = true := decide_eq_true (by omega)
        have z1 : (bytesStr [byteAt w' v4.toNat]).size = 1 := rfl
        have z2 : (x.extract 0 i).size = i := by rw [ByteArray.size_extract]; omega
        have z3 : (x.extract i x.size).size = x.size - i := by rw [ByteArray.size_extract]; omega
        have z4 : (x.extract (i + 1) x.size).size = x.size - (i + 1) := by rw [ByteArray.size_extract]; omega
        have s1 : decide (i + 1 ≤ 9223372036854775807) = true := decide_eq_true (by omega)
        have s2 : decide ((x.extract 0 i ++ bytesStr [byteAt w' v4.toNat]).size + (x.size - i) ≤ 9223372036854775807) = true := decide_eq_true (by rw [ByteArray.size_append, z1, z2]; omega)
        have s3 : decide ((x.extract 0 i ++ bytesStr [byteAt w' v4.toNat]).size + (x.size - (i + 1)) ≤ 9223372036854775807) = true := decide_eq_true (by rw [ByteArray.size_append, z1, z2]; omega)
        have s4 : decide (i + (x.size - (i + 1)) ≤ 9223372036854775807) = true := decide_eq_true (by omega)
        have hc : CurOK (n + 16 - 6 * (k - 1).toNat) c5 := h5.mono (by omega)
        cases q0 : (v5 == 0) with
        | true =>
          refine ⟨((x.extract 0 i ++ bytesStr [byteAt w' v4.toNat]) ++ x.extract i x.size, (w', k - 1, c5)), ?_, ⟨rfl, by show 0 ≤ k - 1; omega, by show k - 1 ≤ 2; omega, ?_, hc⟩, by show (k - 1).toNat < k.toNat; omega⟩
          · simp only [step_spec_l1Cur_spoilt_0, hk, hz, cond_true, e3, e4, e5, q0, g1, g2, g3, g4, g5, nonneg, Bool.and_self, hw1, p0, Int.toNat_natCast, z1, z2, z3, s1, s2]
          · show (((x.extract 0 i ++ bytesStr [byteAt w' v4.toNat]) ++ x.extract i x.size).size : Int) + (k - 1) ≤ _
            rw [ByteArray.size_append, ByteArray.size_append, z1, z2, z3]
            omega
        | false =>
          cases q1 : (v5 == 1) with
          | true =>
            refine ⟨((x.extract 0 i ++ bytesStr [byteAt w' v4.toNat]) ++ x.extract (i + 1) x.size, (w', k - 1, c5)), ?_, ⟨rfl, by show 0 ≤ k - 1; omega, by show k - 1 ≤ 2; omega, ?_, hc⟩, by show (k - 1).toNat < k.toNat; omega⟩
            · simp only [step_spec_l1Cur_spoilt_0, hk, hz, cond_true, cond_false, e3, e4, e5, q0, q1, g1, g2, g3, g4, g5, g6, nonneg, Bool.and_self, hw1, hw2, p0, Int.toNat_natCast, z1, z2, z4, s1, s3]
            · show (((x.extract 0 i ++ bytesStr [byteAt w' v4.toNat]) ++ x.extract (i + 1) x.size).size : Int) + (k - 1) ≤ _
              rw [ByteArray.size_append, ByteArray.size_append, z1, z2, z4]
              omega
          | false =>
            refine ⟨(x.extract 0 i ++ x.extract (i + 1) x.size, (w', k - 1, c5)), ?_, ⟨rfl, by show 0 ≤ k - 1; omega, by show k - 1 ≤ 2; omega, ?_, hc⟩, by show (k - 1).toNat < k.toNat; omega⟩
            · simp only [step_spec_l1Cur_spoilt_0, hk, hz, cond_true, cond_false, e3, e4, e5, q0, q1, g1, g2, g3, g4, g5, g6, nonneg, Bool.and_self, hw1, hw2, p0, Int.toNat_natCast, z2, z4, s4]
            · show ((x.extract 0 i ++ x.extract (i + 1) x.size).size : Int) + (k - 1) ≤ _
              rw [ByteArray.size_append, z2, z4]
              omega) (t, (w, 1 + v1, c1)) ⟨rfl, by show 0 ≤ 1 + v1; omega, by show 1 + v1 ≤ 2; omega, by show (t.size : Int) + (1 + v1) ≤ _; omega, h1.mono (by show n + 1 ≤ n + 16 - 6 * (1 + v1).toNat; omega)⟩
  exact ⟨o.2, o.1, by simp only [F_spec_l1Cur_spoilt, e1, hw, eo], q2, q1⟩

theorem fill_ok (c : CurT) (t : ByteArray) (ht : t.size ≤ 1000000) {N : Int} (n0 : 0 ≤ N) (n1 : N ≤ 2001) : ∃ o, runL step_spec_l1Cur_editText_0 (t, N, c) = some o ∧ o.2 = c ∧ o.1.size ≤ t.size + 2001 ∧ (t.size ≤ 2001 → o.1.size ≤ 2001) := by
  obtain ⟨o, eo, q1, q2, q3⟩ := runL_inv (f := step_spec_l1Cur_editText_0)
    (fun s => s.2.1 = N ∧ s.2.2 = c ∧ t.size ≤ s.1.size ∧ ((s.1.size : Int) ≤ N ∨ s.1 = t))
    (fun o => o.2 = c ∧ o.1.size ≤ t.size + 2001 ∧ (t.size ≤ 2001 → o.1.size ≤ 2001)) (fun s => 2001 - s.1.size) (by
    rintro ⟨x, k, c2⟩ ⟨r1, r2, r3, r4⟩
    simp only at r1 r2 r3 r4
    subst r1 r2
    cases hk : decide ((x.size : Int) < k) with
    | false =>
      refine .inl ⟨_, by simp only [step_spec_l1Cur_editText_0, hk, cond_false]; rfl, rfl, ?_, ?_⟩
      · show x.size ≤ _
        rcases r4 with q | rfl <;> omega
      · intro ht'
        show x.size ≤ _
        rcases r4 with q | rfl <;> omega
    | true =>
      right
      have hk' := of_decide_eq_true hk
      have z1 : (⟨#[120]⟩ : ByteArray).size = 1 := rfl
      have s1 : decide (x.size + 1 ≤ 9223372036854775807) = true := decide_eq_true (by omega)
      refine ⟨(x ++ (⟨#[120]⟩ : ByteArray), (k, c2)), by simp only [step_spec_l1Cur_editText_0, hk, cond_true, z1, s1], ⟨rfl, rfl, ?_, .inl ?_⟩, ?_⟩
      · show t.size ≤ (x ++ _).size
        rw [ByteArray.size_append, z1]; omega
      · show ((x ++ (⟨#[120]⟩ : ByteArray)).size : Int) ≤ k
        rw [ByteArray.size_append, z1]; omega
      · show 2001 - (x ++ (⟨#[120]⟩ : ByteArray)).size < 2001 - x.size
        rw [ByteArray.size_append, z1]; omega) (t, N, c) ⟨rfl, rfl, Nat.le_refl _, .inr rfl⟩
  exact ⟨o, eo, q1, q2, q3⟩

abbrev signs : ByteArray := ⟨#[43, 45, 46, 10, 48, 49, 71, 79]⟩
theorem editText_ok {n : Nat} {c : CurT} (h : CurOK n c) (hn : n ≤ 4611686018427000000) : ∃ c' t, F_spec_l1Cur_editText c = some (c', t) ∧ t.size ≤ 2001 := by
  obtain ⟨c1, l, e1, h1, s1⟩ := edits_ok h (by omega)
  have hj := joGood_is l s1.fits
  cases hg : goodE l with
  | false =>
    obtain ⟨c2, t, e2, _, m2⟩ := of_ok h1 (by omega) (l := [(⟨#[]⟩ : ByteArray), (⟨#[10]⟩ : ByteArray), (⟨#[49, 43, 71, 79, 46, 53, 10]⟩ : ByteArray), (⟨#[120]⟩ : ByteArray)]) (by simp) (by simp)
    have z2 : t.size ≤ 2001 := by
      simp only [List.mem_cons, List.not_mem_nil, or_false] at m2
      rcases m2 with rfl | rfl | rfl | rfl <;> decide
    exact ⟨c2, t, by simp only [F_spec_l1Cur_editText, e1, hj, hg, Bool.not_false, cond_true, e2], z2⟩
  | true =>
    obtain ⟨t, t1, _, t3⟩ := text_small hg
    obtain ⟨c2, v, e2, h2, v0, v1⟩ := pick_ok h1 (by omega) (k := 5) (by omega) (by omega)
    have hw : IntKind.i64.wrap ((t.size : Int) + 1) = (t.size : Int) + 1 := wrap_id (by omega) (by omega)
    obtain ⟨c3, k3, e3, _, k0, k1⟩ := pick_big h2 (by omega) (k := (t.size : Int) + 1) (by omega) (by omega)
    obtain ⟨c4, t4, e4, _, z4⟩ := spoilt_ok h2 (by omega) t signs (by omega) (by decide) (by decide)
    obtain ⟨c5, b5, e5, h5⟩ := one_ok h2 (by omega) (k := 4) (by omega) (by omega)
    obtain ⟨c6, v6, e6, h6, d0, d1⟩ := pick_ok h5 (by omega) (k := 2) (by omega) (by omega)
    have hw6 : IntKind.i64.wrap (2000 + v6) = 2000 + v6 := wrap_id (by omega) (by omega)
    obtain ⟨o, eo, o1, _, o3⟩ := fill_ok c6 t (by omega) (N := 2000 + v6) (by omega) (by omega)
    have hs : decide (t.size + t.size ≤ 9223372036854775807) = true := decide_eq_true (by omega)
    have g0 : decide ((0 : Int) ≤ 0) = true := rfl
    have g1 : decide (0 ≤ k3) = true := decide_eq_true k0
    have g2 : decide (k3 ≤ (t.size : Int)) = true := decide_eq_true (by omega)
    have e4' : F_spec_l1Cur_spoilt (c2, t, (⟨#[43, 45, 46, 10, 48, 49, 71, 79]⟩ : ByteArray)) = some (c4, t4) := e4
    cases q0 : (v == 0) with
    | true => exact ⟨c3, t.extract (0 : Int).toNat k3.toNat, by simp only [F_spec_l1Cur_editText, e1, hj, hg, Bool.not_true, cond_false, t1, e2, q0, cond_true, hw, e3, g0, g1, g2, Bool.and_self], Nat.le_trans (size_extract_le _ _ _) (by omega)⟩
    | false =>
      cases q1 : (v == 1) with
      | true => exact ⟨c4, t4, by simp only [F_spec_l1Cur_editText, e1, hj, hg, Bool.not_true, cond_false, t1, e2, q0, q1, cond_true, e4'], by omega⟩
      | false =>
        cases q2 : (v == 2) with
        | true => exact ⟨c4, t4, by simp only [F_spec_l1Cur_editText, e1, hj, hg, Bool.not_true, cond_false, t1, e2, q0, q1, q2, cond_true, e4'], by omega⟩
        | false =>
          cases q3 : (v == 3) with
          | true =>
            cases b5 with
            | true => exact ⟨o.2, o.1, by simp only [F_spec_l1Cur_editText, e1, hj, hg, Bool.not_true, cond_false, t1, e2, q0, q1, q2, q3, cond_true, e5, e6, hw6, eo], o3 (by omega)⟩
            | false => exact ⟨c5, t ++ t, by simp only [F_spec_l1Cur_editText, e1, hj, hg, Bool.not_true, cond_false, t1, e2, q0, q1, q2, q3, cond_true, e5, hs], by rw [ByteArray.size_append]; omega⟩
          | false => exact ⟨c2, t, by simp only [F_spec_l1Cur_editText, e1, hj, hg, Bool.not_true, cond_false, t1, e2, q0, q1, q2, q3], by omega⟩
theorem DrawSalvage_ok {code : List Int} (h : CurOK 0 (code, ((0 : Int), (0 : Int)))) : ∃ t, F_spec_DrawSalvageEdits code = some t ∧ t.size ≤ 2001 := by
  obtain ⟨c', t, e, z⟩ := editText_ok h (by omega)
  exact ⟨t, by simp only [F_spec_DrawSalvageEdits, F_spec_DrawReadEdits, e], z⟩
theorem DrawDamageText_ok {code : List Int} (h : CurOK 0 (code, ((0 : Int), (0 : Int)))) : ∃ l k b, F_spec_DrawDamageText code = some (l, k, b) ∧ SmallE l := by
  obtain ⟨l, k, e1, s1⟩ := DrawTearText_ok h
  obtain ⟨c2, v2, e2, h2, _, _⟩ := pick_big h (by omega) (k := 256) (by omega) (by omega)
  obtain ⟨c3, v3, e3, h3, _⟩ := among_ok h2 (by omega) (l := [46, (-1), 256]) (by simp) (by simp)
  obtain ⟨c4, v4, e4, h4, _⟩ := among_ok h3 (by omega) (l := [0, 10, 43, 65, 255, v2, v3]) (by simp) (by simp)
  exact ⟨l, k, v4, by simp only [F_spec_DrawDamageText, e1, e2, e3, e4], s1⟩
theorem DrawParse_ok {code : List Int} (h : CurOK 0 (code, ((0 : Int), (0 : Int)))) : ∃ t, F_spec_DrawParseEditLine code = some t ∧ t.size ≤ 1048576 := by
  obtain ⟨c1, k1, e1, h1, _⟩ := among_ok h (by omega) (l := [1, 7, 12, 999]) (by simp) (by simp)
  obtain ⟨c2, e, e2, h2, z2⟩ := edit_ok h1 (by omega) k1
  obtain ⟨c3, b3, e3, h3⟩ := one_ok h2 (by omega) (k := 3) (by omega) (by omega)
  have ho := joOne_is e (by omega)
  cases hok : edOK e with
  | true =>
    obtain ⟨t, t1, _, t3⟩ := line_both hok
    obtain ⟨c4, t4, e4, _, z4⟩ := spoilt_ok h3 (by omega) t signs (by omega) (by decide) (by decide)
    have e4' : F_spec_l1Cur_spoilt (c3, t, (⟨#[43, 45, 46, 10, 48, 49, 71, 79]⟩ : ByteArray)) = some (c4, t4) := e4
    cases b3 with
    | true => exact ⟨t4, by simp only [F_spec_DrawParseEditLine, e1, e2, ho, hok, cond_true, t1, e3, e4'], by omega⟩
    | false => exact ⟨t, by simp only [F_spec_DrawParseEditLine, e1, e2, ho, hok, cond_true, cond_false, t1, e3], by omega⟩
  | false =>
    obtain ⟨c4, t4, e4, _, z4⟩ := spoilt_ok h3 (by omega) (⟨#[49, 43, 71, 79, 46, 53, 10]⟩ : ByteArray) signs (by decide) (by decide) (by decide)
    have e4' : F_spec_l1Cur_spoilt (c3, (⟨#[49, 43, 71, 79, 46, 53, 10]⟩ : ByteArray), (⟨#[43, 45, 46, 10, 48, 49, 71, 79]⟩ : ByteArray)) = some (c4, t4) := e4
    have z : (⟨#[49, 43, 71, 79, 46, 53, 10]⟩ : ByteArray).size = 7 := rfl
    cases b3 with
    | true => exact ⟨t4, by simp only [F_spec_DrawParseEditLine, e1, e2, ho, hok, cond_true, cond_false, e3, e4'], by omega⟩
    | false => exact ⟨(⟨#[49, 43, 71, 79, 46, 53, 10]⟩ : ByteArray), by simp only [F_spec_DrawParseEditLine, e1, e2, ho, hok, cond_false, e3], by decide⟩
end Go.Proofs.YtldeplpiokdmpaaDoor
/- The law of DamageText, as plain Lean: it answers true. Lengths fit an int. -/
set_option linter.unusedVariables false
set_option linter.unusedSimpArgs false
namespace Go.Proofs.YtldeplpiokdmpaaDoor
open Go

theorem bytes_set (t : ByteArray) (i : Nat) (hi : i < t.size) (n : Int) : bytesStr ((strBytes t).set i n) = (t.extract 0 i ++ bytesStr [n]) ++ t.extract (i + 1) t.size := by
  have hl : t.data.toList.length = t.size := Array.length_toList
  have e1 : (bytesStr ((strBytes t).set i n)).data.toList = t.data.toList.set i (UInt8.ofNat n.toNat) := by
    unfold bytesStr strBytes
    show ((List.map (fun b : UInt8 => (b.toNat : Int)) t.data.toList).set i n).map (fun n => UInt8.ofNat n.toNat) = _
    rw [List.map_set, List.map_map]
    congr 1
    have : ((fun n : Int => UInt8.ofNat n.toNat) ∘ fun b : UInt8 => (b.toNat : Int)) = id := by
      funext b
      simp
    rw [this, List.map_id]
  have e2 : ((t.extract 0 i ++ bytesStr [n]) ++ t.extract (i + 1) t.size).data.toList = t.data.toList.take i ++ [UInt8.ofNat n.toNat] ++ t.data.toList.drop (i + 1) := by
    rw [ByteArray.data_append, ByteArray.data_append, Array.toList_append, Array.toList_append, Lib.extract_from_zero, Lib.extract_to_end]
    rfl
  have e3 : (bytesStr ((strBytes t).set i n)).data.toList = ((t.extract 0 i ++ bytesStr [n]) ++ t.extract (i + 1) t.size).data.toList := by
    rw [e1, e2, List.set_eq_take_append_cons_drop, if_pos (by omega), List.append_assoc]
    rfl
  exact ByteArray.ext (Array.toList_inj.1 e3)

theorem u8_id {n : Int} (h0 : 0 ≤ n) (h1 : n ≤ 255) : IntKind.u8.wrap n = n := by
  simp [IntKind.wrap, IntKind.bits, IntKind.signed]
  omega

end Go.Proofs.YtldeplpiokdmpaaDoor
/- The law of Salvage, as plain Lean: it answers true. Lengths fit an int; bytes are bytes. -/
set_option linter.unusedVariables false
set_option linter.unusedSimpArgs false
namespace Go.Proofs.YtldeplpiokdmpaaDoor
open Go
theorem byte_wf {n : Int} (h : (Lit.int .u8 n).wf = true) : 0 ≤ n ∧ n ≤ 255 := by
  simp only [Lit.wf, Bool.and_eq_true, decide_eq_true_eq] at h
  have h1 : IntKind.u8.min = 0 := by decide
  have h2 : IntKind.u8.max = 255 := by decide
  omega

/-! ### Lists of edits are equal to themselves -/
theorem qEdits_refl (l : List Edit) (hl : l.length ≤ 1048576) : F_laws_qEdits (l, l) = some true := by
  have t := runL_traj (f := step_laws_qEdits_0) (fun i => (l, l, (l.length : Int), (i : Int))) (.inr ()) l.length (fun i hi => by
    have hw := wrap_succ (i := i) (by omega)
    simp only [step_laws_qEdits_0, lt_len hi, nonneg, Bool.and_self, cond_true, Int.toNat_natCast, hw, BEq.rfl, Bool.and_true, Bool.not_true, cond_false]) (by simp only [step_laws_qEdits_0, not_lt_len, cond_false])
  have t' : runL step_laws_qEdits_0 (l, l, (l.length : Int), (0 : Int)) = some (.inr ()) := t
  simp only [F_laws_qEdits, bne_self_eq_false, cond_false, t']

/-! ### What is read is the beginning of the text -/
def catL (qs : List ByteArray) : List UInt8 := qs.flatMap fun q => q.data.toList
theorem catL_cons (q : ByteArray) (qs : List ByteArray) : catL (q :: qs) = q.data.toList ++ catL qs := rfl
theorem catL_append (a b : List ByteArray) : catL (a ++ b) = catL a ++ catL b := by simp [catL]
theorem linesN_cat : ∀ (n : Nat) (s : ByteArray), s.size ≤ n → catL (linesN n s) = s.data.toList
  | 0, s, h => by
    have : s.data.toList = [] := List.eq_nil_of_length_eq_zero (by have : s.data.toList.length = s.size := rfl; omega)
    rw [this]
    rfl
  | n + 1, s, h => by
    have hlen : s.data.toList.length = s.size := rfl
    simp only [linesN]
    cases h0 : (s.size == 0) with
    | true =>
      have h0' : s.size = 0 := by simpa using h0
      have : s.data.toList = [] := List.eq_nil_of_length_eq_zero (by omega)
      rw [this]
      rfl
    | false =>
      simp only [cond_false]
      cases hi : decide (0 ≤ Lib.indexByte s.data.toList 10) with
      | false => simp only [cond_false]; simp [catL]
      | true =>
        simp only [cond_true]
        have hi' := of_decide_eq_true hi
        obtain ⟨o, ho⟩ : ∃ o : Nat, Lib.indexByte s.data.toList 10 = (o : Int) := ⟨_, (Int.toNat_of_nonneg hi').symm⟩
        have hlt : o < s.data.toList.length := by
          have := (Lib.indexByte_some ho).1
          exact (List.getElem?_eq_some_iff.1 this).1
        rw [ho, Int.toNat_natCast, catL_cons, linesN_cat n _ (by rw [ByteArray.size_extract]; omega), ext_data, ext_data, List.drop_zero, Nat.sub_zero]
        have : (s.data.toList.drop (o + 1)).take (s.size - (o + 1)) = s.data.toList.drop (o + 1) := List.take_of_length_le (by simp)
        rw [this, List.take_append_drop]
theorem lines_cat (x : ByteArray) : catL (linesOf x) = x.data.toList := linesN_cat _ _ (by first | exact Nat.le_refl _ | omega)

def szs (qs : List ByteArray) : Int := ((catL qs).length : Int)
theorem nxt_more : ∀ (ls : List ByteArray) (out : List Edit), ∃ more, ls.foldl nxt out = out ++ more
  | [], out => ⟨[], by simp⟩
  | p :: ls, out => by
    obtain ⟨m, h⟩ := nxt_more ls (nxt out p)
    rw [List.foldl_cons, h]
    unfold nxt
    cases takes out p with
    | true => exact ⟨[(pr p).1] ++ m, by simp⟩
    | false => exact ⟨m, by simp⟩
theorem rd_split : ∀ (ps : List ByteArray) (out : List Edit) (n : Int), ∃ qs rest, ps = qs ++ rest ∧ rd ps out n = (out ++ qs.map (fun p => (pr p).1), n + szs qs) ∧ (∀ p ∈ qs, (pr p).2 = true) ∧ ps.foldl nxt out = rest.foldl nxt (out ++ qs.map (fun p => (pr p).1))
  | [], out, n => ⟨[], [], rfl, by simp [rd, szs, catL], fun _ h => (by cases h), by simp⟩
  | p :: ps, out, n => by
    cases ht : takes out p with
    | false => exact ⟨[], p :: ps, rfl, by simp [rd, ht, szs, catL], fun _ h => (by cases h), by simp⟩
    | true =>
      obtain ⟨qs, rest, h1, h2, h3, h4⟩ := rd_split ps (out ++ [(pr p).1]) (n + (p.size : Int))
      refine ⟨p :: qs, rest, by rw [h1]; rfl, ?_, fun q hq => ?_, ?_⟩
      · simp only [rd, ht, cond_true, h2, List.map_cons]
        have hz : n + (p.size : Int) + szs qs = n + szs (p :: qs) := by
          have : p.data.toList.length = p.size := rfl
          simp only [szs, catL_cons, List.length_append]
          omega
        rw [hz, List.append_assoc]
        rfl
      · rcases List.mem_cons.1 hq with rfl | hq
        · exact (and_b ht).1
        · exact h3 q hq
      · have hn : nxt out p = out ++ [(pr p).1] := by unfold nxt; rw [ht]; rfl
        rw [List.foldl_cons, hn, h4, List.map_cons, List.append_assoc]
        rfl
theorem joText_cat (qs : List ByteArray) (hq : qs.length ≤ 1048576) (hs : (catL qs).length ≤ 1048576) (hp : ∀ p ∈ qs, (pr p).2 = true) : F_spec_joText (qs.map fun p => (pr p).1) = some (ba (catL qs)) := by
  have hl : (qs.map fun p => (pr p).1).length = qs.length := by simp
  have t := runL_traj (f := step_spec_joText_0) (fun i => (ba (catL (qs.take i)), (qs.map fun p => (pr p).1), (((qs.map fun p => (pr p).1).length : Nat) : Int), (i : Int))) (ba (catL qs)) (qs.map fun p => (pr p).1).length (fun i hi => by
    have hi' : i < qs.length := by omega
    have hw := wrap_succ (i := i) (by omega)
    have hcut : catL (qs.take (i + 1)) = catL (qs.take i) ++ (qs.getD i ByteArray.empty).data.toList := by
      rw [take_succ_getD hi' ByteArray.empty, catL_append]; simp [catL]
    have hall : (catL (qs.take (i + 1))).length ≤ (catL qs).length := by
      have : catL qs = catL (qs.take (i + 1)) ++ catL (qs.drop (i + 1)) := by rw [← catL_append, List.take_append_drop]
      rw [this, List.length_append]; omega
    have hmem : qs.getD i ByteArray.empty ∈ qs := getD_mem hi' _
    have hsz : (qs.getD i ByteArray.empty).size ≤ 1048576 := by
      have : (qs.getD i ByteArray.empty).data.toList.length = (qs.getD i ByteArray.empty).size := rfl
      rw [hcut, List.length_append] at hall
      omega
    have hj := ((pr_is hsz).2.2 (hp _ hmem)).2
    have hget : (qs.map fun p => (pr p).1).getD i (0, ByteArray.empty, false) = (pr (qs.getD i ByteArray.empty)).1 := by
      simp [List.getD, List.getElem?_eq_getElem hi']
    have hg : decide ((ba (catL (qs.take i))).size + (qs.getD i ByteArray.empty).size ≤ 9223372036854775807) = true := decide_eq_true (by
      have : (qs.getD i ByteArray.empty).data.toList.length = (qs.getD i ByteArray.empty).size := rfl
      rw [hcut, List.length_append] at hall
      rw [ba_size]
      omega)
    have hcat : ba (catL (qs.take i)) ++ qs.getD i ByteArray.empty = ba (catL (qs.take (i + 1))) := by
      rw [hcut, ← ba_app, ← eq_ba]
    simp only [step_spec_joText_0, lt_len hi, nonneg, Bool.and_self, cond_true, Int.toNat_natCast, hget, hj, hg, hw, hcat]) (by simp only [step_spec_joText_0, not_lt_len, cond_false, hl, List.take_length])
  have t' : runL step_spec_joText_0 ((⟨#[]⟩ : ByteArray), (qs.map fun p => (pr p).1), (((qs.map fun p => (pr p).1).length : Nat) : Int), (0 : Int)) = some (ba (catL qs)) := t
  simp only [F_spec_joText, t']

theorem both_same (x : ByteArray) (hx : x.size ≤ 1048576) :
    (F_spec_SalvageEdits x = some ([], false) ∧ F_impl_SalvageEdits x = some ([], false) ∧ F_spec_ReadEdits x = some ([], 0, false) ∧ F_impl_ReadEdits x = some ([], 0, false)) ∨
    ∃ (v r : List Edit) (n : Nat), F_spec_SalvageEdits x = some (v, true) ∧ F_impl_SalvageEdits x = some (v, true) ∧ F_spec_ReadEdits x = some (r, (n : Int), true) ∧ F_impl_ReadEdits x = some (r, (n : Int), true) ∧
      goodE v = true ∧ goodE r = true ∧ (∃ more, v = r ++ more) ∧ n ≤ x.size ∧ F_spec_joText r = some (x.extract 0 n) ∧ F_impl_editsText r = some (x.extract 0 n) := by
  by_cases hb : (x.size : Int) > 2000
  · exact .inl ⟨by simp only [F_spec_SalvageEdits, decide_eq_true hb, cond_true], by simp only [F_impl_SalvageEdits, decide_eq_true hb, cond_true], by simp only [F_spec_ReadEdits, decide_eq_true hb, cond_true], by simp only [F_impl_ReadEdits, decide_eq_true hb, cond_true]⟩
  · right
    obtain ⟨ps, tl, h1, h2, h3, h4⟩ := parts_is x hx
    have hall : ∀ p ∈ linesOf x, p.size ≤ 1048576 := fun p hp => Nat.le_trans (linesN_mem _ _ _ hp) hx
    have hps : ∀ p ∈ ps, p.size ≤ 1048576 := fun p hp => hall p (by rw [h2]; exact List.mem_append_left _ hp)
    have hs := salvage_spec ps (by omega) hps
    have hi := salvage_fold (linesOf x) [] hall good_nil
    have ht : (linesOf x).foldl nxt [] = ps.foldl nxt [] := by
      rw [h2, List.foldl_append]
      rcases h4 with rfl | ⟨s, rfl, hs1, hs2⟩
      · rfl
      · simp only [List.foldl_cons, List.foldl_nil]
        unfold nxt
        simp only [takes, pr_torn (by omega) hs2, Bool.false_and, cond_false]
    rw [ht] at hi
    have ks := read_spec ps (by omega) hps ps.length 0 [] 0 (by omega) (by omega) good_nil (by omega) ⟨by simp⟩
    rw [List.drop_zero] at ks
    have ks' : runL step_spec_ReadEdits_0 (0, (ps.length : Int), 0, ps, []) = some ((rd ps [] 0).2, (rd ps [] 0).1) := ks
    have kt : rd (linesOf x) [] 0 = rd ps [] 0 := by
      rw [h2]
      rcases h4 with rfl | ⟨s, rfl, hs1, hs2⟩
      · rw [List.append_nil]
      · exact rd_tail s (pr_torn (by omega) hs2) ps [] 0
    have ki : F_impl_ReadEdits x = some ((rd ps [] 0).1, (rd ps [] 0).2, true) := by
      rcases read_fold (linesOf x) [] 0 hall good_nil (by omega) ⟨by simp⟩ with hi | hi
      · rw [kt] at hi
        simp only [F_impl_ReadEdits, decide_eq_false hb, cond_false, hi]
      · rw [kt] at hi
        simp only [F_impl_ReadEdits, decide_eq_false hb, cond_false, hi]
    have hgr := rd_good ps [] 0 hps good_nil
    obtain ⟨qs, rest, q1, q2, q3, q4⟩ := rd_split ps [] 0
    obtain ⟨more, hm⟩ := nxt_more rest ([] ++ qs.map (fun p => (pr p).1))
    have hx2 : x.data.toList = catL qs ++ catL (rest ++ tl) := by rw [← lines_cat x, h2, q1, List.append_assoc, catL_append]
    have hxl : x.data.toList.length = x.size := rfl
    have hq : (catL qs).length ≤ x.size := by rw [← hxl, hx2, List.length_append]; omega
    have hext : x.extract 0 (catL qs).length = ba (catL qs) := by
      apply data_inj
      rw [ext_data, hx2, List.drop_zero, Nat.sub_zero, List.take_left']
      · rfl
      · rfl
    have hr1 : (rd ps [] 0).1 = qs.map fun p => (pr p).1 := by rw [q2]; simp
    have hr2 : (rd ps [] 0).2 = (((catL qs).length : Nat) : Int) := by rw [q2]; simp [szs]
    rw [hr1] at hgr ks' ki
    rw [hr2] at ks' ki
    have hj := joText_cat qs (by rw [q1, List.length_append] at h3; omega) (by omega) q3
    obtain ⟨t, t1, t2, _⟩ := text_small hgr
    rw [hj] at t1
    rw [← Option.some.inj t1] at t2
    refine ⟨ps.foldl nxt [], qs.map (fun p => (pr p).1), (catL qs).length, by simp only [F_spec_SalvageEdits, decide_eq_false hb, cond_false, h1, hs], by simp only [F_impl_SalvageEdits, decide_eq_false hb, cond_false, hi], by simp only [F_spec_ReadEdits, decide_eq_false hb, cond_false, h1, ks'], ki, fold_good ps [] hps good_nil, hgr, ⟨more, ?_⟩, hq, by rw [hj, hext], by rw [t2, hext]⟩
    rw [q4, hm]
    simp

/-! ### Damage -/
theorem damage_more (l : List Edit) (k n : Int) (hf : FitsE l) : ∃ o, F_spec_DamageText (l, k, n) = some o ∧ F_impl_DamageText (l, k, n) = some o ∧ (o.2 = true → ∃ t, F_spec_EditsText l = some (t, true) ∧ t.size ≤ 760 ∧ o.1.size = t.size ∧ ∀ i, i < t.size → (i : Int) ≠ k → byteAt o.1 i = byteAt t i) := by
  cases hok : goodE l with
  | false => exact ⟨(⟨#[]⟩, false), by simp [F_spec_DamageText, joGood_is l hf, hok], by simp [F_impl_DamageText, AreEdits_is l hf, hok], fun h => (by cases h)⟩
  | true =>
    obtain ⟨t, t1, t2, t3⟩ := text_small hok
    have hw : IntKind.i64.wrap ((t.size : Int) - 1) = (t.size : Int) - 1 := wrap_id (by omega) (by omega)
    by_cases h0 : 0 ≤ k
    · by_cases h1 : k ≤ (t.size : Int) - 1
      · by_cases h2 : 0 ≤ n
        · by_cases h3 : n ≤ 255
          · obtain ⟨i, rfl⟩ : ∃ i : Nat, k = (i : Int) := ⟨k.toNat, by omega⟩
            have hi : i < t.size := by omega
            have hs : (strBytes t).length = t.size := by unfold strBytes; rw [List.length_map]; exact Array.length_toList
            have w8 := u8_id h2 h3
            have w1 : IntKind.i64.wrap ((i : Int) + 1) = ((i + 1 : Nat) : Int) := wrap_succ (by omega)
            have z1 : (bytesStr [n]).size = 1 := rfl
            have z2 : (t.extract 0 i).size = i := by rw [ByteArray.size_extract]; omega
            have z3 : (t.extract (i + 1) t.size).size = t.size - (i + 1) := by rw [ByteArray.size_extract]; omega
            have p0 : ((0 : Int)).toNat = 0 := rfl
            have d1 : decide ((0 : Int) ≤ 0) = true := rfl
            have d2 : decide ((i : Int) ≤ (t.size : Int) - 1) = true := decide_eq_true h1
            have d3 : decide ((0 : Int) ≤ n) = true := decide_eq_true h2
            have d4 : decide (n ≤ (255 : Int)) = true := decide_eq_true h3
            have d5 : decide ((i : Int) < (t.size : Int)) = true := decide_eq_true (by omega)
            have d6 : decide ((i : Int) ≤ (t.size : Int)) = true := decide_eq_true (by omega)
            have d7 : decide (((i + 1 : Nat) : Int) ≤ (t.size : Int)) = true := decide_eq_true (by omega)
            have d8 : decide ((t.size : Int) ≤ (t.size : Int)) = true := decide_eq_true (by omega)
            have d9 : decide (i + 1 ≤ 9223372036854775807) = true := decide_eq_true (by omega)
            have d10 : decide ((t.extract 0 i ++ bytesStr [n]).size + (t.size - (i + 1)) ≤ 9223372036854775807) = true := decide_eq_true (by rw [ByteArray.size_append, z1, z2]; omega)
            refine ⟨((t.extract 0 i ++ bytesStr [n]) ++ t.extract (i + 1) t.size, true), ?_, ?_, fun _ => ⟨t, by simp only [F_spec_EditsText, joGood_is l hf, hok, Bool.not_true, cond_false, t1], t3, ?_, fun j hj hne => ?_⟩⟩
            · simp only [F_spec_DamageText, joGood_is l hf, hok, t1, hw, l1In_is, nonneg, d2, d3, d4, Bool.and_self, Bool.not_true, cond_false, cond_true, d1, d6, w8, w1, d7, d8, p0, Int.toNat_natCast, z2, z1, z3, d9, d10]
            · simp only [F_impl_DamageText, AreEdits_is l hf, hok, t2, hw, within_is, nonneg, d2, d3, d4, Bool.and_self, Bool.not_true, cond_false, cond_true, w8, hs, d5, Int.toNat_natCast, bytes_set t i hi n]
            · rw [ByteArray.size_append, ByteArray.size_append, z1, z2, z3]; omega
            · have hlen : t.data.toList.length = t.size := rfl
              have e : ((t.extract 0 i ++ bytesStr [n]) ++ t.extract (i + 1) t.size) = ba (t.data.toList.take i ++ ((bytesStr [n]).data.toList ++ t.data.toList.drop (i + 1))) := by
                rw [eq_ba (t.extract 0 i), eq_ba (bytesStr [n]), eq_ba (t.extract (i + 1) t.size), ba_app, ba_app, ext_data, ext_data, List.drop_zero, Nat.sub_zero, List.append_assoc, ba_data]
                congr 3
                exact List.take_of_length_le (by simp)
              show byteAt ((t.extract 0 i ++ bytesStr [n]) ++ t.extract (i + 1) t.size) j = byteAt t j
              rw [e, ba_byteAt]
              have hb : byteAt t j = ((t.data.toList.getD j 0).toNat : Int) := rfl
              rw [hb]
              congr 2
              have hz : (bytesStr [n]).data.toList.length = 1 := rfl
              rcases Nat.lt_or_ge j i with hlt | hge
              · simp only [List.getD]
                rw [List.getElem?_append_left (by simp; omega), List.getElem?_take, if_pos hlt]
              · have hji : j ≠ i := fun e => hne (by rw [e])
                simp only [List.getD]
                rw [List.getElem?_append_right (by simp; omega), List.getElem?_append_right (by simp; omega), List.getElem?_drop]
                congr 2
                simp
                try omega
          · exact ⟨(⟨#[]⟩, false), by simp [F_spec_DamageText, joGood_is l hf, hok, t1, hw, l1In_is, h0, h1, h2, h3], by simp [F_impl_DamageText, AreEdits_is l hf, hok, t2, hw, within_is, h0, h1, h2, h3], fun h => (by cases h)⟩
        · exact ⟨(⟨#[]⟩, false), by simp [F_spec_DamageText, joGood_is l hf, hok, t1, hw, l1In_is, h0, h1, h2], by simp [F_impl_DamageText, AreEdits_is l hf, hok, t2, hw, within_is, h0, h1, h2], fun h => (by cases h)⟩
      · exact ⟨(⟨#[]⟩, false), by simp [F_spec_DamageText, joGood_is l hf, hok, t1, hw, l1In_is, h0, h1], by simp [F_impl_DamageText, AreEdits_is l hf, hok, t2, hw, within_is, h0, h1], fun h => (by cases h)⟩
    · exact ⟨(⟨#[]⟩, false), by simp [F_spec_DamageText, joGood_is l hf, hok, t1, hw, l1In_is, h0], by simp [F_impl_DamageText, AreEdits_is l hf, hok, t2, hw, within_is, h0], fun h => (by cases h)⟩
theorem apart (k : Int) (d t u : ByteArray) (five : Bool) (e : Edit) (hd : d.size = t.size) (ht : t.size ≤ 760) (h : ∀ i, i < t.size → (i : Int) ≠ k → byteAt d i = byteAt t i) :
    runL step_laws_FnSalvage_0 (k, d, (u, five, (t, 0, (e.1, e.2.1, e.2.2)))) = some (.inr (u, five, (e.1, e.2.1, e.2.2))) := by
  have tr := runL_traj (f := step_laws_FnSalvage_0) (fun i => (k, d, (u, five, (t, (i : Int), (e.1, e.2.1, e.2.2))))) (.inr (u, five, (e.1, e.2.1, e.2.2))) t.size (fun i hi => by
    have hw := wrap_succ (i := i) (by omega)
    have g1 : decide ((i : Int) < (t.size : Int)) = true := decide_eq_true (by omega)
    have g2 : decide ((i : Int) < (d.size : Int)) = true := decide_eq_true (by omega)
    by_cases hk : (i : Int) = k
    · have hb : ((i : Int) != k) = false := by simp [hk]
      simp only [step_laws_FnSalvage_0, g1, cond_true, hb, cond_false, hw]
    · have hb : ((i : Int) != k) = true := by simp [hk]
      have hby : (byteAt d i != byteAt t i) = false := by simp [h i hi hk]
      simp only [step_laws_FnSalvage_0, g1, g2, cond_true, hb, nonneg, Bool.and_self, Int.toNat_natCast, hby, cond_false, hw]) (by simp only [step_laws_FnSalvage_0, not_lt_len, cond_false])
  exact tr

/-! ### The law -/
theorem law_FnSalvage (code more : List Int) (h1 : code.length ≤ 9223372036854775807) (h2 : more.length ≤ 9223372036854775807) (b1 : ∀ b ∈ code, 0 ≤ b ∧ b ≤ 255) (b2 : ∀ b ∈ more, 0 ≤ b ∧ b ≤ 255) : F_laws_FnSalvage (code, more) = some true := by
  cases hb : decide (IntKind.i64.wrap ((code.length : Int) + (more.length : Int)) > 1048576) with
  | true => simp only [F_laws_FnSalvage, hb, cond_true]
  | false =>
    have C1 : CurOK 0 (code, ((0 : Int), (0 : Int))) := ⟨h1, b1, by simp, by simp⟩
    have C2 : CurOK 0 (more, ((0 : Int), (0 : Int))) := ⟨h2, b2, by simp, by simp⟩
    obtain ⟨x, d1, zx⟩ := DrawSalvage_ok C1
    obtain ⟨l, k, b, d2, sl⟩ := DrawDamageText_ok C2
    obtain ⟨u, d3, zu⟩ := DrawParse_ok C2
    obtain ⟨o, D1, D2, D3⟩ := damage_more l k b sl.fits
    obtain ⟨r, p1, p2, p3⟩ := parse_same u zu
    have p1' : F_spec_ParseEditLine u = some r := by simp only [F_spec_ParseEditLine, p1]
    have he : r.2 = true → F_impl_EditLine (r.1.1, r.1.2.1, r.1.2.2) = some (u, true) := fun hr => by
      obtain ⟨ok, _, hl⟩ := p3 hr
      have hs : r.1.2.1.size ≤ 8 := (gl_bytes (edOK_parts ok).2.2).1
      show F_impl_EditLine r.1 = _
      simp only [F_impl_EditLine, isLogEdit_is r.1 (by omega), ok, Bool.not_true, cond_false, hl]
    rcases both_same x (by omega) with ⟨s1, s2, s3, s4⟩ | ⟨v, q, n, s1, s2, s3, s4, gv, gq, ⟨mm, hm⟩, hn, jt, it⟩
    · have q0 := qEdits_refl [] (by simp)
      simp only [F_laws_FnSalvage, hb, cond_false, d1, d2, d3, D1, D2, p1', p2, s1, s2, s3, s4, q0, BEq.rfl, bne_self_eq_false, Bool.not_true, Bool.and_self, cond_false]
      cases ho : o.2 with
      | false =>
        cases hr : r.2 with
        | false => simp only [cond_false]
        | true => simp only [cond_false, cond_true, he hr, BEq.rfl]
      | true =>
        obtain ⟨t, t1, t2, t3, t4⟩ := D3 ho
        have hne : ((o.1.size : Int) != (t.size : Int)) = false := by simp [t3]
        have ap := apart k o.1 t u r.2 r.1 t3 t2 t4
        cases hr : r.2 with
        | false =>
          rw [hr] at ap
          simp only [cond_true, t1, Bool.not_true, cond_false, hne, ap]
        | true =>
          rw [hr] at ap
          simp only [cond_true, t1, Bool.not_true, cond_false, hne, ap, he hr, BEq.rfl]
    · have lv := goodE_len gv
      have lq := goodE_len gq
      have qv := qEdits_refl v (by omega)
      have qq := qEdits_refl q (by omega)
      have g1 : decide ((q.length : Int) > (v.length : Int)) = false := decide_eq_false (by rw [hm, List.length_append]; omega)
      have g2 : decide ((0 : Int) ≤ 0) = true := rfl
      have g3 : decide ((q.length : Int) ≤ (v.length : Int)) = true := decide_eq_true (by rw [hm, List.length_append]; omega)
      have g4 : decide ((n : Int) > (x.size : Int)) = false := decide_eq_false (by omega)
      have g5 : decide ((n : Int) ≤ (x.size : Int)) = true := decide_eq_true (by omega)
      have p0 : ((0 : Int)).toNat = 0 := rfl
      have hq : (v.drop 0).take (q.length - 0) = q := by rw [List.drop_zero, Nat.sub_zero, hm]; simp
      have ar := AreEdits_is v (goodE_fits gv)
      have et : F_impl_EditsText q = some (x.extract 0 n, true) := by simp only [F_impl_EditsText, AreEdits_is q (goodE_fits gq), gq, Bool.not_true, cond_false, it]
      simp only [F_laws_FnSalvage, hb, cond_false, d1, d2, d3, D1, D2, p1', p2, s1, s2, s3, s4, qv, qq, BEq.rfl, bne_self_eq_false, Bool.not_true, cond_true, g1, g2, g3, g4, g5, nonneg, Bool.and_self, p0, Int.toNat_natCast, hq, ar, gv, et]
      cases ho : o.2 with
      | false =>
        cases hr : r.2 with
        | false => simp only [cond_false]
        | true => simp only [cond_false, cond_true, he hr, BEq.rfl]
      | true =>
        obtain ⟨t, t1, t2, t3, t4⟩ := D3 ho
        have hne : ((o.1.size : Int) != (t.size : Int)) = false := by simp [t3]
        have ap := apart k o.1 t u r.2 r.1 t3 t2 t4
        cases hr : r.2 with
        | false =>
          rw [hr] at ap
          simp only [cond_true, t1, Bool.not_true, cond_false, hne, ap]
        | true =>
          rw [hr] at ap
          simp only [cond_true, t1, Bool.not_true, cond_false, hne, ap, he hr, BEq.rfl]
end Go.Proofs.YtldeplpiokdmpaaDoor
