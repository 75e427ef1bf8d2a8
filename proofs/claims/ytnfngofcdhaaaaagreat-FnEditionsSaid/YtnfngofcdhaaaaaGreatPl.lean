/- Plain laws for this claim, several texts in one. No conditions beyond the bounds that are named. -/
import Derived.Test.YtnfngofcdhaaaaaGreatEvZk
import Derived.Test.YtnfngofcdhaaaaaGreatC1
import Derived.Sort.Walk0
/- Words for pure laws: rounds of loops, bounds of numbers. No conditions. -/
set_option linter.unusedVariables false
namespace Go.Proofs.YtnfngofcdhaaaaaGreat
open Go
theorem wrap_id {n : Int} (h0 : -9223372036854775808 ≤ n) (h1 : n ≤ 9223372036854775807) : IntKind.i64.wrap n = n := by
  simp [IntKind.wrap, IntKind.bits, IntKind.signed]
  omega
theorem wrap_succ {i : Nat} (h : i < 9223372036854775807) : IntKind.i64.wrap ((i : Int) + 1) = ((i + 1 : Nat) : Int) := by rw [wrap_id (by omega) (by omega)]; omega
theorem wrap_pred {i : Nat} (h : i < 9223372036854775807) (h0 : 0 < i) : IntKind.i64.wrap ((i : Int) - 1) = ((i - 1 : Nat) : Int) := by rw [wrap_id (by omega) (by omega)]; omega

/-- a loop that keeps R and comes to an end has Q behind it -/
theorem runL_inv {S O : Type} {f : S → Option (S ⊕ O)} (R : S → Prop) (Q : O → Prop) (μ : S → Nat)
    (h : ∀ s, R s → (∃ o, f s = some (.inr o) ∧ Q o) ∨ ∃ s', f s = some (.inl s') ∧ R s' ∧ μ s' < μ s) : ∀ s, R s → ∃ o, runL f s = some o ∧ Q o := by
  have go : ∀ n s, μ s ≤ n → R s → ∃ o, runL f s = some o ∧ Q o := by
    intro n
    induction n with
    | zero =>
      intro s hn hs
      rcases h s hs with ⟨o, e, q⟩ | ⟨s', e, r, l⟩
      · exact ⟨o, by rw [runL_eq, e], q⟩
      · omega
    | succ n ih =>
      intro s hn hs
      rcases h s hs with ⟨o, e, q⟩ | ⟨s', e, r, l⟩
      · exact ⟨o, by rw [runL_eq, e], q⟩
      · obtain ⟨o, e2, q⟩ := ih s' (by omega) r
        exact ⟨o, by rw [runL_eq, e]; exact e2, q⟩
  exact fun s hs => go _ s (Nat.le_refl _) hs

/-- two loops, round by round -/
theorem runL_sim {S T O P : Type} {f : S → Option (S ⊕ O)} {g : T → Option (T ⊕ P)} (R : S → T → Prop) (Q : O → P → Prop) (μ : S → Nat)
    (h : ∀ s t, R s t → (∃ o p, f s = some (.inr o) ∧ g t = some (.inr p) ∧ Q o p) ∨ ∃ s' t', f s = some (.inl s') ∧ g t = some (.inl t') ∧ R s' t' ∧ μ s' < μ s) :
    ∀ s t, R s t → ∃ o p, runL f s = some o ∧ runL g t = some p ∧ Q o p := by
  have go : ∀ n s t, μ s ≤ n → R s t → ∃ o p, runL f s = some o ∧ runL g t = some p ∧ Q o p := by
    intro n
    induction n with
    | zero =>
      intro s t hn hs
      rcases h s t hs with ⟨o, p, e, e2, q⟩ | ⟨s', t', e, e2, r, l⟩
      · exact ⟨o, p, by rw [runL_eq, e], by rw [runL_eq, e2], q⟩
      · omega
    | succ n ih =>
      intro s t hn hs
      rcases h s t hs with ⟨o, p, e, e2, q⟩ | ⟨s', t', e, e2, r, l⟩
      · exact ⟨o, p, by rw [runL_eq, e], by rw [runL_eq, e2], q⟩
      · obtain ⟨o, p, e3, e4, q⟩ := ih s' t' (by omega) r
        exact ⟨o, p, by rw [runL_eq, e]; exact e3, by rw [runL_eq, e2]; exact e4, q⟩
  exact fun s t hs => go _ s t (Nat.le_refl _) hs

/-- a loop over m rounds whose states are known -/
theorem runL_traj {S O : Type} {f : S → Option (S ⊕ O)} (s : Nat → S) (o : O) (m : Nat) (h : ∀ i, i < m → f (s i) = some (.inl (s (i + 1)))) (hend : f (s m) = some (.inr o)) : runL f (s 0) = some o := by
  have go : ∀ k i, m - i = k → i ≤ m → runL f (s i) = some o := by
    intro k
    induction k with
    | zero => intro i hk hi; rw [runL_eq, show i = m by omega, hend]
    | succ k ih => intro i hk hi; rw [runL_eq, h i (by omega)]; exact ih (i + 1) (by omega) (by omega)
  exact go m 0 (by omega) (by omega)

/-- a loop that goes on while p holds: the first place where it fails -/
theorem runL_first {S O : Type} {f : S → Option (S ⊕ O)} (p : Nat → Bool) (s : Nat → S) (no : Nat → O) (yes : O) (m : Nat)
    (h : ∀ i, i < m → f (s i) = some (bif p i then .inl (s (i + 1)) else .inr (no i))) (hend : f (s m) = some (.inr yes)) :
    (runL f (s 0) = some yes ∧ ∀ i, i < m → p i = true) ∨ ∃ i, i < m ∧ p i = false ∧ (∀ j, j < i → p j = true) ∧ runL f (s 0) = some (no i) := by
  have go : ∀ k i, m - i = k → i ≤ m → (∀ j, j < i → p j = true) → runL f (s 0) = runL f (s i) → (runL f (s 0) = some yes ∧ ∀ i, i < m → p i = true) ∨ ∃ i, i < m ∧ p i = false ∧ (∀ j, j < i → p j = true) ∧ runL f (s 0) = some (no i) := by
    intro k
    induction k with
    | zero =>
      intro i hk hi hp he
      have : i = m := by omega
      subst this
      exact .inl ⟨by rw [he, runL_eq, hend], hp⟩
    | succ k ih =>
      intro i hk hi hp he
      have hi' : i < m := by omega
      cases hpi : p i with
      | false => exact .inr ⟨i, hi', hpi, hp, by rw [he, runL_eq, h i hi', hpi]; rfl⟩
      | true =>
        refine ih (i + 1) (by omega) (by omega) (fun j hj => ?_) ?_
        · rcases Nat.lt_succ_iff_lt_or_eq.1 hj with hj | hj
          · exact hp j hj
          · exact hj ▸ hpi
        · rw [he, runL_eq f (s i), h i hi', hpi]; rfl
  exact go m 0 (by omega) (by omega) (fun j hj => by omega) rfl

/-- all of the first m places -/
def allN (p : Nat → Bool) (m : Nat) : Bool := (List.range m).all p
theorem allN_true {p : Nat → Bool} {m : Nat} : allN p m = true ↔ ∀ i, i < m → p i = true := by simp [allN]
theorem allN_false {p : Nat → Bool} {m : Nat} : allN p m = false ↔ ∃ i, i < m ∧ p i = false := by simp [allN]

theorem runL_all {S O : Type} {f : S → Option (S ⊕ O)} (p : Nat → Bool) (s : Nat → S) (no yes : O) (m : Nat)
    (h : ∀ i, i < m → f (s i) = some (bif p i then .inl (s (i + 1)) else .inr no)) (hend : f (s m) = some (.inr yes)) : runL f (s 0) = some (bif allN p m then yes else no) := by
  rcases runL_first p s (fun _ => no) yes m h hend with ⟨e, hp⟩ | ⟨i, hi, hp, _, e⟩
  · rw [e, allN_true.2 hp]; rfl
  · rw [e, allN_false.2 ⟨i, hi, hp⟩]; rfl

/-- the first of m places where p holds, or -1 -/
def firstN (p : Nat → Bool) (m : Nat) : Int := match (List.range m).find? p with | some i => (i : Int) | none => -1
theorem firstN_at {p : Nat → Bool} {m i : Nat} (hi : i < m) (hp : p i = true) (hj : ∀ j, j < i → p j = false) : firstN p m = (i : Int) := by
  unfold firstN
  have : (List.range m).find? p = some i := by
    rw [List.find?_range_eq_some]
    refine ⟨hp, by simpa using hi, fun j hj' => by simp [hj j hj']⟩
  rw [this]
theorem firstN_none {p : Nat → Bool} {m : Nat} (h : ∀ j, j < m → p j = false) : firstN p m = -1 := by
  unfold firstN
  have : (List.range m).find? p = none := by
    rw [List.find?_eq_none]
    intro x hx
    simp [h x (by simpa using hx)]
  rw [this]
theorem firstN_cases (p : Nat → Bool) (m : Nat) : (firstN p m = -1 ∧ ∀ j, j < m → p j = false) ∨ ∃ i, i < m ∧ firstN p m = (i : Int) ∧ p i = true ∧ ∀ j, j < i → p j = false := by
  cases h : (List.range m).find? p with
  | none =>
    have h' := List.find?_eq_none.1 h
    have : ∀ j, j < m → p j = false := fun j hj => by simpa using h' j (by simpa using hj)
    exact .inl ⟨firstN_none this, this⟩
  | some i =>
    obtain ⟨h1, h2, h3⟩ := List.find?_range_eq_some.1 h
    have h2' : i < m := by simpa using h2
    have h3' : ∀ j, j < i → p j = false := fun j hj => by simpa using h3 j hj
    exact .inr ⟨i, h2', firstN_at h2' h1 h3', h1, h3'⟩

/-- a loop that looks for the first place where p holds -/
theorem runL_find {S O : Type} {f : S → Option (S ⊕ O)} (p : Nat → Bool) (s : Nat → S) (o : Int → O) (m : Nat)
    (h : ∀ i, i < m → f (s i) = some (bif p i then .inr (o i) else .inl (s (i + 1)))) (hend : f (s m) = some (.inr (o (-1)))) : runL f (s 0) = some (o (firstN p m)) := by
  rcases runL_first (fun i => !p i) s (fun i => o i) (o (-1)) m (fun i hi => by rw [h i hi]; cases p i <;> rfl) hend with ⟨e, hp⟩ | ⟨i, hi, hp, hj, e⟩
  · rw [e, firstN_none (fun j hj => by simpa using hp j hj)]
  · rw [e, firstN_at hi (by simpa using hp) (fun j hj' => by simpa using hj j hj')]

theorem getD_mem {α : Type} {l : List α} {i : Nat} (h : i < l.length) (d : α) : l.getD i d ∈ l := by simp [List.getD, List.getElem?_eq_getElem h]
theorem take_succ_getD {α : Type} {l : List α} {i : Nat} (h : i < l.length) (d : α) : l.take (i + 1) = l.take i ++ [l.getD i d] := by
  rw [List.take_add_one, List.getD, List.getElem?_eq_getElem h]; rfl
theorem lt_len {i n : Nat} (h : i < n) : decide ((i : Int) < (n : Int)) = true := by simp; omega
theorem not_lt_len (n : Nat) : decide ((n : Int) < (n : Int)) = false := by simp
theorem nonneg (i : Nat) : decide (0 ≤ (i : Int)) = true := by simp

/-- a copy that is written place by place -/
theorem set_copy {α : Type} (l : List α) (d : α) {i : Nat} (h : i < l.length) : (l.take i ++ List.replicate (l.length - i) d).set i (l.getD i d) = l.take (i + 1) ++ List.replicate (l.length - (i + 1)) d := by
  have e : l.length - i = (l.length - (i + 1)) + 1 := by omega
  have hi : (l.take i).length = i := by simp; omega
  rw [take_succ_getD h d, e, List.replicate_succ, List.set_append, if_neg (by omega), hi, Nat.sub_self, List.set_cons_zero, List.append_assoc]
  rfl
theorem copy_len {α : Type} (l : List α) (d : α) {i : Nat} (h : i ≤ l.length) : (l.take i ++ List.replicate (l.length - i) d).length = l.length := by simp; omega
end Go.Proofs.YtnfngofcdhaaaaaGreat
/- The words of the laws. No conditions beyond the bounds that are named. -/
set_option linter.unusedVariables false
set_option linter.unusedSimpArgs false
namespace Go.Proofs.YtnfngofcdhaaaaaGreat
open Go
end Go.Proofs.YtnfngofcdhaaaaaGreat
/- Glosses: what a word of capitals is, on both sides. No conditions beyond the bounds that are named. -/
set_option linter.unusedVariables false
set_option linter.unusedSimpArgs false
namespace Go.Proofs.YtnfngofcdhaaaaaGreat
open Go
/-- the bytes of the capitals -/
theorem cap_byte : ∀ b : Fin 256, (decide (Lib.indexByte [65, 66, 67, 68, 69, 70, 71, 72, 73, 74, 75, 76, 77, 78, 79, 80, 81, 82, 83, 84, 85, 86, 87, 88, 89, 90] (UInt8.ofNat b.val) < 0)) = !(decide (65 ≤ (b.val : Int)) && decide ((b.val : Int) ≤ 90)) := by decide +kernel
abbrev capitals : ByteArray := ⟨#[65, 66, 67, 68, 69, 70, 71, 72, 73, 74, 75, 76, 77, 78, 79, 80, 81, 82, 83, 84, 85, 86, 87, 88, 89, 90]⟩
theorem cap_index (s : ByteArray) (i : Nat) : ∃ n, F_strings_IndexByte (capitals, byteAt s i) = some n ∧ decide (n < 0) = !(decide (65 ≤ byteAt s i) && decide (byteAt s i ≤ 90)) := by
  obtain ⟨b, hb⟩ : ∃ b : UInt8, byteAt s i = (b.toNat : Int) := ⟨_, rfl⟩
  refine ⟨_, rfl, ?_⟩
  rw [hb]
  have hc := cap_byte ⟨b.toNat, b.toNat_lt⟩
  simpa [Nat.toUInt8] using hc

/-- capitals alone -/
def capsOnly (s : ByteArray) : Bool := allN (fun i => decide (65 ≤ byteAt s i) && decide (byteAt s i ≤ 90)) s.size
/-- a gloss -/
def gl (s : ByteArray) : Bool := capsOnly s && (decide (1 ≤ (s.size : Int)) && decide ((s.size : Int) ≤ 8))

theorem l1In_is (a b c : Int) : F_spec_l1In (a, b, c) = some (decide (b ≤ a) && decide (a ≤ c)) := by
  unfold F_spec_l1In
  by_cases h : b ≤ a <;> simp [h]
theorem within_is (a b c : Int) : F_impl_within (a, b, c) = some (decide (b ≤ a) && decide (a ≤ c)) := by
  unfold F_impl_within
  by_cases h : b ≤ a <;> simp [h]

theorem lt_not {a b : Int} : decide (a < b) = !decide (b ≤ a) := by by_cases h : b ≤ a <;> simp [h] <;> omega
theorem gt_not {a b : Int} : decide (a > b) = !decide (a ≤ b) := by by_cases h : a ≤ b <;> simp [h] <;> omega

theorem hasOnly_is (s : ByteArray) (hs : s.size ≤ 9223372036854775807) : F_impl_hasOnly (s, capitals) = some (capsOnly s) := by
  have t := runL_all (f := step_impl_hasOnly_0) (fun i => decide (65 ≤ byteAt s i) && decide (byteAt s i ≤ 90)) (fun i => (s, capitals, (s.size : Int), (i : Int))) (.inl false) (.inr ()) s.size (fun i hi => by
    have hw := wrap_succ (i := i) (by omega)
    obtain ⟨n, e1, e2⟩ := cap_index s i
    simp only [step_impl_hasOnly_0, lt_len hi, nonneg, Bool.and_self, cond_true, Int.toNat_natCast, e1, e2, hw]
    cases (decide (65 ≤ byteAt s i) && decide (byteAt s i ≤ 90)) <;> rfl) (by simp [step_impl_hasOnly_0])
  have t' : runL step_impl_hasOnly_0 (s, capitals, (s.size : Int), (0 : Int)) = _ := t
  simp only [F_impl_hasOnly, t']
  unfold capsOnly
  cases allN _ _ <;> rfl

theorem IsGloss_is (s : ByteArray) (hs : s.size ≤ 9223372036854775807) : F_impl_IsGloss s = some (gl s) := by
  simp only [F_impl_IsGloss, F_impl_isWordOf, within_is, gl, hasOnly_is s hs]
  cases decide (1 ≤ (s.size : Int)) <;> cases decide ((s.size : Int) ≤ 8) <;> simp

end Go.Proofs.YtnfngofcdhaaaaaGreat
/- One proposal, on both sides: plain laws. No conditions beyond the bounds that are named. -/
set_option linter.unusedVariables false
set_option linter.unusedSimpArgs false
namespace Go.Proofs.YtnfngofcdhaaaaaGreat
open Go
abbrev Prop' := Int × (Int × (ByteArray × List Int))
abbrev dP : Prop' := (0, (0, ByteArray.empty, []))

theorem enGloss_is (s : ByteArray) (hs : s.size ≤ 9223372036854775807) : F_spec_enGloss s = some (gl s) := by
  have t := runL_all (f := step_spec_enGloss_0) (fun i => decide (65 ≤ byteAt s i) && decide (byteAt s i ≤ 90)) (fun i => (s, (i : Int))) (.inl false) (.inr s) s.size (fun i hi => by
    have hw := wrap_succ (i := i) (by omega)
    simp only [step_spec_enGloss_0, lt_len hi, nonneg, Bool.and_self, cond_true, Int.toNat_natCast, hw, lt_not, gt_not]
    cases decide (65 ≤ byteAt s i) <;> cases decide (byteAt s i ≤ 90) <;> rfl) (by simp [step_spec_enGloss_0])
  have t' : runL step_spec_enGloss_0 (s, (0 : Int)) = _ := t
  simp only [F_spec_enGloss, t']
  unfold gl capsOnly
  cases allN (fun i => decide (65 ≤ byteAt s i) && decide (byteAt s i ≤ 90)) s.size <;> simp [l1In_is]

def votesOK (l : List Int) : Bool := allN (fun i => decide (-1 ≤ l.getD i 0) && decide (l.getD i 0 ≤ 1)) l.length

theorem l1All_is (l : List Int) (hl : l.length ≤ 9223372036854775807) : F_spec_l1All (l, -1, 1) = some (votesOK l) := by
  have t := runL_all (f := step_spec_l1All_0) (fun i => decide (-1 ≤ l.getD i 0) && decide (l.getD i 0 ≤ 1)) (fun i => (-1, 1, l, (l.length : Int), (i : Int))) (.inl false) (.inr ()) l.length (fun i hi => by
    have hw := wrap_succ (i := i) (by omega)
    simp only [step_spec_l1All_0, lt_len hi, nonneg, Bool.and_self, cond_true, Int.toNat_natCast, hw, l1In_is]
    cases decide (-1 ≤ l.getD i 0) <;> cases decide (l.getD i 0 ≤ 1) <;> rfl) (by simp [step_spec_l1All_0])
  have t' : runL step_spec_l1All_0 (-1, 1, l, (l.length : Int), (0 : Int)) = _ := t
  simp only [F_spec_l1All, t']
  unfold votesOK
  cases allN _ _ <;> rfl

/-- slices.IndexFunc: the first place -/
theorem IndexFunc_int_is (l : List Int) (hl : l.length ≤ 9223372036854775807) (φ : Int → Option Bool) (p : Nat → Bool) (hφ : ∀ i, i < l.length → φ (l.getD i 0) = some (p i)) :
    F_slices_IndexFunc_int_int (l, φ) = some (firstN p l.length) := by
  rcases runL_first (f := step_slices_IndexFunc_int_int_0) (fun i => !p i) (fun i => (l, φ, (l.length : Int), (i : Int))) (fun i => .inl (i : Int)) (.inr ()) l.length (fun i hi => by
    have hw := wrap_succ (i := i) (by omega)
    simp only [step_slices_IndexFunc_int_int_0, lt_len hi, nonneg, Bool.and_self, cond_true, Int.toNat_natCast, hw, hφ i hi]
    cases p i <;> rfl) (by simp [step_slices_IndexFunc_int_int_0]) with ⟨t, hp⟩ | ⟨i, hi, hp, hj, t⟩
  · have t' : runL step_slices_IndexFunc_int_int_0 (l, φ, (l.length : Int), (0 : Int)) = _ := t
    simp only [F_slices_IndexFunc_int_int, t']
    rw [firstN_none (fun j hj => by simpa using hp j hj)]
  · have t' : runL step_slices_IndexFunc_int_int_0 (l, φ, (l.length : Int), (0 : Int)) = _ := t
    simp only [F_slices_IndexFunc_int_int, t']
    rw [firstN_at hi (by simpa using hp) (fun j hj' => by simpa using hj j hj')]

theorem firstN_ge (p : Nat → Bool) (m : Nat) : decide (firstN p m ≥ 0) = !allN (fun i => !p i) m := by
  rcases firstN_cases p m with ⟨e, h⟩ | ⟨i, hi, e, hp, hj⟩
  · rw [e, allN_true.2 (fun i hi => by simp [h i hi])]; simp
  · rw [e, allN_false.2 ⟨i, hi, by simp [hp]⟩]; simp

theorem allWithin_is (l : List Int) (hl : l.length ≤ 9223372036854775807) : F_impl_allWithin (l, -1, 1) = some (votesOK l) := by
  have h := IndexFunc_int_is l hl (K_impl_allWithin_1 (-1, 1)) (fun i => !(decide (-1 ≤ l.getD i 0) && decide (l.getD i 0 ≤ 1))) (fun i hi => by
    simp only [K_impl_allWithin_1, F_impl_allWithin_1, within_is])
  simp only [F_impl_allWithin, F_slices_ContainsFunc_int_int, h, firstN_ge, Bool.not_not, votesOK]

def numOK (p : Prop') : Bool := (decide (1 ≤ p.1) && decide (p.1 ≤ 999)) && (decide (0 ≤ p.2.1) && decide (p.2.1 ≤ 1)) && gl p.2.2.1
theorem isProposal_is (p : Prop') (hg : p.2.2.1.size ≤ 9223372036854775807) (hv : p.2.2.2.length ≤ 9223372036854775807) : F_impl_isProposal p = some (numOK p && decide ((p.2.2.2.length : Int) ≤ 7) && votesOK p.2.2.2) := by
  simp only [F_impl_isProposal, within_is, IsGloss_is _ hg, allWithin_is _ hv, numOK]
  cases (decide (1 ≤ p.1) && decide (p.1 ≤ 999)) <;> cases (decide (0 ≤ p.2.1) && decide (p.2.1 ≤ 1)) <;> cases gl p.2.2.1 <;> cases decide ((p.2.2.2.length : Int) ≤ 7) <;> simp
theorem ofOne_is (p : Prop') (m : Int) (hg : p.2.2.1.size ≤ 9223372036854775807) (hv : p.2.2.2.length ≤ 9223372036854775807) : F_spec_ofOne (p, m) = some (numOK p && ((p.2.2.2.length : Int) == m) && votesOK p.2.2.2) := by
  simp only [F_spec_ofOne, l1In_is, enGloss_is _ hg, l1All_is _ hv, numOK]
  cases (decide (1 ≤ p.1) && decide (p.1 ≤ 999)) <;> cases (decide (0 ≤ p.2.1) && decide (p.2.1 ≤ 1)) <;> cases gl p.2.2.1 <;> cases ((p.2.2.2.length : Int) == m) <;> simp

end Go.Proofs.YtnfngofcdhaaaaaGreat
/- What the functions of the office come to, on both sides: plain laws. No conditions beyond the bounds that are named. -/
set_option linter.unusedVariables false
set_option linter.unusedSimpArgs false
namespace Go.Proofs.YtnfngofcdhaaaaaGreat
open Go
/-- one proposal of a list -/
def rises (l : List Prop') (i : Nat) : Bool := decide (i = 0) || !decide ((l.getD i dP).1 ≤ (l.getD (i - 1) dP).1)
def goodAt (m : Int) (l : List Prop') (i : Nat) : Bool := (numOK (l.getD i dP) && (((l.getD i dP).2.2.2.length : Int) == m) && votesOK (l.getD i dP).2.2.2) && rises l i
def goodAt' (m : Int) (l : List Prop') (i : Nat) : Bool := (numOK (l.getD i dP) && decide (((l.getD i dP).2.2.2.length : Int) ≤ 7) && votesOK (l.getD i dP).2.2.2) && (((l.getD i dP).2.2.2.length : Int) == m) && rises l i
/-- proposals of m members -/
def good (m : Int) (l : List Prop') : Bool := allN (goodAt m l) l.length && (decide (1 ≤ m) && decide (m ≤ 7)) && decide ((l.length : Int) ≤ 12)

structure Fits (l : List Prop') : Prop where
  len : l.length ≤ 1048576
  gloss : ∀ e ∈ l, e.2.2.1.size ≤ 9223372036854775807
  votes : ∀ e ∈ l, e.2.2.2.length ≤ 1048576

theorem ofGood_is (l : List Prop') (m : Int) (hf : Fits l) : F_spec_ofGood (l, m) = some (good m l) := by
  have hlen := hf.len
  have t := runL_all (f := step_spec_ofGood_0) (goodAt m l) (fun i => (l, m, l, (l.length : Int), (i : Int))) (.inl false) (.inr (l, m)) l.length (fun i hi => by
    have hw := wrap_succ (i := i) (by omega)
    have hv := hf.votes _ (getD_mem hi dP)
    have h1 := ofOne_is (l.getD i dP) m (hf.gloss _ (getD_mem hi dP)) (by omega)
    simp only [step_spec_ofGood_0, lt_len hi, nonneg, Bool.and_self, cond_true, Int.toNat_natCast, hw, h1, goodAt]
    cases (numOK (l.getD i dP) && (((l.getD i dP).2.2.2.length : Int) == m) && votesOK (l.getD i dP).2.2.2) with
    | false => rfl
    | true =>
      rcases Nat.eq_zero_or_pos i with rfl | hp
      · simp [rises]
      · have hwp := wrap_pred (i := i) (by omega) hp
        have hp' : decide ((i : Int) > 0) = true := by simp; omega
        have h0 : decide (i = 0) = false := by simp; omega
        simp only [Bool.not_true, cond_false, hp', cond_true, hwp, lt_len (show i - 1 < l.length by omega), nonneg, Bool.and_self, Int.toNat_natCast, rises, h0, Bool.false_or, Bool.true_and, ge_iff_le]
        cases decide ((l.getD i dP).1 ≤ (l.getD (i - 1) dP).1) <;> rfl) (by simp [step_spec_ofGood_0])
  have t' : runL step_spec_ofGood_0 (l, m, l, (l.length : Int), (0 : Int)) = _ := t
  simp only [F_spec_ofGood, t', good]
  cases allN (goodAt m l) l.length with
  | false => rfl
  | true =>
    simp only [cond_true, F_spec_ofMembers, l1In_is]
    cases (decide (1 ≤ m) && decide (m ≤ 7)) <;> simp

theorem allN_congr {p q : Nat → Bool} {m : Nat} (h : ∀ i, i < m → p i = q i) : allN p m = allN q m := by
  cases hq : allN q m with
  | true => rw [allN_true] at hq ⊢; exact fun i hi => (h i hi).trans (hq i hi)
  | false => rw [allN_false] at hq ⊢; obtain ⟨i, hi, e⟩ := hq; exact ⟨i, hi, (h i hi).trans e⟩

theorem AreProposals_is (l : List Prop') (m : Int) (hf : Fits l) : F_impl_AreProposals (l, m) = some (good m l) := by
  have hlen := hf.len
  have t := runL_all (f := step_impl_AreProposals_0) (goodAt' m l) (fun i => (l, m, l, (l.length : Int), (i : Int))) (.inl false) (.inr (l, m)) l.length (fun i hi => by
    have hw := wrap_succ (i := i) (by omega)
    have hv := hf.votes _ (getD_mem hi dP)
    have h1 := isProposal_is (l.getD i dP) (hf.gloss _ (getD_mem hi dP)) (by omega)
    simp only [step_impl_AreProposals_0, lt_len hi, nonneg, Bool.and_self, cond_true, Int.toNat_natCast, hw, h1, goodAt']
    cases (numOK (l.getD i dP) && decide (((l.getD i dP).2.2.2.length : Int) ≤ 7) && votesOK (l.getD i dP).2.2.2) with
    | false => rfl
    | true =>
      have hne : (((l.getD i dP).2.2.2.length : Int) != m) = !(((l.getD i dP).2.2.2.length : Int) == m) := rfl
      simp only [Bool.not_true, cond_false, hne, Bool.true_and]
      cases (((l.getD i dP).2.2.2.length : Int) == m) with
      | false => rfl
      | true =>
        rcases Nat.eq_zero_or_pos i with rfl | hp
        · simp [rises]
        · have hwp := wrap_pred (i := i) (by omega) hp
          have hp' : decide ((i : Int) > 0) = true := by simp; omega
          have h0 : decide (i = 0) = false := by simp; omega
          simp only [Bool.not_true, cond_false, hp', cond_true, hwp, lt_len (show i - 1 < l.length by omega), nonneg, Bool.and_self, Int.toNat_natCast, rises, h0, Bool.false_or, Bool.true_and, ge_iff_le]
          cases decide ((l.getD i dP).1 ≤ (l.getD (i - 1) dP).1) <;> rfl) (by simp [step_impl_AreProposals_0])
  have t' : runL step_impl_AreProposals_0 (l, m, l, (l.length : Int), (0 : Int)) = _ := t
  simp only [F_impl_AreProposals, t', good]
  by_cases hm : (decide (1 ≤ m) && decide (m ≤ 7)) = true
  · have hc : allN (goodAt' m l) l.length = allN (goodAt m l) l.length := allN_congr fun i hi => by
      have h7 : m ≤ 7 := by simp at hm; omega
      simp only [goodAt, goodAt']
      cases hq : (((l.getD i dP).2.2.2.length : Int) == m) with
      | false => simp
      | true =>
        have : ((l.getD i dP).2.2.2.length : Int) = m := by simpa using hq
        have h8 : decide (((l.getD i dP).2.2.2.length : Int) ≤ 7) = true := decide_eq_true (by omega)
        rw [h8]; simp
    rw [hc]
    cases allN (goodAt m l) l.length with
    | false => rfl
    | true => simp only [cond_true, within_is, hm, Bool.true_and]
  · have hm' : (decide (1 ≤ m) && decide (m ≤ 7)) = false := by simpa using hm
    cases allN (goodAt' m l) l.length with
    | false => simp only [cond_false, hm', Bool.and_false, Bool.false_and]
    | true => simp only [cond_true, within_is, hm', cond_false, Bool.and_false, Bool.false_and]

end Go.Proofs.YtnfngofcdhaaaaaGreat
/- Votes are counted alike on both sides: plain laws. No conditions beyond the bounds that are named. -/
set_option linter.unusedVariables false
set_option linter.unusedSimpArgs false
namespace Go.Proofs.YtnfngofcdhaaaaaGreat
open Go

theorem votesOK_mem {l : List Int} (h : votesOK l = true) {x : Int} (hx : x ∈ l) : -1 ≤ x ∧ x ≤ 1 := by
  obtain ⟨i, hi, rfl⟩ := List.getElem_of_mem hx
  have := allN_true.1 h i hi
  simpa [List.getD, List.getElem?_eq_getElem hi] using this

theorem ofCount_is (p : Prop') (v : Int) (hv : p.2.2.2.length ≤ 1048576) : F_spec_ofCount (p, v) = some ((p.2.2.2.count v : Nat) : Int) := by
  have t := runL_traj (f := step_spec_ofCount_0) (fun i => (v, (((p.2.2.2.take i).count v : Nat) : Int), p.2.2.2, (p.2.2.2.length : Int), (i : Int))) ((p.2.2.2.count v : Nat) : Int) p.2.2.2.length (fun i hi => by
    have hw := wrap_succ (i := i) (by omega)
    have hc : (p.2.2.2.take i).count v ≤ i := Nat.le_trans List.count_le_length (by simp; omega)
    have hw2 := wrap_succ (i := (p.2.2.2.take i).count v) (by omega)
    have ht := take_succ_getD hi 0
    simp only [step_spec_ofCount_0, lt_len hi, nonneg, Bool.and_self, cond_true, Int.toNat_natCast, hw, hw2, ht, List.count_append, List.count_singleton]
    cases (p.2.2.2.getD i 0 == v) <;> rfl) (by simp [step_spec_ofCount_0])
  have t' : runL step_spec_ofCount_0 (v, 0, p.2.2.2, (p.2.2.2.length : Int), (0 : Int)) = _ := t
  simp only [F_spec_ofCount, t']

theorem those_int_is (l : List Int) (hl : l.length ≤ 1048576) (φ : Int → Option Bool) (p : Int → Bool) (hφ : ∀ x, φ x = some (p x)) : ∃ r, F_impl_those_int (l, φ) = some r ∧ r.length = l.countP p := by
  obtain ⟨r, e, hr⟩ := runL_inv (f := step_impl_those_int_0) (fun s => ∃ (i : Nat) (r : List Int), s = (φ, l, (l.length : Int), (i : Int), r) ∧ i ≤ l.length ∧ r.length = (l.take i).countP p) (fun r => r.length = l.countP p) (fun s => l.length - s.2.2.2.1.toNat) (by
    rintro s ⟨i, r, rfl, hi, hr⟩
    rcases Nat.lt_or_ge i l.length with hlt | hge
    · right
      have hw := wrap_succ (i := i) (by omega)
      have ht := take_succ_getD hlt 0
      have hc : (l.take i).countP p ≤ i := Nat.le_trans List.countP_le_length (by simp; omega)
      cases hp : p (l.getD i 0) with
      | true =>
        have hg : decide ((r.length + [(i : Int)].length) * 8 ≤ 140737488355328) = true := decide_eq_true (by simp only [List.length_singleton]; omega)
        refine ⟨(φ, l, (l.length : Int), ((i + 1 : Nat) : Int), r ++ [(i : Int)]), ?_, ⟨i + 1, _, rfl, by omega, ?_⟩, by simp; omega⟩
        · simp only [step_impl_those_int_0, lt_len hlt, nonneg, Bool.and_self, cond_true, Int.toNat_natCast, hφ, hp, hg, hw]
        · rw [ht, List.countP_append, List.countP_singleton, hp, List.length_append, hr]; rfl
      | false =>
        refine ⟨(φ, l, (l.length : Int), ((i + 1 : Nat) : Int), r), ?_, ⟨i + 1, _, rfl, by omega, ?_⟩, by simp; omega⟩
        · simp only [step_impl_those_int_0, lt_len hlt, nonneg, Bool.and_self, cond_true, Int.toNat_natCast, hφ, hp, cond_false, hw]
        · rw [ht, List.countP_append, List.countP_singleton, hp, hr]; simp
    · left
      have : i = l.length := by omega
      subst this
      exact ⟨r, by simp [step_impl_those_int_0], by simpa using hr⟩) (φ, l, (l.length : Int), 0, []) ⟨0, [], rfl, by omega, by simp⟩
  exact ⟨r, by simp [F_impl_those_int, e], hr⟩

theorem sum_bound : ∀ (l : List Int), (∀ x ∈ l, -1 ≤ x ∧ x ≤ 1) → -(l.length : Int) ≤ l.sum ∧ l.sum ≤ (l.length : Int)
  | [], _ => by simp
  | x :: l, h => by
    have h1 := h x (by simp)
    have h2 := sum_bound l (fun y hy => h y (by simp [hy]))
    simp only [List.sum_cons, List.length_cons]
    omega

theorem sumOf_is (l : List Int) (hl : l.length ≤ 1048576) (hv : ∀ x ∈ l, -1 ≤ x ∧ x ≤ 1) : F_impl_sumOf l = some l.sum := by
  have t := runL_traj (f := step_impl_sumOf_0) (fun i => ((l.take i).sum, l, (l.length : Int), (i : Int))) l.sum l.length (fun i hi => by
    have hw := wrap_succ (i := i) (by omega)
    have ht := take_succ_getD hi 0
    have hb := sum_bound (l.take (i + 1)) (fun x hx => hv x (List.mem_of_mem_take hx))
    have hs : (l.take (i + 1)).sum = (l.take i).sum + l.getD i 0 := by rw [ht, List.sum_append]; simp
    have hlen : ((l.take (i + 1)).length : Int) ≤ 1048576 := by simp; omega
    have hw2 : IntKind.i64.wrap ((l.take i).sum + l.getD i 0) = (l.take (i + 1)).sum := by rw [← hs]; exact wrap_id (by omega) (by omega)
    simp only [step_impl_sumOf_0, lt_len hi, nonneg, Bool.and_self, cond_true, Int.toNat_natCast, hw, hw2]) (by simp [step_impl_sumOf_0])
  have t' : runL step_impl_sumOf_0 (0, l, (l.length : Int), (0 : Int)) = _ := t
  simp only [F_impl_sumOf, t']

theorem votes_counts : ∀ (l : List Int), (∀ x ∈ l, -1 ≤ x ∧ x ≤ 1) → l.countP (fun x => x != 0) = l.count 1 + l.count (-1) ∧ l.sum = (l.count 1 : Int) - (l.count (-1) : Int)
  | [], _ => by simp
  | x :: l, h => by
    obtain ⟨h1, h2⟩ := votes_counts l (fun y hy => h y (by simp [hy]))
    have hx := h x (by simp)
    have : x = -1 ∨ x = 0 ∨ x = 1 := by omega
    rcases this with rfl | rfl | rfl
    · simp only [List.countP_cons, List.count_cons, List.sum_cons, h1, h2]
      refine ⟨?_, ?_⟩ <;> simp <;> omega
    · simp only [List.countP_cons, List.count_cons, List.sum_cons, h1, h2]
      refine ⟨?_, ?_⟩ <;> simp <;> omega
    · simp only [List.countP_cons, List.count_cons, List.sum_cons, h1, h2]
      refine ⟨?_, ?_⟩ <;> simp <;> omega

/-- passed, if so many more vote for it -/
def passes (l : List Int) (more : Int) : Bool := decide (2 * (more + (l.count 1 : Int) + (l.count (-1) : Int)) > (l.length : Int)) && decide ((l.count 1 : Int) + more > (l.count (-1) : Int))

theorem ofPassed_is (p : Prop') (more : Int) (hv : p.2.2.2.length ≤ 1048576) (h0 : 0 ≤ more) (h1 : more ≤ 1048576) : F_spec_ofPassed (p, more) = some (passes p.2.2.2 more) := by
  have c1 : p.2.2.2.count 1 ≤ p.2.2.2.length := List.count_le_length
  have c2 : p.2.2.2.count (-1) ≤ p.2.2.2.length := List.count_le_length
  have w1 : IntKind.i64.wrap (((p.2.2.2.count 1 : Nat) : Int) + more) = ((p.2.2.2.count 1 : Nat) : Int) + more := wrap_id (by omega) (by omega)
  have w2 : IntKind.i64.wrap (((p.2.2.2.count 1 : Nat) : Int) + more + ((p.2.2.2.count (-1) : Nat) : Int)) = more + ((p.2.2.2.count 1 : Nat) : Int) + ((p.2.2.2.count (-1) : Nat) : Int) := by rw [wrap_id (by omega) (by omega)]; omega
  have w3 : IntKind.i64.wrap (2 * (more + ((p.2.2.2.count 1 : Nat) : Int) + ((p.2.2.2.count (-1) : Nat) : Int))) = 2 * (more + ((p.2.2.2.count 1 : Nat) : Int) + ((p.2.2.2.count (-1) : Nat) : Int)) := wrap_id (by omega) (by omega)
  simp only [F_spec_ofPassed, ofCount_is p _ hv, w1, w2, w3, passes]
  cases decide (2 * (more + ((p.2.2.2.count 1 : Nat) : Int) + ((p.2.2.2.count (-1) : Nat) : Int)) > (p.2.2.2.length : Int)) <;> simp

theorem passed_is (p : Prop') (more : Int) (hv : p.2.2.2.length ≤ 1048576) (hok : votesOK p.2.2.2 = true) (h0 : 0 ≤ more) (h1 : more ≤ 1048576) : F_impl_Proposal_passed (p, more) = some (passes p.2.2.2 more) := by
  have c1 : p.2.2.2.count 1 ≤ p.2.2.2.length := List.count_le_length
  have c2 : p.2.2.2.count (-1) ≤ p.2.2.2.length := List.count_le_length
  have hm : ∀ x ∈ p.2.2.2, -1 ≤ x ∧ x ≤ 1 := fun x hx => votesOK_mem hok hx
  obtain ⟨r, e, hr⟩ := those_int_is p.2.2.2 hv (K_impl_Proposal_passed_1 ()) (fun x => x != 0) (fun x => rfl)
  obtain ⟨v1, v2⟩ := votes_counts p.2.2.2 hm
  have hs := sumOf_is p.2.2.2 hv hm
  have hb := sum_bound p.2.2.2 hm
  have hr' : (r.length : Int) = ((p.2.2.2.count 1 : Nat) : Int) + ((p.2.2.2.count (-1) : Nat) : Int) := by rw [hr, v1]; omega
  have w1 : IntKind.i64.wrap (more + (r.length : Int)) = more + ((p.2.2.2.count 1 : Nat) : Int) + ((p.2.2.2.count (-1) : Nat) : Int) := by rw [hr', wrap_id (by omega) (by omega)]; omega
  have w3 : IntKind.i64.wrap (2 * (more + ((p.2.2.2.count 1 : Nat) : Int) + ((p.2.2.2.count (-1) : Nat) : Int))) = 2 * (more + ((p.2.2.2.count 1 : Nat) : Int) + ((p.2.2.2.count (-1) : Nat) : Int)) := wrap_id (by omega) (by omega)
  have w4 : IntKind.i64.wrap (p.2.2.2.sum + more) = p.2.2.2.sum + more := wrap_id (by omega) (by omega)
  have hd : decide (p.2.2.2.sum + more > 0) = decide (((p.2.2.2.count 1 : Nat) : Int) + more > ((p.2.2.2.count (-1) : Nat) : Int)) := by
    rw [v2]
    by_cases hq : ((p.2.2.2.count 1 : Nat) : Int) + more > ((p.2.2.2.count (-1) : Nat) : Int)
    · rw [decide_eq_true hq, decide_eq_true (by omega)]
    · rw [decide_eq_false hq, decide_eq_false (by omega)]
  simp only [F_impl_Proposal_passed, e, w1, w3, hs, w4, hd, passes]
  cases decide (2 * (more + ((p.2.2.2.count 1 : Nat) : Int) + ((p.2.2.2.count (-1) : Nat) : Int)) > (p.2.2.2.length : Int)) <;> simp

/-- where a proposal with a number lies -/
def findP (l : List Prop') (n : Int) : Int := firstN (fun i => (l.getD i dP).1 == n) l.length
theorem IndexFunc_prop_is (l : List Prop') (hl : l.length ≤ 9223372036854775807) (φ : Prop' → Option Bool) (p : Nat → Bool) (hφ : ∀ i, i < l.length → φ (l.getD i dP) = some (p i)) :
    F_slices_IndexFunc_impl_Proposal_impl_Proposal (l, φ) = some (firstN p l.length) := by
  rcases runL_first (f := step_slices_IndexFunc_impl_Proposal_impl_Proposal_0) (fun i => !p i) (fun i => (l, φ, (l.length : Int), (i : Int))) (fun i => .inl (i : Int)) (.inr ()) l.length (fun i hi => by
    have hw := wrap_succ (i := i) (by omega)
    simp only [step_slices_IndexFunc_impl_Proposal_impl_Proposal_0, lt_len hi, nonneg, Bool.and_self, cond_true, Int.toNat_natCast, hw, hφ i hi]
    cases p i <;> rfl) (by simp [step_slices_IndexFunc_impl_Proposal_impl_Proposal_0]) with ⟨t, hp⟩ | ⟨i, hi, hp, hj, t⟩
  · have t' : runL step_slices_IndexFunc_impl_Proposal_impl_Proposal_0 (l, φ, (l.length : Int), (0 : Int)) = _ := t
    simp only [F_slices_IndexFunc_impl_Proposal_impl_Proposal, t']
    rw [firstN_none (fun j hj => by simpa using hp j hj)]
  · have t' : runL step_slices_IndexFunc_impl_Proposal_impl_Proposal_0 (l, φ, (l.length : Int), (0 : Int)) = _ := t
    simp only [F_slices_IndexFunc_impl_Proposal_impl_Proposal, t']
    rw [firstN_at hi (by simpa using hp) (fun j hj' => by simpa using hj j hj')]
theorem proposalAt_is (l : List Prop') (n : Int) (hl : l.length ≤ 1048576) : F_impl_proposalAt (l, n) = some (findP l n) := by
  have h := IndexFunc_prop_is l (by omega) (K_impl_proposalAt_1 n) (fun i => (l.getD i dP).1 == n) (fun i hi => rfl)
  simp only [F_impl_proposalAt, h, findP]

/-- a place that was found lies in the list -/
theorem findP_cases (l : List Prop') (n : Int) : (findP l n = -1) ∨ ∃ i : Nat, i < l.length ∧ findP l n = (i : Int) := by
  rcases firstN_cases (fun i => (l.getD i dP).1 == n) l.length with ⟨e, _⟩ | ⟨i, hi, e, _, _⟩
  · exact .inl e
  · exact .inr ⟨i, hi, e⟩

theorem good_votes {m : Int} {l : List Prop'} (h : good m l = true) {i : Nat} (hi : i < l.length) : votesOK (l.getD i dP).2.2.2 = true ∧ ((l.getD i dP).2.2.2.length : Int) = m := by
  simp only [good, Bool.and_eq_true] at h
  have := allN_true.1 h.1.1 i hi
  simp only [goodAt, Bool.and_eq_true, beq_iff_eq] at this
  exact ⟨this.1.2, this.1.1.2⟩
theorem good_m {m : Int} {l : List Prop'} (h : good m l = true) : 1 ≤ m ∧ m ≤ 7 ∧ l.length ≤ 12 := by
  simp only [good, Bool.and_eq_true, decide_eq_true_eq] at h
  omega
end Go.Proofs.YtnfngofcdhaaaaaGreat
/- Copies of proposals, and marks on them, as plain Lean. Lengths fit an int. -/
set_option linter.unusedVariables false
set_option linter.unusedSimpArgs false
namespace Go.Proofs.YtnfngofcdhaaaaaGreat
open Go
theorem set_getD_self {α : Type} (l : List α) (i : Nat) (d : α) : l.set i (l.getD i d) = l := by
  apply List.ext_getElem?
  intro j
  rw [List.getElem?_set]
  split
  · rename_i h
    subst h
    split
    · rename_i h
      simp [List.getD, h]
    · rename_i h
      rw [List.getElem?_eq_none (by omega)]
  · rfl
theorem copyProposals_is (l : List Prop') (hf : Fits l) : F_impl_copyProposals l = some l := by
  have hlen := hf.len
  have h0 : F_slices_Clone_impl_Proposal_impl_Proposal l = some l := by
    have : decide (l.length * 56 ≤ 140737488355328) = true := decide_eq_true (by omega)
    simp only [F_slices_Clone_impl_Proposal_impl_Proposal, this, cond_true]
  have t := runL_traj (f := step_impl_copyProposals_0) (fun i => ((l.length : Int), ((i : Int), l, (i : Int)))) (l, (l.length : Int)) l.length (fun i hi => by
    have hw := wrap_succ (i := i) (by omega)
    have hv := hf.votes _ (getD_mem hi dP)
    have h1 : F_slices_Clone_int_int (l.getD i (0, (0, ByteArray.empty, []))).2.2.2 = some (l.getD i (0, (0, ByteArray.empty, []))).2.2.2 := by
      have : decide ((l.getD i (0, (0, ByteArray.empty, []))).2.2.2.length * 8 ≤ 140737488355328) = true := decide_eq_true (by have : (l.getD i (0, (0, ByteArray.empty, []))).2.2.2.length ≤ 1048576 := hv; omega)
      simp only [F_slices_Clone_int_int, this, cond_true]
    have hs : l.set i ((l.getD i (0, (0, ByteArray.empty, []))).1, ((l.getD i (0, (0, ByteArray.empty, []))).2.1, (l.getD i (0, (0, ByteArray.empty, []))).2.2.1, (l.getD i (0, (0, ByteArray.empty, []))).2.2.2)) = l := set_getD_self l i _
    have hle : decide (i ≤ i) = true := decide_eq_true (Nat.le_refl _)
    have heq : decide (i = i) = true := decide_eq_true rfl
    simp only [step_impl_copyProposals_0, lt_len hi, nonneg, Bool.and_self, cond_true, Int.toNat_natCast, hle, heq, decide_true, h1, hs, hw]) (by
    simp [step_impl_copyProposals_0])
  have t' : runL step_impl_copyProposals_0 ((l.length : Int), ((0 : Int), l, (0 : Int))) = some (l, (l.length : Int)) := t
  have heq : decide (l.length = l.length) = true := decide_eq_true rfl
  simp only [F_impl_copyProposals, h0, t', Int.toNat_natCast, heq, decide_true, cond_true]
theorem ofOwn_is (l : List Prop') (hf : Fits l) : F_spec_ofOwn l = some l := by
  have hlen := hf.len
  have t := runL_traj (f := step_spec_ofOwn_0) (fun i => (l, ((l.length : Int), (i : Int), l.take i))) l l.length (fun i hi => by
    have hw := wrap_succ (i := i) (by omega)
    have hv := hf.votes _ (getD_mem hi dP)
    have h1 : F_spec_l1Own (l.getD i (0, (0, ByteArray.empty, []))).2.2.2 = some (l.getD i (0, (0, ByteArray.empty, []))).2.2.2 := by
      have : decide ((([] : List Int).length + (l.getD i (0, (0, ByteArray.empty, []))).2.2.2.length) * 8 ≤ 140737488355328) = true := decide_eq_true (by have : (l.getD i (0, (0, ByteArray.empty, []))).2.2.2.length ≤ 1048576 := hv; simp only [List.length_nil]; omega)
      simp only [F_spec_l1Own, this, cond_true, List.nil_append]
    have hs : l.take i ++ [((l.getD i (0, (0, ByteArray.empty, []))).1, ((l.getD i (0, (0, ByteArray.empty, []))).2.1, (l.getD i (0, (0, ByteArray.empty, []))).2.2.1, (l.getD i (0, (0, ByteArray.empty, []))).2.2.2))] = l.take (i + 1) := (take_succ_getD hi _).symm
    have hg : decide (((l.take i).length + [((l.getD i (0, (0, ByteArray.empty, []))).1, ((l.getD i (0, (0, ByteArray.empty, []))).2.1, (l.getD i (0, (0, ByteArray.empty, []))).2.2.1, (l.getD i (0, (0, ByteArray.empty, []))).2.2.2))].length) * 56 ≤ 140737488355328) = true := decide_eq_true (by simp; omega)
    simp only [step_spec_ofOwn_0, lt_len hi, nonneg, Bool.and_self, cond_true, Int.toNat_natCast, h1, hg, hs, hw]) (by
    simp [step_spec_ofOwn_0])
  have t' : runL step_spec_ofOwn_0 (l, ((l.length : Int), (0 : Int), [])) = some l := t
  simp only [F_spec_ofOwn, t']

theorem Fits.set {l : List Prop'} (hf : Fits l) {i : Nat} (hi : i < l.length) {e : Prop'} (h1 : e.2.2.1.size ≤ 9223372036854775807) (h2 : e.2.2.2.length ≤ 1048576) : Fits (l.set i e) := by
  refine ⟨by rw [List.length_set]; exact hf.len, fun x hx => ?_, fun x hx => ?_⟩
  · rcases List.mem_or_eq_of_mem_set hx with h | rfl
    · exact hf.gloss x h
    · exact h1
  · rcases List.mem_or_eq_of_mem_set hx with h | rfl
    · exact hf.votes x h
    · exact h2
theorem fits_nil : Fits [] := ⟨by simp, by simp, by simp⟩
end Go.Proofs.YtnfngofcdhaaaaaGreat
/- Texts put into a rising list: plain laws. Lengths fit an int. -/
set_option linter.unusedVariables false
set_option linter.unusedSimpArgs false
namespace Go.Proofs.YtnfngofcdhaaaaaGreat
open Go
def lessB (a b : ByteArray) : Bool := Op.bytesLess a.toList b.toList
/-- how many stand ahead -/
def ahead (s : ByteArray) : List ByteArray → Nat
  | [] => 0
  | a :: l => if lessB a s = true then ahead s l + 1 else 0
theorem ahead_le (s : ByteArray) : ∀ l, ahead s l ≤ l.length
  | [] => Nat.le_refl _
  | a :: l => by
    unfold ahead
    split
    · have := ahead_le s l; simp; omega
    · simp
theorem ahead_less (s : ByteArray) : ∀ (l : List ByteArray) (i : Nat), i < ahead s l → lessB (l.getD i ByteArray.empty) s = true
  | [], i, h => by simp [ahead] at h
  | a :: l, i, h => by
    unfold ahead at h
    split at h
    · rename_i hl
      cases i with
      | zero => exact hl
      | succ i => exact ahead_less s l i (by omega)
    · omega
theorem ahead_stop (s : ByteArray) : ∀ (l : List ByteArray), ahead s l < l.length → lessB (l.getD (ahead s l) ByteArray.empty) s = false
  | [], h => by simp at h
  | a :: l, h => by
    unfold ahead at h ⊢
    split
    · rename_i hl
      rw [if_pos hl] at h
      exact ahead_stop s l (by simp at h; omega)
    · rename_i hl
      simpa using hl
/-- a text comes to its place, if it is not there -/
def put (l : List ByteArray) (s : ByteArray) : List ByteArray := if ahead s l < l.length ∧ ((l.getD (ahead s l) ByteArray.empty).toList == s.toList) = true then l else l.take (ahead s l) ++ [s] ++ l.drop (ahead s l)
theorem ctPut_is (l : List ByteArray) (s : ByteArray) (hl : l.length ≤ 1048576000) : F_spec_ctPut (l, s) = some (put l s) := by
  have hk := ahead_le s l
  have t := runL_traj (f := step_spec_ctPut_0) (fun i => (l, s, (i : Int))) (l, s, ((ahead s l : Nat) : Int)) (ahead s l) (fun i hi => by
    have hw := wrap_succ (i := i) (by omega)
    have hless : Op.bytesLess (l.getD i ByteArray.empty).toList s.toList = true := ahead_less s l i hi
    simp only [step_spec_ctPut_0, lt_len (show i < l.length by omega), nonneg, Bool.and_self, cond_true, Int.toNat_natCast, hless, hw]) (by
    rcases Nat.lt_or_ge (ahead s l) l.length with h | h
    · have hless : Op.bytesLess (l.getD (ahead s l) ByteArray.empty).toList s.toList = false := ahead_stop s l h
      simp only [step_spec_ctPut_0, lt_len h, nonneg, Bool.and_self, cond_true, Int.toNat_natCast, hless, cond_false]
    · have h0 : decide (((ahead s l : Nat) : Int) < (l.length : Int)) = false := decide_eq_false (by omega)
      simp only [step_spec_ctPut_0, h0, cond_false])
  have t' : runL step_spec_ctPut_0 (l, s, (0 : Int)) = some (l, s, ((ahead s l : Nat) : Int)) := t
  have q0 : decide (0 ≤ (0 : Int)) = true := rfl
  have q1 : decide ((0 : Int) ≤ ((ahead s l : Nat) : Int)) = true := decide_eq_true (by omega)
  have q2 : decide (((ahead s l : Nat) : Int) ≤ (l.length : Int)) = true := decide_eq_true (by omega)
  have q3 : decide ((l.length : Int) ≤ (l.length : Int)) = true := decide_eq_true (Int.le_refl _)
  have e1 : (l.drop ((0 : Int)).toNat).take (((ahead s l : Nat) : Int).toNat - ((0 : Int)).toNat) = l.take (ahead s l) := by simp
  have e2 : (l.drop (((ahead s l : Nat) : Int)).toNat).take (((l.length : Int)).toNat - (((ahead s l : Nat) : Int)).toNat) = l.drop (ahead s l) := by
    rw [Int.toNat_natCast, Int.toNat_natCast]
    exact List.take_of_length_le (by simp)
  have l1 : (l.take (ahead s l)).length = ahead s l := by simp; omega
  have r1 : decide ((([] : List ByteArray).length + (l.take (ahead s l)).length) * 16 ≤ 140737488355328) = true := decide_eq_true (by simp; omega)
  have r2 : decide ((([] ++ l.take (ahead s l)).length + ([s] : List ByteArray).length) * 16 ≤ 140737488355328) = true := decide_eq_true (by simp; omega)
  have r3 : decide ((([] ++ l.take (ahead s l) ++ [s]).length + (l.drop (ahead s l)).length) * 16 ≤ 140737488355328) = true := decide_eq_true (by simp; omega)
  have join : ([] ++ l.take (ahead s l) ++ [s]) ++ l.drop (ahead s l) = l.take (ahead s l) ++ [s] ++ l.drop (ahead s l) := by simp
  rcases Nat.lt_or_ge (ahead s l) l.length with h | h
  · cases hb : ((l.getD (ahead s l) ByteArray.empty).toList == s.toList) with
    | true =>
      have hp : put l s = l := by unfold put; rw [if_pos ⟨h, hb⟩]
      simp only [F_spec_ctPut, t', lt_len h, nonneg, Bool.and_self, cond_true, Int.toNat_natCast, hb, hp]
    | false =>
      have hp : put l s = l.take (ahead s l) ++ [s] ++ l.drop (ahead s l) := by unfold put; rw [if_neg (fun h => by rw [hb] at h; cases h.2)]
      simp only [F_spec_ctPut, t', lt_len h, nonneg, Bool.and_self, cond_true, cond_false, q0, q1, q2, q3, e1, e2, r1, r2, r3, join, hp]
      rw [Int.toNat_natCast, hb]
      simp only [cond_false]
  · have h0 : decide (((ahead s l : Nat) : Int) < (l.length : Int)) = false := decide_eq_false (by omega)
    have hp : put l s = l.take (ahead s l) ++ [s] ++ l.drop (ahead s l) := by unfold put; rw [if_neg (fun h' => by omega)]
    simp only [F_spec_ctPut, t', h0, cond_false, nonneg, Bool.and_self, cond_true, q0, q1, q2, q3, e1, e2, r1, r2, r3, join, hp]
end Go.Proofs.YtnfngofcdhaaaaaGreat
/- Strictly rising lists of texts: plain laws. Lengths fit an int. -/
set_option linter.unusedVariables false
set_option linter.unusedSimpArgs false
namespace Go.Proofs.YtnfngofcdhaaaaaGreat
open Go Classical
theorem lessB_lt (a b : ByteArray) : lessB a b = decide (a.data.toList < b.data.toList) := by
  unfold lessB
  rw [bytesLess_eq, Lib.toList_data, Lib.toList_data]
theorem bytes_ext {a b : ByteArray} (h : a.data.toList = b.data.toList) : a = b := by
  obtain ⟨⟨a⟩⟩ := a
  obtain ⟨⟨b⟩⟩ := b
  have : a = b := h
  rw [this]
theorem lessB_irrefl (a : ByteArray) : lessB a a = false := by
  rw [lessB_lt]; exact decide_eq_false (List.lt_irrefl _)
theorem lessB_trans {a b c : ByteArray} (h : lessB a b = true) (k : lessB b c = true) : lessB a c = true := by
  rw [lessB_lt] at *
  exact decide_eq_true (List.lt_trans (of_decide_eq_true h) (of_decide_eq_true k))
theorem lessB_tri {a b : ByteArray} (h : lessB a b = false) (k : lessB b a = false) : a = b := by
  rw [lessB_lt] at *
  have h := of_decide_eq_false h
  have k := of_decide_eq_false k
  exact bytes_ext (List.le_antisymm (List.not_lt.1 k) (List.not_lt.1 h))
theorem beq_is (a b : ByteArray) : (a.toList == b.toList) = decide (a = b) := by
  rw [Lib.toList_data, Lib.toList_data]
  by_cases h : a = b
  · subst h; simp
  · have : ¬ a.data.toList = b.data.toList := fun e => h (bytes_ext e)
    rw [decide_eq_false h]
    exact beq_eq_false_iff_ne.2 this
def Rise (l : List ByteArray) : Prop := l.Pairwise fun a b => lessB a b = true
theorem Rise.ext : ∀ {l m : List ByteArray}, Rise l → Rise m → (∀ x, x ∈ l ↔ x ∈ m) → l = m
  | [], [], _, _, _ => rfl
  | [], b :: m, _, _, h => by have := (h b).2 (by simp); cases this
  | a :: l, [], _, _, h => by have := (h a).1 (by simp); cases this
  | a :: l, b :: m, hl, hm, h => by
    obtain ⟨l1, l2⟩ := List.pairwise_cons.1 hl
    obtain ⟨m1, m2⟩ := List.pairwise_cons.1 hm
    have hab : a = b := by
      rcases List.mem_cons.1 ((h a).1 (by simp)) with e | e
      · exact e
      · rcases List.mem_cons.1 ((h b).2 (by simp)) with e' | e'
        · exact e'.symm
        · have := lessB_trans (l1 b e') (m1 a e)
          rw [lessB_irrefl] at this
          cases this
    subst hab
    rw [Rise.ext l2 m2 fun x => ⟨fun hx => by
      rcases List.mem_cons.1 ((h x).1 (by simp [hx])) with e | e
      · subst e
        have := l1 x hx
        rw [lessB_irrefl] at this
        cases this
      · exact e, fun hx => by
      rcases List.mem_cons.1 ((h x).2 (by simp [hx])) with e | e
      · subst e
        have := m1 x hx
        rw [lessB_irrefl] at this
        cases this
      · exact e⟩]
theorem Rise.lt {l : List ByteArray} (h : Rise l) {i j : Nat} (hij : i < j) (hj : j < l.length) : lessB (l.getD i ByteArray.empty) (l.getD j ByteArray.empty) = true := by
  have := List.pairwise_iff_getElem.1 h i j (by omega) hj hij
  simpa [List.getD, List.getElem?_eq_getElem hj, List.getElem?_eq_getElem (show i < l.length by omega)] using this
theorem rise_of {l : List ByteArray} (h : ∀ i, 0 < i → i < l.length → lessB (l.getD (i - 1) ByteArray.empty) (l.getD i ByteArray.empty) = true) : Rise l := by
  refine List.pairwise_iff_getElem.2 fun i j hi hj hij => ?_
  have go : ∀ d i, i + d + 1 < l.length → lessB (l.getD i ByteArray.empty) (l.getD (i + d + 1) ByteArray.empty) = true := by
    intro d
    induction d with
    | zero => intro i hi; exact h (i + 1) (by omega) hi
    | succ d ih => intro i hi; exact lessB_trans (ih i (by omega)) (h (i + (d + 1) + 1) (by omega) hi)
  have := go (j - i - 1) i (by omega)
  rw [show i + (j - i - 1) + 1 = j by omega] at this
  simpa [List.getD, List.getElem?_eq_getElem hj, List.getElem?_eq_getElem hi] using this
theorem Rise.before {l : List ByteArray} (h : Rise l) (s : ByteArray) {i : Nat} (hi : i < l.length) : lessB (l.getD i ByteArray.empty) s = decide (i < ahead s l) := by
  rcases Nat.lt_or_ge i (ahead s l) with hk | hk
  · rw [ahead_less s l i hk, decide_eq_true hk]
  · rw [decide_eq_false (by omega)]
    have hs := ahead_stop s l (by omega)
    rcases Nat.eq_or_lt_of_le hk with e | e
    · rw [← e]; exact hs
    · have hl := h.lt e hi
      cases hq : lessB (l.getD i ByteArray.empty) s with
      | false => rfl
      | true => rw [lessB_trans hl hq] at hs; cases hs
theorem Rise.mem {l : List ByteArray} (h : Rise l) (s : ByteArray) : s ∈ l ↔ ahead s l < l.length ∧ l.getD (ahead s l) ByteArray.empty = s := by
  constructor
  · intro hs
    obtain ⟨i, hi, e⟩ := List.getElem_of_mem hs
    have hd : l.getD i ByteArray.empty = s := by simp [List.getD, List.getElem?_eq_getElem hi, e]
    have hb := h.before s hi
    rw [hd, lessB_irrefl] at hb
    have hge : ahead s l ≤ i := by have := of_decide_eq_false hb.symm; omega
    rcases Nat.eq_or_lt_of_le hge with e' | e'
    · exact ⟨by omega, by rw [e']; exact hd⟩
    · have hl := h.lt e' hi
      rw [hd, ahead_stop s l (by omega)] at hl
      cases hl
  · rintro ⟨h1, h2⟩
    rw [← h2]
    exact getD_mem h1 _
theorem put_is {l : List ByteArray} (h : Rise l) (s : ByteArray) : put l s = if s ∈ l then l else l.take (ahead s l) ++ [s] ++ l.drop (ahead s l) := by
  unfold put
  have e : (ahead s l < l.length ∧ ((l.getD (ahead s l) ByteArray.empty).toList == s.toList) = true) ↔ s ∈ l := by
    rw [h.mem s, beq_is, decide_eq_true_iff]
  by_cases hs : s ∈ l
  · rw [if_pos hs, if_pos (e.2 hs)]
  · rw [if_neg hs, if_neg fun h => hs (e.1 h)]
theorem put_mem {l : List ByteArray} (h : Rise l) (s x : ByteArray) : x ∈ put l s ↔ x = s ∨ x ∈ l := by
  rw [put_is h]
  split
  · rename_i hs
    exact ⟨.inr, fun h => h.elim (fun e => e ▸ hs) id⟩
  · have : x ∈ l ↔ x ∈ l.take (ahead s l) ∨ x ∈ l.drop (ahead s l) := by
      rw [← List.mem_append, List.take_append_drop]
    rw [this]
    simp only [List.mem_append, List.mem_singleton]
    constructor
    · rintro ((h | h) | h)
      · exact .inr (.inl h)
      · exact .inl h
      · exact .inr (.inr h)
    · rintro (h | h | h)
      · exact .inl (.inr h)
      · exact .inl (.inl h)
      · exact .inr h
theorem Rise.put {l : List ByteArray} (h : Rise l) (s : ByteArray) : Rise (put l s) := by
  rw [put_is h]
  split
  · exact h
  · rename_i hs
    have h1 : ∀ x ∈ l.take (ahead s l), lessB x s = true := by
      intro x hx
      obtain ⟨i, hi, e⟩ := List.getElem_of_mem hx
      have hi' : i < ahead s l ∧ i < l.length := by simp at hi; omega
      have := ahead_less s l i hi'.1
      rw [List.getElem_take] at e
      rw [← e]
      simpa [List.getD, List.getElem?_eq_getElem hi'.2] using this
    have h2 : ∀ x ∈ l.drop (ahead s l), lessB s x = true := by
      intro x hx
      obtain ⟨i, hi, e⟩ := List.getElem_of_mem hx
      have hi' : ahead s l + i < l.length := by simp at hi; omega
      rw [List.getElem_drop] at e
      have hb := h.before s hi'
      rw [decide_eq_false (by omega)] at hb
      have hd : l.getD (ahead s l + i) ByteArray.empty = x := by simp [List.getD, List.getElem?_eq_getElem hi', e]
      rw [hd] at hb
      cases hq : lessB s x with
      | true => rfl
      | false =>
        have := lessB_tri hb hq
        subst this
        exact absurd (List.mem_of_mem_drop hx) hs
    have hp : Rise (l.take (ahead s l) ++ l.drop (ahead s l)) := by rw [List.take_append_drop]; exact h
    obtain ⟨p1, p2, p3⟩ := List.pairwise_append.1 hp
    rw [List.append_assoc]
    refine List.pairwise_append.2 ⟨p1, List.pairwise_cons.2 ⟨h2, p2⟩, fun a ha b hb => ?_⟩
    rcases List.mem_cons.1 hb with rfl | hb
    · exact h1 a ha
    · exact p3 a ha b hb
theorem put_len {l : List ByteArray} (s : ByteArray) : (put l s).length ≤ l.length + 1 := by
  unfold put
  split
  · omega
  · have := ahead_le s l
    simp; omega
theorem Rise.remove {l : List ByteArray} (h : Rise l) {s : ByteArray} (hs : s ∈ l) : l.take (ahead s l) ++ l.drop (ahead s l + 1) = l.filter fun x => decide (x ≠ s) := by
  obtain ⟨hk, hd⟩ := (h.mem s).1 hs
  have hl : l = l.take (ahead s l) ++ s :: l.drop (ahead s l + 1) := by
    have e1 : l[ahead s l] = s := by simpa [List.getD, List.getElem?_eq_getElem hk] using hd
    have : l.drop (ahead s l) = s :: l.drop (ahead s l + 1) := by rw [List.drop_eq_getElem_cons hk, e1]
    rw [← this, List.take_append_drop]
  generalize hA : l.take (ahead s l) = A at hl ⊢
  generalize hB : l.drop (ahead s l + 1) = B at hl ⊢
  subst hl
  obtain ⟨p1, p2, p3⟩ := List.pairwise_append.1 h
  obtain ⟨q1, q2⟩ := List.pairwise_cons.1 p2
  have f1 : A.filter (fun x => decide (x ≠ s)) = A := List.filter_eq_self.2 fun x hx => by
    have := p3 x hx s (by simp)
    refine decide_eq_true fun e => ?_
    subst e
    rw [lessB_irrefl] at this; cases this
  have f2 : B.filter (fun x => decide (x ≠ s)) = B := List.filter_eq_self.2 fun x hx => by
    have := q1 x hx
    refine decide_eq_true fun e => ?_
    subst e
    rw [lessB_irrefl] at this; cases this
  rw [List.filter_append, List.filter_cons, f1, f2]
  simp
theorem Rise.filter {l : List ByteArray} (h : Rise l) (p : ByteArray → Bool) : Rise (l.filter p) := List.Pairwise.sublist List.filter_sublist h
theorem filter_there {l : List ByteArray} {s : ByteArray} : (l.filter fun x => decide (x ≠ s)).length < l.length ↔ s ∈ l := by
  constructor
  · intro h
    refine Classical.byContradiction fun hs => ?_
    have hf : l.filter (fun x => decide (x ≠ s)) = l := List.filter_eq_self.2 fun x hx => by
      refine decide_eq_true fun e => ?_
      subst e
      exact hs hx
    rw [hf] at h
    omega
  · intro hs
    rcases Nat.lt_or_ge (l.filter fun x => decide (x ≠ s)).length l.length with h | h
    · exact h
    · have := List.length_filter_eq_length_iff.1 (Nat.le_antisymm (List.length_filter_le _ _) h) s hs
      simp at this
end Go.Proofs.YtnfngofcdhaaaaaGreat
/- What distinct comes to: the elements of a list of texts, strictly rising. Lengths fit an int. -/
set_option linter.unusedVariables false
set_option linter.unusedSimpArgs false
namespace Go.Proofs.YtnfngofcdhaaaaaGreat
open Go Classical
/-- runs of the same become one -/
def cpt : List ByteArray → List ByteArray
  | [] => []
  | [a] => [a]
  | a :: b :: l => if a = b then cpt (b :: l) else a :: cpt (b :: l)
theorem cpt_snoc (x : ByteArray) : ∀ l : List ByteArray, cpt (l ++ [x]) = if l.getLast? = some x then cpt l else cpt l ++ [x]
  | [] => rfl
  | [a] => by
    show (if a = x then [x] else a :: [x]) = _
    by_cases h : a = x
    · subst h; simp [cpt]
    · simp [cpt, h]
  | a :: b :: l => by
    have ih := cpt_snoc x (b :: l)
    show (if a = b then cpt (b :: l ++ [x]) else a :: cpt (b :: l ++ [x])) = _
    rw [ih, List.getLast?_cons_cons]
    by_cases h : a = b
    · simp [cpt, h]
    · by_cases hx : (b :: l).getLast? = some x
      · simp [cpt, h, hx]
      · simp [cpt, h, hx]
theorem cpt_mem : ∀ (l : List ByteArray) (x : ByteArray), x ∈ cpt l ↔ x ∈ l
  | [], _ => Iff.rfl
  | [_], _ => Iff.rfl
  | a :: b :: l, x => by
    have ih := cpt_mem (b :: l) x
    unfold cpt
    split
    · rename_i h
      rw [ih, h]
      simp
    · simp only [List.mem_cons] at ih ⊢
      rw [ih]
theorem cpt_rise : ∀ {l : List ByteArray}, l.Pairwise (fun a b => lessB b a = false) → Rise (cpt l)
  | [], _ => List.Pairwise.nil
  | [a], _ => by simp [cpt, Rise]
  | a :: b :: l, h => by
    obtain ⟨h1, h2⟩ := List.pairwise_cons.1 h
    have ih := cpt_rise h2
    unfold cpt
    split
    · exact ih
    · rename_i hne
      refine List.pairwise_cons.2 ⟨fun x hx => ?_, ih⟩
      have hx := (cpt_mem _ x).1 hx
      have hab : lessB a b = true := by
        cases hq : lessB a b with
        | true => rfl
        | false => exact absurd (lessB_tri hq (h1 b (by simp))) hne
      rcases List.mem_cons.1 hx with rfl | hx
      · exact hab
      · cases hq : lessB a x with
        | true => rfl
        | false =>
          have hbx := (List.pairwise_cons.1 h2).1 x hx
          have hxa := h1 x (by simp [hx])
          have e := lessB_tri hq hxa
          subst e
          rw [hbx] at hab
          cases hab
theorem cpt_len : ∀ l : List ByteArray, (cpt l).length ≤ l.length
  | [] => Nat.le_refl _
  | [_] => Nat.le_refl _
  | a :: b :: l => by
    have ih := cpt_len (b :: l)
    unfold cpt
    split
    · simp at ih ⊢; omega
    · simp at ih ⊢; omega
theorem take_last {l : List ByteArray} {i : Nat} (h0 : 0 < i) (h : i ≤ l.length) : (l.take i).getLast? = some (l.getD (i - 1) ByteArray.empty) := by
  have e : l.take i = l.take (i - 1) ++ [l.getD (i - 1) ByteArray.empty] := by
    have := take_succ_getD (l := l) (i := i - 1) (by omega) ByteArray.empty
    rwa [show i - 1 + 1 = i by omega] at this
  rw [e, List.getLast?_append]
  simp
theorem cpt_next {l : List ByteArray} {i : Nat} (h0 : 0 < i) (h : i < l.length) : cpt (l.take (i + 1)) = if l.getD (i - 1) ByteArray.empty = l.getD i ByteArray.empty then cpt (l.take i) else cpt (l.take i) ++ [l.getD i ByteArray.empty] := by
  rw [take_succ_getD h ByteArray.empty, cpt_snoc, take_last h0 (by omega)]
  simp

theorem compact_inner (x : List ByteArray) (i : Nat) (hx : x.length ≤ 1048576000) (h0 : 0 < i) (hi : i < x.length) (hp : cpt (x.take i) = x.take i) (he : x.getD (i - 1) ByteArray.empty = x.getD i ByteArray.empty) :
    ∃ o, runL step_slices_Compact_string_string_0 ((i : Int), (i : Int), (((x.length - i : Nat) : Int), 1, x)) = some o ∧ ∃ (k : Nat) (cur : List ByteArray), o = ((k : Int), cur) ∧ k ≤ x.length ∧ cur.length = x.length ∧ cur.take k = cpt x := by
  refine runL_inv (f := step_slices_Compact_string_string_0) (fun s => ∃ (k j : Nat) (cur : List ByteArray), s = ((k : Int), (i : Int), (((x.length - i : Nat) : Int), (j : Int), cur)) ∧ 1 ≤ j ∧ j ≤ x.length - i ∧ k < i + j ∧ cur.length = x.length ∧ cur.take k = cpt (x.take (i + j)) ∧ ∀ t, i + j ≤ t + 1 → t < x.length → cur.getD t ByteArray.empty = x.getD t ByteArray.empty)
    (fun o => ∃ (k : Nat) (cur : List ByteArray), o = ((k : Int), cur) ∧ k ≤ x.length ∧ cur.length = x.length ∧ cur.take k = cpt x) (fun s => x.length - s.2.2.2.1.toNat) ?_ _
    ⟨i, 1, x, rfl, Nat.le_refl _, by omega, by omega, rfl, by rw [cpt_next h0 hi, if_pos he, hp], fun t _ _ => rfl⟩
  rintro s ⟨k, j, cur, rfl, hj1, hj2, hk, hcl, hct, hsame⟩
  rcases Nat.lt_or_ge j (x.length - i) with hlt | hge
  · right
    have w1 := wrap_pred (i := j) (by omega) (by omega)
    have w2 := wrap_succ (i := k) (by omega)
    have w3 := wrap_succ (i := j) (by omega)
    have g1 : cur.getD (i + j) ByteArray.empty = x.getD (i + j) ByteArray.empty := hsame _ (by omega) (by omega)
    have g2 : cur.getD (i + (j - 1)) ByteArray.empty = x.getD (i + j - 1) ByteArray.empty := by rw [show i + (j - 1) = i + j - 1 by omega]; exact hsame _ (by omega) (by omega)
    have hn := cpt_next (l := x) (i := i + j) (by omega) (by omega)
    have hkl : k < cur.length := by omega
    by_cases hq : x.getD (i + j) ByteArray.empty = x.getD (i + j - 1) ByteArray.empty
    · have hb : ((x.getD (i + j) ByteArray.empty).toList == (x.getD (i + j - 1) ByteArray.empty).toList) = true := by rw [beq_is]; exact decide_eq_true hq
      refine ⟨((k : Int), (i : Int), (((x.length - i : Nat) : Int), ((j + 1 : Nat) : Int), cur)), ?_, ⟨k, j + 1, cur, rfl, by omega, by omega, by omega, hcl, ?_, fun t ht htl => hsame t (by omega) htl⟩, by simp; omega⟩
      · simp only [step_slices_Compact_string_string_0, Int.toNat_natCast, lt_len hlt, nonneg, Bool.and_self, cond_true, w1, lt_len (show j - 1 < x.length - i by omega), g1, g2, hb, Bool.not_true, cond_false, w3]
      · rw [show i + (j + 1) = i + j + 1 by omega, hn, if_pos hq.symm]; exact hct
    · have hb : ((x.getD (i + j) ByteArray.empty).toList == (x.getD (i + j - 1) ByteArray.empty).toList) = false := by rw [beq_is]; exact decide_eq_false hq
      refine ⟨(((k + 1 : Nat) : Int), (i : Int), (((x.length - i : Nat) : Int), ((j + 1 : Nat) : Int), cur.set k (x.getD (i + j) ByteArray.empty))), ?_, ⟨k + 1, j + 1, _, rfl, by omega, by omega, by omega, by simp [hcl], ?_, fun t ht htl => ?_⟩, by simp; omega⟩
      · simp only [step_slices_Compact_string_string_0, Int.toNat_natCast, lt_len hlt, nonneg, Bool.and_self, cond_true, w1, lt_len (show j - 1 < x.length - i by omega), g1, g2, hb, Bool.not_false, lt_len hkl, w2, w3]
      · rw [show i + (j + 1) = i + j + 1 by omega, hn, if_neg (fun e => hq e.symm), ← hct]
        rw [take_succ_getD (by simpa using hkl) ByteArray.empty, List.take_set, List.set_eq_of_length_le (by simp; omega)]
        simp [List.getD, hkl]
      · have hne : k ≠ t := by omega
        have := hsame t (by omega) htl
        simpa [List.getD, List.getElem?_set, hne] using this
  · left
    have hj : j = x.length - i := by omega
    subst hj
    refine ⟨((k : Int), cur), by simp only [step_slices_Compact_string_string_0, Int.toNat_natCast, not_lt_len, cond_false], k, cur, rfl, by omega, hcl, ?_⟩
    rw [hct, show i + (x.length - i) = x.length by omega, List.take_length]

theorem compact_is (x : List ByteArray) (hx : x.length ≤ 1048576000) : F_slices_Compact_string_string x = some (cpt x) := by
  unfold F_slices_Compact_string_string
  by_cases h2 : (x.length : Int) < 2
  · rw [decide_eq_true h2]
    match x, h2 with
    | [], _ => rfl
    | [a], _ => rfl
    | a :: b :: l, h2 => simp at h2; omega
  · rw [decide_eq_false h2]
    obtain ⟨o, ho, hq⟩ := runL_inv (f := step_slices_Compact_string_string_1) (fun s => ∃ i : Nat, s = ((i : Int), x) ∧ 1 ≤ i ∧ i ≤ x.length ∧ cpt (x.take i) = x.take i)
      (fun o => (o = .inr x ∧ cpt x = x) ∨ ∃ (k : Nat) (c : List ByteArray), o = .inl (0, ((k : Int), c)) ∧ c.take k = cpt x) (fun s => x.length - s.1.toNat) (by
      rintro s ⟨i, rfl, hi1, hi2, hp⟩
      rcases Nat.lt_or_ge i x.length with hlt | hge
      · have w1 := wrap_pred (i := i) (by omega) hi1
        have w2 := wrap_succ (i := i) (by omega)
        by_cases hq : x.getD i ByteArray.empty = x.getD (i - 1) ByteArray.empty
        · left
          have hb : ((x.getD i ByteArray.empty).toList == (x.getD (i - 1) ByteArray.empty).toList) = true := by rw [beq_is]; exact decide_eq_true hq
          obtain ⟨o, ho, k, cur, rfl, hk, hcl, hct⟩ := compact_inner x i hx hi1 hlt hp hq.symm
          have g1 : decide ((i : Int) ≤ (x.length : Int)) = true := decide_eq_true (by omega)
          have g2 : decide ((x.length : Int) ≤ (x.length : Int)) = true := decide_eq_true (Int.le_refl _)
          have g3 : decide ((k : Int) ≤ (cur.length : Int)) = true := decide_eq_true (by omega)
          have g4 : decide ((cur.length : Int) ≤ (cur.length : Int)) = true := decide_eq_true (Int.le_refl _)
          have g5 : decide (k + (cur.length - k) ≤ cur.length) = true := decide_eq_true (by omega)
          have g6 : decide ((k : Int) ≤ (((cur.take k ++ List.replicate (cur.length - k) ByteArray.empty ++ cur.drop (k + (cur.length - k))).length : Nat) : Int)) = true := decide_eq_true (by simp; omega)
          have g0 : decide (0 ≤ (0 : Int)) = true := rfl
          have z0 : ((0 : Int).toNat) = 0 := rfl
          refine ⟨.inl (0, ((k : Int), cur.take k ++ List.replicate (cur.length - k) ByteArray.empty ++ cur.drop (k + (cur.length - k)))), ?_, .inr ⟨k, _, rfl, ?_⟩⟩
          · simp only [step_slices_Compact_string_string_1, lt_len hlt, nonneg, Bool.and_self, cond_true, w1, lt_len (show i - 1 < x.length by omega), Int.toNat_natCast, hb, g1, g2, ho, g3, g4, g5, g6, g0, z0, Nat.sub_zero, Int.ofNat_zero]
          · rw [List.append_assoc, List.take_append_of_le_length (by simp; omega), List.take_take, Nat.min_self, hct]
        · right
          have hb : ((x.getD i ByteArray.empty).toList == (x.getD (i - 1) ByteArray.empty).toList) = false := by rw [beq_is]; exact decide_eq_false hq
          refine ⟨(((i + 1 : Nat) : Int), x), ?_, ⟨i + 1, rfl, by omega, by omega, ?_⟩, by simp; omega⟩
          · simp only [step_slices_Compact_string_string_1, lt_len hlt, nonneg, Bool.and_self, cond_true, w1, lt_len (show i - 1 < x.length by omega), Int.toNat_natCast, hb, cond_false, w2]
          · rw [cpt_next hi1 hlt, if_neg (fun e => hq e.symm), hp, take_succ_getD hlt ByteArray.empty]
      · left
        have : i = x.length := by omega
        subst this
        refine ⟨.inr x, by simp only [step_slices_Compact_string_string_1, not_lt_len, cond_false], .inl ⟨rfl, ?_⟩⟩
        rwa [List.take_length] at hp) (1, x) ⟨1, rfl, Nat.le_refl _, by omega, by
        match x, h2 with
        | a :: l, _ => rfl⟩
    simp only [ho, cond_false]
    rcases hq with ⟨rfl, e⟩ | ⟨k, c, rfl, e⟩
    · simp only [e]
    · have h0 : ((0 : Int).toNat) = 0 := rfl
      simp [e]

theorem mergeSort_bytes (x : List ByteArray) : ∃ S : List ByteArray, F_slices_Sort_string_string x = (if x.length < 4611686018427387904 then some S else none) ∧ S.Perm x ∧ S.Pairwise (fun a b => lessB b a = false) := by
  refine ⟨((x.map fun b => b.data.toList).mergeSort fun a b => decide (a ≤ b)).map fun l => ⟨l.toArray⟩, ?_, ?_, ?_⟩
  · simp only [F_slices_Sort_string_string, F_sort]
    by_cases h : x.length < 4611686018427387904 <;> simp [h]
  · have h1 : (((x.map fun b : ByteArray => b.data.toList).mergeSort fun a b => decide (a ≤ b)).map fun l : List UInt8 => (⟨l.toArray⟩ : ByteArray)).Perm ((x.map fun b : ByteArray => b.data.toList).map fun l : List UInt8 => (⟨l.toArray⟩ : ByteArray)) := List.Perm.map _ (List.mergeSort_perm _ _)
    have h2 : (x.map fun b : ByteArray => b.data.toList).map (fun l : List UInt8 => (⟨l.toArray⟩ : ByteArray)) = x := by
      rw [List.map_map]
      have : ((fun l : List UInt8 => (⟨l.toArray⟩ : ByteArray)) ∘ fun b : ByteArray => b.data.toList) = id := by
        funext b
        obtain ⟨⟨l⟩⟩ := b
        rfl
      rw [this, List.map_id]
    rw [h2] at h1
    exact h1
  · refine List.pairwise_map.2 ?_
    have h := List.pairwise_mergeSort (le := fun a b : List UInt8 => decide (a ≤ b)) (fun a b c h k => decide_eq_true (List.le_trans (of_decide_eq_true h) (of_decide_eq_true k))) (fun a b => by
      rcases List.le_total a b with h | h
      · simp [h]
      · simp [h]) (x.map fun b => b.data.toList)
    refine h.imp fun {a b} hab => ?_
    rw [lessB_lt]
    exact decide_eq_false (List.not_lt.2 (of_decide_eq_true hab))
theorem distinct_is (x : List ByteArray) (hx : x.length ≤ 1048576000) : ∃ D, F_impl_distinct_string x = some D ∧ Rise D ∧ (∀ s, s ∈ D ↔ s ∈ x) ∧ D.length ≤ x.length := by
  obtain ⟨S, e, hp, hs⟩ := mergeSort_bytes x
  have hl := hp.length_eq
  rw [if_pos (by omega)] at e
  have h1 : F_slices_Clone_string_string x = some x := by
    simp only [F_slices_Clone_string_string]
    rw [decide_eq_true (by omega)]; rfl
  have h2 := compact_is S (by omega)
  refine ⟨cpt S, by simp only [F_impl_distinct_string, h1, e, h2], cpt_rise hs, fun s => ?_, ?_⟩
  · rw [cpt_mem]
    exact hp.mem_iff
  · have := cpt_len S; omega
end Go.Proofs.YtnfngofcdhaaaaaGreat
/- What slices.BinarySearch and slices.Equal come to at texts. Lengths fit an int. -/
set_option linter.unusedVariables false
set_option linter.unusedSimpArgs false
namespace Go.Proofs.YtnfngofcdhaaaaaGreat
open Go Classical
theorem bsearch_is {l : List ByteArray} (h : Rise l) (s : ByteArray) (hl : l.length ≤ 1048576000) : F_slices_BinarySearch_string_string (l, s) = some (((ahead s l : Nat) : Int), decide (s ∈ l)) := by
  have hk := ahead_le s l
  have hless : ∀ i, i < l.length → F_cmp_Less_string (l.getD i ByteArray.empty, s) = some (decide (i < ahead s l)) := fun i hi => by
    rw [← h.before s hi]
    simp [F_cmp_Less_string, F_cmp_isNaN_string, lessB]
  obtain ⟨o, ho, hq⟩ := runL_inv (f := step_slices_BinarySearch_string_string_0) (fun t => ∃ i j : Nat, t = (l, s, ((l.length : Int), (i : Int), (j : Int))) ∧ i ≤ ahead s l ∧ ahead s l ≤ j ∧ j ≤ l.length) (fun o => o = (l, s, (l.length : Int), ((ahead s l : Nat) : Int))) (fun t => t.2.2.2.2.toNat - t.2.2.2.1.toNat) (by
    rintro t ⟨i, j, rfl, hi, hj, hjl⟩
    rcases Nat.lt_or_ge i j with hlt | hge
    · right
      have w1 : IntKind.i64.wrap ((i : Int) + (j : Int)) = ((i + j : Nat) : Int) := by rw [wrap_id (by omega) (by omega)]; omega
      have w2 : IntKind.u64.wrap ((i + j : Nat) : Int) = ((i + j : Nat) : Int) := by simp [IntKind.wrap, IntKind.bits, IntKind.signed]; omega
      have w3 : ((i + j : Nat) : Int).fdiv (2 ^ (min (1 : Int).toNat IntKind.u64.bits)) = (((i + j) / 2 : Nat) : Int) := by
        have : min (1 : Int).toNat IntKind.u64.bits = 1 := rfl
        rw [this, Int.fdiv_eq_ediv_of_nonneg _ (by omega)]
        omega
      have w4 : IntKind.i64.wrap (((i + j) / 2 : Nat) : Int) = (((i + j) / 2 : Nat) : Int) := wrap_id (by omega) (by omega)
      have hm : (i + j) / 2 < l.length := by omega
      have hle := hless _ hm
      have w5 : IntKind.i64.wrap ((((i + j) / 2 : Nat) : Int) + 1) = (((i + j) / 2 + 1 : Nat) : Int) := wrap_succ (by omega)
      have h01 : decide (0 ≤ (1 : Int)) = true := rfl
      by_cases hc : (i + j) / 2 < ahead s l
      · refine ⟨(l, s, ((l.length : Int), (((i + j) / 2 + 1 : Nat) : Int), (j : Int))), ?_, ⟨_, _, rfl, by omega, hj, hjl⟩, by simp; omega⟩
        simp only [step_slices_BinarySearch_string_string_0, lt_len hlt, cond_true, h01, w1, w2, w3, w4, lt_len hm, nonneg, Bool.and_self, Int.toNat_natCast, hle, decide_eq_true hc, w5]
      · refine ⟨(l, s, ((l.length : Int), (i : Int), (((i + j) / 2 : Nat) : Int))), ?_, ⟨_, _, rfl, hi, by omega, by omega⟩, by simp; omega⟩
        simp only [step_slices_BinarySearch_string_string_0, lt_len hlt, cond_true, h01, w1, w2, w3, w4, lt_len hm, nonneg, Bool.and_self, Int.toNat_natCast, hle, decide_eq_false hc, cond_false]
    · left
      have : i = ahead s l := by omega
      subst this
      have : j = ahead s l := by omega
      subst this
      exact ⟨_, by simp only [step_slices_BinarySearch_string_string_0, not_lt_len, cond_false], rfl⟩) (l, s, ((l.length : Int), 0, (l.length : Int))) ⟨0, l.length, rfl, by omega, hk, Nat.le_refl _⟩
  subst hq
  simp only [F_slices_BinarySearch_string_string, ho]
  rcases Nat.lt_or_ge (ahead s l) l.length with hlt | hge
  · by_cases hs : l.getD (ahead s l) ByteArray.empty = s
    · have hmem : s ∈ l := (h.mem s).2 ⟨hlt, hs⟩
      have hb : ((l.getD (ahead s l) ByteArray.empty).toList == s.toList) = true := by rw [hs]; simp
      simp only [lt_len hlt, nonneg, Bool.and_self, cond_true, Int.toNat_natCast, hb, decide_eq_true hmem]
    · have hmem : ¬ s ∈ l := fun hm => hs ((h.mem s).1 hm).2
      have hb : ((l.getD (ahead s l) ByteArray.empty).toList == s.toList) = false := by rw [beq_is]; exact decide_eq_false hs
      simp only [lt_len hlt, nonneg, Bool.and_self, cond_true, Int.toNat_natCast, hb, cond_false, decide_eq_false hmem]
      simp [F_slices_isNaN_string]
  · have hmem : ¬ s ∈ l := fun hm => by have := ((h.mem s).1 hm).1; omega
    have h0 : decide (((ahead s l : Nat) : Int) < (l.length : Int)) = false := decide_eq_false (by omega)
    simp only [h0, cond_false, decide_eq_false hmem]
/-- slices.Equal at texts -/
theorem equal_is (a b : List ByteArray) (h : a.length ≤ 1048576000) : F_slices_Equal_string_string (a, b) = some (decide (a = b)) := by
  unfold F_slices_Equal_string_string
  by_cases hl : a.length = b.length
  · have hne : ((a.length : Int) != (b.length : Int)) = false := by rw [hl]; simp
    have t := runL_all (f := step_slices_Equal_string_string_0) (fun i => decide (a.getD i ByteArray.empty = b.getD i ByteArray.empty)) (fun i => (a, (b, (a.length : Int), (i : Int)))) (.inl false) (.inr ()) a.length (fun i hi => by
      have hw := wrap_succ (i := i) (by omega)
      simp only [step_slices_Equal_string_string_0, lt_len hi, lt_len (show i < b.length by omega), nonneg, Bool.and_self, cond_true, Int.toNat_natCast, hw, beq_is]
      cases decide (a.getD i ByteArray.empty = b.getD i ByteArray.empty) <;> rfl) (by simp [step_slices_Equal_string_string_0])
    have t' : runL step_slices_Equal_string_string_0 (a, (b, (a.length : Int), (0 : Int))) = _ := t
    simp only [hne, cond_false, t']
    cases hq : allN (fun i => decide (a.getD i ByteArray.empty = b.getD i ByteArray.empty)) a.length with
    | true =>
      have hq := allN_true.1 hq
      have : a = b := List.ext_getElem hl fun i h1 h2 => by
        have := of_decide_eq_true (hq i h1)
        simpa [List.getD, List.getElem?_eq_getElem h1, List.getElem?_eq_getElem h2] using this
      simp [this]
    | false =>
      obtain ⟨i, hi, hq⟩ := allN_false.1 hq
      have : a ≠ b := fun e => by subst e; simp at hq
      simp [this]
  · have hne : ((a.length : Int) != (b.length : Int)) = true := by simp; omega
    have : a ≠ b := fun e => hl (by rw [e])
    simp [hne, this]
end Go.Proofs.YtnfngofcdhaaaaaGreat
/- What slices.DeleteFunc and slices.Contains come to at texts. Lengths fit an int. -/
set_option linter.unusedVariables false
set_option linter.unusedSimpArgs false
namespace Go.Proofs.YtnfngofcdhaaaaaGreat
open Go Classical
theorem deleteFunc_is (l : List ByteArray) (hl : l.length ≤ 1048576000) (φ : ByteArray → Option Bool) (p : ByteArray → Bool) (hφ : ∀ x ∈ l, φ x = some (p x)) : F_slices_DeleteFunc_string_string (l, φ) = some (l.filter fun x => !p x) := by
  have hφ' : ∀ i, i < l.length → φ (l.getD i ByteArray.empty) = some (p (l.getD i ByteArray.empty)) := fun i hi => hφ _ (getD_mem hi _)
  have hfind : F_slices_IndexFunc_string_string (l, φ) = some (firstN (fun i => p (l.getD i ByteArray.empty)) l.length) := by
    rcases runL_first (f := step_slices_IndexFunc_string_string_0) (fun i => !p (l.getD i ByteArray.empty)) (fun i => (l, φ, (l.length : Int), (i : Int))) (fun i => .inl (i : Int)) (.inr ()) l.length (fun i hi => by
      have hw := wrap_succ (i := i) (by omega)
      simp only [step_slices_IndexFunc_string_string_0, lt_len hi, nonneg, Bool.and_self, cond_true, Int.toNat_natCast, hw, hφ' i hi]
      cases p (l.getD i ByteArray.empty) <;> rfl) (by simp [step_slices_IndexFunc_string_string_0]) with ⟨t, hp⟩ | ⟨i, hi, hp, hj, t⟩
    · have t' : runL step_slices_IndexFunc_string_string_0 (l, φ, (l.length : Int), (0 : Int)) = _ := t
      simp only [F_slices_IndexFunc_string_string, t']
      rw [firstN_none (fun j hj => by simpa only [Bool.not_eq_true'] using hp j hj)]
    · have t' : runL step_slices_IndexFunc_string_string_0 (l, φ, (l.length : Int), (0 : Int)) = _ := t
      simp only [F_slices_IndexFunc_string_string, t']
      rw [firstN_at hi (by simpa only [Bool.not_eq_false'] using hp) (fun j hj' => by simpa only [Bool.not_eq_true'] using hj j hj')]
  have hnone : ∀ k, k ≤ l.length → (∀ j, j < k → p (l.getD j ByteArray.empty) = false) → (l.take k).filter (fun x => !p x) = l.take k := fun k hk h => List.filter_eq_self.2 fun x hx => by
    obtain ⟨i, hi, rfl⟩ := List.getElem_of_mem hx
    have hi' : i < k ∧ i < l.length := by simp at hi; omega
    have := h i hi'.1
    rw [List.getElem_take]
    simpa [List.getD, List.getElem?_eq_getElem hi'.2] using this
  unfold F_slices_DeleteFunc_string_string
  rw [hfind]
  rcases firstN_cases (fun i => p (l.getD i ByteArray.empty)) l.length with ⟨e, h⟩ | ⟨k, hk, e, hp, hj⟩
  · rw [e]
    have := hnone l.length (Nat.le_refl _) h
    rw [List.take_length] at this
    rw [this]
    rfl
  · rw [e]
    have ne1 : ((k : Int) == -1) = false := beq_eq_false_iff_ne.2 (by omega)
    have hw := wrap_succ (i := k) (by omega)
    have hstart : (l.take (k + 1)).filter (fun x => !p x) = l.take k := by
      rw [take_succ_getD hk ByteArray.empty, List.filter_append, hnone k (by omega) hj]
      simp only [List.filter_cons, List.filter_nil, hp, Bool.not_true, Bool.false_eq_true, if_false, List.append_nil]
    obtain ⟨o, ho, i, cur, rfl, hi, hcl, hct⟩ := runL_inv (f := step_slices_DeleteFunc_string_string_0) (fun s => ∃ (i j : Nat) (cur : List ByteArray), s = (φ, ((i : Int), (j : Int), cur)) ∧ i < j ∧ j ≤ l.length ∧ cur.length = l.length ∧ cur.take i = (l.take j).filter (fun x => !p x) ∧ ∀ t, j ≤ t → t < l.length → cur.getD t ByteArray.empty = l.getD t ByteArray.empty)
      (fun o => ∃ (i : Nat) (cur : List ByteArray), o = ((i : Int), cur) ∧ i ≤ l.length ∧ cur.length = l.length ∧ cur.take i = l.filter (fun x => !p x)) (fun s => l.length - s.2.2.1.toNat) (by
      rintro s ⟨i, j, cur, rfl, hij, hjl, hcl, hct, hsame⟩
      rcases Nat.lt_or_ge j l.length with hlt | hge
      · right
        have hw1 := wrap_succ (i := i) (by omega)
        have hw2 := wrap_succ (i := j) (by omega)
        have hg := hsame j (Nat.le_refl _) hlt
        have hlc : j < cur.length := by omega
        have hic : i < cur.length := by omega
        cases hq : p (l.getD j ByteArray.empty) with
        | true =>
          refine ⟨(φ, ((i : Int), ((j + 1 : Nat) : Int), cur)), ?_, ⟨i, j + 1, cur, rfl, by omega, by omega, hcl, ?_, fun t h1 h2 => hsame t (by omega) h2⟩, by simp; omega⟩
          · simp only [step_slices_DeleteFunc_string_string_0, lt_len hlc, nonneg, Bool.and_self, cond_true, Int.toNat_natCast, hg, hφ' j hlt, hq, Bool.not_true, cond_false, hw2]
          · rw [hct, take_succ_getD hlt ByteArray.empty, List.filter_append]
            simp only [List.filter_cons, List.filter_nil, hq, Bool.not_true, Bool.false_eq_true, if_false, List.append_nil]
        | false =>
          refine ⟨(φ, (((i + 1 : Nat) : Int), ((j + 1 : Nat) : Int), cur.set i (l.getD j ByteArray.empty))), ?_, ⟨i + 1, j + 1, _, rfl, by omega, by omega, by simp [hcl], ?_, fun t h1 h2 => ?_⟩, by simp; omega⟩
          · simp only [step_slices_DeleteFunc_string_string_0, lt_len hlc, lt_len hic, nonneg, Bool.and_self, cond_true, Int.toNat_natCast, hg, hφ' j hlt, hq, Bool.not_false, hw1, hw2]
          · rw [take_succ_getD (by simpa using hic) ByteArray.empty, List.take_set, List.set_eq_of_length_le (by simp; omega), hct, take_succ_getD hlt ByteArray.empty, List.filter_append]
            simp only [List.filter_cons, List.filter_nil, hq, Bool.not_false, if_true]
            simp [List.getD, hic]
          · have hne : i ≠ t := by omega
            have := hsame t (by omega) h2
            simpa [List.getD, List.getElem?_set, hne] using this
      · left
        have : j = cur.length := by omega
        subst this
        refine ⟨((i : Int), cur), by simp only [step_slices_DeleteFunc_string_string_0, not_lt_len, cond_false], i, cur, rfl, by omega, hcl, ?_⟩
        rw [hct, hcl, List.take_length]) (φ, ((k : Int), ((k + 1 : Nat) : Int), l)) ⟨k, k + 1, l, rfl, by omega, by omega, rfl, hstart.symm, fun t _ _ => rfl⟩
    have g3 : decide ((i : Int) ≤ (cur.length : Int)) = true := decide_eq_true (by omega)
    have g4 : decide ((cur.length : Int) ≤ (cur.length : Int)) = true := decide_eq_true (Int.le_refl _)
    have g5 : decide (i + (cur.length - i) ≤ cur.length) = true := decide_eq_true (by omega)
    have g6 : decide ((i : Int) ≤ (((cur.take i ++ List.replicate (cur.length - i) ByteArray.empty ++ cur.drop (i + (cur.length - i))).length : Nat) : Int)) = true := decide_eq_true (by simp; omega)
    have g0 : decide (0 ≤ (0 : Int)) = true := rfl
    have z0 : ((0 : Int).toNat) = 0 := rfl
    simp only [ne1, cond_false, hw, ho, nonneg, g3, g4, g5, g6, g0, z0, Bool.and_self, cond_true, Int.toNat_natCast, Nat.sub_zero]
    congr 1
    rw [List.append_assoc, List.take_append_of_le_length (by simp; omega), List.take_take, Nat.min_self, hct]
theorem contains_is (l : List ByteArray) (hl : l.length ≤ 1048576000) (s : ByteArray) : F_slices_Contains_string_string (l, s) = some (decide (s ∈ l)) := by
  have hfind : F_slices_Index_string_string (l, s) = some (firstN (fun i => decide (s = l.getD i ByteArray.empty)) l.length) := by
    rcases runL_first (f := step_slices_Index_string_string_0) (fun i => !decide (s = l.getD i ByteArray.empty)) (fun i => (l, s, (l.length : Int), (i : Int))) (fun i => .inl (i : Int)) (.inr ()) l.length (fun i hi => by
      have hw := wrap_succ (i := i) (by omega)
      simp only [step_slices_Index_string_string_0, lt_len hi, nonneg, Bool.and_self, cond_true, Int.toNat_natCast, hw, beq_is]
      cases decide (s = l.getD i ByteArray.empty) <;> rfl) (by simp [step_slices_Index_string_string_0]) with ⟨t, hp⟩ | ⟨i, hi, hp, hj, t⟩
    · have t' : runL step_slices_Index_string_string_0 (l, s, (l.length : Int), (0 : Int)) = _ := t
      simp only [F_slices_Index_string_string, t']
      rw [firstN_none (fun j hj => by simpa only [Bool.not_eq_true'] using hp j hj)]
    · have t' : runL step_slices_Index_string_string_0 (l, s, (l.length : Int), (0 : Int)) = _ := t
      simp only [F_slices_Index_string_string, t']
      rw [firstN_at hi (by simpa only [Bool.not_eq_false'] using hp) (fun j hj' => by simpa only [Bool.not_eq_true'] using hj j hj')]
  simp only [F_slices_Contains_string_string, hfind]
  rcases firstN_cases (fun i => decide (s = l.getD i ByteArray.empty)) l.length with ⟨e, h⟩ | ⟨k, hk, e, hp, hj⟩
  · rw [e]
    have : ¬ s ∈ l := fun hs => by
      obtain ⟨i, hi, rfl⟩ := List.getElem_of_mem hs
      have := of_decide_eq_false (h i hi)
      exact this (by simp [List.getD, List.getElem?_eq_getElem hi])
    rw [decide_eq_false this]; rfl
  · rw [e]
    have : s ∈ l := by rw [of_decide_eq_true hp]; exact getD_mem hk _
    rw [decide_eq_true this, decide_eq_true (by omega)]
end Go.Proofs.YtnfngofcdhaaaaaGreat
/- What NextEdition comes to, on both sides: plain laws. Lengths fit an int. -/
set_option linter.unusedVariables false
set_option linter.unusedSimpArgs false
namespace Go.Proofs.YtnfngofcdhaaaaaGreat
open Go Classical
/-- glosses of an edition -/
def glAll (l : List ByteArray) : Bool := allN (fun i => gl (l.getD i ByteArray.empty)) l.length
theorem glAll_mem {l : List ByteArray} : glAll l = true ↔ ∀ s ∈ l, gl s = true := by
  unfold glAll
  rw [allN_true]
  constructor
  · intro h s hs
    obtain ⟨i, hi, rfl⟩ := List.getElem_of_mem hs
    have := h i hi
    simpa [List.getD, List.getElem?_eq_getElem hi] using this
  · intro h i hi
    exact h _ (getD_mem hi _)
noncomputable def edition (l : List ByteArray) : Bool := glAll l && decide (Rise l) && decide ((l.length : Int) ≤ 40)
def riseAt (l : List ByteArray) (i : Nat) : Bool := gl (l.getD i ByteArray.empty) && (decide (i = 0) || lessB (l.getD (i - 1) ByteArray.empty) (l.getD i ByteArray.empty))
theorem riseAll (l : List ByteArray) : allN (riseAt l) l.length = (glAll l && decide (Rise l)) := by
  cases h : (glAll l && decide (Rise l)) with
  | true =>
    obtain ⟨h1, h2⟩ := and_b h
    have h2 := of_decide_eq_true h2
    rw [allN_true]
    intro i hi
    unfold riseAt
    rw [glAll_mem.1 h1 _ (getD_mem hi _)]
    by_cases h0 : i = 0
    · simp [h0]
    · rw [h2.lt (show i - 1 < i by omega) hi]; simp
  | false =>
    cases hq : allN (riseAt l) l.length with
    | false => rfl
    | true =>
      rw [allN_true] at hq
      have h1 : glAll l = true := allN_true.2 fun i hi => (and_b (hq i hi)).1
      have h2 : Rise l := rise_of fun i h0 hi => by
        have := (and_b (hq i hi)).2
        rw [decide_eq_false (by omega)] at this
        simpa using this
      rw [h1, decide_eq_true h2] at h
      cases h
theorem ofGlosses_is (l : List ByteArray) (hl : l.length ≤ 1048576000) (hg : ∀ e ∈ l, e.size ≤ 9223372036854775807) : F_spec_ofGlosses l = some (edition l) := by
  have t := runL_all (f := step_spec_ofGlosses_0) (riseAt l) (fun i => (l, (l, (l.length : Int), (i : Int)))) (.inl false) (.inr l) l.length (fun i hi => by
    have hw := wrap_succ (i := i) (by omega)
    have h1 := enGloss_is (l.getD i ByteArray.empty) (hg _ (getD_mem hi _))
    simp only [step_spec_ofGlosses_0, lt_len hi, nonneg, Bool.and_self, cond_true, Int.toNat_natCast, hw, h1, riseAt]
    cases gl (l.getD i ByteArray.empty) with
    | false => rfl
    | true =>
      rcases Nat.eq_zero_or_pos i with rfl | hp
      · simp
      · have hwp := wrap_pred (i := i) (by omega) hp
        have hp' : decide ((i : Int) > 0) = true := by simp; omega
        have h0 : decide (i = 0) = false := by simp; omega
        simp only [Bool.not_true, cond_false, hp', cond_true, hwp, lt_len (show i - 1 < l.length by omega), nonneg, Bool.and_self, Int.toNat_natCast, h0, Bool.false_or, Bool.true_and]
        show _ = some (bif Op.bytesLess (l.getD (i - 1) ByteArray.empty).toList (l.getD i ByteArray.empty).toList then _ else _)
        cases Op.bytesLess (l.getD (i - 1) ByteArray.empty).toList (l.getD i ByteArray.empty).toList <;> rfl) (by simp [step_spec_ofGlosses_0])
  have t' : runL step_spec_ofGlosses_0 (l, (l, (l.length : Int), (0 : Int))) = _ := t
  simp only [F_spec_ofGlosses, t', riseAll, edition]
  cases (glAll l && decide (Rise l)) <;> simp

theorem allOf_is (l : List ByteArray) (hl : l.length ≤ 1048576000) (hg : ∀ e ∈ l, e.size ≤ 9223372036854775807) : F_impl_allOf_string (l, K_impl_IsGloss ()) = some (glAll l) := by
  have hφ : ∀ i, i < l.length → K_impl_allOf_string_1 (K_impl_IsGloss ()) (l.getD i ByteArray.empty) = some (!gl (l.getD i ByteArray.empty)) := fun i hi => by
    have := IsGloss_is (l.getD i ByteArray.empty) (hg _ (getD_mem hi _))
    simp only [K_impl_allOf_string_1, F_impl_allOf_string_1, K_impl_IsGloss, this]
  have hfind : F_slices_IndexFunc_string_string (l, K_impl_allOf_string_1 (K_impl_IsGloss ())) = some (firstN (fun i => !gl (l.getD i ByteArray.empty)) l.length) := by
    rcases runL_first (f := step_slices_IndexFunc_string_string_0) (fun i => gl (l.getD i ByteArray.empty)) (fun i => (l, K_impl_allOf_string_1 (K_impl_IsGloss ()), (l.length : Int), (i : Int))) (fun i => .inl (i : Int)) (.inr ()) l.length (fun i hi => by
      have hw := wrap_succ (i := i) (by omega)
      simp only [step_slices_IndexFunc_string_string_0, lt_len hi, nonneg, Bool.and_self, cond_true, Int.toNat_natCast, hw, hφ i hi]
      cases gl (l.getD i ByteArray.empty) <;> rfl) (by simp [step_slices_IndexFunc_string_string_0]) with ⟨t, hp⟩ | ⟨i, hi, hp, hj, t⟩
    · have t' : runL step_slices_IndexFunc_string_string_0 (l, K_impl_allOf_string_1 (K_impl_IsGloss ()), (l.length : Int), (0 : Int)) = _ := t
      simp only [F_slices_IndexFunc_string_string, t']
      rw [firstN_none (fun j hj => by simp only [hp j hj, Bool.not_true])]
    · have t' : runL step_slices_IndexFunc_string_string_0 (l, K_impl_allOf_string_1 (K_impl_IsGloss ()), (l.length : Int), (0 : Int)) = _ := t
      simp only [F_slices_IndexFunc_string_string, t']
      rw [firstN_at hi (by simp only [hp, Bool.not_false]) (fun j hj' => by simp only [hj j hj', Bool.not_true])]
  simp only [F_impl_allOf_string, F_slices_ContainsFunc_string_string, hfind, firstN_ge, Bool.not_not, glAll]

/-- the texts that are not one -/
theorem rest_is (out : List ByteArray) (l : List Prop') (m i num kind : Int) (g : ByteArray) (v idle : List Int) (ho : out.length ≤ 1048576000) :
    runL step_spec_NextEdition_0 (out, l, (m, i, (out, (out.length : Int), (0, num, (kind, g, (v, idle, [])))))) = some (out, (l, m, (i, out.filter (fun x => decide (x ≠ g)), (num, kind, (g, v, idle))))) := by
  have t := runL_traj (f := step_spec_NextEdition_0) (fun k => (out, l, (m, i, (out, (out.length : Int), ((k : Int), num, (kind, g, (v, idle, (out.take k).filter (fun x => decide (x ≠ g))))))))) (out, (l, m, (i, out.filter (fun x => decide (x ≠ g)), (num, kind, (g, v, idle))))) out.length (fun k hk => by
    have hw := wrap_succ (i := k) (by omega)
    have hlen : ((out.take k).filter (fun x => decide (x ≠ g))).length ≤ k := Nat.le_trans (List.length_filter_le _ _) (by simp; omega)
    have hgd : decide ((((out.take k).filter (fun x => decide (x ≠ g))).length + [out.getD k ByteArray.empty].length) * 16 ≤ 140737488355328) = true := decide_eq_true (by simp only [List.length_singleton]; omega)
    have ht := take_succ_getD hk ByteArray.empty
    simp only [step_spec_NextEdition_0, lt_len hk, nonneg, Bool.and_self, cond_true, Int.toNat_natCast, hw, beq_is, hgd, ht, List.filter_append, List.filter_cons, List.filter_nil]
    by_cases hq : out.getD k ByteArray.empty = g
    · have q1 : decide (out.getD k ByteArray.empty = g) = true := decide_eq_true hq
      have q2 : decide (out.getD k ByteArray.empty ≠ g) = false := decide_eq_false (fun h => h hq)
      simp only [q1, q2, Bool.not_true, cond_false, Bool.false_eq_true, if_false, List.append_nil]
    · have q1 : decide (out.getD k ByteArray.empty = g) = false := decide_eq_false hq
      have q2 : decide (out.getD k ByteArray.empty ≠ g) = true := decide_eq_true hq
      simp only [q1, q2, Bool.not_false, cond_true, if_true]) (by simp [step_spec_NextEdition_0])
  simpa using t

/-- one round's answer -/
theorem delete_is (l : List ByteArray) (k : Nat) (hk : k < l.length) (hl : l.length ≤ 1048576000) : F_slices_Delete_string_string (l, (k : Int), ((k + 1 : Nat) : Int)) = some (l.take k ++ l.drop (k + 1)) := by
  have z0 : ((0 : Int).toNat) = 0 := rfl
  have g1 : decide ((k : Int) ≤ ((k + 1 : Nat) : Int)) = true := decide_eq_true (by omega)
  have g2 : decide (((k + 1 : Nat) : Int) ≤ (l.length : Int)) = true := decide_eq_true (by omega)
  have g3 : decide ((l.length : Int) ≤ (l.length : Int)) = true := decide_eq_true (Int.le_refl _)
  have g4 : ((k : Int) == ((k + 1 : Nat) : Int)) = false := by simp; omega
  have g5 : decide (0 ≤ (0 : Int)) = true := rfl
  have g6 : decide ((k : Int) ≤ (l.length : Int)) = true := decide_eq_true (by omega)
  have t1 : (l.drop (k + 1)).take (l.length - (k + 1)) = l.drop (k + 1) := List.take_of_length_le (by simp)
  have len1 : (l.drop (k + 1)).length = l.length - (k + 1) := by simp
  have g7 : decide (k - 0 + (l.length - (k + 1)) ≤ l.length) = true := decide_eq_true (by omega)
  have hN : k - 0 + (l.length - (k + 1)) = l.length - 1 := by omega
  have hz : ((k : Int) - ((0 : Nat) : Int) + ((l.length - (k + 1) : Nat) : Int)) = ((l.length - 1 : Nat) : Int) := by omega
  have lv1 : (l.take (k - 0) ++ l.drop (k + 1) ++ l.drop (l.length - 1)).length = l.length := by simp; omega
  have g8 : decide (((l.length - 1 : Nat) : Int) ≤ (l.length : Int)) = true := decide_eq_true (by omega)
  have g9 : decide ((l.length : Int) ≤ ((l.length - 0 : Nat) : Int)) = true := decide_eq_true (by omega)
  have g10 : decide (0 + (l.length - 1) + (l.length - (l.length - 1)) ≤ l.length) = true := decide_eq_true (by omega)
  have hlen : (l.take (k - 0) ++ l.drop (k + 1)).length = l.length - 1 := by simp; omega
  have g7' : decide (l.length - 1 ≤ l.length) = true := decide_eq_true (by omega)
  simp only [F_slices_Delete_string_string, nonneg, g1, g2, g3, g4, g5, g6, Bool.and_self, cond_true, cond_false, Int.toNat_natCast, z0, t1, len1, hN, hz, g7', lv1, g8, g9, g10]
  congr 1
  rw [List.take_append_of_le_length (by simp; omega), List.take_append_of_le_length (by simp; omega), List.take_take, Nat.zero_add, Nat.min_self, ← hlen, List.take_left]
  simp
theorem insert_is (l : List ByteArray) (s : ByteArray) (k : Nat) (hk : k ≤ l.length) (hl : l.length ≤ 1048576000) : F_slices_Insert_string_string (l, (k : Int), [s]) = some (l.take k ++ [s] ++ l.drop k) := by
  have g2 : decide ((k : Int) ≤ (l.length : Int)) = true := decide_eq_true (by omega)
  have g3 : decide (([s] : List ByteArray).length = 1) = true := rfl
  have g4 : decide ((l.length + 1) * 16 ≤ 140737488355328) = true := decide_eq_true (by omega)
  simp only [F_slices_Insert_string_string, F_insert, nonneg, g2, g3, g4, Bool.and_self, cond_true, Int.toNat_natCast]

/-- is a gloss in, behind the first i proposals? -/
def Dec (l : List Prop') (gs : List ByteArray) (s : ByteArray) : Nat → Prop
  | 0 => s ∈ gs
  | i + 1 => if passes (l.getD i dP).2.2.2 0 = true ∧ (l.getD i dP).2.2.1 = s then (l.getD i dP).2.1 = 0 else Dec l gs s i
theorem dec_succ (l : List Prop') (gs : List ByteArray) (s : ByteArray) (i : Nat) : Dec l gs s (i + 1) = if passes (l.getD i dP).2.2.2 0 = true ∧ (l.getD i dP).2.2.1 = s then (l.getD i dP).2.1 = 0 else Dec l gs s i := rfl
structure Ed (l : List Prop') (gs : List ByteArray) (out : List ByteArray) (idle : List Int) (i : Nat) : Prop where
  rise : Rise out
  mem : ∀ s, s ∈ out ↔ Dec l gs s i
  idle : ∀ n ∈ idle, ∃ j, j < i ∧ passes (l.getD j dP).2.2.2 0 = true ∧ (l.getD j dP).1 = n
  gl : ∀ s ∈ out, gl s = true
  len : out.length ≤ 40 + i
theorem edition_loop (l : List Prop') (hl : l.length ≤ 1048576) (hv : ∀ e ∈ l, e.2.2.2.length ≤ 1048576) (hok : ∀ i, i < l.length → votesOK (l.getD i dP).2.2.2 = true) (hgl : ∀ i, i < l.length → gl (l.getD i dP).2.2.1 = true) (out0 : List ByteArray) (h0 : Ed l out0 out0 [] 0) :
    ∃ (out : List ByteArray) (idle : List Int), runL step_spec_NextEdition_1 (out0, l, ((l.length : Int), 0, [])) = some (out, idle) ∧ runL step_impl_NextEdition_0 (l, (l.length : Int), (0, out0, [])) = some (idle, out) ∧ Ed l out0 out idle l.length ∧ idle.length ≤ l.length := by
  obtain ⟨o, p, e1, e2, out, idle, rfl, rfl, e3, e4⟩ := runL_sim (f := step_spec_NextEdition_1) (g := step_impl_NextEdition_0)
    (fun s t => ∃ (i : Nat) (out : List ByteArray) (idle : List Int), s = (out, l, ((l.length : Int), (i : Int), idle)) ∧ t = (l, (l.length : Int), ((i : Int), out, idle)) ∧ i ≤ l.length ∧ Ed l out0 out idle i ∧ idle.length ≤ i)
    (fun o p => ∃ (out : List ByteArray) (idle : List Int), o = (out, idle) ∧ p = (idle, out) ∧ Ed l out0 out idle l.length ∧ idle.length ≤ l.length) (fun s => l.length - s.2.2.2.1.toNat) (by
    rintro s t ⟨i, out, idle, rfl, rfl, hi, hE, hd⟩
    rcases Nat.lt_or_ge i l.length with hlt | hge
    · right
      have hol := hE.len
      have hw := wrap_succ (i := i) (by omega)
      have hvi := hv _ (getD_mem hlt dP)
      have p1 : F_spec_ofPassed (l.getD i (0, (0, ByteArray.empty, [])), 0) = _ := ofPassed_is (l.getD i dP) 0 hvi (by omega) (by omega)
      have p2 : F_impl_Proposal_passed (l.getD i (0, (0, ByteArray.empty, [])), 0) = _ := passed_is (l.getD i dP) 0 hvi (hok i hlt) (by omega) (by omega)
      have hgi := hgl i hlt
      have idle' : ∀ n ∈ idle, ∃ j, j < i + 1 ∧ passes (l.getD j dP).2.2.2 0 = true ∧ (l.getD j dP).1 = n := fun n hn => by
        obtain ⟨j, h1, h2⟩ := hE.idle n hn
        exact ⟨j, by omega, h2⟩
      have decN : ∀ s, ¬ (passes (l.getD i dP).2.2.2 0 = true ∧ (l.getD i dP).2.2.1 = s) → (Dec l out0 s (i + 1) ↔ Dec l out0 s i) := fun s hno => by
        rw [dec_succ, if_neg hno]
      have decY : ∀ s, (passes (l.getD i dP).2.2.2 0 = true ∧ (l.getD i dP).2.2.1 = s) → (Dec l out0 s (i + 1) ↔ (l.getD i dP).2.1 = 0) := fun s hyes => by
        rw [dec_succ, if_pos hyes]
      generalize hp : l.getD i (0, (0, ByteArray.empty, [])) = q at p1 p2
      have hq : l.getD i dP = q := hp
      rw [hq] at hgi decN decY
      obtain ⟨num, kind, g, vs⟩ := q
      simp only at hgi decN decY
      cases hps : passes (num, kind, g, vs).2.2.2 0 with
      | false =>
        refine ⟨_, _, ?_, ?_, ⟨i + 1, out, idle, rfl, rfl, by omega, ⟨hE.rise, fun s => (hE.mem s).trans (decN s fun h => by have h1 := h.1; simp only at hps; rw [hps] at h1; cases h1).symm, idle', hE.gl, by omega⟩, by omega⟩, by simp; omega⟩
        · simp only [step_spec_NextEdition_1, lt_len hlt, nonneg, Bool.and_self, cond_true, Int.toNat_natCast, hp, p1, hps, Bool.not_false, hw]
        · simp only [step_impl_NextEdition_0, lt_len hlt, nonneg, Bool.and_self, cond_true, Int.toNat_natCast, hp, p2, hps, Bool.not_false, hw]
      | true =>
        have hr := rest_is out l (l.length : Int) (i : Int) num kind g vs idle (by omega)
        have hb := bsearch_is hE.rise g (by omega)
        have hk := ahead_le g out
        have ht : decide (((out.filter fun x => decide (x ≠ g)).length : Int) < (out.length : Int)) = decide (g ∈ out) := by
          by_cases hm : g ∈ out
          · rw [decide_eq_true hm]
            have := filter_there.2 hm
            exact decide_eq_true (by omega)
          · rw [decide_eq_false hm]
            have : ¬ (out.filter fun x => decide (x ≠ g)).length < out.length := fun h => hm (filter_there.1 h)
            exact decide_eq_false (by omega)
        have hgd : decide ((idle.length + [num].length) * 8 ≤ 140737488355328) = true := decide_eq_true (by simp only [List.length_singleton]; omega)
        cases hc : (decide (g ∈ out) == (kind == 0)) with
        | true =>
          have hc' : (g ∈ out ↔ kind = 0) := by
            by_cases hm : g ∈ out
            · rw [decide_eq_true hm] at hc
              have : kind = 0 := by simpa using hc
              exact ⟨fun _ => this, fun _ => hm⟩
            · rw [decide_eq_false hm] at hc
              have : ¬ kind = 0 := by simpa using hc
              exact ⟨fun h => absurd h hm, fun h => absurd h this⟩
          refine ⟨_, _, ?_, ?_, ⟨i + 1, out, idle ++ [num], rfl, rfl, by omega, ⟨hE.rise, fun s => ?_, fun n hn => ?_, hE.gl, by omega⟩, by simp; omega⟩, by simp; omega⟩
          · simp only [step_spec_NextEdition_1, lt_len hlt, nonneg, Bool.and_self, cond_true, Int.toNat_natCast, hp, p1, hps, Bool.not_true, cond_false, hr, ht, hc, hgd, hw]
          · simp only [step_impl_NextEdition_0, lt_len hlt, nonneg, Bool.and_self, cond_true, Int.toNat_natCast, hp, p2, hps, Bool.not_true, cond_false, hb, hc, hgd, hw]
          · by_cases hs : g = s
            · subst hs; exact hc'.trans (decY g ⟨hps, rfl⟩).symm
            · exact (hE.mem s).trans (decN s fun h => hs h.2).symm
          · rcases List.mem_append.1 hn with hn | hn
            · exact idle' n hn
            · refine ⟨i, by omega, ?_⟩
              rw [hq]
              exact ⟨hps, (List.mem_singleton.1 hn).symm⟩
        | false =>
          by_cases hm : g ∈ out
          · rw [decide_eq_true hm] at hc
            obtain ⟨hkl, _⟩ := (hE.rise.mem g).1 hm
            have hw2 := wrap_succ (i := ahead g out) (by omega)
            have hdel := delete_is out (ahead g out) hkl (by omega)
            rw [hE.rise.remove hm] at hdel
            have hfl : (out.filter fun x => decide (x ≠ g)).length ≤ out.length := List.length_filter_le _ _
            refine ⟨_, _, ?_, ?_, ⟨i + 1, out.filter (fun x => decide (x ≠ g)), idle, rfl, rfl, by omega, ⟨hE.rise.filter _, fun s => ?_, idle', fun s hs => hE.gl s (List.mem_filter.1 hs).1, by omega⟩, by omega⟩, by simp; omega⟩
            · simp only [step_spec_NextEdition_1, lt_len hlt, nonneg, Bool.and_self, cond_true, Int.toNat_natCast, hp, p1, hps, Bool.not_true, cond_false, hr, ht, hc, decide_eq_true hm, hw]
            · simp only [step_impl_NextEdition_0, lt_len hlt, nonneg, Bool.and_self, cond_true, Int.toNat_natCast, hp, p2, hps, Bool.not_true, cond_false, hb, hc, decide_eq_true hm, hw2, hdel, hw]
            · rw [List.mem_filter, decide_eq_true_iff]
              have hk0 : ¬ kind = 0 := by simpa using hc
              by_cases hs : g = s
              · subst hs
                exact ⟨fun h => absurd rfl h.2, fun h => absurd ((decY g ⟨hps, rfl⟩).1 h) hk0⟩
              · exact ⟨fun h => (decN s fun h => hs h.2).2 ((hE.mem s).1 h.1), fun h => ⟨(hE.mem s).2 ((decN s fun h => hs h.2).1 h), fun e => hs e.symm⟩⟩
          · rw [decide_eq_false hm] at hc
            have hct := ctPut_is out g (by omega)
            have hins := insert_is out g (ahead g out) hk (by omega)
            have hpt : put out g = out.take (ahead g out) ++ [g] ++ out.drop (ahead g out) := by rw [put_is hE.rise, if_neg hm]
            rw [← hpt] at hins
            have hpl := put_len (l := out) g
            refine ⟨_, _, ?_, ?_, ⟨i + 1, put out g, idle, rfl, rfl, by omega, ⟨hE.rise.put g, fun s => ?_, idle', fun s hs => ?_, by omega⟩, by omega⟩, by simp; omega⟩
            · simp only [step_spec_NextEdition_1, lt_len hlt, nonneg, Bool.and_self, cond_true, Int.toNat_natCast, hp, p1, hps, Bool.not_true, cond_false, hr, ht, hc, decide_eq_false hm, hct, hw]
            · simp only [step_impl_NextEdition_0, lt_len hlt, nonneg, Bool.and_self, cond_true, Int.toNat_natCast, hp, p2, hps, Bool.not_true, cond_false, hb, hc, decide_eq_false hm, hins, hw]
            · have hk0 : kind = 0 := by simpa using hc
              rw [put_mem hE.rise]
              by_cases hs : g = s
              · subst hs
                exact ⟨fun _ => (decY g ⟨hps, rfl⟩).2 hk0, fun _ => .inl rfl⟩
              · exact ⟨fun h => (decN s fun h => hs h.2).2 ((hE.mem s).1 (h.resolve_left fun e => hs e.symm)), fun h => .inr ((hE.mem s).2 ((decN s fun h => hs h.2).1 h))⟩
            · rcases (put_mem hE.rise g s).1 hs with rfl | hs
              · exact hgi
              · exact hE.gl s hs
    · left
      have : i = l.length := by omega
      subst this
      exact ⟨_, _, by simp only [step_spec_NextEdition_1, not_lt_len, cond_false], by simp only [step_impl_NextEdition_0, not_lt_len, cond_false], out, idle, rfl, rfl, hE, hd⟩) (out0, l, ((l.length : Int), 0, [])) (l, (l.length : Int), (0, out0, [])) ⟨0, out0, [], rfl, rfl, by omega, h0, by simp⟩
  exact ⟨out, idle, e1, e2, e3, e4⟩

theorem gl_size {s : ByteArray} (h : gl s = true) : s.size ≤ 9223372036854775807 := by
  have := of_decide_eq_true (and_b (and_b h).2).2
  omega
theorem good_gl {m : Int} {l : List Prop'} (h : good m l = true) {i : Nat} (hi : i < l.length) : gl (l.getD i dP).2.2.1 = true := by
  have h1 := (and_b (and_b h).1).1
  have h2 := allN_true.1 h1 i hi
  have h3 := (and_b (and_b (and_b h2).1).1).1
  exact (and_b h3).2
theorem NextEdition_val (gs : List ByteArray) (l : List Prop') (m : Int) (hs : gs.length ≤ 1048576) (hz : ∀ e ∈ gs, e.size ≤ 9223372036854775807) (hf : Fits l) :
    (F_spec_NextEdition (gs, l, m) = some ([], [], false) ∧ F_impl_NextEdition (gs, l, m) = some ([], [], false)) ∨ (good m l = true ∧ ∃ out idle, F_spec_NextEdition (gs, l, m) = some (out, idle, true) ∧ F_impl_NextEdition (gs, l, m) = some (out, idle, true) ∧ Ed l gs out idle l.length ∧ out.length ≤ 40 ∧ idle.length ≤ l.length) := by
  have h1 := ofGlosses_is gs (by omega) hz
  have h2 := allOf_is gs (by omega) hz
  have h3 := ofGood_is l m hf
  have h4 := AreProposals_is l m hf
  obtain ⟨D, hD, hDr, hDm, hDl⟩ := distinct_is gs (by omega)
  have h5 := equal_is D gs (by omega)
  have hDe : D = gs ↔ Rise gs := ⟨fun e => e ▸ hDr, fun h => Rise.ext hDr h hDm⟩
  have none_spec : ∀ b, edition gs = false ∨ b = false → b = good m l → F_spec_NextEdition (gs, l, m) = some ([], [], false) := by
    intro b hb e
    subst e
    simp only [F_spec_NextEdition, h1, h3]
    rcases hb with hb | hb
    · rw [hb]; rfl
    · rw [hb]; cases edition gs <;> rfl
  by_cases hE : edition gs = true ∧ good m l = true
  · obtain ⟨hE, hg⟩ := hE
    obtain ⟨q1, q2⟩ := and_b hE
    obtain ⟨q0, q1⟩ := and_b q1
    have q1 := of_decide_eq_true q1
    have q2 := of_decide_eq_true q2
    have n40 : decide ((gs.length : Int) > 40) = false := decide_eq_false (by omega)
    have hde : decide (D = gs) = true := decide_eq_true (hDe.2 q1)
    have hcl : F_slices_Clone_string_string gs = some gs := by
      simp only [F_slices_Clone_string_string]
      rw [decide_eq_true (by omega)]; rfl
    have hgd : decide ((([] : List ByteArray).length + gs.length) * 16 ≤ 140737488355328) = true := decide_eq_true (by simp; omega)
    obtain ⟨out, idle, e1, e2, e3, e4⟩ := edition_loop l hf.len hf.votes (fun i hi => (good_votes hg hi).1) (fun i hi => good_gl hg hi) gs ⟨q1, fun s => Iff.rfl, fun n hn => (by cases hn), glAll_mem.1 q0, by omega⟩
    have hll := hf.len
    have hol := e3.len
    have h6 := ofGlosses_is out (by omega) (fun e he => gl_size (e3.gl e he))
    have hed : edition out = decide ((out.length : Int) ≤ 40) := by
      unfold edition
      rw [glAll_mem.2 e3.gl, decide_eq_true e3.rise]
      rfl
    by_cases h40 : (out.length : Int) ≤ 40
    · have m40 : decide ((out.length : Int) > 40) = false := decide_eq_false (by omega)
      refine .inr ⟨hg, out, idle, ?_, ?_, e3, by omega, e4⟩
      · simp only [F_spec_NextEdition, h1, hE, h3, hg, Bool.not_true, cond_false, hgd, cond_true, List.nil_append, e1, h6, hed, decide_eq_true h40]
      · simp only [F_impl_NextEdition, n40, cond_false, h2, q0, Bool.not_true, hD, h5, hde, h4, hg, hcl, e2, m40]
    · have m40 : decide ((out.length : Int) > 40) = true := decide_eq_true (by omega)
      refine .inl ⟨?_, ?_⟩
      · simp only [F_spec_NextEdition, h1, hE, h3, hg, Bool.not_true, Bool.not_false, cond_false, hgd, cond_true, List.nil_append, e1, h6, hed, decide_eq_false h40]
      · simp only [F_impl_NextEdition, n40, cond_false, h2, q0, Bool.not_true, hD, h5, hde, h4, hg, hcl, e2, m40, cond_true]
  · refine .inl ⟨none_spec (good m l) (by cases h : edition gs <;> cases h' : good m l <;> simp_all) rfl, ?_⟩
    by_cases h40 : (gs.length : Int) > 40
    · simp only [F_impl_NextEdition, decide_eq_true h40, cond_true]
    · cases hq0 : glAll gs with
      | false => simp only [F_impl_NextEdition, decide_eq_false h40, cond_false, h2, hq0, Bool.not_false, cond_true]
      | true =>
        by_cases hr : Rise gs
        · have hed : edition gs = true := by
            unfold edition
            rw [hq0, decide_eq_true hr, decide_eq_true (by omega)]
            rfl
          have hg : good m l = false := by
            cases h : good m l with
            | false => rfl
            | true => exact absurd ⟨hed, h⟩ hE
          simp only [F_impl_NextEdition, decide_eq_false h40, cond_false, h2, hq0, Bool.not_true, hD, h5, decide_eq_true (hDe.2 hr), h4, hg, Bool.not_false, cond_true]
        · have hne : ¬ D = gs := fun e => hr (hDe.1 e)
          simp only [F_impl_NextEdition, decide_eq_false h40, cond_false, h2, hq0, Bool.not_true, hD, h5, decide_eq_false hne, Bool.not_false, cond_true]
theorem NextEdition_same (gs : List ByteArray) (l : List Prop') (m : Int) (hs : gs.length ≤ 1048576) (hz : ∀ e ∈ gs, e.size ≤ 9223372036854775807) (hf : Fits l) :
    ∃ o, F_spec_NextEdition (gs, l, m) = some o ∧ F_impl_NextEdition (gs, l, m) = some o ∧ o.1.length ≤ 1048576 ∧ o.2.1.length ≤ 1048576 := by
  rcases NextEdition_val gs l m hs hz hf with ⟨h1, h2⟩ | ⟨_, out, idle, h1, h2, _, h3, h4⟩
  · exact ⟨_, h1, h2, by simp, by simp⟩
  · have := hf.len
    exact ⟨_, h1, h2, by simp only; omega, by simp only; omega⟩
end Go.Proofs.YtnfngofcdhaaaaaGreat
/- What ContestedGlosses comes to, on both sides: plain laws. Lengths fit an int. -/
set_option linter.unusedVariables false
set_option linter.unusedSimpArgs false
namespace Go.Proofs.YtnfngofcdhaaaaaGreat
open Go Classical
/-- numbers i and j contest a gloss -/
def Cont (l : List Prop') (i j : Nat) (s : ByteArray) : Prop := (l.getD i dP).2.2.1 = s ∧ (l.getD j dP).2.2.1 = s ∧ (l.getD i dP).2.1 ≠ (l.getD j dP).2.1 ∧ passes (l.getD i dP).2.2.2 0 = true ∧ passes (l.getD j dP).2.2.2 0 = true
theorem cont_inner (l : List Prop') (hn : l.length ≤ 12) (hv : ∀ e ∈ l, e.2.2.2.length ≤ 1048576) (i : Nat) (hi : i < l.length) (out0 : List ByteArray) (h0 : Rise out0) (hl0 : out0.length ≤ 1000000) :
    ∃ out, runL step_spec_ContestedGlosses_0 (l, out0, (l, (l.length : Int), ((i : Int), l, ((l.length : Int), 0, l.getD i (0, (0, ByteArray.empty, [])))))) = some (l, out, (l, (l.length : Int), (i : Int))) ∧ Rise out ∧ out.length ≤ out0.length + 12 ∧ ∀ s, s ∈ out ↔ s ∈ out0 ∨ ∃ j, j < l.length ∧ Cont l i j s := by
  obtain ⟨o, ho, out, rfl, h1, h2, h3⟩ := runL_inv (f := step_spec_ContestedGlosses_0) (fun t => ∃ (j : Nat) (out : List ByteArray), t = (l, out, (l, (l.length : Int), ((i : Int), l, ((l.length : Int), (j : Int), l.getD i (0, (0, ByteArray.empty, [])))))) ∧ j ≤ l.length ∧ Rise out ∧ out.length ≤ out0.length + j ∧ ∀ s, s ∈ out ↔ s ∈ out0 ∨ ∃ j', j' < j ∧ Cont l i j' s)
    (fun o => ∃ out, o = (l, out, (l, (l.length : Int), (i : Int))) ∧ Rise out ∧ out.length ≤ out0.length + 12 ∧ ∀ s, s ∈ out ↔ s ∈ out0 ∨ ∃ j, j < l.length ∧ Cont l i j s) (fun t => l.length - t.2.2.2.2.2.2.2.1.toNat) (by
    rintro t ⟨j, out, rfl, hj, hr, hlen, hmem⟩
    rcases Nat.lt_or_ge j l.length with hlt | hge
    · right
      have hw := wrap_succ (i := j) (by omega)
      have p1 : F_spec_ofPassed (l.getD i (0, (0, ByteArray.empty, [])), 0) = _ := ofPassed_is (l.getD i dP) 0 (hv _ (getD_mem hi dP)) (by omega) (by omega)
      have p2 : F_spec_ofPassed (l.getD j (0, (0, ByteArray.empty, [])), 0) = _ := ofPassed_is (l.getD j dP) 0 (hv _ (getD_mem hlt dP)) (by omega) (by omega)
      -- nothing new
      have keep : ¬ Cont l i j (l.getD i dP).2.2.1 → ∀ s, s ∈ out ↔ s ∈ out0 ∨ ∃ j', j' < j + 1 ∧ Cont l i j' s := fun hc s => by
        rw [hmem s]
        constructor
        · rintro (h | ⟨j', h1, h2⟩)
          · exact .inl h
          · exact .inr ⟨j', by omega, h2⟩
        · rintro (h | ⟨j', h1, h2⟩)
          · exact .inl h
          · rcases Nat.lt_succ_iff_lt_or_eq.1 h1 with h1 | rfl
            · exact .inr ⟨j', h1, h2⟩
            · exact absurd (by rw [h2.1]; exact h2) hc
      by_cases c1 : (l.getD i dP).2.2.1 = (l.getD j dP).2.2.1
      · by_cases c2 : (l.getD i dP).2.1 = (l.getD j dP).2.1
        · have b1 : ((l.getD i (0, (0, ByteArray.empty, []))).2.2.1.toList == (l.getD j (0, (0, ByteArray.empty, []))).2.2.1.toList) = true := by rw [beq_is]; exact decide_eq_true c1
          have b2 : ((l.getD i (0, (0, ByteArray.empty, []))).2.1 != (l.getD j (0, (0, ByteArray.empty, []))).2.1) = false := by simpa using c2
          refine ⟨_, ?_, ⟨j + 1, out, rfl, by omega, hr, by omega, keep fun h => h.2.2.1 c2⟩, by simp; omega⟩
          simp only [step_spec_ContestedGlosses_0, lt_len hlt, nonneg, Bool.and_self, cond_true, Int.toNat_natCast, b1, b2, cond_false, hw]
        · have b1 : ((l.getD i (0, (0, ByteArray.empty, []))).2.2.1.toList == (l.getD j (0, (0, ByteArray.empty, []))).2.2.1.toList) = true := by rw [beq_is]; exact decide_eq_true c1
          have b2 : ((l.getD i (0, (0, ByteArray.empty, []))).2.1 != (l.getD j (0, (0, ByteArray.empty, []))).2.1) = true := by simpa using c2
          cases q1 : passes (l.getD i dP).2.2.2 0 with
          | false =>
            refine ⟨_, ?_, ⟨j + 1, out, rfl, by omega, hr, by omega, keep fun h => by rw [h.2.2.2.1] at q1; cases q1⟩, by simp; omega⟩
            simp only [step_spec_ContestedGlosses_0, lt_len hlt, nonneg, Bool.and_self, cond_true, Int.toNat_natCast, b1, b2, p1, q1, cond_false, hw]
          | true =>
            cases q2 : passes (l.getD j dP).2.2.2 0 with
            | false =>
              refine ⟨_, ?_, ⟨j + 1, out, rfl, by omega, hr, by omega, keep fun h => by rw [h.2.2.2.2] at q2; cases q2⟩, by simp; omega⟩
              simp only [step_spec_ContestedGlosses_0, lt_len hlt, nonneg, Bool.and_self, cond_true, Int.toNat_natCast, b1, b2, p1, p2, q1, q2, cond_false, hw]
            | true =>
              have hct : F_spec_ctPut (out, (l.getD i (0, (0, ByteArray.empty, []))).2.2.1) = _ := ctPut_is out (l.getD i dP).2.2.1 (by omega)
              have hpl := put_len (l := out) (l.getD i dP).2.2.1
              refine ⟨_, ?_, ⟨j + 1, put out (l.getD i dP).2.2.1, rfl, by omega, hr.put _, by omega, fun s => ?_⟩, by simp; omega⟩
              · simp only [step_spec_ContestedGlosses_0, lt_len hlt, nonneg, Bool.and_self, cond_true, Int.toNat_natCast, b1, b2, p1, p2, q1, q2, hct, hw]
              · rw [put_mem hr, hmem s]
                constructor
                · rintro (rfl | h | ⟨j', h1, h2⟩)
                  · exact .inr ⟨j, by omega, rfl, c1.symm, c2, q1, q2⟩
                  · exact .inl h
                  · exact .inr ⟨j', by omega, h2⟩
                · rintro (h | ⟨j', h1, h2⟩)
                  · exact .inr (.inl h)
                  · rcases Nat.lt_succ_iff_lt_or_eq.1 h1 with h1 | rfl
                    · exact .inr (.inr ⟨j', h1, h2⟩)
                    · exact .inl h2.1.symm
      · have b1 : ((l.getD i (0, (0, ByteArray.empty, []))).2.2.1.toList == (l.getD j (0, (0, ByteArray.empty, []))).2.2.1.toList) = false := by rw [beq_is]; exact decide_eq_false c1
        refine ⟨_, ?_, ⟨j + 1, out, rfl, by omega, hr, by omega, keep fun h => c1 (h.1.trans h.2.1.symm)⟩, by simp; omega⟩
        simp only [step_spec_ContestedGlosses_0, lt_len hlt, nonneg, Bool.and_self, cond_true, Int.toNat_natCast, b1, cond_false, hw]
    · left
      have : j = l.length := by omega
      subst this
      exact ⟨_, by simp only [step_spec_ContestedGlosses_0, not_lt_len, cond_false], out, rfl, hr, by omega, hmem⟩) (l, out0, (l, (l.length : Int), ((i : Int), l, ((l.length : Int), 0, l.getD i (0, (0, ByteArray.empty, [])))))) ⟨0, out0, rfl, by omega, h0, by omega, fun s => ⟨.inl, fun h => h.elim id fun ⟨j, hj, _⟩ => by omega⟩⟩
  exact ⟨out, ho, h1, h2, h3⟩

theorem cont_outer (l : List Prop') (hn : l.length ≤ 12) (hv : ∀ e ∈ l, e.2.2.2.length ≤ 1048576) :
    ∃ out, runL step_spec_ContestedGlosses_1 (l, [], (l, (l.length : Int), 0)) = some out ∧ Rise out ∧ out.length ≤ 144 ∧ ∀ s, s ∈ out ↔ ∃ i j, i < l.length ∧ j < l.length ∧ Cont l i j s := by
  exact runL_inv (f := step_spec_ContestedGlosses_1) (fun t => ∃ (i : Nat) (out : List ByteArray), t = (l, out, (l, (l.length : Int), (i : Int))) ∧ i ≤ l.length ∧ Rise out ∧ out.length ≤ 12 * i ∧ ∀ s, s ∈ out ↔ ∃ i' j, i' < i ∧ j < l.length ∧ Cont l i' j s)
    (fun out => Rise out ∧ out.length ≤ 144 ∧ ∀ s, s ∈ out ↔ ∃ i j, i < l.length ∧ j < l.length ∧ Cont l i j s) (fun t => l.length - t.2.2.2.2.toNat) (by
    rintro t ⟨i, out, rfl, hi, hr, hlen, hmem⟩
    rcases Nat.lt_or_ge i l.length with hlt | hge
    · right
      have hw := wrap_succ (i := i) (by omega)
      obtain ⟨out', e, h1, h2, h3⟩ := cont_inner l hn hv i hlt out hr (by omega)
      refine ⟨(l, out', (l, (l.length : Int), ((i + 1 : Nat) : Int))), ?_, ⟨i + 1, out', rfl, by omega, h1, by omega, fun s => ?_⟩, by simp; omega⟩
      · simp only [step_spec_ContestedGlosses_1, lt_len hlt, nonneg, Bool.and_self, cond_true, Int.toNat_natCast, e, hw]
      · rw [h3 s, hmem s]
        constructor
        · rintro (⟨i', j, a, b, c⟩ | ⟨j, b, c⟩)
          · exact ⟨i', j, by omega, b, c⟩
          · exact ⟨i, j, by omega, b, c⟩
        · rintro ⟨i', j, a, b, c⟩
          rcases Nat.lt_succ_iff_lt_or_eq.1 a with a | rfl
          · exact .inl ⟨i', j, a, b, c⟩
          · exact .inr ⟨j, b, c⟩
    · left
      have : i = l.length := by omega
      subst this
      exact ⟨out, by simp only [step_spec_ContestedGlosses_1, not_lt_len, cond_false], hr, by omega, hmem⟩) (l, [], (l, (l.length : Int), 0)) ⟨0, [], rfl, by omega, List.Pairwise.nil, by simp, fun s => ⟨fun h => (by cases h), fun ⟨i, j, h, _⟩ => by omega⟩⟩

/-- the glosses of one kind that are passed -/
def Has (l : List Prop') (n : Nat) (k : Int) (s : ByteArray) : Prop := ∃ i, i < n ∧ passes (l.getD i dP).2.2.2 0 = true ∧ (l.getD i dP).2.1 = k ∧ (l.getD i dP).2.2.1 = s
theorem kinds_loop (l : List Prop') (hn : l.length ≤ 12) (hv : ∀ e ∈ l, e.2.2.2.length ≤ 1048576) (hok : ∀ i, i < l.length → votesOK (l.getD i dP).2.2.2 = true) (hk : ∀ i, i < l.length → (l.getD i dP).2.1 = 0 ∨ (l.getD i dP).2.1 = 1) :
    ∃ a b : List ByteArray, runL step_impl_ContestedGlosses_0 (l, (l.length : Int), (0, [], [])) = some (b, a) ∧ a.length ≤ 12 ∧ b.length ≤ 12 ∧ (∀ s, s ∈ a ↔ Has l l.length 0 s) ∧ ∀ s, s ∈ b ↔ Has l l.length 1 s := by
  obtain ⟨o, ho, a, b, rfl, h⟩ := runL_inv (f := step_impl_ContestedGlosses_0) (fun t => ∃ (i : Nat) (a b : List ByteArray), t = (l, (l.length : Int), ((i : Int), a, b)) ∧ i ≤ l.length ∧ a.length ≤ i ∧ b.length ≤ i ∧ (∀ s, s ∈ a ↔ Has l i 0 s) ∧ ∀ s, s ∈ b ↔ Has l i 1 s)
    (fun o => ∃ a b : List ByteArray, o = (b, a) ∧ a.length ≤ 12 ∧ b.length ≤ 12 ∧ (∀ s, s ∈ a ↔ Has l l.length 0 s) ∧ ∀ s, s ∈ b ↔ Has l l.length 1 s) (fun t => l.length - t.2.2.1.toNat) (by
    rintro t ⟨i, a, b, rfl, hi, ha, hb, hma, hmb⟩
    rcases Nat.lt_or_ge i l.length with hlt | hge
    · right
      have hw := wrap_succ (i := i) (by omega)
      have p2 : F_impl_Proposal_passed (l.getD i (0, (0, ByteArray.empty, [])), 0) = _ := passed_is (l.getD i dP) 0 (hv _ (getD_mem hlt dP)) (hok i hlt) (by omega) (by omega)
      have old : ∀ (k : Int) (m : List ByteArray), (∀ s, s ∈ m ↔ Has l i k s) → ¬ (passes (l.getD i dP).2.2.2 0 = true ∧ (l.getD i dP).2.1 = k) → ∀ s, s ∈ m ↔ Has l (i + 1) k s := fun k m hm hno s => by
        rw [hm s]
        constructor
        · rintro ⟨j, h1, h2⟩
          exact ⟨j, by omega, h2⟩
        · rintro ⟨j, h1, h2⟩
          rcases Nat.lt_succ_iff_lt_or_eq.1 h1 with h1 | rfl
          · exact ⟨j, h1, h2⟩
          · exact absurd ⟨h2.1, h2.2.1⟩ hno
      have new : ∀ (k : Int) (m : List ByteArray), (∀ s, s ∈ m ↔ Has l i k s) → (passes (l.getD i dP).2.2.2 0 = true ∧ (l.getD i dP).2.1 = k) → ∀ s, s ∈ m ++ [(l.getD i dP).2.2.1] ↔ Has l (i + 1) k s := fun k m hm hyes s => by
        rw [List.mem_append, hm s, List.mem_singleton]
        constructor
        · rintro (⟨j, h1, h2⟩ | rfl)
          · exact ⟨j, by omega, h2⟩
          · exact ⟨i, by omega, hyes.1, hyes.2, rfl⟩
        · rintro ⟨j, h1, h2⟩
          rcases Nat.lt_succ_iff_lt_or_eq.1 h1 with h1 | rfl
          · exact .inl ⟨j, h1, h2⟩
          · exact .inr h2.2.2.symm
      cases q : passes (l.getD i dP).2.2.2 0 with
      | false =>
        refine ⟨_, ?_, ⟨i + 1, a, b, rfl, by omega, by omega, by omega, old 0 a hma (by rw [q]; simp), old 1 b hmb (by rw [q]; simp)⟩, by simp; omega⟩
        simp only [step_impl_ContestedGlosses_0, lt_len hlt, nonneg, Bool.and_self, cond_true, Int.toNat_natCast, p2, q, cond_false, hw]
      | true =>
        have ga : decide ((a.length + [(l.getD i (0, (0, ByteArray.empty, []))).2.2.1].length) * 16 ≤ 140737488355328) = true := decide_eq_true (by simp only [List.length_singleton]; omega)
        have gb : decide ((b.length + [(l.getD i (0, (0, ByteArray.empty, []))).2.2.1].length) * 16 ≤ 140737488355328) = true := decide_eq_true (by simp only [List.length_singleton]; omega)
        rcases hk i hlt with e | e
        · have e' : (l.getD i (0, (0, ByteArray.empty, []))).2.1 = 0 := e
          have z0 : ((0 : Int) == 0) = true := rfl
          refine ⟨(l, (l.length : Int), (((i + 1 : Nat) : Int), a ++ [(l.getD i (0, (0, ByteArray.empty, []))).2.2.1], b)), ?_, ⟨i + 1, _, b, rfl, by omega, by simp; omega, by omega, new 0 a hma ⟨q, e⟩, old 1 b hmb (by rw [e]; simp)⟩, by simp; omega⟩
          simp only [step_impl_ContestedGlosses_0, lt_len hlt, nonneg, Bool.and_self, cond_true, Int.toNat_natCast, p2, q, e', z0, ga, hw]
        · have e' : (l.getD i (0, (0, ByteArray.empty, []))).2.1 = 1 := e
          have z0 : ((1 : Int) == 0) = false := rfl
          have z1 : ((1 : Int) == 1) = true := rfl
          refine ⟨(l, (l.length : Int), (((i + 1 : Nat) : Int), a, b ++ [(l.getD i (0, (0, ByteArray.empty, []))).2.2.1])), ?_, ⟨i + 1, a, _, rfl, by omega, by omega, by simp; omega, old 0 a hma (by rw [e]; simp), new 1 b hmb ⟨q, e⟩⟩, by simp; omega⟩
          simp only [step_impl_ContestedGlosses_0, lt_len hlt, nonneg, Bool.and_self, cond_true, cond_false, Int.toNat_natCast, p2, q, e', z0, z1, gb, hw]
    · left
      have : i = l.length := by omega
      subst this
      exact ⟨_, by simp only [step_impl_ContestedGlosses_0, not_lt_len, cond_false], a, b, rfl, by omega, by omega, hma, hmb⟩) (l, (l.length : Int), (0, [], [])) ⟨0, [], [], rfl, by omega, by simp, by simp, fun s => ⟨fun h => (by cases h), fun ⟨i, h, _⟩ => by omega⟩, fun s => ⟨fun h => (by cases h), fun ⟨i, h, _⟩ => by omega⟩⟩
  exact ⟨a, b, ho, h⟩

theorem ContestedGlosses_val (l : List Prop') (m : Int) (hf : Fits l) : ∃ r, F_spec_ContestedGlosses (l, m) = some (r, good m l) ∧ F_impl_ContestedGlosses (l, m) = some (r, good m l) ∧ r.length ≤ 1048576 := by
  have h3 := ofGood_is l m hf
  have h4 := AreProposals_is l m hf
  cases hg : good m l with
  | false => exact ⟨[], by simp [F_spec_ContestedGlosses, h3, hg], by simp [F_impl_ContestedGlosses, h4, hg], by simp⟩
  | true =>
    have hn : l.length ≤ 12 := by have := of_decide_eq_true (and_b hg).2; omega
    have hok : ∀ i, i < l.length → votesOK (l.getD i dP).2.2.2 = true := fun i hi => (good_votes hg hi).1
    have hk : ∀ i, i < l.length → (l.getD i dP).2.1 = 0 ∨ (l.getD i dP).2.1 = 1 := fun i hi => by
      have h1 := (and_b (and_b hg).1).1
      have h2 := allN_true.1 h1 i hi
      have h3 := (and_b (and_b (and_b h2).1).1).1
      have h4 := (and_b (and_b h3).1).2
      obtain ⟨h5, h6⟩ := and_b h4
      have h5 := of_decide_eq_true h5
      have h6 := of_decide_eq_true h6
      omega
    obtain ⟨out, e1, r1, l1, m1⟩ := cont_outer l hn hf.votes
    obtain ⟨a, b, e2, la, lb, ma, mb⟩ := kinds_loop l hn hf.votes hok hk
    obtain ⟨D, e3, r3, m3, l3⟩ := distinct_is a (by omega)
    have hφ : ∀ x ∈ D, K_impl_ContestedGlosses_1 (a, b) x = some (!decide (x ∈ b)) := fun x _ => by
      simp only [K_impl_ContestedGlosses_1, F_impl_ContestedGlosses_1, contains_is b (by omega) x]
    have e4 := deleteFunc_is D (by omega) (K_impl_ContestedGlosses_1 (a, b)) (fun x => !decide (x ∈ b)) hφ
    have he : D.filter (fun x => !!decide (x ∈ b)) = out := Rise.ext (r3.filter _) r1 fun s => by
      rw [List.mem_filter, m3, ma, m1]
      simp only [Bool.not_not, decide_eq_true_eq]
      rw [mb]
      constructor
      · rintro ⟨⟨i, h1, h2, h3, h4⟩, ⟨j, k1, k2, k3, k4⟩⟩
        exact ⟨i, j, h1, k1, h4, k4, by rw [h3, k3]; decide, h2, k2⟩
      · rintro ⟨i, j, h1, k1, h4, k4, hne, h2, k2⟩
        rcases hk i h1 with e | e <;> rcases hk j k1 with e' | e'
        · exact absurd (e.trans e'.symm) hne
        · exact ⟨⟨i, h1, h2, e, h4⟩, ⟨j, k1, k2, e', k4⟩⟩
        · exact ⟨⟨j, k1, k2, e', k4⟩, ⟨i, h1, h2, e, h4⟩⟩
        · exact absurd (e.trans e'.symm) hne
    rw [he] at e4
    refine ⟨out, ?_, ?_, by omega⟩
    · simp only [F_spec_ContestedGlosses, h3, hg, Bool.not_true, cond_false, e1]
    · simp only [F_impl_ContestedGlosses, h4, hg, Bool.not_true, cond_false, e2, e3, e4]
end Go.Proofs.YtnfngofcdhaaaaaGreat
/- What AgreeingMembers comes to, on both sides: plain laws. Lengths fit an int. -/
set_option linter.unusedVariables false
set_option linter.unusedSimpArgs false
namespace Go.Proofs.YtnfngofcdhaaaaaGreat
open Go

def agreeP (i k : Nat) (p : Prop') : Bool := (p.2.2.2.getD i 0 != 0) && (p.2.2.2.getD i 0 == p.2.2.2.getD k 0)
/-- on how many two members agree -/
def agree (l : List Prop') (i k : Nat) : Nat := l.countP (agreeP i k)

theorem agree_spec (l : List Prop') (M i k : Nat) (a b mo : Int) (hl : l.length ≤ 12) (hM : ∀ e ∈ l, e.2.2.2.length = M) (hi : i < M) (hk : k < M) :
    runL step_spec_AgreeingMembers_0 (l, (M : Int), a, b, mo, (i : Int), (k : Int), 0, l, (l.length : Int), 0) = some (l, (M : Int), a, b, mo, (i : Int), (k : Int), ((agree l i k : Nat) : Int)) := by
  have t := runL_traj (f := step_spec_AgreeingMembers_0) (fun j => (l, (M : Int), a, b, mo, (i : Int), (k : Int), ((agree (l.take j) i k : Nat) : Int), l, (l.length : Int), (j : Int))) (l, (M : Int), a, b, mo, (i : Int), (k : Int), ((agree l i k : Nat) : Int)) l.length (fun j hj => by
    have hw := wrap_succ (i := j) (by omega)
    have hc : agree (l.take j) i k ≤ j := Nat.le_trans List.countP_le_length (by simp; omega)
    have hw2 := wrap_succ (i := agree (l.take j) i k) (by omega)
    have hlen := hM _ (getD_mem hj dP)
    have ht := take_succ_getD hj dP
    have g1 : decide ((i : Int) < ((l.getD j dP).2.2.2.length : Int)) = true := decide_eq_true (by omega)
    have g2 : decide ((k : Int) < ((l.getD j dP).2.2.2.length : Int)) = true := decide_eq_true (by omega)
    have ha : agree (l.take (j + 1)) i k = agree (l.take j) i k + (bif agreeP i k (l.getD j dP) then 1 else 0) := by
      rw [agree, ht, List.countP_append, List.countP_singleton, agree]
      cases agreeP i k (l.getD j dP) <;> rfl
    simp only [step_spec_AgreeingMembers_0, lt_len hj, g1, g2, nonneg, Bool.and_self, cond_true, Int.toNat_natCast, hw, hw2, ha, agreeP]
    cases ((l.getD j dP).2.2.2.getD i 0 != 0) <;> cases ((l.getD j dP).2.2.2.getD i 0 == (l.getD j dP).2.2.2.getD k 0) <;> rfl) (by simp [step_spec_AgreeingMembers_0])
  exact t

theorem those_prop_is (l : List Prop') (hl : l.length ≤ 1048576) (φ : Prop' → Option Bool) (p : Prop' → Bool) (hφ : ∀ x ∈ l, φ x = some (p x)) : ∃ r, F_impl_those_impl_Proposal (l, φ) = some r ∧ r.length = l.countP p := by
  obtain ⟨r, e, hr⟩ := runL_inv (f := step_impl_those_impl_Proposal_0) (fun s => ∃ (i : Nat) (r : List Int), s = (φ, l, (l.length : Int), (i : Int), r) ∧ i ≤ l.length ∧ r.length = (l.take i).countP p) (fun r => r.length = l.countP p) (fun s => l.length - s.2.2.2.1.toNat) (by
    rintro s ⟨i, r, rfl, hi, hr⟩
    rcases Nat.lt_or_ge i l.length with hlt | hge
    · right
      have hw := wrap_succ (i := i) (by omega)
      have ht := take_succ_getD hlt dP
      have hc : (l.take i).countP p ≤ i := Nat.le_trans List.countP_le_length (by simp; omega)
      have hφ' := hφ _ (getD_mem hlt dP)
      cases hp : p (l.getD i dP) with
      | true =>
        have hg : decide ((r.length + [(i : Int)].length) * 8 ≤ 140737488355328) = true := decide_eq_true (by simp only [List.length_singleton]; omega)
        refine ⟨(φ, l, (l.length : Int), ((i + 1 : Nat) : Int), r ++ [(i : Int)]), ?_, ⟨i + 1, _, rfl, by omega, ?_⟩, by simp; omega⟩
        · simp only [step_impl_those_impl_Proposal_0, lt_len hlt, nonneg, Bool.and_self, cond_true, Int.toNat_natCast, hφ', hp, hg, hw]
        · rw [ht, List.countP_append, List.countP_singleton, hp, List.length_append, hr]; rfl
      | false =>
        refine ⟨(φ, l, (l.length : Int), ((i + 1 : Nat) : Int), r), ?_, ⟨i + 1, _, rfl, by omega, ?_⟩, by simp; omega⟩
        · simp only [step_impl_those_impl_Proposal_0, lt_len hlt, nonneg, Bool.and_self, cond_true, Int.toNat_natCast, hφ', hp, cond_false, hw]
        · rw [ht, List.countP_append, List.countP_singleton, hp, hr]; simp
    · left
      have : i = l.length := by omega
      subst this
      exact ⟨r, by simp [step_impl_those_impl_Proposal_0], by simpa using hr⟩) (φ, l, (l.length : Int), 0, []) ⟨0, [], rfl, by omega, by simp⟩
  exact ⟨r, by simp [F_impl_those_impl_Proposal, e], hr⟩

theorem agree_impl (l : List Prop') (M i k : Nat) (hl : l.length ≤ 12) (hM : ∀ e ∈ l, e.2.2.2.length = M) (hi : i < M) (hk : k < M) :
    ∃ r, F_impl_those_impl_Proposal (l, K_impl_AgreeingMembers_1 ((i : Int), (k : Int))) = some r ∧ (r.length : Int) = ((agree l i k : Nat) : Int) := by
  obtain ⟨r, e, hr⟩ := those_prop_is l (by omega) (K_impl_AgreeingMembers_1 ((i : Int), (k : Int))) (agreeP i k) (fun x hx => by
    have hlen := hM x hx
    have g1 : decide ((i : Int) < (x.2.2.2.length : Int)) = true := decide_eq_true (by omega)
    have g2 : decide ((k : Int) < (x.2.2.2.length : Int)) = true := decide_eq_true (by omega)
    simp only [K_impl_AgreeingMembers_1, F_impl_AgreeingMembers_1, g1, g2, nonneg, Bool.and_self, cond_true, Int.toNat_natCast, agreeP]
    cases (x.2.2.2.getD i 0 != 0) <;> rfl)
  exact ⟨r, e, by rw [hr]; rfl⟩

/-- the best pair so far: alike on both sides, but ahead of the first pair -/
def GP (l : List Prop') (M : Nat) (a b mo : Int) : Prop := ∃ i k : Nat, a = (i : Int) ∧ b = (k : Int) ∧ mo = ((agree l i k : Nat) : Int) ∧ i < k ∧ k < M
def pairs (l : List Prop') (M : Nat) (a b mo f s mo' : Int) (first : Prop) : Prop := (a = f ∧ b = s ∧ mo = mo' ∧ GP l M a b mo) ∨ (a = 0 ∧ b = 0 ∧ mo = -1 ∧ f = 0 ∧ s = 1 ∧ mo' = 0 ∧ first)

theorem members_inner (l : List Prop') (M i : Nat) (hl : l.length ≤ 12) (hM : ∀ e ∈ l, e.2.2.2.length = M) (h7 : M ≤ 7) (h2 : 2 ≤ M) (hi : i < M) (a b mo f sd mo' : Int) (hp : pairs l M a b mo f sd mo' (i = 0)) :
    ∃ x y z : Int, runL step_spec_AgreeingMembers_1 (l, (M : Int), a, b, mo, (i : Int), ((i + 1 : Nat) : Int)) = some (l, (M : Int), x, y, z, (i : Int)) ∧
      runL step_impl_AgreeingMembers_0 (l, (M : Int), f, sd, mo', (M : Int), (i : Int), ((i + 1 : Nat) : Int), (i : Int)) = some (l, (M : Int), x, y, z, (M : Int), (i : Int)) ∧ GP l M x y z := by
  obtain ⟨o, p, e1, e2, x, y, z, rfl, rfl, hgp⟩ := runL_sim (f := step_spec_AgreeingMembers_1) (g := step_impl_AgreeingMembers_0)
    (fun s t => ∃ (k : Nat) (a b mo f sd mo' : Int), s = (l, (M : Int), a, b, mo, (i : Int), (k : Int)) ∧ t = (l, (M : Int), f, sd, mo', (M : Int), (i : Int), (k : Int), (i : Int)) ∧ i < k ∧ k ≤ M ∧ pairs l M a b mo f sd mo' (i = 0 ∧ k = 1))
    (fun o p => ∃ x y z : Int, o = (l, (M : Int), x, y, z, (i : Int)) ∧ p = (l, (M : Int), x, y, z, (M : Int), (i : Int)) ∧ GP l M x y z) (fun s => M - s.2.2.2.2.2.2.toNat) (by
    rintro s t ⟨k, a, b, mo, f, sd, mo', rfl, rfl, hik, hk, hp⟩
    rcases Nat.lt_or_ge k M with hlt | hge
    · right
      have hw := wrap_succ (i := k) (by omega)
      have e1 := agree_spec l M i k a b mo hl hM hi hlt
      obtain ⟨r, e2, e3⟩ := agree_impl l M i k hl hM hi hlt
      rcases hp with ⟨rfl, rfl, rfl, hgp⟩ | ⟨rfl, rfl, rfl, rfl, rfl, rfl, rfl, rfl⟩
      · by_cases hgt : ((agree l i k : Nat) : Int) > mo
        · refine ⟨(l, (M : Int), (i : Int), (k : Int), ((agree l i k : Nat) : Int), (i : Int), ((k + 1 : Nat) : Int)), (l, (M : Int), (i : Int), (k : Int), ((agree l i k : Nat) : Int), (M : Int), (i : Int), ((k + 1 : Nat) : Int), (i : Int)), ?_, ?_, ⟨k + 1, _, _, _, _, _, _, rfl, rfl, by omega, by omega, .inl ⟨rfl, rfl, rfl, i, k, rfl, rfl, rfl, hik, hlt⟩⟩, by simp; omega⟩
          · simp only [step_spec_AgreeingMembers_1, lt_len hlt, cond_true, e1, decide_eq_true hgt, hw]
          · simp only [step_impl_AgreeingMembers_0, lt_len hlt, cond_true, e2, e3, decide_eq_true hgt, hw]
        · refine ⟨(l, (M : Int), a, b, mo, (i : Int), ((k + 1 : Nat) : Int)), (l, (M : Int), a, b, mo, (M : Int), (i : Int), ((k + 1 : Nat) : Int), (i : Int)), ?_, ?_, ⟨k + 1, _, _, _, _, _, _, rfl, rfl, by omega, by omega, .inl ⟨rfl, rfl, rfl, hgp⟩⟩, by simp; omega⟩
          · simp only [step_spec_AgreeingMembers_1, lt_len hlt, cond_true, e1, decide_eq_false hgt, cond_false, hw]
          · simp only [step_impl_AgreeingMembers_0, lt_len hlt, cond_true, e2, e3, decide_eq_false hgt, cond_false, hw]
      · have hg1 : decide (((agree l 0 1 : Nat) : Int) > -1) = true := decide_eq_true (by omega)
        refine ⟨(l, (M : Int), ((0 : Nat) : Int), ((1 : Nat) : Int), ((agree l 0 1 : Nat) : Int), ((0 : Nat) : Int), ((1 + 1 : Nat) : Int)), (l, (M : Int), ((0 : Nat) : Int), ((1 : Nat) : Int), ((agree l 0 1 : Nat) : Int), (M : Int), ((0 : Nat) : Int), ((1 + 1 : Nat) : Int), ((0 : Nat) : Int)), ?_, ?_, ⟨1 + 1, _, _, _, _, _, _, rfl, rfl, by omega, by omega, .inl ⟨rfl, rfl, rfl, 0, 1, rfl, rfl, rfl, by omega, hlt⟩⟩, by simp; omega⟩
        · simp only [step_spec_AgreeingMembers_1, lt_len hlt, cond_true, e1, hg1, hw]
        · by_cases hgt : ((agree l 0 1 : Nat) : Int) > 0
          · simp only [step_impl_AgreeingMembers_0, lt_len hlt, cond_true, e2, e3, decide_eq_true hgt, hw]
          · have h0 : ((agree l 0 1 : Nat) : Int) = 0 := by omega
            simp only [step_impl_AgreeingMembers_0, lt_len hlt, cond_true, e2, e3, decide_eq_false hgt, cond_false, hw, h0]
            rfl
    · left
      have : k = M := by omega
      subst this
      rcases hp with ⟨rfl, rfl, rfl, hgp⟩ | ⟨_, _, _, _, _, _, _, h1⟩
      · exact ⟨_, _, by simp only [step_spec_AgreeingMembers_1, not_lt_len, cond_false], by simp only [step_impl_AgreeingMembers_0, not_lt_len, cond_false], a, b, mo, rfl, rfl, hgp⟩
      · omega) (l, (M : Int), a, b, mo, (i : Int), ((i + 1 : Nat) : Int)) (l, (M : Int), f, sd, mo', (M : Int), (i : Int), ((i + 1 : Nat) : Int), (i : Int)) ⟨i + 1, a, b, mo, f, sd, mo', rfl, rfl, by omega, by omega, by
      rcases hp with h | ⟨h1, h2, h3, h4, h5, h6, h7⟩
      · exact .inl h
      · exact .inr ⟨h1, h2, h3, h4, h5, h6, h7, by omega⟩⟩
  exact ⟨x, y, z, e1, e2, hgp⟩

theorem members_outer (l : List Prop') (M : Nat) (hl : l.length ≤ 12) (hM : ∀ e ∈ l, e.2.2.2.length = M) (h7 : M ≤ 7) (h2 : 2 ≤ M) :
    ∃ o : Int × Int × Int, runL step_spec_AgreeingMembers_2 (l, (M : Int), 0, 0, -1, 0) = some o ∧ runL step_impl_AgreeingMembers_1 (l, (M : Int), 0, 1, 0, (M : Int), 0) = some o ∧ GP l M o.1 o.2.1 o.2.2 := by
  obtain ⟨o, p, e1, e2, rfl, hgp⟩ := runL_sim (f := step_spec_AgreeingMembers_2) (g := step_impl_AgreeingMembers_1)
    (fun s t => ∃ (i : Nat) (a b mo f sd mo' : Int), s = (l, (M : Int), a, b, mo, (i : Int)) ∧ t = (l, (M : Int), f, sd, mo', (M : Int), (i : Int)) ∧ i ≤ M ∧ pairs l M a b mo f sd mo' (i = 0))
    (fun o p => o = p ∧ GP l M o.1 o.2.1 o.2.2) (fun s => M - s.2.2.2.2.2.toNat) (by
    rintro s t ⟨i, a, b, mo, f, sd, mo', rfl, rfl, hi, hp⟩
    rcases Nat.lt_or_ge i M with hlt | hge
    · right
      have hw := wrap_succ (i := i) (by omega)
      obtain ⟨x, y, z, e1, e2, hgp⟩ := members_inner l M i hl hM h7 h2 hlt a b mo f sd mo' hp
      refine ⟨(l, (M : Int), x, y, z, ((i + 1 : Nat) : Int)), (l, (M : Int), x, y, z, (M : Int), ((i + 1 : Nat) : Int)), ?_, ?_, ⟨i + 1, _, _, _, _, _, _, rfl, rfl, by omega, .inl ⟨rfl, rfl, rfl, hgp⟩⟩, by simp; omega⟩
      · simp only [step_spec_AgreeingMembers_2, lt_len hlt, cond_true, hw, e1]
      · simp only [step_impl_AgreeingMembers_1, lt_len hlt, cond_true, hw, e2]
    · left
      have : i = M := by omega
      subst this
      rcases hp with ⟨rfl, rfl, rfl, hgp⟩ | ⟨_, _, _, _, _, _, h1⟩
      · exact ⟨(a, b, mo), (a, b, mo), by simp only [step_spec_AgreeingMembers_2, not_lt_len, cond_false], by simp only [step_impl_AgreeingMembers_1, not_lt_len, cond_false], rfl, hgp⟩
      · omega) (l, (M : Int), 0, 0, -1, 0) (l, (M : Int), 0, 1, 0, (M : Int), 0) ⟨0, 0, 0, -1, 0, 1, 0, rfl, rfl, by omega, .inr ⟨rfl, rfl, rfl, rfl, rfl, rfl, rfl⟩⟩
  exact ⟨o, e1, e2, hgp⟩

theorem members_val (l : List Prop') (m : Int) (hf : Fits l) : (F_spec_AgreeingMembers (l, m) = some (0, 0, 0, false) ∧ F_impl_AgreeingMembers (l, m) = some (0, 0, 0, false)) ∨
    (good m l = true ∧ ∃ a b : Nat, F_spec_AgreeingMembers (l, m) = some ((a : Int), (b : Int), ((agree l a b : Nat) : Int), true) ∧ F_impl_AgreeingMembers (l, m) = some ((a : Int), (b : Int), ((agree l a b : Nat) : Int), true) ∧ a < b ∧ (b : Int) < m) := by
  have h3 := ofGood_is l m hf
  have h4 := AreProposals_is l m hf
  cases hg : good m l with
  | false => exact .inl ⟨by simp [F_spec_AgreeingMembers, h3, hg], by simp [F_impl_AgreeingMembers, h4, hg]⟩
  | true =>
    obtain ⟨m1, m7, ml⟩ := good_m hg
    by_cases h1 : m = 1
    · subst h1
      exact .inl ⟨by simp [F_spec_AgreeingMembers, h3, hg], by simp [F_impl_AgreeingMembers, h4, hg]⟩
    · obtain ⟨M, rfl⟩ : ∃ M : Nat, m = (M : Int) := ⟨m.toNat, by omega⟩
      obtain ⟨⟨x, y, z⟩, e1, e2, a, b, rfl, rfl, rfl, hab, hbM⟩ := members_outer l M ml (fun e he => by
        obtain ⟨i, hi, rfl⟩ := List.getElem_of_mem he
        have := (good_votes hg hi).2
        simp only [List.getD, List.getElem?_eq_getElem hi, Option.getD_some] at this
        omega) (by omega) (by omega)
      have n1 : (((M : Int)) == 1) = false := by simpa using h1
      have n2 : decide ((M : Int) < 2) = false := decide_eq_false (by omega)
      exact .inr ⟨rfl, a, b, by simp only [F_spec_AgreeingMembers, h3, hg, Bool.not_true, cond_false, n1, e1], by simp only [F_impl_AgreeingMembers, h4, hg, Bool.not_true, cond_false, n2, e2], hab, by omega⟩
end Go.Proofs.YtnfngofcdhaaaaaGreat
/- What PassedNumbers comes to, on both sides: plain laws. Lengths fit an int. -/
set_option linter.unusedVariables false
set_option linter.unusedSimpArgs false
namespace Go.Proofs.YtnfngofcdhaaaaaGreat
open Go
theorem passed_loop (l : List Prop') (hl : l.length ≤ 1048576) (hv : ∀ e ∈ l, e.2.2.2.length ≤ 1048576) (hok : ∀ i, i < l.length → votesOK (l.getD i dP).2.2.2 = true) :
    ∃ o, runL step_spec_PassedNumbers_0 (l, ((l.length : Int), 0, [])) = some o ∧ runL step_impl_PassedNumbers_0 (l, ((l.length : Int), 0, [])) = some o ∧ o.length ≤ l.length ∧ ∀ n, n ∈ o ↔ ∃ i, i < l.length ∧ passes (l.getD i dP).2.2.2 0 = true ∧ (l.getD i dP).1 = n := by
  obtain ⟨o, p, e1, e2, rfl, e3, e4⟩ := runL_sim (f := step_spec_PassedNumbers_0) (g := step_impl_PassedNumbers_0) (fun s t => s = t ∧ ∃ (i : Nat) (out : List Int), s = (l, ((l.length : Int), (i : Int), out)) ∧ i ≤ l.length ∧ out.length ≤ i ∧ ∀ n, n ∈ out ↔ ∃ j, j < i ∧ passes (l.getD j dP).2.2.2 0 = true ∧ (l.getD j dP).1 = n)
    (fun o p => o = p ∧ o.length ≤ l.length ∧ ∀ n, n ∈ o ↔ ∃ i, i < l.length ∧ passes (l.getD i dP).2.2.2 0 = true ∧ (l.getD i dP).1 = n) (fun s => l.length - s.2.2.1.toNat) (by
    rintro s t ⟨rfl, i, out, rfl, hi, ho, hm⟩
    rcases Nat.lt_or_ge i l.length with hlt | hge
    · right
      have hw := wrap_succ (i := i) (by omega)
      have hvi := hv _ (getD_mem hlt dP)
      have p1 : F_spec_ofPassed (l.getD i (0, (0, ByteArray.empty, [])), 0) = _ := ofPassed_is (l.getD i dP) 0 hvi (by omega) (by omega)
      have p2 : F_impl_Proposal_passed (l.getD i (0, (0, ByteArray.empty, [])), 0) = _ := passed_is (l.getD i dP) 0 hvi (hok i hlt) (by omega) (by omega)
      have hg : decide ((out.length + [(l.getD i (0, (0, ByteArray.empty, []))).1].length) * 8 ≤ 140737488355328) = true := decide_eq_true (by simp; omega)
      cases hp : passes (l.getD i dP).2.2.2 0 with
      | true =>
        refine ⟨(l, ((l.length : Int), ((i + 1 : Nat) : Int), out ++ [(l.getD i (0, (0, ByteArray.empty, []))).1])), _, ?_, ?_, ⟨rfl, i + 1, _, rfl, by omega, by simp; omega, fun n => ?_⟩, by simp; omega⟩
        · simp only [step_spec_PassedNumbers_0, lt_len hlt, nonneg, Bool.and_self, cond_true, Int.toNat_natCast, p1, hp, hg, hw]
        · simp only [step_impl_PassedNumbers_0, lt_len hlt, nonneg, Bool.and_self, cond_true, Int.toNat_natCast, p2, hp, hg, hw]
        · rw [List.mem_append, hm n, List.mem_singleton]
          constructor
          · rintro (⟨j, h1, h2⟩ | rfl)
            · exact ⟨j, by omega, h2⟩
            · exact ⟨i, by omega, hp, rfl⟩
          · rintro ⟨j, h1, h2⟩
            rcases Nat.lt_succ_iff_lt_or_eq.1 h1 with h1 | rfl
            · exact .inl ⟨j, h1, h2⟩
            · exact .inr h2.2.symm
      | false =>
        refine ⟨(l, ((l.length : Int), ((i + 1 : Nat) : Int), out)), _, ?_, ?_, ⟨rfl, i + 1, _, rfl, by omega, by omega, fun n => ?_⟩, by simp; omega⟩
        · simp only [step_spec_PassedNumbers_0, lt_len hlt, nonneg, Bool.and_self, cond_true, cond_false, Int.toNat_natCast, p1, hp, hw]
        · simp only [step_impl_PassedNumbers_0, lt_len hlt, nonneg, Bool.and_self, cond_true, cond_false, Int.toNat_natCast, p2, hp, hw]
        · rw [hm n]
          constructor
          · rintro ⟨j, h1, h2⟩
            exact ⟨j, by omega, h2⟩
          · rintro ⟨j, h1, h2⟩
            rcases Nat.lt_succ_iff_lt_or_eq.1 h1 with h1 | rfl
            · exact ⟨j, h1, h2⟩
            · rw [hp] at h2; cases h2.1
    · left
      have : i = l.length := by omega
      subst this
      exact ⟨out, out, by simp only [step_spec_PassedNumbers_0, not_lt_len, cond_false], by simp only [step_impl_PassedNumbers_0, not_lt_len, cond_false], rfl, ho, hm⟩) (l, ((l.length : Int), 0, [])) (l, ((l.length : Int), 0, [])) ⟨rfl, 0, [], rfl, by omega, by simp, fun n => ⟨fun h => (by cases h), fun ⟨j, h, _⟩ => by omega⟩⟩
  exact ⟨o, e1, e2, e3, e4⟩
theorem PassedNumbers_val (l : List Prop') (m : Int) (hf : Fits l) : (good m l = false ∧ F_spec_PassedNumbers (l, m) = some ([], false) ∧ F_impl_PassedNumbers (l, m) = some ([], false)) ∨
    (good m l = true ∧ ∃ o, F_spec_PassedNumbers (l, m) = some (o, true) ∧ F_impl_PassedNumbers (l, m) = some (o, true) ∧ o.length ≤ l.length ∧ ∀ n, n ∈ o ↔ ∃ i, i < l.length ∧ passes (l.getD i dP).2.2.2 0 = true ∧ (l.getD i dP).1 = n) := by
  have h3 := ofGood_is l m hf
  have h4 := AreProposals_is l m hf
  cases hg : good m l with
  | false => exact .inl ⟨rfl, by simp [F_spec_PassedNumbers, h3, hg], by simp [F_impl_PassedNumbers, h4, hg]⟩
  | true =>
    obtain ⟨o, e1, e2, e3, e4⟩ := passed_loop l hf.len hf.votes (fun i hi => (good_votes hg hi).1)
    exact .inr ⟨rfl, o, by simp [F_spec_PassedNumbers, h3, hg, e1], by simp [F_impl_PassedNumbers, h4, hg, e2], e3, e4⟩
end Go.Proofs.YtnfngofcdhaaaaaGreat
/- What PutProposal comes to, on both sides: plain laws. Lengths fit an int. -/
set_option linter.unusedVariables false
set_option linter.unusedSimpArgs false
namespace Go.Proofs.YtnfngofcdhaaaaaGreat
open Go
theorem Fits.snoc {l : List Prop'} (hf : Fits l) (hl : l.length ≤ 12) {e : Prop'} (h1 : e.2.2.1.size ≤ 9223372036854775807) (h2 : e.2.2.2.length ≤ 1048576) : Fits (l ++ [e]) := by
  refine ⟨by simp; omega, fun x hx => ?_, fun x hx => ?_⟩
  · rcases List.mem_append.1 hx with h | h
    · exact hf.gloss x h
    · obtain rfl : x = e := by simpa using h
      exact h1
  · rcases List.mem_append.1 hx with h | h
    · exact hf.votes x h
    · obtain rfl : x = e := by simpa using h
      exact h2
theorem good_snoc {l : List Prop'} {m : Int} {e : Prop'} (h : gl e.2.2.1 = false) : good m (l ++ [e]) = false := by
  unfold good
  have hg : (l ++ [e]).getD l.length dP = e := by simp [List.getD]
  have : allN (goodAt m (l ++ [e])) (l ++ [e]).length = false := allN_false.2 ⟨l.length, by simp, by simp [goodAt, hg, numOK, h]⟩
  rw [this]
  rfl
/-- nothing, or one more -/
def PutV (l : List Prop') (m k : Int) (g : ByteArray) (o : List Prop' × Int × Bool) : Prop := o = ([], 0, false) ∨ ∃ n : Int, good m (l ++ [(n, (k, g, List.replicate m.toNat (0 : Int)))]) = true ∧ o = (l ++ [(n, (k, g, List.replicate m.toNat (0 : Int)))], n, true)
theorem PutProposal_val (l : List Prop') (m k : Int) (g : ByteArray) (hf : Fits l) (hg : g.size ≤ 9223372036854775807) : ∃ o, F_spec_PutProposal (l, m, k, g) = some o ∧ F_impl_PutProposal (l, m, k, g) = some o ∧ Fits o.1 ∧ PutV l m k g o := by
  have h3 := ofGood_is l m hf
  have h4 := AreProposals_is l m hf
  have h5 := copyProposals_is l hf
  have h6 := ofOwn_is l hf
  have h7 := IsGloss_is g hg
  cases hgd : good m l with
  | false => exact ⟨([], 0, false), by simp [F_spec_PutProposal, h3, hgd], by simp [F_impl_PutProposal, h4, hgd], fits_nil, .inl rfl⟩
  | true =>
    obtain ⟨m1, m2, m3⟩ := good_m hgd
    have hl12 : l.length ≤ 12 := by
      unfold good at hgd
      simp only [Bool.and_eq_true, decide_eq_true_eq] at hgd
      omega
    have q0 : decide (0 ≤ m) = true := decide_eq_true (by omega)
    have q1 : decide (m ≤ m) = true := decide_eq_true (by omega)
    have q2 : decide (m * (8 : Int) ≤ 140737488355328) = true := decide_eq_true (by omega)
    have fit : ∀ n : Int, Fits (l ++ [(n, (k, g, List.replicate m.toNat (0 : Int)))]) := fun n => hf.snoc hl12 hg (by simp; omega)
    have q3 : ∀ n : Int, decide ((l.length + [(n, (k, g, List.replicate m.toNat (0 : Int)))].length) * 56 ≤ 140737488355328) = true := fun n => decide_eq_true (by simp; omega)
    have fin : ∀ n : Int, ∃ o : List Prop' × Int × Bool, (bif !good m (l ++ [(n, (k, g, List.replicate m.toNat (0 : Int)))]) then some ([], 0, false) else some (l ++ [(n, (k, g, List.replicate m.toNat (0 : Int)))], n, true)) = some o ∧ Fits o.1 ∧ PutV l m k g o := by
      intro n
      cases hgn : good m (l ++ [(n, (k, g, List.replicate m.toNat (0 : Int)))]) with
      | false => exact ⟨_, rfl, fits_nil, .inl rfl⟩
      | true => exact ⟨_, rfl, fit n, .inr ⟨n, hgn, rfl⟩⟩
    have bad : gl g = false → ∀ n : Int, good m (l ++ [(n, (k, g, List.replicate m.toNat (0 : Int)))]) = false := fun h n => good_snoc h
    rcases Nat.eq_zero_or_pos l.length with hl0 | hlp
    · have h0 : decide ((l.length : Int) > 0) = false := decide_eq_false (by omega)
      obtain ⟨o, ho, hfo⟩ := fin 1
      have s1 : F_spec_PutProposal (l, m, k, g) = some o := by
        simp only [F_spec_PutProposal, h3, hgd, Bool.not_true, cond_false, h0, h6, q0, q1, q2, Bool.and_self, cond_true, q3 1, ofGood_is _ m (fit 1), Bool.and_true, ho]
      refine ⟨o, s1, ?_, hfo⟩
      cases hgl : gl g with
      | false =>
        rw [bad hgl 1] at ho
        simp only [Bool.not_false, cond_true] at ho
        simp only [F_impl_PutProposal, h4, hgd, Bool.not_true, cond_false, h7, hgl, Bool.not_false, cond_true, ho]
      | true =>
        simp only [F_impl_PutProposal, h4, hgd, Bool.not_true, cond_false, h7, hgl, h0, h5, q0, q1, q2, Bool.and_self, cond_true, q3 1, AreProposals_is _ m (fit 1), Bool.and_true, ho]
    · have h0 : decide ((l.length : Int) > 0) = true := decide_eq_true (by omega)
      have hw := wrap_pred (i := l.length) (by omega) hlp
      have hlt : decide (((l.length - 1 : Nat) : Int) < (l.length : Int)) = true := lt_len (by omega)
      obtain ⟨o, ho, hfo⟩ := fin (IntKind.i64.wrap ((l.getD (l.length - 1) (0, (0, ByteArray.empty, []))).1 + 1))
      have s1 : F_spec_PutProposal (l, m, k, g) = some o := by
        simp only [F_spec_PutProposal, h3, hgd, Bool.not_true, cond_false, h0, hw, hlt, nonneg, Int.toNat_natCast, h6, q0, q1, q2, Bool.and_self, cond_true, q3 _, ofGood_is _ m (fit _), Bool.and_true, ho]
      refine ⟨o, s1, ?_, hfo⟩
      cases hgl : gl g with
      | false =>
        rw [bad hgl _] at ho
        simp only [Bool.not_false, cond_true] at ho
        simp only [F_impl_PutProposal, h4, hgd, Bool.not_true, cond_false, h7, hgl, Bool.not_false, cond_true, ho]
      | true =>
        simp only [F_impl_PutProposal, h4, hgd, Bool.not_true, cond_false, h7, hgl, h0, hw, hlt, nonneg, Int.toNat_natCast, h5, q0, q1, q2, Bool.and_self, cond_true, q3 _, AreProposals_is _ m (fit _), Bool.and_true, ho]
end Go.Proofs.YtnfngofcdhaaaaaGreat
/- Numbers of proposals: plain laws. No conditions. -/
set_option linter.unusedVariables false
set_option linter.unusedSimpArgs false
namespace Go.Proofs.YtnfngofcdhaaaaaGreat
open Go
theorem good_iff {m : Int} {l : List Prop'} : good m l = true ↔ (∀ i, i < l.length → goodAt m l i = true) ∧ 1 ≤ m ∧ m ≤ 7 ∧ l.length ≤ 12 := by
  unfold good
  simp only [Bool.and_eq_true, allN_true, decide_eq_true_eq]
  constructor
  · rintro ⟨⟨h1, h2, h3⟩, h4⟩; exact ⟨h1, h2, h3, by omega⟩
  · rintro ⟨h1, h2, h3, h4⟩; exact ⟨⟨h1, h2, h3⟩, by omega⟩
theorem goodAt_iff {m : Int} {l : List Prop'} {i : Nat} : goodAt m l i = true ↔ numOK (l.getD i dP) = true ∧ ((l.getD i dP).2.2.2.length : Int) = m ∧ votesOK (l.getD i dP).2.2.2 = true ∧ (i = 0 ∨ (l.getD (i - 1) dP).1 < (l.getD i dP).1) := by
  unfold goodAt rises
  simp only [Bool.and_eq_true, Bool.or_eq_true, beq_iff_eq, decide_eq_true_eq, Bool.not_eq_true', decide_eq_false_iff_not]
  constructor
  · rintro ⟨⟨⟨h1, h2⟩, h3⟩, h4⟩; exact ⟨h1, h2, h3, h4.imp_right fun h => by omega⟩
  · rintro ⟨h1, h2, h3, h4⟩; exact ⟨⟨⟨h1, h2⟩, h3⟩, h4.imp_right fun h => by omega⟩
theorem num_lt {m : Int} {l : List Prop'} (h : good m l = true) : ∀ {i j : Nat}, i < j → j < l.length → (l.getD i dP).1 < (l.getD j dP).1 := by
  intro i j hij hj
  induction j with
  | zero => omega
  | succ j ih =>
    have hs := (goodAt_iff.1 ((good_iff.1 h).1 (j + 1) hj)).2.2.2
    have hs : (l.getD j dP).1 < (l.getD (j + 1) dP).1 := by
      rcases hs with hs | hs
      · omega
      · exact hs
    rcases Nat.lt_succ_iff_lt_or_eq.1 hij with h' | rfl
    · have := ih h' (by omega); omega
    · exact hs
theorem findP_hit {l : List Prop'} {n : Int} {i : Nat} (h : findP l n = (i : Int)) (hi : i < l.length) : (l.getD i dP).1 = n := by
  unfold findP at h
  rcases firstN_cases (fun i => (l.getD i dP).1 == n) l.length with ⟨e, _⟩ | ⟨k, hk, e, hp, _⟩
  · rw [e] at h; omega
  · rw [e] at h
    have : k = i := by omega
    subst this
    simpa using hp
theorem findP_at {m : Int} {l : List Prop'} {n : Int} {i : Nat} (hg : good m l = true) (hi : i < l.length) (hn : (l.getD i dP).1 = n) : findP l n = (i : Int) := by
  unfold findP
  refine firstN_at hi (by simpa using hn) (fun j hj => ?_)
  have h1 := num_lt hg hj hi
  have h2 : (l.getD j dP).1 ≠ n := by omega
  simpa using h2
theorem IsPassed_val (l : List Prop') (m n : Int) (hf : Fits l) : F_impl_IsPassed (l, m, n) = some (if good m l = true ∧ 0 ≤ findP l n then (passes (l.getD (findP l n).toNat dP).2.2.2 0, true) else (false, false)) := by
  have h2 := proposalAt_is l n hf.len
  have h4 := AreProposals_is l m hf
  cases hg : good m l with
  | false => simp [F_impl_IsPassed, h2, h4, hg]
  | true =>
    rcases findP_cases l n with e | ⟨i, hi, e⟩
    · simp [F_impl_IsPassed, h2, h4, hg, e]
    · have hv := hf.votes _ (getD_mem hi dP)
      have p2 := passed_is (l.getD i dP) 0 hv (good_votes hg hi).1 (by omega) (by omega)
      have hn : decide ((i : Int) < 0) = false := by simp
      have hq : (true = true ∧ 0 ≤ (i : Int)) := ⟨rfl, by omega⟩
      rw [e, if_pos hq, Int.toNat_natCast]
      simp only [F_impl_IsPassed, h2, h4, hg, e, hn, Bool.not_true, cond_false, nonneg, lt_len hi, Bool.and_self, cond_true, Int.toNat_natCast, p2]
end Go.Proofs.YtnfngofcdhaaaaaGreat
/- What the drawn arguments are like: plain laws. No conditions. -/
set_option linter.unusedVariables false
set_option linter.unusedSimpArgs false
namespace Go.Proofs.YtnfngofcdhaaaaaGreat
open Go
/-- a cursor that has taken at most n steps -/
structure CurOK (n : Nat) (c : List Int × (Int × Int)) : Prop where
  len : c.1.length ≤ 1048576
  bytes : ∀ b ∈ c.1, 0 ≤ b ∧ b ≤ 255
  at0 : 0 ≤ c.2.1
  atn : c.2.1 ≤ (n : Int)
theorem CurOK.mono {n m : Nat} {c : List Int × (Int × Int)} (h : CurOK n c) (hm : n ≤ m) : CurOK m c := ⟨h.len, h.bytes, h.at0, by have := h.atn; omega⟩
theorem masked (v : Int) : 0 ≤ IntKind.i64.wrap (IntKind.u64.wrap ((BitVec.ofInt IntKind.u64.bits v &&& BitVec.ofInt IntKind.u64.bits 255).toNat : Nat)) ∧ IntKind.i64.wrap (IntKind.u64.wrap ((BitVec.ofInt IntKind.u64.bits v &&& BitVec.ofInt IntKind.u64.bits 255).toNat : Nat)) ≤ 255 := by
  have h1 : (BitVec.ofInt IntKind.u64.bits v &&& BitVec.ofInt IntKind.u64.bits 255).toNat ≤ 255 := by
    rw [BitVec.toNat_and]
    exact Nat.le_trans Nat.and_le_right (by decide)
  generalize (BitVec.ofInt IntKind.u64.bits v &&& BitVec.ofInt IntKind.u64.bits 255).toNat = m at h1
  have h2 : IntKind.u64.wrap (m : Int) = (m : Int) := by
    simp [IntKind.wrap, IntKind.bits, IntKind.signed]
    omega
  rw [h2, wrap_id (by omega) (by omega)]
  omega
theorem next_ok {n : Nat} {c : List Int × (Int × Int)} (h : CurOK n c) (hn : n ≤ 4611686018427387904) : ∃ c' v, F_spec_l1Cur_next c = some (c', v) ∧ CurOK (n + 1) c' ∧ 0 ≤ v ∧ v ≤ 255 := by
  obtain ⟨code, i, seed⟩ := c
  have hat0 : 0 ≤ i := h.at0
  have hatn : i ≤ (n : Int) := h.atn
  have hw : IntKind.i64.wrap (i + 1) = i + 1 := wrap_id (by omega) (by omega)
  have q40 : decide (0 ≤ (40 : Int)) = true := rfl
  have ok : ∀ s, CurOK (n + 1) (code, (i + 1, s)) := fun s => ⟨h.len, h.bytes, by show 0 ≤ i + 1; omega, by show i + 1 ≤ _; omega⟩
  cases h1 : decide (i < (code.length : Int)) with
  | true =>
    have h1' : i < (code.length : Int) := of_decide_eq_true h1
    have h0 : decide (0 ≤ i) = true := decide_eq_true hat0
    have hlt : i.toNat < code.length := by omega
    have hb : 0 ≤ code.getD i.toNat 0 ∧ code.getD i.toNat 0 ≤ 255 := h.bytes _ (getD_mem hlt 0)
    have hwb : IntKind.i64.wrap (code.getD i.toNat 0) = code.getD i.toNat 0 := wrap_id (by omega) (by omega)
    simp only [F_spec_l1Cur_next, h1, h0, Bool.and_self, cond_true, hw, hwb, q40]
    cases decide (i + 1 ≤ (code.length : Int)) with
    | true => exact ⟨_, _, rfl, ok _, hb⟩
    | false => exact ⟨_, _, rfl, ok _, masked _⟩
  | false =>
    simp only [F_spec_l1Cur_next, h1, cond_false, hw, q40, cond_true]
    cases decide (i + 1 ≤ (code.length : Int)) with
    | true => exact ⟨_, _, rfl, ok _, by omega⟩
    | false => exact ⟨_, _, rfl, ok _, masked _⟩
theorem pick_ok {n : Nat} {c : List Int × (Int × Int)} (h : CurOK n c) (hn : n ≤ 4611686018427387904) {k : Int} (k0 : 1 ≤ k) (k1 : k ≤ 200) : ∃ c' v, F_spec_l1Cur_pick (c, k) = some (c', v) ∧ CurOK (n + 1) c' ∧ 0 ≤ v ∧ v < k := by
  cases h1 : decide (k ≤ 1) with
  | true =>
    have := of_decide_eq_true h1
    exact ⟨c, 0, by simp only [F_spec_l1Cur_pick, h1, cond_true], h.mono (by omega), by omega, by omega⟩
  | false =>
    have h1' := of_decide_eq_false h1
    obtain ⟨c', v, e, hc, v0, v1⟩ := next_ok h hn
    have h2 : decide (k > 200) = false := decide_eq_false (by omega)
    have h3 : decide (k = 0) = false := decide_eq_false (by omega)
    refine ⟨c', v.tmod k, by simp only [F_spec_l1Cur_pick, h1, cond_false, e, h2, h3, Bool.not_false, cond_true], hc, Int.tmod_nonneg _ v0, Int.tmod_lt_of_pos _ (by omega)⟩
theorem one_ok {n : Nat} {c : List Int × (Int × Int)} (h : CurOK n c) (hn : n ≤ 4611686018427387904) {k : Int} (k0 : 1 ≤ k) (k1 : k ≤ 200) : ∃ c' b, F_spec_l1Cur_one (c, k) = some (c', b) ∧ CurOK (n + 1) c' := by
  obtain ⟨c', v, e, hc, _⟩ := pick_ok h hn k0 k1
  exact ⟨c', v == 0, by simp only [F_spec_l1Cur_one, e], hc⟩
theorem of_ok {n : Nat} {c : List Int × (Int × Int)} (h : CurOK n c) (hn : n ≤ 4611686018427387904) {l : List ByteArray} (k0 : 1 ≤ l.length) (k1 : l.length ≤ 200) : ∃ c' v, F_spec_l1Cur_of (c, l) = some (c', v) ∧ CurOK (n + 1) c' ∧ v ∈ l := by
  obtain ⟨c', v, e, hc, v0, v1⟩ := pick_ok h hn (k := (l.length : Int)) (by omega) (by omega)
  have h0 : decide (0 ≤ v) = true := decide_eq_true v0
  have h1 : decide (v < (l.length : Int)) = true := decide_eq_true v1
  exact ⟨c', l.getD v.toNat ByteArray.empty, by simp only [F_spec_l1Cur_of, e, h0, h1, Bool.and_self, cond_true], hc, getD_mem (by omega) _⟩
theorem among_ok {n : Nat} {c : List Int × (Int × Int)} (h : CurOK n c) (hn : n ≤ 4611686018427387904) {l : List Int} (k0 : 1 ≤ l.length) (k1 : l.length ≤ 200) : ∃ c' v, F_spec_l1Cur_among (c, l) = some (c', v) ∧ CurOK (n + 1) c' ∧ v ∈ l := by
  obtain ⟨c', v, e, hc, v0, v1⟩ := pick_ok h hn (k := (l.length : Int)) (by omega) (by omega)
  have h0 : decide (0 ≤ v) = true := decide_eq_true v0
  have h1 : decide (v < (l.length : Int)) = true := decide_eq_true v1
  exact ⟨c', l.getD v.toNat 0, by simp only [F_spec_l1Cur_among, e, h0, h1, Bool.and_self, cond_true], hc, getD_mem (by omega) _⟩
theorem gloss_ok {n : Nat} {c : List Int × (Int × Int)} (h : CurOK n c) (hn : n ≤ 4611686018427387904) : ∃ c' v, F_spec_l1Cur_gloss c = some (c', v) ∧ CurOK (n + 1) c' ∧ v.size ≤ 9 := by
  obtain ⟨c', v, e, hc, hv⟩ := of_ok h hn (l := [(⟨#[83, 85, 78]⟩ : ByteArray), (⟨#[72, 79, 85, 83, 69]⟩ : ByteArray), (⟨#[84, 82, 69, 69]⟩ : ByteArray), (⟨#[82, 65, 73, 78]⟩ : ByteArray), (⟨#[66, 79, 79, 75]⟩ : ByteArray), (⟨#[69, 73, 71, 72, 84, 76, 69, 84]⟩ : ByteArray)]) (by simp) (by simp)
  refine ⟨c', v, by simp only [F_spec_l1Cur_gloss, e], hc, ?_⟩
  simp only [List.mem_cons, List.not_mem_nil, or_false] at hv
  rcases hv with rfl | rfl | rfl | rfl | rfl | rfl <;> decide
theorem anyGloss_ok {n : Nat} {c : List Int × (Int × Int)} (h : CurOK n c) (hn : n ≤ 4611686018427387903) : ∃ c' v, F_spec_l1Cur_anyGloss c = some (c', v) ∧ CurOK (n + 2) c' ∧ v.size ≤ 9 := by
  obtain ⟨c1, v1, e1, hc1, hv1⟩ := of_ok h (by omega) (l := [(⟨#[]⟩ : ByteArray), (⟨#[115, 117, 110]⟩ : ByteArray), (⟨#[78, 73, 78, 69, 76, 69, 84, 84, 69]⟩ : ByteArray), (⟨#[65, 49]⟩ : ByteArray), (⟨#[90, 79, 79]⟩ : ByteArray), (⟨#[65]⟩ : ByteArray)]) (by simp) (by simp)
  have z1 : v1.size ≤ 9 := by
    simp only [List.mem_cons, List.not_mem_nil, or_false] at hv1
    rcases hv1 with rfl | rfl | rfl | rfl | rfl | rfl <;> decide
  obtain ⟨c', v, e, hc, hv⟩ := of_ok hc1 (by omega) (l := [(⟨#[83, 85, 78]⟩ : ByteArray), (⟨#[72, 79, 85, 83, 69]⟩ : ByteArray), (⟨#[84, 82, 69, 69]⟩ : ByteArray), (⟨#[82, 65, 73, 78]⟩ : ByteArray), (⟨#[66, 79, 79, 75]⟩ : ByteArray), (⟨#[83, 85, 78]⟩ : ByteArray), v1]) (by simp) (by simp)
  refine ⟨c', v, by simp only [F_spec_l1Cur_anyGloss, e1, e], hc, ?_⟩
  simp only [List.mem_cons, List.not_mem_nil, or_false] at hv
  rcases hv with rfl | rfl | rfl | rfl | rfl | rfl | rfl
  all_goals first | exact z1 | decide
abbrev PropD := Int × (Int × (ByteArray × List Int))
structure SmallP (e : PropD) : Prop where
  gloss : e.2.2.1.size ≤ 16
  votes : e.2.2.2.length ≤ 16
theorem among2 {n : Nat} {c : List Int × (Int × Int)} (h : CurOK n c) (hn : n ≤ 4611686018427387904) (l : List Int) (k0 : 1 ≤ l.length) (k1 : l.length ≤ 200) : ∃ c' v, F_spec_l1Cur_among (c, l) = some (c', v) ∧ CurOK (n + 1) c' := by
  obtain ⟨c', v, e, h1, _⟩ := among_ok h hn k0 k1
  exact ⟨c', v, e, h1⟩
theorem proposal_ok {n : Nat} {c : List Int × (Int × Int)} (h : CurOK n c) (hn : n ≤ 4611686018427380000) (number : Int) {m : Int} (m0 : 0 ≤ m) (m1 : m ≤ 8) : ∃ c' p, F_spec_l1Cur_proposal (c, number, m) = some (c', p) ∧ CurOK (n + 30) c' ∧ SmallP p := by
  obtain ⟨c1, v1, e1, h1, _, _⟩ := pick_ok h (by omega) (k := 2) (by omega) (by omega)
  obtain ⟨c2, v2, e2, h2, g2⟩ := gloss_ok h1 (by omega)
  obtain ⟨c3, v3, e3, h3⟩ := one_ok h2 (by omega) (k := 2) (by omega) (by omega)
  obtain ⟨o, eo, q1, q2, q3, q4⟩ := runL_inv (f := step_spec_l1Cur_proposal_0)
    (fun s => s.1 = m ∧ s.2.2.2.2.1.size ≤ 9 ∧ s.2.2.2.2.2.2.2.2.2.2.2.length ≤ 8 ∧ CurOK (n + 3 + 2 * s.2.2.2.2.2.2.2.2.2.2.2.length) (s.2.2.2.2.2.2.2.2.1, s.2.2.2.2.2.2.2.2.2.1, s.2.2.2.2.2.2.2.2.2.2.1))
    (fun o => o.1 = m ∧ o.2.2.2.1.size ≤ 9 ∧ o.2.2.2.2.1.length ≤ 8 ∧ CurOK (n + 19) o.2.2.2.2.2.2.2.2) (fun s => 8 - s.2.2.2.2.2.2.2.2.2.2.2.length) (by
    rintro ⟨s1, s2, s3, s4, s5, s6, s7, s8, code, i, seed, votes⟩ ⟨r1, r2, r3, r4⟩
    simp only at r1 r2 r3 r4
    subst r1
    cases hl : decide ((votes.length : Int) < s1) with
    | false =>
      left
      have hc : CurOK (n + 19) (code, i, seed) := r4.mono (by omega)
      exact ⟨_, by simp only [step_spec_l1Cur_proposal_0, hl, cond_false]; rfl, rfl, r2, r3, hc⟩
    | true =>
      right
      have hl' := of_decide_eq_true hl
      obtain ⟨d1, w1, f1, k1⟩ := among2 r4 (by omega) [(-1), 0, 1] (by simp) (by simp)
      have room : ∀ z : Int, decide ((votes.length + [z].length) * 8 ≤ 140737488355328) = true := fun z => decide_eq_true (by simp; omega)
      have room1 : decide ((votes.length + ([1] : List Nat).length) * 8 ≤ 140737488355328) = true := decide_eq_true (by simp; omega)
      cases s2 with
      | false =>
        refine ⟨_, by simp only [step_spec_l1Cur_proposal_0, hl, cond_true, f1, cond_false, room]; rfl, ⟨rfl, r2, by simp; omega, ?_⟩, by simp; omega⟩
        simp only [List.length_append, List.length_singleton]
        exact k1.mono (by omega)
      | true =>
        obtain ⟨d2, w2, f2, k2⟩ := one_ok k1 (by omega) (k := 2) (by omega) (by omega)
        cases w2 with
        | false =>
          refine ⟨_, by simp only [step_spec_l1Cur_proposal_0, hl, cond_true, f1, f2, cond_false, room]; rfl, ⟨rfl, r2, by simp; omega, ?_⟩, by simp; omega⟩
          simp only [List.length_append, List.length_singleton]
          exact k2.mono (by omega)
        | true =>
          refine ⟨_, by simp only [step_spec_l1Cur_proposal_0, hl, cond_true, f1, f2, room1]; rfl, ⟨rfl, r2, by simp; omega, ?_⟩, by simp; omega⟩
          simp only [List.length_append, List.length_singleton]
          exact k2.mono (by omega)) (m, (v3, number, (v1, v2, (0, 0, (ByteArray.empty, c3.1, (c3.2.1, c3.2.2, []))))))
    ⟨rfl, g2, by simp, h3.mono (by simp)⟩
  obtain ⟨c4, v4, e4, h4⟩ := one_ok q4 (by omega) (k := 5) (by omega) (by omega)
  obtain ⟨c5, v5, e5, h5, _, _⟩ := pick_ok h4 (by omega) (k := 60) (by omega) (by omega)
  obtain ⟨c6, v6, e6, h6⟩ := among2 h5 (by omega) [0, 999, 1000] (by simp) (by simp)
  obtain ⟨c7, v7, e7, h7⟩ := among2 h5 (by omega) [(-1), 2] (by simp) (by simp)
  obtain ⟨c8, v8, e8, h8, g8⟩ := anyGloss_ok h5 (by omega)
  obtain ⟨c9, v9, e9, h9, _, _⟩ := pick_ok h5 (by omega) (k := 4) (by omega) (by omega)
  have z0 : decide (0 ≤ o.1) = true := decide_eq_true (by omega)
  have z1 : decide (o.1 ≤ o.1) = true := decide_eq_true (Int.le_refl _)
  have z2 : decide (o.1 * (8 : Int) ≤ 140737488355328) = true := decide_eq_true (by omega)
  have z3 : ∀ z : Int, decide (((List.replicate (o.1).toNat (0 : Int)).length + [z].length) * 8 ≤ 140737488355328) = true := fun z => decide_eq_true (by simp; omega)
  have z4 : ∀ z : Int, decide ((o.2.2.2.2.1.length + [z].length) * 8 ≤ 140737488355328) = true := fun z => decide_eq_true (by simp; omega)
  have lr : (List.replicate (o.1).toNat (0 : Int)).length ≤ 8 := by simp; omega
  cases v4 with
  | true =>
    cases b0 : v5 == 0 with
    | true => exact ⟨_, _, by simp only [F_spec_l1Cur_proposal, e1, e2, e3, eo, e4, cond_true, z0, z1, z2, Bool.and_self, e5, b0, e6]; rfl, h6.mono (by omega), ⟨Nat.le_trans q2 (by omega), Nat.le_trans lr (by omega)⟩⟩
    | false =>
      cases b1 : v5 == 1 with
      | true => exact ⟨_, _, by simp only [F_spec_l1Cur_proposal, e1, e2, e3, eo, e4, cond_true, cond_false, z0, z1, z2, Bool.and_self, e5, b0, b1, e7]; rfl, h7.mono (by omega), ⟨Nat.le_trans q2 (by omega), Nat.le_trans lr (by omega)⟩⟩
      | false =>
        cases b2 : v5 == 2 with
        | true => exact ⟨_, _, by simp only [F_spec_l1Cur_proposal, e1, e2, e3, eo, e4, cond_true, cond_false, z0, z1, z2, Bool.and_self, e5, b0, b1, b2, e8]; rfl, h8.mono (by omega), ⟨Nat.le_trans g8 (by omega), Nat.le_trans lr (by omega)⟩⟩
        | false =>
          cases b3 : v5 == 3 with
          | true => exact ⟨_, _, by simp only [F_spec_l1Cur_proposal, e1, e2, e3, eo, e4, cond_true, cond_false, z0, z1, z2, Bool.and_self, e5, b0, b1, b2, b3, e9, z3]; rfl, h9.mono (by omega), ⟨Nat.le_trans q2 (by omega), by simp only [List.length_append, List.length_singleton]; omega⟩⟩
          | false => exact ⟨_, _, by simp only [F_spec_l1Cur_proposal, e1, e2, e3, eo, e4, cond_true, cond_false, z0, z1, z2, Bool.and_self, e5, b0, b1, b2, b3]; rfl, h5.mono (by omega), ⟨Nat.le_trans q2 (by omega), Nat.le_trans lr (by omega)⟩⟩
  | false =>
    cases b0 : v5 == 0 with
    | true => exact ⟨_, _, by simp only [F_spec_l1Cur_proposal, e1, e2, e3, eo, e4, cond_true, cond_false, e5, b0, e6]; rfl, h6.mono (by omega), ⟨Nat.le_trans q2 (by omega), Nat.le_trans q3 (by omega)⟩⟩
    | false =>
      cases b1 : v5 == 1 with
      | true => exact ⟨_, _, by simp only [F_spec_l1Cur_proposal, e1, e2, e3, eo, e4, cond_true, cond_false, e5, b0, b1, e7]; rfl, h7.mono (by omega), ⟨Nat.le_trans q2 (by omega), Nat.le_trans q3 (by omega)⟩⟩
      | false =>
        cases b2 : v5 == 2 with
        | true => exact ⟨_, _, by simp only [F_spec_l1Cur_proposal, e1, e2, e3, eo, e4, cond_true, cond_false, e5, b0, b1, b2, e8]; rfl, h8.mono (by omega), ⟨Nat.le_trans g8 (by omega), Nat.le_trans q3 (by omega)⟩⟩
        | false =>
          cases b3 : v5 == 3 with
          | true => exact ⟨_, _, by simp only [F_spec_l1Cur_proposal, e1, e2, e3, eo, e4, cond_true, cond_false, e5, b0, b1, b2, b3, e9, z4]; rfl, h9.mono (by omega), ⟨Nat.le_trans q2 (by omega), by simp only [List.length_append, List.length_singleton]; omega⟩⟩
          | false => exact ⟨_, _, by simp only [F_spec_l1Cur_proposal, e1, e2, e3, eo, e4, cond_true, cond_false, e5, b0, b1, b2, b3]; rfl, h5.mono (by omega), ⟨Nat.le_trans q2 (by omega), Nat.le_trans q3 (by omega)⟩⟩
structure SmallL (l : List PropD) : Prop where
  len : l.length ≤ 13
  all : ∀ e ∈ l, SmallP e
theorem props_loop {n : Nat} {c : List Int × (Int × Int)} (h : CurOK n c) (hn : n ≤ 4611686018427300000) {m N : Int} (m0 : 0 ≤ m) (m1 : m ≤ 8) (n0 : 0 ≤ N) (n1 : N ≤ 13) :
    ∃ o, runL step_spec_l1Cur_proposals_0 (m, N, (1, c.1, (c.2.1, c.2.2, []))) = some o ∧ o.1 = m ∧ o.2.1 = N ∧ (o.2.2.1.length : Int) = N ∧ SmallL o.2.2.1 ∧ CurOK (n + 600) o.2.2.2 := by
  obtain ⟨o, eo, q1, q2, q3, q4, q5⟩ := runL_inv (f := step_spec_l1Cur_proposals_0)
    (fun s => s.1 = m ∧ s.2.1 = N ∧ (s.2.2.2.2.2.2.length : Int) ≤ N ∧ (∀ e ∈ s.2.2.2.2.2.2, SmallP e) ∧ CurOK (n + 40 * s.2.2.2.2.2.2.length) (s.2.2.2.1, s.2.2.2.2.1, s.2.2.2.2.2.1))
    (fun o => o.1 = m ∧ o.2.1 = N ∧ (o.2.2.1.length : Int) = N ∧ (∀ e ∈ o.2.2.1, SmallP e) ∧ CurOK (n + 600) o.2.2.2) (fun s => 13 - s.2.2.2.2.2.2.length) (by
    rintro ⟨s1, s2, s3, code, i, seed, l⟩ ⟨r1, r2, r3, r4, r5⟩
    simp only at r1 r2 r3 r4 r5
    subst r1 r2
    cases hl : decide ((l.length : Int) < s2) with
    | false =>
      left
      have hl' := of_decide_eq_false hl
      have hc : CurOK (n + 600) (code, i, seed) := r5.mono (by omega)
      exact ⟨_, by simp only [step_spec_l1Cur_proposals_0, hl, cond_false]; rfl, rfl, rfl, by show (l.length : Int) = s2; omega, r4, hc⟩
    | true =>
      right
      have hl' := of_decide_eq_true hl
      obtain ⟨d1, p, f1, k1, sp⟩ := proposal_ok r5 (by omega) s3 m0 m1
      obtain ⟨d2, w, f2, k2, _, _⟩ := pick_ok k1 (by omega) (k := 3) (by omega) (by omega)
      have room : decide ((l.length + ([p] : List PropD).length) * 56 ≤ 140737488355328) = true := decide_eq_true (by simp; omega)
      refine ⟨_, by simp only [step_spec_l1Cur_proposals_0, hl, cond_true, f1, room, Bool.and_self, f2]; rfl, ⟨rfl, rfl, by simp; omega, fun e he => ?_, ?_⟩, by simp; omega⟩
      · rcases List.mem_append.1 he with h' | h'
        · exact r4 e h'
        · obtain rfl : e = p := by simpa using h'
          exact sp
      · simp only [List.length_append, List.length_singleton]
        exact k2.mono (by omega)) (m, N, (1, c.1, (c.2.1, c.2.2, []))) ⟨rfl, rfl, by simpa using n0, by simp, h.mono (by simp)⟩
  exact ⟨o, eo, q1, q2, q3, ⟨by omega, q4⟩, q5⟩
theorem props_end {n : Nat} {c : List Int × (Int × Int)} (h : CurOK n c) (hn : n ≤ 4611686018427300000) {m N : Int} (m0 : 0 ≤ m) (m1 : m ≤ 8) {l : List PropD} (hl : (l.length : Int) = N) (hs : SmallL l) {R : Option ((List Int × (Int × Int)) × List PropD × Int)}
    (hR : R = match F_spec_l1Cur_pick (c, 24) with
      | none => none
      | some y21 =>
        bif ((y21.2 == 0)) then
          bif (decide (N > 0)) then
            match F_spec_l1Cur_proposal ((y21.1, 999, m)) with
            | none => none
            | some y23 =>
              bif decide (0 ≤ IntKind.i64.wrap (N - 1)) && decide (IntKind.i64.wrap (N - 1) < (l.length : Int)) then
                some ((y23.1, l.set (IntKind.i64.wrap (N - 1)).toNat (y23.2), m))
              else none
          else
            some ((y21.1, l, m))
        else
          bif ((y21.2 == 1)) then
            match F_spec_l1Cur_among ((y21.1, [0, 8, IntKind.i64.wrap (m + 1), (-1)])) with
            | none => none
            | some y26 =>
              some ((y26.1, l, y26.2))
          else
            some ((y21.1, l, m))) : ∃ c' r k, R = some (c', r, k) ∧ CurOK (n + 40) c' ∧ SmallL r := by
  have hlen := hs.len
  obtain ⟨c1, v1, e1, h1, _, _⟩ := pick_ok h (by omega) (k := 24) (by omega) (by omega)
  obtain ⟨c2, p, e2, h2, sp⟩ := proposal_ok h1 (by omega) 999 m0 m1
  obtain ⟨c3, v3, e3, h3⟩ := among2 h1 (by omega) [0, 8, IntKind.i64.wrap (m + 1), (-1)] (by simp) (by simp)
  simp only [e1] at hR
  cases b0 : v1 == 0 with
  | true =>
    rw [b0] at hR
    simp only [cond_true] at hR
    cases b1 : decide (N > 0) with
    | true =>
      have hN := of_decide_eq_true b1
      have hw : IntKind.i64.wrap (N - 1) = N - 1 := wrap_id (by omega) (by omega)
      have z0 : decide (0 ≤ N - 1) = true := decide_eq_true (by omega)
      have z1 : decide (N - 1 < (l.length : Int)) = true := decide_eq_true (by omega)
      simp only [b1, cond_true, e2, hw, z0, z1, Bool.and_self] at hR
      refine ⟨_, _, _, hR, h2.mono (by omega), ⟨by simpa using hlen, fun e he => ?_⟩⟩
      rcases List.mem_or_eq_of_mem_set he with h' | rfl
      · exact hs.all e h'
      · exact sp
    | false =>
      simp only [b1, cond_false] at hR
      exact ⟨_, _, _, hR, h1.mono (by omega), hs⟩
  | false =>
    rw [b0] at hR
    simp only [cond_false] at hR
    cases b1 : v1 == 1 with
    | true =>
      simp only [b1, cond_true, e3] at hR
      exact ⟨_, _, _, hR, h3.mono (by omega), hs⟩
    | false =>
      simp only [b1, cond_false] at hR
      exact ⟨_, _, _, hR, h1.mono (by omega), hs⟩
theorem proposals_ok {n : Nat} {c : List Int × (Int × Int)} (h : CurOK n c) (hn : n ≤ 4611686018427000000) : ∃ c' l k, F_spec_l1Cur_proposals c = some (c', l, k) ∧ CurOK (n + 700) c' ∧ SmallL l := by
  obtain ⟨c1, v1, e1, h1, m1⟩ := among_ok h (by omega) (l := [1, 2, 3, 3, 5, 7]) (by simp) (by simp)
  have hm : 0 ≤ v1 ∧ v1 ≤ 8 := by
    simp only [List.mem_cons, List.not_mem_nil, or_false] at m1
    omega
  obtain ⟨c2, v2, e2, h2, a2, b2⟩ := pick_ok h1 (by omega) (k := 6) (by omega) (by omega)
  obtain ⟨c3, v3, e3, h3⟩ := one_ok h2 (by omega) (k := 12) (by omega) (by omega)
  cases v3 with
  | true =>
    obtain ⟨c4, v4, e4, h4, a4, b4⟩ := pick_ok h3 (by omega) (k := 2) (by omega) (by omega)
    have hw : IntKind.i64.wrap (12 + v4) = 12 + v4 := wrap_id (by omega) (by omega)
    obtain ⟨o, eo, q1, q2, q3, q4, q5⟩ := props_loop h4 (by omega) hm.1 hm.2 (N := 12 + v4) (by omega) (by omega)
    obtain ⟨c', r, k, e, h', hs⟩ := props_end q5 (by omega) (m := o.1) (N := o.2.1) (by omega) (by omega) (by omega) q4 rfl
    refine ⟨c', r, k, ?_, h'.mono (by omega), hs⟩
    simp only [F_spec_l1Cur_proposals, e1, e2, e3, e4, cond_true, hw, eo]
    exact e
  | false =>
    obtain ⟨o, eo, q1, q2, q3, q4, q5⟩ := props_loop h3 (by omega) hm.1 hm.2 (N := v2) (by omega) (by omega)
    obtain ⟨c', r, k, e, h', hs⟩ := props_end q5 (by omega) (m := o.1) (N := o.2.1) (by omega) (by omega) (by omega) q4 rfl
    refine ⟨c', r, k, ?_, h'.mono (by omega), hs⟩
    simp only [F_spec_l1Cur_proposals, e1, e2, e3, cond_false, eo]
    exact e
/-- the drawn bytes -/
def Bytes (code : List Int) : Prop := code.length ≤ 1048576 ∧ ∀ b ∈ code, 0 ≤ b ∧ b ≤ 255
theorem Bytes.cur {code : List Int} (h : Bytes code) : CurOK 0 (code, ((0 : Int), (0 : Int))) := ⟨h.1, h.2, by simp, by simp⟩
end Go.Proofs.YtnfngofcdhaaaaaGreat
/- The law of editions, as plain Lean: it answers true. The bytes are bytes. -/
set_option linter.unusedVariables false
set_option linter.unusedSimpArgs false
namespace Go.Proofs.YtnfngofcdhaaaaaGreat
open Go Classical
theorem SmallL.fits {l : List Prop'} (h : SmallL l) : Fits l := ⟨by have := h.len; omega, fun e he => by have := (h.all e he).gloss; omega, fun e he => by have := (h.all e he).votes; omega⟩
theorem byte_wf {n : Int} (h : (Lit.int .u8 n).wf = true) : 0 ≤ n ∧ n ≤ 255 := by
  simp only [Lit.wf, Bool.and_eq_true, decide_eq_true_eq] at h
  have h1 : IntKind.u8.min = 0 := by decide
  have h2 : IntKind.u8.max = 255 := by decide
  omega
theorem sameInts_is (l : List Int) (h : l.length ≤ 1048576) : F_laws_sameInts (l, l) = some true := by
  have t := runL_traj (f := step_laws_sameInts_0) (fun i => (l, l, (l.length : Int), (i : Int))) (.inr ()) l.length (fun i hi => by
    have hw := wrap_succ (i := i) (by omega)
    simp only [step_laws_sameInts_0, lt_len hi, nonneg, Bool.and_self, cond_true, Int.toNat_natCast, bne_self_eq_false, cond_false, hw]) (by simp [step_laws_sameInts_0])
  have t' : runL step_laws_sameInts_0 (l, (l, (l.length : Int), (0 : Int))) = some (.inr ()) := t
  simp only [F_laws_sameInts, bne_self_eq_false, cond_false, t']
theorem sameTexts_is (l : List ByteArray) (h : l.length ≤ 1048576) : F_laws_pSameTexts (l, l) = some true := by
  have t := runL_traj (f := step_laws_pSameTexts_0) (fun i => (l, l, (l.length : Int), (i : Int))) (.inr ()) l.length (fun i hi => by
    have hw := wrap_succ (i := i) (by omega)
    simp only [step_laws_pSameTexts_0, lt_len hi, nonneg, Bool.and_self, cond_true, Int.toNat_natCast, BEq.rfl, Bool.not_true, cond_false, hw]) (by simp [step_laws_pSameTexts_0])
  have t' : runL step_laws_pSameTexts_0 (l, (l, (l.length : Int), (0 : Int))) = some (.inr ()) := t
  simp only [F_laws_pSameTexts, bne_self_eq_false, cond_false, t']
theorem pSame_is (l : List Prop') (h : Fits l) : F_laws_pSameProposals (l, l) = some true := by
  have hlen := h.len
  have t := runL_traj (f := step_laws_pSameProposals_0) (fun i => (l, l, (l.length : Int), (i : Int))) (.inr ()) l.length (fun i hi => by
    have hw := wrap_succ (i := i) (by omega)
    have hs := sameInts_is (l.getD i (0, (0, ByteArray.empty, []))).2.2.2 (h.votes _ (getD_mem hi dP))
    simp only [step_laws_pSameProposals_0, lt_len hi, nonneg, Bool.and_self, cond_true, Int.toNat_natCast, bne_self_eq_false, beq_self_eq_true, Bool.not_true, cond_false, hs, hw]) (by simp [step_laws_pSameProposals_0])
  have t' : runL step_laws_pSameProposals_0 (l, (l, (l.length : Int), (0 : Int))) = some (.inr ()) := t
  simp only [F_laws_pSameProposals, bne_self_eq_false, cond_false, t']
theorem pIn_is (l : List Int) (n : Int) (h : l.length ≤ 1048576) : F_laws_pIn (l, n) = some (decide (n ∈ l)) := by
  rcases runL_first (f := step_laws_pIn_0) (fun i => !(l.getD i 0 == n)) (fun i => (n, (l, ((l.length : Int), (i : Int))))) (fun _ => .inl true) (.inr ()) l.length (fun i hi => by
    have hw := wrap_succ (i := i) (by omega)
    simp only [step_laws_pIn_0, lt_len hi, nonneg, Bool.and_self, cond_true, Int.toNat_natCast, hw]
    cases (l.getD i 0 == n) <;> rfl) (by simp [step_laws_pIn_0]) with ⟨t, hp⟩ | ⟨i, hi, hp, _, t⟩
  · have t' : runL step_laws_pIn_0 (n, (l, ((l.length : Int), (0 : Int)))) = _ := t
    have : ¬ n ∈ l := fun hm => by
      obtain ⟨i, hi, rfl⟩ := List.getElem_of_mem hm
      have := hp i hi
      simp [List.getD, List.getElem?_eq_getElem hi] at this
    simp only [F_laws_pIn, t', decide_eq_false this]
  · have t' : runL step_laws_pIn_0 (n, (l, ((l.length : Int), (0 : Int)))) = _ := t
    have : n ∈ l := by
      have e : l.getD i 0 = n := by simpa using hp
      rw [← e]; exact getD_mem hi _
    simp only [F_laws_pIn, t', decide_eq_true this]
theorem pHas_is (l : List ByteArray) (s : ByteArray) (h : l.length ≤ 1048576) : F_laws_pHas (l, s) = some (decide (s ∈ l)) := by
  rcases runL_first (f := step_laws_pHas_0) (fun i => !decide (l.getD i ByteArray.empty = s)) (fun i => (s, (l, ((l.length : Int), (i : Int))))) (fun _ => .inl true) (.inr ()) l.length (fun i hi => by
    have hw := wrap_succ (i := i) (by omega)
    simp only [step_laws_pHas_0, lt_len hi, nonneg, Bool.and_self, cond_true, Int.toNat_natCast, hw, beq_is]
    cases decide (l.getD i ByteArray.empty = s) <;> rfl) (by simp [step_laws_pHas_0]) with ⟨t, hp⟩ | ⟨i, hi, hp, _, t⟩
  · have t' : runL step_laws_pHas_0 (s, (l, ((l.length : Int), (0 : Int)))) = _ := t
    have : ¬ s ∈ l := fun hm => by
      obtain ⟨i, hi, rfl⟩ := List.getElem_of_mem hm
      have := hp i hi
      simp [List.getD, List.getElem?_eq_getElem hi] at this
    simp only [F_laws_pHas, t', decide_eq_false this]
  · have t' : runL step_laws_pHas_0 (s, (l, ((l.length : Int), (0 : Int)))) = _ := t
    have : s ∈ l := by
      have e : l.getD i ByteArray.empty = s := of_decide_eq_true (by simpa only [Bool.not_eq_false'] using hp)
      rw [← e]; exact getD_mem hi _
    simp only [F_laws_pHas, t', decide_eq_true this]
/-! ### What is drawn -/
theorem draw_glosses {n : Nat} {c : List Int × (Int × Int)} (h : CurOK n c) (hn : n ≤ 1000) (L : List ByteArray) (hL : L.length = 5) (hs : ∀ s ∈ L, s.size ≤ 16) :
    ∃ (gs : List ByteArray) (c' : List Int × (Int × Int)), runL step_spec_DrawNextEdition_0 ((L.length : Int), (0, (L, (c.1, (c.2.1, (c.2.2, [])))))) = some (gs, c') ∧ CurOK (n + 5) c' ∧ gs.length ≤ 5 ∧ ∀ s ∈ gs, s.size ≤ 16 := by
  obtain ⟨o, ho, h1, h2, h3⟩ := runL_inv (f := step_spec_DrawNextEdition_0) (fun t => ∃ (i : Nat) (code : List Int) (a b : Int) (gs : List ByteArray), t = ((L.length : Int), ((i : Int), (L, (code, (a, (b, gs)))))) ∧ i ≤ 5 ∧ CurOK (n + i) (code, (a, b)) ∧ gs.length ≤ i ∧ ∀ s ∈ gs, s.size ≤ 16)
    (fun o => CurOK (n + 5) o.2 ∧ o.1.length ≤ 5 ∧ ∀ s ∈ o.1, s.size ≤ 16) (fun t => 5 - t.2.1.toNat) (by
    rintro t ⟨i, code, a, b, gs, rfl, hi, hc, hl, hz⟩
    rcases Nat.lt_or_ge i L.length with hlt | hge
    · right
      have hw := wrap_succ (i := i) (by omega)
      obtain ⟨⟨c1, c2, c3⟩, v, e, h1⟩ := one_ok hc (by omega) (k := 2) (by omega) (by omega)
      have g : decide ((gs.length + [L.getD i ByteArray.empty].length) * 16 ≤ 140737488355328) = true := decide_eq_true (by simp only [List.length_singleton]; omega)
      cases v with
      | true =>
        refine ⟨_, by simp only [step_spec_DrawNextEdition_0, lt_len hlt, nonneg, Bool.and_self, cond_true, Int.toNat_natCast, e, g, hw] <;> rfl, ⟨i + 1, c1, c2, c3, _, rfl, by omega, h1.mono (by omega), by simp; omega, fun s hs' => ?_⟩, by simp; omega⟩
        rcases List.mem_append.1 hs' with h | h
        · exact hz s h
        · obtain rfl := List.mem_singleton.1 h; exact hs _ (getD_mem hlt _)
      | false =>
        exact ⟨_, by simp only [step_spec_DrawNextEdition_0, lt_len hlt, nonneg, Bool.and_self, cond_true, cond_false, Int.toNat_natCast, e, hw] <;> rfl, ⟨i + 1, c1, c2, c3, gs, rfl, by omega, h1.mono (by omega), by omega, hz⟩, by simp; omega⟩
    · left
      have : i = L.length := by omega
      subst this
      exact ⟨(gs, (code, (a, b))), by simp only [step_spec_DrawNextEdition_0, not_lt_len, cond_false], hc.mono (by omega), by simp only; omega, hz⟩) ((L.length : Int), (0, (L, (c.1, (c.2.1, (c.2.2, [])))))) ⟨0, c.1, c.2.1, c.2.2, [], rfl, by omega, h, by simp, fun s hs => by cases hs⟩
  exact ⟨o.1, o.2, ho, h1, h2, h3⟩
theorem draw_many {n : Nat} {c : List Int × (Int × Int)} (h : CurOK n c) (N : Int) (hN : N ≤ 41) :
    ∃ (gs : List ByteArray) (c' : List Int × (Int × Int)), runL step_spec_DrawNextEdition_1 (N, (c.1, (c.2.1, (c.2.2, [])))) = some (gs, c') ∧ CurOK n c' ∧ gs.length ≤ 41 ∧ ∀ s ∈ gs, s.size ≤ 16 := by
  obtain ⟨o, ho, h1, h2, h3⟩ := runL_inv (f := step_spec_DrawNextEdition_1) (fun t => ∃ gs : List ByteArray, t = (N, (c.1, (c.2.1, (c.2.2, gs)))) ∧ gs.length ≤ 41 ∧ ∀ s ∈ gs, s.size ≤ 16)
    (fun o => CurOK n o.2 ∧ o.1.length ≤ 41 ∧ ∀ s ∈ o.1, s.size ≤ 16) (fun t => 41 - t.2.2.2.2.length) (by
    rintro t ⟨gs, rfl, hl, hz⟩
    by_cases hlt : (gs.length : Int) < N
    · right
      have z10 : (!decide ((10 : Int) = 0)) = true := rfl
      have d1 : ((gs.length : Int)).tdiv 10 = ((gs.length / 10 : Nat) : Int) := by rw [Int.tdiv_eq_ediv_of_nonneg (by omega)]; omega
      have d2 : ((gs.length : Int)).tmod 10 = ((gs.length % 10 : Nat) : Int) := by rw [Int.tmod_eq_emod_of_nonneg (by omega)]; omega
      have w1 : IntKind.i64.wrap ((gs.length / 10 : Nat) : Int) = ((gs.length / 10 : Nat) : Int) := wrap_id (by omega) (by omega)
      have w2 := wrap_succ (i := gs.length / 10) (by omega)
      have w3 := wrap_succ (i := gs.length % 10) (by omega)
      have s5 : ((⟨#[65, 66, 67, 68, 69]⟩ : ByteArray).size) = 5 := rfl
      have s10 : ((⟨#[65, 66, 67, 68, 69, 70, 71, 72, 73, 74]⟩ : ByteArray).size) = 10 := rfl
      have s1 : ((⟨#[88]⟩ : ByteArray).size) = 1 := rfl
      have g1 : decide (((gs.length / 10 : Nat) : Int) ≤ ((gs.length / 10 + 1 : Nat) : Int)) = true := decide_eq_true (by omega)
      have g2 : decide (((gs.length / 10 + 1 : Nat) : Int) ≤ ((5 : Nat) : Int)) = true := decide_eq_true (by omega)
      have g3 : decide (((gs.length % 10 : Nat) : Int) ≤ ((gs.length % 10 + 1 : Nat) : Int)) = true := decide_eq_true (by omega)
      have g4 : decide (((gs.length % 10 + 1 : Nat) : Int) ≤ ((10 : Nat) : Int)) = true := decide_eq_true (by omega)
      have x1 : ((⟨#[65, 66, 67, 68, 69]⟩ : ByteArray).extract (gs.length / 10) (gs.length / 10 + 1)).size ≤ 5 := by rw [ByteArray.size_extract, s5]; omega
      have x2 : ((⟨#[65, 66, 67, 68, 69, 70, 71, 72, 73, 74]⟩ : ByteArray).extract (gs.length % 10) (gs.length % 10 + 1)).size ≤ 10 := by rw [ByteArray.size_extract, s10]; omega
      have x3 : ((⟨#[88]⟩ : ByteArray) ++ ((⟨#[65, 66, 67, 68, 69]⟩ : ByteArray).extract (gs.length / 10) (gs.length / 10 + 1))).size ≤ 6 := by rw [ByteArray.size_append, s1]; omega
      have g5 : decide (1 + ((⟨#[65, 66, 67, 68, 69]⟩ : ByteArray).extract (gs.length / 10) (gs.length / 10 + 1)).size ≤ 9223372036854775807) = true := decide_eq_true (by omega)
      have g6 : decide (((⟨#[88]⟩ : ByteArray) ++ ((⟨#[65, 66, 67, 68, 69]⟩ : ByteArray).extract (gs.length / 10) (gs.length / 10 + 1))).size + ((⟨#[65, 66, 67, 68, 69, 70, 71, 72, 73, 74]⟩ : ByteArray).extract (gs.length % 10) (gs.length % 10 + 1)).size ≤ 9223372036854775807) = true := decide_eq_true (by omega)
      have g7 : ∀ z : ByteArray, decide ((gs.length + [z].length) * 16 ≤ 140737488355328) = true := fun z => decide_eq_true (by simp only [List.length_singleton]; omega)
      refine ⟨_, by simp only [step_spec_DrawNextEdition_1, decide_eq_true hlt, cond_true, z10, d1, d2, w1, w2, w3, s5, s10, s1, nonneg, g1, g2, g3, g4, Bool.and_self, Int.toNat_natCast, g5, g6, g7] <;> rfl, ⟨_, rfl, by simp; omega, fun s hs' => ?_⟩, by simp; omega⟩
      rcases List.mem_append.1 hs' with h | h
      · exact hz s h
      · obtain rfl := List.mem_singleton.1 h
        rw [ByteArray.size_append]
        omega
    · left
      exact ⟨(gs, (c.1, (c.2.1, c.2.2))), by simp only [step_spec_DrawNextEdition_1, decide_eq_false hlt, cond_false], h, hl, hz⟩) (N, (c.1, (c.2.1, (c.2.2, [])))) ⟨[], rfl, by simp, fun s hs => by cases hs⟩
  exact ⟨o.1, o.2, ho, h1, h2, h3⟩
theorem DrawNextEdition_ok {code : List Int} (h : Bytes code) : ∃ gs l m, F_spec_DrawNextEdition code = some (gs, l, m) ∧ gs.length ≤ 41 ∧ (∀ s ∈ gs, s.size ≤ 16) ∧ SmallL l := by
  have hc := h.cur
  unfold F_spec_DrawNextEdition
  generalize hL : [(⟨#[66, 79, 79, 75]⟩ : ByteArray), (⟨#[72, 79, 85, 83, 69]⟩ : ByteArray), (⟨#[82, 65, 73, 78]⟩ : ByteArray), (⟨#[83, 85, 78]⟩ : ByteArray), (⟨#[90, 79, 79]⟩ : ByteArray)] = L
  have l5 : L.length = 5 := by rw [← hL]; rfl
  have ls : ∀ s ∈ L, s.size ≤ 16 := by
    rw [← hL]
    intro s hs
    simp only [List.mem_cons, List.not_mem_nil, or_false] at hs
    rcases hs with rfl | rfl | rfl | rfl | rfl <;> decide
  obtain ⟨gs, c1, e1, h1, g1, z1⟩ := draw_glosses hc (by omega) L l5 ls
  have e1' : runL step_spec_DrawNextEdition_0 ((L.length : Int), 0, (L, code, (0, 0, []))) = some (gs, c1) := e1
  obtain ⟨c2, v2, e2, h2, a2, b2⟩ := pick_ok h1 (by omega) (k := 16) (by omega) (by omega)
  simp only [e1', e2]
  cases b0 : v2 == 0 with
  | true =>
    obtain ⟨c3, v3, e3, h3, z3⟩ := anyGloss_ok h2 (by omega)
    obtain ⟨c4, l, m, e4, h4, s4⟩ := proposals_ok h3 (by omega)
    have g : decide ((gs.length + [v3].length) * 16 ≤ 140737488355328) = true := decide_eq_true (by simp only [List.length_singleton]; omega)
    refine ⟨gs ++ [v3], l, m, by simp only [cond_true, e3, g, e4], by simp; omega, fun s hs => ?_, s4⟩
    rcases List.mem_append.1 hs with h | h
    · exact z1 s h
    · obtain rfl := List.mem_singleton.1 h; omega
  | false =>
    cases b1 : v2 == 1 with
    | true =>
      obtain ⟨c3, v3, e3, h3, a3, b3⟩ := pick_ok h2 (by omega) (k := 3) (by omega) (by omega)
      have hw : IntKind.i64.wrap (39 + v3) = 39 + v3 := wrap_id (by omega) (by omega)
      obtain ⟨gs', c4, e4, h4, g4, z4⟩ := draw_many h3 (39 + v3) (by omega)
      obtain ⟨c5, l, m, e5, h5, s5⟩ := proposals_ok h4 (by omega)
      exact ⟨gs', l, m, by simp only [cond_true, cond_false, e3, hw, e4, e5], by omega, z4, s5⟩
    | false =>
      obtain ⟨c5, l, m, e5, h5, s5⟩ := proposals_ok h2 (by omega)
      exact ⟨gs, l, m, by simp only [cond_false, e5], by omega, z1, s5⟩
theorem DrawPutProposal_ok {code : List Int} (h : Bytes code) : ∃ l m k g, F_spec_DrawPutProposal code = some (l, m, k, g) ∧ g.size ≤ 9 ∧ SmallL l := by
  obtain ⟨c1, l, m, e1, h1, s1⟩ := proposals_ok h.cur (by omega)
  obtain ⟨c2, v2, e2, h2⟩ := among2 h1 (by omega) [(-1), 2] (by simp) (by simp)
  obtain ⟨c3, v3, e3, h3⟩ := among2 h2 (by omega) [0, 1, 0, 1, v2] (by simp) (by simp)
  obtain ⟨c4, g, e4, h4, z4⟩ := anyGloss_ok h3 (by omega)
  exact ⟨l, m, v3, g, by simp only [F_spec_DrawPutProposal, e1, e2, e3, e4], z4, s1⟩
theorem DrawAgreeingMembers_ok {code : List Int} (h : Bytes code) : ∃ l m, F_spec_DrawAgreeingMembers code = some (l, m) ∧ SmallL l := by
  obtain ⟨c1, l, m, e1, h1, s1⟩ := proposals_ok h.cur (by omega)
  exact ⟨l, m, by simp only [F_spec_DrawAgreeingMembers, F_spec_DrawAreProposals, e1], s1⟩

/-! ### What decides -/
theorem dec_last {l : List Prop'} {gs : List ByteArray} {k : Nat} (hp : passes (l.getD k dP).2.2.2 0 = true) : ∀ n, k < n → (∀ j, k < j → j < n → ¬ (passes (l.getD j dP).2.2.2 0 = true ∧ (l.getD j dP).2.2.1 = (l.getD k dP).2.2.1)) → (Dec l gs (l.getD k dP).2.2.1 n ↔ (l.getD k dP).2.1 = 0)
  | 0, h, _ => by omega
  | n + 1, h, hno => by
    rw [dec_succ]
    rcases Nat.lt_succ_iff_lt_or_eq.1 h with h' | rfl
    · rw [if_neg (hno n h' (by omega))]
      exact dec_last hp n h' fun j h1 h2 => hno j h1 (by omega)
    · rw [if_pos ⟨hp, rfl⟩]
theorem dec_none {l : List Prop'} {gs : List ByteArray} {s : ByteArray} : ∀ n, (∀ j, j < n → ¬ (passes (l.getD j dP).2.2.2 0 = true ∧ (l.getD j dP).2.2.1 = s)) → (Dec l gs s n ↔ s ∈ gs)
  | 0, _ => Iff.rfl
  | n + 1, hno => by
    rw [dec_succ, if_neg (hno n (by omega))]
    exact dec_none n fun j hj => hno j (by omega)

section
variable {more : List Int} {gs : List ByteArray} {l : List Prop'} {ed : List ByteArray} {ps : List Int}
theorem idle_loop (idle : List Int) (hi : idle.length ≤ 1000) (hps : ps.length ≤ 1000) (h : ∀ n ∈ idle, n ∈ ps) :
    runL step_laws_FnEditions_0 (more, (gs, (l, (ed, (idle, ((idle.length : Int), (0, ps))))))) = some (.inr (more, (gs, (l, (ed, ps))))) := by
  exact runL_traj (f := step_laws_FnEditions_0) (fun i => (more, (gs, (l, (ed, (idle, ((idle.length : Int), ((i : Int), ps)))))))) (.inr (more, (gs, (l, (ed, ps))))) idle.length (fun i hlt => by
    have hw := wrap_succ (i := i) (by omega)
    have hp := pIn_is ps (idle.getD i 0) (by omega)
    rw [decide_eq_true (h _ (getD_mem hlt 0))] at hp
    simp only [step_laws_FnEditions_0, lt_len hlt, nonneg, Bool.and_self, cond_true, Int.toNat_natCast, hp, Bool.not_true, cond_false, hw]) (by simp [step_laws_FnEditions_0])
theorem last_loop (hn : l.length ≤ 1000) (hps : ps.length ≤ 1000) (hin : ∀ k, k < l.length → decide ((l.getD k dP).1 ∈ ps) = passes (l.getD k dP).2.2.2 0) (k : Nat) (hk : k < l.length) (num kind : Int) (g : ByteArray) (vs : List Int) :
    ∃ last : Bool, runL step_laws_FnEditions_1 (more, (gs, (l, (ed, (true, (l, ((l.length : Int), ((k : Int), (l.drop (k + 1), (((l.drop (k + 1)).length : Int), (0, (num, (kind, (g, (vs, ps))))))))))))))) = some (more, (gs, (l, (ed, (last, (l, ((l.length : Int), ((k : Int), (num, (kind, (g, (vs, ps)))))))))))) ∧
      (last = true → ∀ j, k < j → j < l.length → ¬ (passes (l.getD j dP).2.2.2 0 = true ∧ (l.getD j dP).2.2.1 = g)) := by
  have hdl : (l.drop (k + 1)).length = l.length - (k + 1) := by simp
  have hgd : ∀ j, j < (l.drop (k + 1)).length → (l.drop (k + 1)).getD j (0, (0, ByteArray.empty, [])) = l.getD (k + 1 + j) dP := fun j hj => by simp [List.getD, List.getElem?_drop]
  obtain ⟨o, ho, last, rfl, h⟩ := runL_inv (f := step_laws_FnEditions_1) (fun t => ∃ (j : Nat) (last : Bool), t = (more, (gs, (l, (ed, (last, (l, ((l.length : Int), ((k : Int), (l.drop (k + 1), (((l.drop (k + 1)).length : Int), ((j : Int), (num, (kind, (g, (vs, ps)))))))))))))))
      ∧ j ≤ (l.drop (k + 1)).length ∧ (last = true → ∀ j', k < j' → j' < k + 1 + j → ¬ (passes (l.getD j' dP).2.2.2 0 = true ∧ (l.getD j' dP).2.2.1 = g)))
    (fun o => ∃ last : Bool, o = (more, (gs, (l, (ed, (last, (l, ((l.length : Int), ((k : Int), (num, (kind, (g, (vs, ps)))))))))))) ∧ (last = true → ∀ j, k < j → j < l.length → ¬ (passes (l.getD j dP).2.2.2 0 = true ∧ (l.getD j dP).2.2.1 = g))) (fun t => (l.drop (k + 1)).length - t.2.2.2.2.2.2.2.2.2.2.1.toNat) (by
    rintro t ⟨j, last, rfl, hj, hl⟩
    rcases Nat.lt_or_ge j (l.drop (k + 1)).length with hlt | hge
    · right
      have hw := wrap_succ (i := j) (by omega)
      have e := hgd j hlt
      have hp := pIn_is ps (l.getD (k + 1 + j) dP).1 (by omega)
      rw [hin _ (by omega)] at hp
      cases last with
      | false =>
        exact ⟨_, by simp only [step_laws_FnEditions_1, lt_len hlt, nonneg, Bool.and_self, cond_true, cond_false, Int.toNat_natCast, hw] <;> rfl, ⟨j + 1, false, rfl, by omega, fun h => by cases h⟩, by simp; omega⟩
      | true =>
        have hl := hl rfl
        by_cases c1 : (l.getD (k + 1 + j) dP).2.2.1 = g
        · have b1 : ((l.getD (k + 1 + j) dP).2.2.1.toList == g.toList) = true := by rw [beq_is]; exact decide_eq_true c1
          refine ⟨_, by simp only [step_laws_FnEditions_1, lt_len hlt, nonneg, Bool.and_self, cond_true, cond_false, Int.toNat_natCast, e, b1, Bool.not_true, hp, hw] <;> rfl, ⟨j + 1, _, rfl, by omega, fun h j' h1 h2 => ?_⟩, by simp; omega⟩
          rcases Nat.lt_or_ge j' (k + 1 + j) with h3 | h3
          · exact hl j' h1 h3
          · have : j' = k + 1 + j := by omega
            subst this
            intro h4
            rw [h4.1] at h
            cases h
        · have b1 : ((l.getD (k + 1 + j) dP).2.2.1.toList == g.toList) = false := by rw [beq_is]; exact decide_eq_false c1
          refine ⟨_, by simp only [step_laws_FnEditions_1, lt_len hlt, nonneg, Bool.and_self, cond_true, cond_false, Int.toNat_natCast, e, b1, Bool.not_false, hw] <;> rfl, ⟨j + 1, true, rfl, by omega, fun h j' h1 h2 => ?_⟩, by simp; omega⟩
          rcases Nat.lt_or_ge j' (k + 1 + j) with h3 | h3
          · exact hl j' h1 h3
          · have : j' = k + 1 + j := by omega
            subst this
            exact fun h4 => c1 h4.2
    · left
      have : j = (l.drop (k + 1)).length := by omega
      subst this
      exact ⟨_, by simp only [step_laws_FnEditions_1, not_lt_len, cond_false], last, rfl, fun h j' h1 h2 => hl h j' h1 (by omega)⟩)
    (more, (gs, (l, (ed, (true, (l, ((l.length : Int), ((k : Int), (l.drop (k + 1), (((l.drop (k + 1)).length : Int), (0, (num, (kind, (g, (vs, ps))))))))))))))) ⟨0, true, rfl, by omega, fun _ j' h1 h2 => by omega⟩
  exact ⟨last, ho, h⟩
theorem decide_loop (hn : l.length ≤ 1000) (hps : ps.length ≤ 1000) (hel : ed.length ≤ 1000) (hin : ∀ k, k < l.length → decide ((l.getD k dP).1 ∈ ps) = passes (l.getD k dP).2.2.2 0) (hed : ∀ s, s ∈ ed ↔ Dec l gs s l.length) :
    runL step_laws_FnEditions_2 (more, (gs, (l, (ed, (l, ((l.length : Int), (0, ps))))))) = some (.inr (more, (gs, (l, (ed, ps))))) := by
  exact runL_traj (f := step_laws_FnEditions_2) (fun i => (more, (gs, (l, (ed, (l, ((l.length : Int), ((i : Int), ps)))))))) (.inr (more, (gs, (l, (ed, ps))))) l.length (fun k hk => by
    have hw := wrap_succ (i := k) (by omega)
    have hp := pIn_is ps (l.getD k (0, (0, ByteArray.empty, []))).1 (by omega)
    have hik := hin k hk
    have hp' : F_laws_pIn (ps, (l.getD k (0, (0, ByteArray.empty, []))).1) = some (passes (l.getD k dP).2.2.2 0) := by rw [hp]; exact congrArg some hik
    cases hps' : passes (l.getD k dP).2.2.2 0 with
    | false =>
      rw [hps'] at hp'
      simp only [step_laws_FnEditions_2, lt_len hk, nonneg, Bool.and_self, cond_true, Int.toNat_natCast, hp', Bool.not_false, hw]
    | true =>
      rw [hps'] at hp'
      have t1 : (l.drop (k + 1)).take (l.length - (k + 1)) = l.drop (k + 1) := List.take_of_length_le (by simp)
      have g2 : decide (((k + 1 : Nat) : Int) ≤ (l.length : Int)) = true := decide_eq_true (by omega)
      have g3 : decide ((l.length : Int) ≤ (l.length : Int)) = true := decide_eq_true (Int.le_refl _)
      obtain ⟨last, e, hl⟩ := last_loop (more := more) (gs := gs) (ed := ed) hn hps hin k hk (l.getD k (0, (0, ByteArray.empty, []))).1 (l.getD k (0, (0, ByteArray.empty, []))).2.1 (l.getD k (0, (0, ByteArray.empty, []))).2.2.1 (l.getD k (0, (0, ByteArray.empty, []))).2.2.2
      cases last with
      | false => simp only [step_laws_FnEditions_2, lt_len hk, nonneg, Bool.and_self, cond_true, cond_false, Int.toNat_natCast, hp', Bool.not_true, hw, g2, g3, t1, e]
      | true =>
        have hh := pHas_is ed (l.getD k (0, (0, ByteArray.empty, []))).2.2.1 (by omega)
        have hd := (hed (l.getD k dP).2.2.1).trans (dec_last hps' l.length hk (hl rfl))
        have hq : (decide ((l.getD k (0, (0, ByteArray.empty, []))).2.2.1 ∈ ed) == ((l.getD k (0, (0, ByteArray.empty, []))).2.1 == 0)) = true := by
          by_cases hz : (l.getD k dP).2.1 = 0
          · have h1 : (l.getD k (0, (0, ByteArray.empty, []))).2.2.1 ∈ ed := hd.2 hz
            have h2 : ((l.getD k (0, (0, ByteArray.empty, []))).2.1 == 0) = true := by simpa using hz
            rw [decide_eq_true h1, h2]; rfl
          · have h1 : ¬ (l.getD k (0, (0, ByteArray.empty, []))).2.2.1 ∈ ed := fun h => hz (hd.1 h)
            have h2 : ((l.getD k (0, (0, ByteArray.empty, []))).2.1 == 0) = false := by simpa using hz
            rw [decide_eq_false h1, h2]; rfl
        simp only [step_laws_FnEditions_2, lt_len hk, nonneg, Bool.and_self, cond_true, cond_false, Int.toNat_natCast, hp', Bool.not_true, hw, g2, g3, t1, e, hh, hq]) (by simp [step_laws_FnEditions_2])
theorem touched_loop (hn : l.length ≤ 1000) (hps : ps.length ≤ 1000) (hin : ∀ k, k < l.length → decide ((l.getD k dP).1 ∈ ps) = passes (l.getD k dP).2.2.2 0) (s : ByteArray) (i : Int) :
    ∃ t : Bool, runL step_laws_FnEditions_3 (more, (l, (ed, (s, (false, (gs, ((gs.length : Int), (i, (l, ((l.length : Int), (0, ps))))))))))) = some (more, (l, (ed, (s, (t, (gs, ((gs.length : Int), (i, ps)))))))) ∧ (t = false → ∀ j, j < l.length → ¬ (passes (l.getD j dP).2.2.2 0 = true ∧ (l.getD j dP).2.2.1 = s)) := by
  obtain ⟨o, ho, t, rfl, h⟩ := runL_inv (f := step_laws_FnEditions_3) (fun st => ∃ (j : Nat) (t : Bool), st = (more, (l, (ed, (s, (t, (gs, ((gs.length : Int), (i, (l, ((l.length : Int), ((j : Int), ps))))))))))) ∧ j ≤ l.length ∧ (t = false → ∀ j', j' < j → ¬ (passes (l.getD j' dP).2.2.2 0 = true ∧ (l.getD j' dP).2.2.1 = s)))
    (fun o => ∃ t : Bool, o = (more, (l, (ed, (s, (t, (gs, ((gs.length : Int), (i, ps)))))))) ∧ (t = false → ∀ j, j < l.length → ¬ (passes (l.getD j dP).2.2.2 0 = true ∧ (l.getD j dP).2.2.1 = s))) (fun st => l.length - st.2.2.2.2.2.2.2.2.2.2.1.toNat) (by
    rintro st ⟨j, t, rfl, hj, ht⟩
    rcases Nat.lt_or_ge j l.length with hlt | hge
    · right
      have hw := wrap_succ (i := j) (by omega)
      have hp := pIn_is ps (l.getD j (0, (0, ByteArray.empty, []))).1 (by omega)
      have hp' : F_laws_pIn (ps, (l.getD j (0, (0, ByteArray.empty, []))).1) = some (passes (l.getD j dP).2.2.2 0) := by rw [hp]; exact congrArg some (hin j hlt)
      cases t with
      | true => exact ⟨_, by simp only [step_laws_FnEditions_3, lt_len hlt, nonneg, Bool.and_self, cond_true, Int.toNat_natCast, hw] <;> rfl, ⟨j + 1, true, rfl, by omega, fun h => by cases h⟩, by simp; omega⟩
      | false =>
        have ht := ht rfl
        by_cases c1 : (l.getD j dP).2.2.1 = s
        · have b1 : ((l.getD j (0, (0, ByteArray.empty, []))).2.2.1.toList == s.toList) = true := by rw [beq_is]; exact decide_eq_true c1
          refine ⟨_, by simp only [step_laws_FnEditions_3, lt_len hlt, nonneg, Bool.and_self, cond_true, cond_false, Int.toNat_natCast, b1, hp', hw] <;> rfl, ⟨j + 1, _, rfl, by omega, fun h j' h1 => ?_⟩, by simp; omega⟩
          rcases Nat.lt_succ_iff_lt_or_eq.1 h1 with h1 | rfl
          · exact ht j' h1
          · intro h4; rw [h4.1] at h; cases h
        · have b1 : ((l.getD j (0, (0, ByteArray.empty, []))).2.2.1.toList == s.toList) = false := by rw [beq_is]; exact decide_eq_false c1
          refine ⟨_, by simp only [step_laws_FnEditions_3, lt_len hlt, nonneg, Bool.and_self, cond_true, cond_false, Int.toNat_natCast, b1, hw] <;> rfl, ⟨j + 1, false, rfl, by omega, fun h j' h1 => ?_⟩, by simp; omega⟩
          rcases Nat.lt_succ_iff_lt_or_eq.1 h1 with h1 | rfl
          · exact ht j' h1
          · exact fun h4 => c1 h4.2
    · left
      have : j = l.length := by omega
      subst this
      exact ⟨_, by simp only [step_laws_FnEditions_3, not_lt_len, cond_false], t, rfl, ht⟩) (more, (l, (ed, (s, (false, (gs, ((gs.length : Int), (i, (l, ((l.length : Int), (0, ps))))))))))) ⟨0, false, rfl, by omega, fun _ j' h1 => by omega⟩
  exact ⟨t, ho, h⟩
theorem stays_loop (hg : gs.length ≤ 1000) (hn : l.length ≤ 1000) (hps : ps.length ≤ 1000) (hel : ed.length ≤ 1000) (hin : ∀ k, k < l.length → decide ((l.getD k dP).1 ∈ ps) = passes (l.getD k dP).2.2.2 0) (hed : ∀ s, s ∈ ed ↔ Dec l gs s l.length) :
    runL step_laws_FnEditions_4 (more, (l, (ed, (gs, ((gs.length : Int), (0, ps)))))) = some (.inr (more, ed)) := by
  exact runL_traj (f := step_laws_FnEditions_4) (fun i => (more, (l, (ed, (gs, ((gs.length : Int), ((i : Int), ps))))))) (.inr (more, ed)) gs.length (fun i hi => by
    have hw := wrap_succ (i := i) (by omega)
    obtain ⟨t, e, ht⟩ := touched_loop (more := more) (gs := gs) (ed := ed) hn hps hin (gs.getD i ByteArray.empty) (i : Int)
    cases t with
    | true => simp only [step_laws_FnEditions_4, lt_len hi, nonneg, Bool.and_self, cond_true, cond_false, Int.toNat_natCast, e, Bool.not_true, hw]
    | false =>
      have hh := pHas_is ed (gs.getD i ByteArray.empty) (by omega)
      have hm : gs.getD i ByteArray.empty ∈ ed := (hed _).2 ((dec_none l.length (ht rfl)).2 (getD_mem hi _))
      rw [decide_eq_true hm] at hh
      simp only [step_laws_FnEditions_4, lt_len hi, nonneg, Bool.and_self, cond_true, cond_false, Int.toNat_natCast, e, Bool.not_false, Bool.not_true, hh, hw]) (by simp [step_laws_FnEditions_4])
theorem rising_loop (hel : ed.length ≤ 1000) (hr : Rise ed) : runL step_laws_FnEditions_5 (more, (ed, 1)) = some (.inr more) := by
  have t := runL_traj (f := step_laws_FnEditions_5) (fun i => (more, (ed, ((i + 1 : Nat) : Int)))) (.inr more) (ed.length - 1) (fun i hi => by
    have hw := wrap_succ (i := i + 1) (by omega)
    have hwp := wrap_pred (i := i + 1) (by omega) (by omega)
    rw [show i + 1 - 1 = i by omega] at hwp
    have hlt := hr.lt (show i < i + 1 by omega) (show i + 1 < ed.length by omega)
    have hlt' : Op.bytesLess (ed.getD i ByteArray.empty).toList (ed.getD (i + 1) ByteArray.empty).toList = true := hlt
    simp only [step_laws_FnEditions_5, lt_len (show i + 1 < ed.length by omega), lt_len (show i < ed.length by omega), nonneg, Bool.and_self, cond_true, Int.toNat_natCast, hwp, hlt', Bool.not_true, cond_false, hw]) (by
    have h0 : decide (((ed.length - 1 + 1 : Nat) : Int) < (ed.length : Int)) = false := decide_eq_false (by omega)
    simp only [step_laws_FnEditions_5, h0, cond_false])
  exact t
end
theorem own_loop (u : List Prop') (a b : Nat) (m0 : Int) (hn : u.length ≤ 1000) (hv : ∀ i, i < u.length → a < (u.getD i dP).2.2.2.length ∧ b < (u.getD i dP).2.2.2.length) (v : List Prop') (many : Int) (x : List Prop') (nu : Int) (sv : Bool) (pt : List Prop') :
    runL step_laws_FnEditions_6 ((a : Int), ((b : Int), (m0, (v, (many, (x, (nu, (sv, (pt, (0, (u, ((u.length : Int), 0)))))))))))) = some ((a : Int), ((b : Int), (m0, (v, (many, (x, (nu, (sv, (pt, ((agree u a b : Nat) : Int)))))))))) := by
  exact runL_traj (f := step_laws_FnEditions_6) (fun i => ((a : Int), ((b : Int), (m0, (v, (many, (x, (nu, (sv, (pt, (((agree (u.take i) a b : Nat) : Int), (u, ((u.length : Int), (i : Int)))))))))))))) ((a : Int), ((b : Int), (m0, (v, (many, (x, (nu, (sv, (pt, ((agree u a b : Nat) : Int)))))))))) u.length (fun i hi => by
    have hw := wrap_succ (i := i) (by omega)
    have hc : agree (u.take i) a b ≤ i := Nat.le_trans List.countP_le_length (by simp; omega)
    have hw2 := wrap_succ (i := agree (u.take i) a b) (by omega)
    obtain ⟨g1, g2⟩ := hv i hi
    have g1 : decide ((a : Int) < ((u.getD i (0, (0, ByteArray.empty, []))).2.2.2.length : Int)) = true := lt_len g1
    have g2 : decide ((b : Int) < ((u.getD i (0, (0, ByteArray.empty, []))).2.2.2.length : Int)) = true := lt_len g2
    have ht := take_succ_getD hi dP
    have ha : agree (u.take (i + 1)) a b = agree (u.take i) a b + (bif agreeP a b (u.getD i dP) then 1 else 0) := by
      rw [agree, ht, List.countP_append, List.countP_singleton, agree]
      cases agreeP a b (u.getD i dP) <;> rfl
    have ha' : agree (u.take (i + 1)) a b = agree (u.take i) a b + (bif ((u.getD i (0, (0, ByteArray.empty, []))).2.2.2.getD a 0 != 0) && ((u.getD i (0, (0, ByteArray.empty, []))).2.2.2.getD a 0 == (u.getD i (0, (0, ByteArray.empty, []))).2.2.2.getD b 0) then 1 else 0) := ha
    simp only [step_laws_FnEditions_6, lt_len hi, g1, g2, nonneg, Bool.and_self, cond_true, Int.toNat_natCast, ha']
    cases ((u.getD i (0, (0, ByteArray.empty, []))).2.2.2.getD a 0 != 0) <;> cases ((u.getD i (0, (0, ByteArray.empty, []))).2.2.2.getD a 0 == (u.getD i (0, (0, ByteArray.empty, []))).2.2.2.getD b 0) <;> simp only [cond_true, cond_false, Bool.and_self, Bool.and_false, Bool.false_and, hw, hw2, Nat.add_zero]) (by simp [step_laws_FnEditions_6])

theorem law_FnEditions (code more : List Int) (h1 : code.length ≤ 9223372036854775807) (h2 : more.length ≤ 9223372036854775807) (b1 : ∀ b ∈ code, 0 ≤ b ∧ b ≤ 255) (b2 : ∀ b ∈ more, 0 ≤ b ∧ b ≤ 255) : F_laws_FnEditions (code, more) = some true := by
  by_cases hbig : F_laws_big (code, more) = some true
  · simp only [F_laws_FnEditions, hbig, cond_true]
  have hb0 : F_laws_big (code, more) = some false ∧ code.length ≤ 1048576 ∧ more.length ≤ 1048576 := by
    cases c1 : decide ((code.length : Int) > 1048576) with
    | true => exact absurd (by simp only [F_laws_big, c1, cond_true]) hbig
    | false =>
      have c1' := of_decide_eq_false c1
      have hw : IntKind.i64.wrap (1048576 - (code.length : Int)) = 1048576 - (code.length : Int) := wrap_id (by omega) (by omega)
      cases c2 : decide ((more.length : Int) > 1048576 - (code.length : Int)) with
      | true => exact absurd (by simp only [F_laws_big, c1, cond_false, hw, c2]) hbig
      | false =>
        have c2' := of_decide_eq_false c2
        exact ⟨by simp only [F_laws_big, c1, cond_false, hw, c2], by omega, by omega⟩
  obtain ⟨hb, l1, l2⟩ := hb0
  have B1 : Bytes code := ⟨l1, b1⟩
  have B2 : Bytes more := ⟨l2, b2⟩
  obtain ⟨gs, l, m, d1, zg, zs, sl⟩ := DrawNextEdition_ok B1
  obtain ⟨u, mu, d2, su⟩ := DrawAgreeingMembers_ok B2
  obtain ⟨v, many, kind, g, d3, z3, sv⟩ := DrawPutProposal_ok B2
  have fl := sl.fits
  have fu := su.fits
  have fv := sv.fits
  have hl13 := sl.len
  have hA := AreProposals_is l m fl
  -- the first part
  have zs' : ∀ e ∈ gs, e.size ≤ 9223372036854775807 := fun e he => by have := zs e he; omega
  obtain ⟨ct, k1, k2, k3⟩ := ContestedGlosses_val l m fl
  have sct := sameTexts_is ct k3
  have part1 : (∃ (out : List ByteArray) (idle ps : List Int), good m l = true ∧ F_spec_NextEdition (gs, l, m) = some (out, idle, true) ∧ F_impl_NextEdition (gs, l, m) = some (out, idle, true) ∧ F_spec_PassedNumbers (l, m) = some (ps, true) ∧ F_impl_PassedNumbers (l, m) = some (ps, true) ∧ F_laws_pSameTexts (out, out) = some true ∧ F_laws_sameInts (idle, idle) = some true ∧ F_laws_sameInts (ps, ps) = some true ∧
        runL step_laws_FnEditions_0 (more, (gs, l, (out, idle, ((idle.length : Int), 0, ps)))) = some (.inr (more, gs, (l, out, ps))) ∧ runL step_laws_FnEditions_2 (more, (gs, l, (out, l, ((l.length : Int), 0, ps)))) = some (.inr (more, gs, (l, out, ps))) ∧
        runL step_laws_FnEditions_4 (more, l, (out, gs, ((gs.length : Int), 0, ps))) = some (.inr (more, out)) ∧ runL step_laws_FnEditions_5 (more, out, 1) = some (.inr more)) ∨
      (∃ ps : List Int, F_spec_NextEdition (gs, l, m) = some ([], [], false) ∧ F_impl_NextEdition (gs, l, m) = some ([], [], false) ∧ F_spec_PassedNumbers (l, m) = some (ps, good m l) ∧ F_impl_PassedNumbers (l, m) = some (ps, good m l) ∧ F_laws_sameInts (ps, ps) = some true) := by
    rcases NextEdition_val gs l m (by omega) zs' fl with ⟨n1, n2⟩ | ⟨hg, out, idle, n1, n2, hE, ho, hi⟩
    · right
      rcases PassedNumbers_val l m fl with ⟨hg, p1, p2⟩ | ⟨hg, ps, p1, p2, p3, p4⟩
      · exact ⟨[], n1, n2, by rw [hg]; exact p1, by rw [hg]; exact p2, sameInts_is [] (by simp)⟩
      · exact ⟨ps, n1, n2, by rw [hg]; exact p1, by rw [hg]; exact p2, sameInts_is ps (by omega)⟩
    · left
      rcases PassedNumbers_val l m fl with ⟨hg', _, _⟩ | ⟨_, ps, p1, p2, p3, p4⟩
      · rw [hg] at hg'; cases hg'
      · have hin : ∀ k, k < l.length → decide ((l.getD k dP).1 ∈ ps) = passes (l.getD k dP).2.2.2 0 := fun k hk => by
          cases hp : passes (l.getD k dP).2.2.2 0 with
          | true => exact decide_eq_true ((p4 _).2 ⟨k, hk, hp, rfl⟩)
          | false =>
            refine decide_eq_false fun h => ?_
            obtain ⟨j, hj, hpj, hn⟩ := (p4 _).1 h
            have : j = k := by
              rcases Nat.lt_trichotomy j k with h | h | h
              · have := num_lt hg h hk; omega
              · exact h
              · have := num_lt hg h hj; omega
            subst this
            rw [hp] at hpj
            cases hpj
        refine ⟨out, idle, ps, hg, n1, n2, p1, p2, sameTexts_is out (by omega), sameInts_is idle (by omega), sameInts_is ps (by omega), idle_loop idle (by omega) (by omega) (fun n hn => (p4 n).2 (hE.idle n hn)), decide_loop (by omega) (by omega) (by omega) hin hE.mem, stays_loop (by omega) (by omega) (by omega) (by omega) hin hE.mem, rising_loop (by omega) hE.rise⟩
  -- the second part
  obtain ⟨⟨px, nu, ok⟩, q1, q2, q3, q4⟩ := PutProposal_val v many kind g fv (by omega)
  simp only at q3
  have spx := pSame_is px q3
  have fin : ok = true → F_impl_IsPassed (px, many, nu) = some (false, true) ∧ F_impl_AreProposals (px, many) = some true ∧ (((px.length : Int) == IntKind.i64.wrap ((v.length : Int) + 1)) = true) := by
    intro hok
    rcases q4 with q4 | ⟨n, hgn, q4⟩
    · simp only [Prod.mk.injEq] at q4
      rw [q4.2.2] at hok; cases hok
    · simp only [Prod.mk.injEq] at q4
      obtain ⟨rfl, rfl, _⟩ := q4
      have hv13 := sv.len
      have hw := wrap_succ (i := v.length) (by omega)
      have hlen : (v ++ [(nu, (kind, g, List.replicate many.toNat (0 : Int)))]).length = v.length + 1 := by simp
      have hlast : (v ++ [(nu, (kind, g, List.replicate many.toNat (0 : Int)))]).getD v.length dP = (nu, (kind, g, List.replicate many.toNat (0 : Int))) := by simp [List.getD]
      have hf := findP_at (n := nu) hgn (show v.length < (v ++ [(nu, (kind, g, List.replicate many.toNat (0 : Int)))]).length by omega) (by rw [hlast])
      have hi := IsPassed_val _ many nu q3
      rw [hf, if_pos ⟨hgn, by omega⟩, Int.toNat_natCast, hlast] at hi
      have hz : passes (List.replicate many.toNat (0 : Int)) 0 = false := by
        unfold passes
        simp [List.count_replicate]
      rw [hz] at hi
      refine ⟨hi, by rw [AreProposals_is _ many q3, hgn], ?_⟩
      rw [hw, hlen]
      exact beq_self_eq_true _
  have bo : (!(ok == ok)) = false := by cases ok <;> rfl
  have part2 : (F_spec_AgreeingMembers (u, mu) = some (0, 0, 0, false) ∧ F_impl_AgreeingMembers (u, mu) = some (0, 0, 0, false)) ∨
      ∃ (a b : Nat), F_spec_AgreeingMembers (u, mu) = some ((a : Int), (b : Int), ((agree u a b : Nat) : Int), true) ∧ F_impl_AgreeingMembers (u, mu) = some ((a : Int), (b : Int), ((agree u a b : Nat) : Int), true) ∧ decide ((a : Int) ≥ (b : Int)) = false ∧
        runL step_laws_FnEditions_6 ((a : Int), (b : Int), (((agree u a b : Nat) : Int), v, (many, px, (nu, ok, (px, 0, (u, (u.length : Int), 0)))))) = some ((a : Int), (b : Int), (((agree u a b : Nat) : Int), v, (many, px, (nu, ok, (px, ((agree u a b : Nat) : Int)))))) := by
    rcases members_val u mu fu with h | ⟨hg, a, b, e1, e2, hab, hbm⟩
    · exact .inl h
    · have hu := su.len
      exact .inr ⟨a, b, e1, e2, decide_eq_false (by omega), own_loop u a b _ (by omega) (fun i hi => by have := (good_votes hg hi).2; omega) v many px nu ok px⟩
  rcases part1 with ⟨out, idle, ps, hg, n1, n2, p1, p2, s1, s2, s3, r0, r2, r4, r5⟩ | ⟨ps, n1, n2, p1, p2, s3⟩
  · rw [hg] at k1 k2 hA
    rcases part2 with ⟨e1, e2⟩ | ⟨a, b, e1, e2, e3, e4⟩
    · cases ok with
      | true =>
        obtain ⟨f1, f2, f3⟩ := fin rfl
        simp only [F_laws_FnEditions, hb, cond_false, cond_true, d1, n1, n2, p1, p2, k1, k2, hA, s1, s2, s3, sct, beq_self_eq_true, bne_self_eq_false, Bool.not_true, Bool.not_false, r0, r2, r4, r5, d2, e1, e2, d3, q1, q2, spx, f1, f2, f3]
      | false =>
        simp only [F_laws_FnEditions, hb, cond_false, cond_true, d1, n1, n2, p1, p2, k1, k2, hA, s1, s2, s3, sct, beq_self_eq_true, bne_self_eq_false, Bool.not_true, Bool.not_false, r0, r2, r4, r5, d2, e1, e2, d3, q1, q2, spx]
    · cases ok with
      | true =>
        obtain ⟨f1, f2, f3⟩ := fin rfl
        simp only [F_laws_FnEditions, hb, cond_false, cond_true, d1, n1, n2, p1, p2, k1, k2, hA, s1, s2, s3, sct, beq_self_eq_true, bne_self_eq_false, Bool.not_true, Bool.not_false, r0, r2, r4, r5, d2, e1, e2, e3, e4, d3, q1, q2, spx, f1, f2, f3]
      | false =>
        simp only [F_laws_FnEditions, hb, cond_false, cond_true, d1, n1, n2, p1, p2, k1, k2, hA, s1, s2, s3, sct, beq_self_eq_true, bne_self_eq_false, Bool.not_true, Bool.not_false, r0, r2, r4, r5, d2, e1, e2, e3, e4, d3, q1, q2, spx]
  · have sn := sameTexts_is [] (by simp)
    have si := sameInts_is [] (by simp)
    rcases part2 with ⟨e1, e2⟩ | ⟨a, b, e1, e2, e3, e4⟩
    · cases ok with
      | true =>
        obtain ⟨f1, f2, f3⟩ := fin rfl
        simp only [F_laws_FnEditions, hb, cond_false, cond_true, d1, n1, n2, p1, p2, k1, k2, hA, sn, si, s3, sct, beq_self_eq_true, bne_self_eq_false, Bool.not_true, Bool.not_false, d2, e1, e2, d3, q1, q2, spx, f1, f2, f3]
      | false =>
        simp only [F_laws_FnEditions, hb, cond_false, cond_true, d1, n1, n2, p1, p2, k1, k2, hA, sn, si, s3, sct, beq_self_eq_true, bne_self_eq_false, Bool.not_true, Bool.not_false, d2, e1, e2, d3, q1, q2, spx]
    · cases ok with
      | true =>
        obtain ⟨f1, f2, f3⟩ := fin rfl
        simp only [F_laws_FnEditions, hb, cond_false, cond_true, d1, n1, n2, p1, p2, k1, k2, hA, sn, si, s3, sct, beq_self_eq_true, bne_self_eq_false, Bool.not_true, Bool.not_false, d2, e1, e2, e3, e4, d3, q1, q2, spx, f1, f2, f3]
      | false =>
        simp only [F_laws_FnEditions, hb, cond_false, cond_true, d1, n1, n2, p1, p2, k1, k2, hA, sn, si, s3, sct, beq_self_eq_true, bne_self_eq_false, Bool.not_true, Bool.not_false, d2, e1, e2, e3, e4, d3, q1, q2, spx]
end Go.Proofs.YtnfngofcdhaaaaaGreat
