/- Plain laws for this claim, several texts in one. No conditions beyond the bounds that are named. -/
import Derived.Test.YtdpkcnmlflngpaaDoorEvZk
import Derived.Test.YtdpkcnmlflngpaaDoorC0
/- Words for pure laws: rounds of loops, bounds of numbers. No conditions. -/
set_option linter.unusedVariables false
namespace Go.Proofs.YtdpkcnmlflngpaaDoor
open Go
theorem wrap_id {n : Int} (h0 : -9223372036854775808 ≤ n) (h1 : n ≤ 9223372036854775807) : IntKind.i64.wrap n = n := by
  simp [IntKind.wrap, IntKind.bits, IntKind.signed]
  omega
theorem wrap_succ {i : Nat} (h : i < 9223372036854775807) : IntKind.i64.wrap ((i : Int) + 1) = ((i + 1 : Nat) : Int) := by rw [wrap_id (by omega) (by omega)]; omega
theorem wrap_pred {i : Nat} (h : i < 9223372036854775807) (h0 : 0 < i) : IntKind.i64.wrap ((i : Int) - 1) = ((i - 1 : Nat) : Int) := by rw [wrap_id (by omega) (by omega)]; omega

/-- a loop that keeps R and comes to an end has Q behind it -/
theorem runL_inv {S O : Type} {f : S → Option (S ⊕ O)} (R : S → Prop) (Q : O → Prop) (μ : S → Nat)
    (h : ∀ s, R s → (∃ o, f s = some (.inr o) ∧ Q o) ∨ ∃ s', f s = some (.inl s') ∧ R s' ∧ μ s' < μ s) : ∀ s, R s → ∃ o, runL f s = some o ∧ Q o := by
  have go : ∀ n s, μ s ≤ n → R s → ∃ o, runL f s = some o ∧ Q o := by
    intro n
    induction n with
    | zero =>
      intro s hn hs
      rcases h s hs with ⟨o, e, q⟩ | ⟨s', e, r, l⟩
      · exact ⟨o, by rw [runL_eq, e], q⟩
      · omega
    | succ n ih =>
      intro s hn hs
      rcases h s hs with ⟨o, e, q⟩ | ⟨s', e, r, l⟩
      · exact ⟨o, by rw [runL_eq, e], q⟩
      · obtain ⟨o, e2, q⟩ := ih s' (by omega) r
        exact ⟨o, by rw [runL_eq, e]; exact e2, q⟩
  exact fun s hs => go _ s (Nat.le_refl _) hs

/-- two loops, round by round -/
theorem runL_sim {S T O P : Type} {f : S → Option (S ⊕ O)} {g : T → Option (T ⊕ P)} (R : S → T → Prop) (Q : O → P → Prop) (μ : S → Nat)
    (h : ∀ s t, R s t → (∃ o p, f s = some (.inr o) ∧ g t = some (.inr p) ∧ Q o p) ∨ ∃ s' t', f s = some (.inl s') ∧ g t = some (.inl t') ∧ R s' t' ∧ μ s' < μ s) :
    ∀ s t, R s t → ∃ o p, runL f s = some o ∧ runL g t = some p ∧ Q o p := by
  have go : ∀ n s t, μ s ≤ n → R s t → ∃ o p, runL f s = some o ∧ runL g t = some p ∧ Q o p := by
    intro n
    induction n with
    | zero =>
      intro s t hn hs
      rcases h s t hs with ⟨o, p, e, e2, q⟩ | ⟨s', t', e, e2, r, l⟩
      · exact ⟨o, p, by rw [runL_eq, e], by rw [runL_eq, e2], q⟩
      · omega
    | succ n ih =>
      intro s t hn hs
      rcases h s t hs with ⟨o, p, e, e2, q⟩ | ⟨s', t', e, e2, r, l⟩
      · exact ⟨o, p, by rw [runL_eq, e], by rw [runL_eq, e2], q⟩
      · obtain ⟨o, p, e3, e4, q⟩ := ih s' t' (by omega) r
        exact ⟨o, p, by rw [runL_eq, e]; exact e3, by rw [runL_eq, e2]; exact e4, q⟩
  exact fun s t hs => go _ s t (Nat.le_refl _) hs

/-- a loop over m rounds whose states are known -/
theorem runL_traj {S O : Type} {f : S → Option (S ⊕ O)} (s : Nat → S) (o : O) (m : Nat) (h : ∀ i, i < m → f (s i) = some (.inl (s (i + 1)))) (hend : f (s m) = some (.inr o)) : runL f (s 0) = some o := by
  have go : ∀ k i, m - i = k → i ≤ m → runL f (s i) = some o := by
    intro k
    induction k with
    | zero => intro i hk hi; rw [runL_eq, show i = m by omega, hend]
    | succ k ih => intro i hk hi; rw [runL_eq, h i (by omega)]; exact ih (i + 1) (by omega) (by omega)
  exact go m 0 (by omega) (by omega)

/-- a loop that goes on while p holds: the first place where it fails -/
theorem runL_first {S O : Type} {f : S → Option (S ⊕ O)} (p : Nat → Bool) (s : Nat → S) (no : Nat → O) (yes : O) (m : Nat)
    (h : ∀ i, i < m → f (s i) = some (bif p i then .inl (s (i + 1)) else .inr (no i))) (hend : f (s m) = some (.inr yes)) :
    (runL f (s 0) = some yes ∧ ∀ i, i < m → p i = true) ∨ ∃ i, i < m ∧ p i = false ∧ (∀ j, j < i → p j = true) ∧ runL f (s 0) = some (no i) := by
  have go : ∀ k i, m - i = k → i ≤ m → (∀ j, j < i → p j = true) → runL f (s 0) = runL f (s i) → (runL f (s 0) = some yes ∧ ∀ i, i < m → p i = true) ∨ ∃ i, i < m ∧ p i = false ∧ (∀ j, j < i → p j = true) ∧ runL f (s 0) = some (no i) := by
    intro k
    induction k with
    | zero =>
      intro i hk hi hp he
      have : i = m := by omega
      subst this
      exact .inl ⟨by rw [he, runL_eq, hend], hp⟩
    | succ k ih =>
      intro i hk hi hp he
      have hi' : i < m := by omega
      cases hpi : p i with
      | false => exact .inr ⟨i, hi', hpi, hp, by rw [he, runL_eq, h i hi', hpi]; rfl⟩
      | true =>
        refine ih (i + 1) (by omega) (by omega) (fun j hj => ?_) ?_
        · rcases Nat.lt_succ_iff_lt_or_eq.1 hj with hj | hj
          · exact hp j hj
          · exact hj ▸ hpi
        · rw [he, runL_eq f (s i), h i hi', hpi]; rfl
  exact go m 0 (by omega) (by omega) (fun j hj => by omega) rfl

/-- all of the first m places -/
def allN (p : Nat → Bool) (m : Nat) : Bool := (List.range m).all p
theorem allN_true {p : Nat → Bool} {m : Nat} : allN p m = true ↔ ∀ i, i < m → p i = true := by simp [allN]
theorem allN_false {p : Nat → Bool} {m : Nat} : allN p m = false ↔ ∃ i, i < m ∧ p i = false := by simp [allN]

theorem runL_all {S O : Type} {f : S → Option (S ⊕ O)} (p : Nat → Bool) (s : Nat → S) (no yes : O) (m : Nat)
    (h : ∀ i, i < m → f (s i) = some (bif p i then .inl (s (i + 1)) else .inr no)) (hend : f (s m) = some (.inr yes)) : runL f (s 0) = some (bif allN p m then yes else no) := by
  rcases runL_first p s (fun _ => no) yes m h hend with ⟨e, hp⟩ | ⟨i, hi, hp, _, e⟩
  · rw [e, allN_true.2 hp]; rfl
  · rw [e, allN_false.2 ⟨i, hi, hp⟩]; rfl

/-- the first of m places where p holds, or -1 -/
def firstN (p : Nat → Bool) (m : Nat) : Int := match (List.range m).find? p with | some i => (i : Int) | none => -1
theorem firstN_at {p : Nat → Bool} {m i : Nat} (hi : i < m) (hp : p i = true) (hj : ∀ j, j < i → p j = false) : firstN p m = (i : Int) := by
  unfold firstN
  have : (List.range m).find? p = some i := by
    rw [List.find?_range_eq_some]
    refine ⟨hp, by simpa using hi, fun j hj' => by simp [hj j hj']⟩
  rw [this]
theorem firstN_none {p : Nat → Bool} {m : Nat} (h : ∀ j, j < m → p j = false) : firstN p m = -1 := by
  unfold firstN
  have : (List.range m).find? p = none := by
    rw [List.find?_eq_none]
    intro x hx
    simp [h x (by simpa using hx)]
  rw [this]
theorem firstN_cases (p : Nat → Bool) (m : Nat) : (firstN p m = -1 ∧ ∀ j, j < m → p j = false) ∨ ∃ i, i < m ∧ firstN p m = (i : Int) ∧ p i = true ∧ ∀ j, j < i → p j = false := by
  cases h : (List.range m).find? p with
  | none =>
    have h' := List.find?_eq_none.1 h
    have : ∀ j, j < m → p j = false := fun j hj => by simpa using h' j (by simpa using hj)
    exact .inl ⟨firstN_none this, this⟩
  | some i =>
    obtain ⟨h1, h2, h3⟩ := List.find?_range_eq_some.1 h
    have h2' : i < m := by simpa using h2
    have h3' : ∀ j, j < i → p j = false := fun j hj => by simpa using h3 j hj
    exact .inr ⟨i, h2', firstN_at h2' h1 h3', h1, h3'⟩

/-- a loop that looks for the first place where p holds -/
theorem runL_find {S O : Type} {f : S → Option (S ⊕ O)} (p : Nat → Bool) (s : Nat → S) (o : Int → O) (m : Nat)
    (h : ∀ i, i < m → f (s i) = some (bif p i then .inr (o i) else .inl (s (i + 1)))) (hend : f (s m) = some (.inr (o (-1)))) : runL f (s 0) = some (o (firstN p m)) := by
  rcases runL_first (fun i => !p i) s (fun i => o i) (o (-1)) m (fun i hi => by rw [h i hi]; cases p i <;> rfl) hend with ⟨e, hp⟩ | ⟨i, hi, hp, hj, e⟩
  · rw [e, firstN_none (fun j hj => by simpa using hp j hj)]
  · rw [e, firstN_at hi (by simpa using hp) (fun j hj' => by simpa using hj j hj')]

theorem getD_mem {α : Type} {l : List α} {i : Nat} (h : i < l.length) (d : α) : l.getD i d ∈ l := by simp [List.getD, List.getElem?_eq_getElem h]
theorem take_succ_getD {α : Type} {l : List α} {i : Nat} (h : i < l.length) (d : α) : l.take (i + 1) = l.take i ++ [l.getD i d] := by
  rw [List.take_add_one, List.getD, List.getElem?_eq_getElem h]; rfl
theorem lt_len {i n : Nat} (h : i < n) : decide ((i : Int) < (n : Int)) = true := by simp; omega
theorem not_lt_len (n : Nat) : decide ((n : Int) < (n : Int)) = false := by simp
theorem nonneg (i : Nat) : decide (0 ≤ (i : Int)) = true := by simp

/-- a copy that is written place by place -/
theorem set_copy {α : Type} (l : List α) (d : α) {i : Nat} (h : i < l.length) : (l.take i ++ List.replicate (l.length - i) d).set i (l.getD i d) = l.take (i + 1) ++ List.replicate (l.length - (i + 1)) d := by
  have e : l.length - i = (l.length - (i + 1)) + 1 := by omega
  have hi : (l.take i).length = i := by simp; omega
  rw [take_succ_getD h d, e, List.replicate_succ, List.set_append, if_neg (by omega), hi, Nat.sub_self, List.set_cons_zero, List.append_assoc]
  rfl
theorem copy_len {α : Type} (l : List α) (d : α) {i : Nat} (h : i ≤ l.length) : (l.take i ++ List.replicate (l.length - i) d).length = l.length := by simp; omega
end Go.Proofs.YtdpkcnmlflngpaaDoor
/- The words of the laws. No conditions beyond the bounds that are named. -/
set_option linter.unusedVariables false
set_option linter.unusedSimpArgs false
namespace Go.Proofs.YtdpkcnmlflngpaaDoor
open Go
end Go.Proofs.YtdpkcnmlflngpaaDoor
/- Glosses: what a word of capitals is, on both sides. No conditions beyond the bounds that are named. -/
set_option linter.unusedVariables false
set_option linter.unusedSimpArgs false
namespace Go.Proofs.YtdpkcnmlflngpaaDoor
open Go
/-- the bytes of the capitals -/
theorem cap_byte : ∀ b : Fin 256, (decide (Lib.indexByte [65, 66, 67, 68, 69, 70, 71, 72, 73, 74, 75, 76, 77, 78, 79, 80, 81, 82, 83, 84, 85, 86, 87, 88, 89, 90] (UInt8.ofNat b.val) < 0)) = !(decide (65 ≤ (b.val : Int)) && decide ((b.val : Int) ≤ 90)) := by decide +kernel
abbrev capitals : ByteArray := ⟨#[65, 66, 67, 68, 69, 70, 71, 72, 73, 74, 75, 76, 77, 78, 79, 80, 81, 82, 83, 84, 85, 86, 87, 88, 89, 90]⟩
theorem cap_index (s : ByteArray) (i : Nat) : ∃ n, F_strings_IndexByte (capitals, byteAt s i) = some n ∧ decide (n < 0) = !(decide (65 ≤ byteAt s i) && decide (byteAt s i ≤ 90)) := by
  obtain ⟨b, hb⟩ : ∃ b : UInt8, byteAt s i = (b.toNat : Int) := ⟨_, rfl⟩
  refine ⟨_, rfl, ?_⟩
  rw [hb]
  have hc := cap_byte ⟨b.toNat, b.toNat_lt⟩
  simpa [Nat.toUInt8] using hc

/-- capitals alone -/
def capsOnly (s : ByteArray) : Bool := allN (fun i => decide (65 ≤ byteAt s i) && decide (byteAt s i ≤ 90)) s.size
/-- a gloss -/
def gl (s : ByteArray) : Bool := capsOnly s && (decide (1 ≤ (s.size : Int)) && decide ((s.size : Int) ≤ 8))

theorem l1In_is (a b c : Int) : F_spec_l1In (a, b, c) = some (decide (b ≤ a) && decide (a ≤ c)) := by
  unfold F_spec_l1In
  by_cases h : b ≤ a <;> simp [h]
theorem within_is (a b c : Int) : F_impl_within (a, b, c) = some (decide (b ≤ a) && decide (a ≤ c)) := by
  unfold F_impl_within
  by_cases h : b ≤ a <;> simp [h]

theorem lt_not {a b : Int} : decide (a < b) = !decide (b ≤ a) := by by_cases h : b ≤ a <;> simp [h] <;> omega
theorem gt_not {a b : Int} : decide (a > b) = !decide (a ≤ b) := by by_cases h : a ≤ b <;> simp [h] <;> omega

theorem hasOnly_is (s : ByteArray) (hs : s.size ≤ 9223372036854775807) : F_impl_hasOnly (s, capitals) = some (capsOnly s) := by
  have t := runL_all (f := step_impl_hasOnly_0) (fun i => decide (65 ≤ byteAt s i) && decide (byteAt s i ≤ 90)) (fun i => (s, capitals, (s.size : Int), (i : Int))) (.inl false) (.inr ()) s.size (fun i hi => by
    have hw := wrap_succ (i := i) (by omega)
    obtain ⟨n, e1, e2⟩ := cap_index s i
    simp only [step_impl_hasOnly_0, lt_len hi, nonneg, Bool.and_self, cond_true, Int.toNat_natCast, e1, e2, hw]
    cases (decide (65 ≤ byteAt s i) && decide (byteAt s i ≤ 90)) <;> rfl) (by simp [step_impl_hasOnly_0])
  have t' : runL step_impl_hasOnly_0 (s, capitals, (s.size : Int), (0 : Int)) = _ := t
  simp only [F_impl_hasOnly, t']
  unfold capsOnly
  cases allN _ _ <;> rfl

theorem IsGloss_is (s : ByteArray) (hs : s.size ≤ 9223372036854775807) : F_impl_IsGloss s = some (gl s) := by
  simp only [F_impl_IsGloss, F_impl_isWordOf, within_is, gl, hasOnly_is s hs]
  cases decide (1 ≤ (s.size : Int)) <;> cases decide ((s.size : Int) ≤ 8) <;> simp

end Go.Proofs.YtdpkcnmlflngpaaDoor
/- One proposal, on both sides: plain laws. No conditions beyond the bounds that are named. -/
set_option linter.unusedVariables false
set_option linter.unusedSimpArgs false
namespace Go.Proofs.YtdpkcnmlflngpaaDoor
open Go
abbrev Prop' := Int × (Int × (ByteArray × List Int))
abbrev dP : Prop' := (0, (0, ByteArray.empty, []))

theorem enGloss_is (s : ByteArray) (hs : s.size ≤ 9223372036854775807) : F_spec_enGloss s = some (gl s) := by
  have t := runL_all (f := step_spec_enGloss_0) (fun i => decide (65 ≤ byteAt s i) && decide (byteAt s i ≤ 90)) (fun i => (s, (i : Int))) (.inl false) (.inr s) s.size (fun i hi => by
    have hw := wrap_succ (i := i) (by omega)
    simp only [step_spec_enGloss_0, lt_len hi, nonneg, Bool.and_self, cond_true, Int.toNat_natCast, hw, lt_not, gt_not]
    cases decide (65 ≤ byteAt s i) <;> cases decide (byteAt s i ≤ 90) <;> rfl) (by simp [step_spec_enGloss_0])
  have t' : runL step_spec_enGloss_0 (s, (0 : Int)) = _ := t
  simp only [F_spec_enGloss, t']
  unfold gl capsOnly
  cases allN (fun i => decide (65 ≤ byteAt s i) && decide (byteAt s i ≤ 90)) s.size <;> simp [l1In_is]

def votesOK (l : List Int) : Bool := allN (fun i => decide (-1 ≤ l.getD i 0) && decide (l.getD i 0 ≤ 1)) l.length

theorem l1All_is (l : List Int) (hl : l.length ≤ 9223372036854775807) : F_spec_l1All (l, -1, 1) = some (votesOK l) := by
  have t := runL_all (f := step_spec_l1All_0) (fun i => decide (-1 ≤ l.getD i 0) && decide (l.getD i 0 ≤ 1)) (fun i => (-1, 1, l, (l.length : Int), (i : Int))) (.inl false) (.inr ()) l.length (fun i hi => by
    have hw := wrap_succ (i := i) (by omega)
    simp only [step_spec_l1All_0, lt_len hi, nonneg, Bool.and_self, cond_true, Int.toNat_natCast, hw, l1In_is]
    cases decide (-1 ≤ l.getD i 0) <;> cases decide (l.getD i 0 ≤ 1) <;> rfl) (by simp [step_spec_l1All_0])
  have t' : runL step_spec_l1All_0 (-1, 1, l, (l.length : Int), (0 : Int)) = _ := t
  simp only [F_spec_l1All, t']
  unfold votesOK
  cases allN _ _ <;> rfl

/-- slices.IndexFunc: the first place -/
theorem IndexFunc_int_is (l : List Int) (hl : l.length ≤ 9223372036854775807) (φ : Int → Option Bool) (p : Nat → Bool) (hφ : ∀ i, i < l.length → φ (l.getD i 0) = some (p i)) :
    F_slices_IndexFunc_int_int (l, φ) = some (firstN p l.length) := by
  rcases runL_first (f := step_slices_IndexFunc_int_int_0) (fun i => !p i) (fun i => (l, φ, (l.length : Int), (i : Int))) (fun i => .inl (i : Int)) (.inr ()) l.length (fun i hi => by
    have hw := wrap_succ (i := i) (by omega)
    simp only [step_slices_IndexFunc_int_int_0, lt_len hi, nonneg, Bool.and_self, cond_true, Int.toNat_natCast, hw, hφ i hi]
    cases p i <;> rfl) (by simp [step_slices_IndexFunc_int_int_0]) with ⟨t, hp⟩ | ⟨i, hi, hp, hj, t⟩
  · have t' : runL step_slices_IndexFunc_int_int_0 (l, φ, (l.length : Int), (0 : Int)) = _ := t
    simp only [F_slices_IndexFunc_int_int, t']
    rw [firstN_none (fun j hj => by simpa using hp j hj)]
  · have t' : runL step_slices_IndexFunc_int_int_0 (l, φ, (l.length : Int), (0 : Int)) = _ := t
    simp only [F_slices_IndexFunc_int_int, t']
    rw [firstN_at hi (by simpa using hp) (fun j hj' => by simpa using hj j hj')]

theorem firstN_ge (p : Nat → Bool) (m : Nat) : decide (firstN p m ≥ 0) = !allN (fun i => !p i) m := by
  rcases firstN_cases p m with ⟨e, h⟩ | ⟨i, hi, e, hp, hj⟩
  · rw [e, allN_true.2 (fun i hi => by simp [h i hi])]; simp
  · rw [e, allN_false.2 ⟨i, hi, by simp [hp]⟩]; simp

theorem allWithin_is (l : List Int) (hl : l.length ≤ 9223372036854775807) : F_impl_allWithin (l, -1, 1) = some (votesOK l) := by
  have h := IndexFunc_int_is l hl (K_impl_allWithin_1 (-1, 1)) (fun i => !(decide (-1 ≤ l.getD i 0) && decide (l.getD i 0 ≤ 1))) (fun i hi => by
    simp only [K_impl_allWithin_1, F_impl_allWithin_1, within_is])
  simp only [F_impl_allWithin, F_slices_ContainsFunc_int_int, h, firstN_ge, Bool.not_not, votesOK]

def numOK (p : Prop') : Bool := (decide (1 ≤ p.1) && decide (p.1 ≤ 999)) && (decide (0 ≤ p.2.1) && decide (p.2.1 ≤ 1)) && gl p.2.2.1
theorem isProposal_is (p : Prop') (hg : p.2.2.1.size ≤ 9223372036854775807) (hv : p.2.2.2.length ≤ 9223372036854775807) : F_impl_isProposal p = some (numOK p && decide ((p.2.2.2.length : Int) ≤ 7) && votesOK p.2.2.2) := by
  simp only [F_impl_isProposal, within_is, IsGloss_is _ hg, allWithin_is _ hv, numOK]
  cases (decide (1 ≤ p.1) && decide (p.1 ≤ 999)) <;> cases (decide (0 ≤ p.2.1) && decide (p.2.1 ≤ 1)) <;> cases gl p.2.2.1 <;> cases decide ((p.2.2.2.length : Int) ≤ 7) <;> simp
theorem ofOne_is (p : Prop') (m : Int) (hg : p.2.2.1.size ≤ 9223372036854775807) (hv : p.2.2.2.length ≤ 9223372036854775807) : F_spec_ofOne (p, m) = some (numOK p && ((p.2.2.2.length : Int) == m) && votesOK p.2.2.2) := by
  simp only [F_spec_ofOne, l1In_is, enGloss_is _ hg, l1All_is _ hv, numOK]
  cases (decide (1 ≤ p.1) && decide (p.1 ≤ 999)) <;> cases (decide (0 ≤ p.2.1) && decide (p.2.1 ≤ 1)) <;> cases gl p.2.2.1 <;> cases ((p.2.2.2.length : Int) == m) <;> simp

end Go.Proofs.YtdpkcnmlflngpaaDoor
/- What the functions of the office come to, on both sides: plain laws. No conditions beyond the bounds that are named. -/
set_option linter.unusedVariables false
set_option linter.unusedSimpArgs false
namespace Go.Proofs.YtdpkcnmlflngpaaDoor
open Go
/-- one proposal of a list -/
def rises (l : List Prop') (i : Nat) : Bool := decide (i = 0) || !decide ((l.getD i dP).1 ≤ (l.getD (i - 1) dP).1)
def goodAt (m : Int) (l : List Prop') (i : Nat) : Bool := (numOK (l.getD i dP) && (((l.getD i dP).2.2.2.length : Int) == m) && votesOK (l.getD i dP).2.2.2) && rises l i
def goodAt' (m : Int) (l : List Prop') (i : Nat) : Bool := (numOK (l.getD i dP) && decide (((l.getD i dP).2.2.2.length : Int) ≤ 7) && votesOK (l.getD i dP).2.2.2) && (((l.getD i dP).2.2.2.length : Int) == m) && rises l i
/-- proposals of m members -/
def good (m : Int) (l : List Prop') : Bool := allN (goodAt m l) l.length && (decide (1 ≤ m) && decide (m ≤ 7)) && decide ((l.length : Int) ≤ 12)

structure Fits (l : List Prop') : Prop where
  len : l.length ≤ 1048576
  gloss : ∀ e ∈ l, e.2.2.1.size ≤ 9223372036854775807
  votes : ∀ e ∈ l, e.2.2.2.length ≤ 1048576

theorem ofGood_is (l : List Prop') (m : Int) (hf : Fits l) : F_spec_ofGood (l, m) = some (good m l) := by
  have hlen := hf.len
  have t := runL_all (f := step_spec_ofGood_0) (goodAt m l) (fun i => (l, m, l, (l.length : Int), (i : Int))) (.inl false) (.inr (l, m)) l.length (fun i hi => by
    have hw := wrap_succ (i := i) (by omega)
    have hv := hf.votes _ (getD_mem hi dP)
    have h1 := ofOne_is (l.getD i dP) m (hf.gloss _ (getD_mem hi dP)) (by omega)
    simp only [step_spec_ofGood_0, lt_len hi, nonneg, Bool.and_self, cond_true, Int.toNat_natCast, hw, h1, goodAt]
    cases (numOK (l.getD i dP) && (((l.getD i dP).2.2.2.length : Int) == m) && votesOK (l.getD i dP).2.2.2) with
    | false => rfl
    | true =>
      rcases Nat.eq_zero_or_pos i with rfl | hp
      · simp [rises]
      · have hwp := wrap_pred (i := i) (by omega) hp
        have hp' : decide ((i : Int) > 0) = true := by simp; omega
        have h0 : decide (i = 0) = false := by simp; omega
        simp only [Bool.not_true, cond_false, hp', cond_true, hwp, lt_len (show i - 1 < l.length by omega), nonneg, Bool.and_self, Int.toNat_natCast, rises, h0, Bool.false_or, Bool.true_and, ge_iff_le]
        cases decide ((l.getD i dP).1 ≤ (l.getD (i - 1) dP).1) <;> rfl) (by simp [step_spec_ofGood_0])
  have t' : runL step_spec_ofGood_0 (l, m, l, (l.length : Int), (0 : Int)) = _ := t
  simp only [F_spec_ofGood, t', good]
  cases allN (goodAt m l) l.length with
  | false => rfl
  | true =>
    simp only [cond_true, F_spec_ofMembers, l1In_is]
    cases (decide (1 ≤ m) && decide (m ≤ 7)) <;> simp

theorem allN_congr {p q : Nat → Bool} {m : Nat} (h : ∀ i, i < m → p i = q i) : allN p m = allN q m := by
  cases hq : allN q m with
  | true => rw [allN_true] at hq ⊢; exact fun i hi => (h i hi).trans (hq i hi)
  | false => rw [allN_false] at hq ⊢; obtain ⟨i, hi, e⟩ := hq; exact ⟨i, hi, (h i hi).trans e⟩

theorem AreProposals_is (l : List Prop') (m : Int) (hf : Fits l) : F_impl_AreProposals (l, m) = some (good m l) := by
  have hlen := hf.len
  have t := runL_all (f := step_impl_AreProposals_0) (goodAt' m l) (fun i => (l, m, l, (l.length : Int), (i : Int))) (.inl false) (.inr (l, m)) l.length (fun i hi => by
    have hw := wrap_succ (i := i) (by omega)
    have hv := hf.votes _ (getD_mem hi dP)
    have h1 := isProposal_is (l.getD i dP) (hf.gloss _ (getD_mem hi dP)) (by omega)
    simp only [step_impl_AreProposals_0, lt_len hi, nonneg, Bool.and_self, cond_true, Int.toNat_natCast, hw, h1, goodAt']
    cases (numOK (l.getD i dP) && decide (((l.getD i dP).2.2.2.length : Int) ≤ 7) && votesOK (l.getD i dP).2.2.2) with
    | false => rfl
    | true =>
      have hne : (((l.getD i dP).2.2.2.length : Int) != m) = !(((l.getD i dP).2.2.2.length : Int) == m) := rfl
      simp only [Bool.not_true, cond_false, hne, Bool.true_and]
      cases (((l.getD i dP).2.2.2.length : Int) == m) with
      | false => rfl
      | true =>
        rcases Nat.eq_zero_or_pos i with rfl | hp
        · simp [rises]
        · have hwp := wrap_pred (i := i) (by omega) hp
          have hp' : decide ((i : Int) > 0) = true := by simp; omega
          have h0 : decide (i = 0) = false := by simp; omega
          simp only [Bool.not_true, cond_false, hp', cond_true, hwp, lt_len (show i - 1 < l.length by omega), nonneg, Bool.and_self, Int.toNat_natCast, rises, h0, Bool.false_or, Bool.true_and, ge_iff_le]
          cases decide ((l.getD i dP).1 ≤ (l.getD (i - 1) dP).1) <;> rfl) (by simp [step_impl_AreProposals_0])
  have t' : runL step_impl_AreProposals_0 (l, m, l, (l.length : Int), (0 : Int)) = _ := t
  simp only [F_impl_AreProposals, t', good]
  by_cases hm : (decide (1 ≤ m) && decide (m ≤ 7)) = true
  · have hc : allN (goodAt' m l) l.length = allN (goodAt m l) l.length := allN_congr fun i hi => by
      have h7 : m ≤ 7 := by simp at hm; omega
      simp only [goodAt, goodAt']
      cases hq : (((l.getD i dP).2.2.2.length : Int) == m) with
      | false => simp
      | true =>
        have : ((l.getD i dP).2.2.2.length : Int) = m := by simpa using hq
        have h8 : decide (((l.getD i dP).2.2.2.length : Int) ≤ 7) = true := decide_eq_true (by omega)
        rw [h8]; simp
    rw [hc]
    cases allN (goodAt m l) l.length with
    | false => rfl
    | true => simp only [cond_true, within_is, hm, Bool.true_and]
  · have hm' : (decide (1 ≤ m) && decide (m ≤ 7)) = false := by simpa using hm
    cases allN (goodAt' m l) l.length with
    | false => simp only [cond_false, hm', Bool.and_false, Bool.false_and]
    | true => simp only [cond_true, within_is, hm', cond_false, Bool.and_false, Bool.false_and]

end Go.Proofs.YtdpkcnmlflngpaaDoor
/- Votes are counted alike on both sides: plain laws. No conditions beyond the bounds that are named. -/
set_option linter.unusedVariables false
set_option linter.unusedSimpArgs false
namespace Go.Proofs.YtdpkcnmlflngpaaDoor
open Go

theorem votesOK_mem {l : List Int} (h : votesOK l = true) {x : Int} (hx : x ∈ l) : -1 ≤ x ∧ x ≤ 1 := by
  obtain ⟨i, hi, rfl⟩ := List.getElem_of_mem hx
  have := allN_true.1 h i hi
  simpa [List.getD, List.getElem?_eq_getElem hi] using this

theorem ofCount_is (p : Prop') (v : Int) (hv : p.2.2.2.length ≤ 1048576) : F_spec_ofCount (p, v) = some ((p.2.2.2.count v : Nat) : Int) := by
  have t := runL_traj (f := step_spec_ofCount_0) (fun i => (v, (((p.2.2.2.take i).count v : Nat) : Int), p.2.2.2, (p.2.2.2.length : Int), (i : Int))) ((p.2.2.2.count v : Nat) : Int) p.2.2.2.length (fun i hi => by
    have hw := wrap_succ (i := i) (by omega)
    have hc : (p.2.2.2.take i).count v ≤ i := Nat.le_trans List.count_le_length (by simp; omega)
    have hw2 := wrap_succ (i := (p.2.2.2.take i).count v) (by omega)
    have ht := take_succ_getD hi 0
    simp only [step_spec_ofCount_0, lt_len hi, nonneg, Bool.and_self, cond_true, Int.toNat_natCast, hw, hw2, ht, List.count_append, List.count_singleton]
    cases (p.2.2.2.getD i 0 == v) <;> rfl) (by simp [step_spec_ofCount_0])
  have t' : runL step_spec_ofCount_0 (v, 0, p.2.2.2, (p.2.2.2.length : Int), (0 : Int)) = _ := t
  simp only [F_spec_ofCount, t']

theorem those_int_is (l : List Int) (hl : l.length ≤ 1048576) (φ : Int → Option Bool) (p : Int → Bool) (hφ : ∀ x, φ x = some (p x)) : ∃ r, F_impl_those_int (l, φ) = some r ∧ r.length = l.countP p := by
  obtain ⟨r, e, hr⟩ := runL_inv (f := step_impl_those_int_0) (fun s => ∃ (i : Nat) (r : List Int), s = (φ, l, (l.length : Int), (i : Int), r) ∧ i ≤ l.length ∧ r.length = (l.take i).countP p) (fun r => r.length = l.countP p) (fun s => l.length - s.2.2.2.1.toNat) (by
    rintro s ⟨i, r, rfl, hi, hr⟩
    rcases Nat.lt_or_ge i l.length with hlt | hge
    · right
      have hw := wrap_succ (i := i) (by omega)
      have ht := take_succ_getD hlt 0
      have hc : (l.take i).countP p ≤ i := Nat.le_trans List.countP_le_length (by simp; omega)
      cases hp : p (l.getD i 0) with
      | true =>
        have hg : decide ((r.length + [(i : Int)].length) * 8 ≤ 140737488355328) = true := decide_eq_true (by simp only [List.length_singleton]; omega)
        refine ⟨(φ, l, (l.length : Int), ((i + 1 : Nat) : Int), r ++ [(i : Int)]), ?_, ⟨i + 1, _, rfl, by omega, ?_⟩, by simp; omega⟩
        · simp only [step_impl_those_int_0, lt_len hlt, nonneg, Bool.and_self, cond_true, Int.toNat_natCast, hφ, hp, hg, hw]
        · rw [ht, List.countP_append, List.countP_singleton, hp, List.length_append, hr]; rfl
      | false =>
        refine ⟨(φ, l, (l.length : Int), ((i + 1 : Nat) : Int), r), ?_, ⟨i + 1, _, rfl, by omega, ?_⟩, by simp; omega⟩
        · simp only [step_impl_those_int_0, lt_len hlt, nonneg, Bool.and_self, cond_true, Int.toNat_natCast, hφ, hp, cond_false, hw]
        · rw [ht, List.countP_append, List.countP_singleton, hp, hr]; simp
    · left
      have : i = l.length := by omega
      subst this
      exact ⟨r, by simp [step_impl_those_int_0], by simpa using hr⟩) (φ, l, (l.length : Int), 0, []) ⟨0, [], rfl, by omega, by simp⟩
  exact ⟨r, by simp [F_impl_those_int, e], hr⟩

theorem sum_bound : ∀ (l : List Int), (∀ x ∈ l, -1 ≤ x ∧ x ≤ 1) → -(l.length : Int) ≤ l.sum ∧ l.sum ≤ (l.length : Int)
  | [], _ => by simp
  | x :: l, h => by
    have h1 := h x (by simp)
    have h2 := sum_bound l (fun y hy => h y (by simp [hy]))
    simp only [List.sum_cons, List.length_cons]
    omega

theorem sumOf_is (l : List Int) (hl : l.length ≤ 1048576) (hv : ∀ x ∈ l, -1 ≤ x ∧ x ≤ 1) : F_impl_sumOf l = some l.sum := by
  have t := runL_traj (f := step_impl_sumOf_0) (fun i => ((l.take i).sum, l, (l.length : Int), (i : Int))) l.sum l.length (fun i hi => by
    have hw := wrap_succ (i := i) (by omega)
    have ht := take_succ_getD hi 0
    have hb := sum_bound (l.take (i + 1)) (fun x hx => hv x (List.mem_of_mem_take hx))
    have hs : (l.take (i + 1)).sum = (l.take i).sum + l.getD i 0 := by rw [ht, List.sum_append]; simp
    have hlen : ((l.take (i + 1)).length : Int) ≤ 1048576 := by simp; omega
    have hw2 : IntKind.i64.wrap ((l.take i).sum + l.getD i 0) = (l.take (i + 1)).sum := by rw [← hs]; exact wrap_id (by omega) (by omega)
    simp only [step_impl_sumOf_0, lt_len hi, nonneg, Bool.and_self, cond_true, Int.toNat_natCast, hw, hw2]) (by simp [step_impl_sumOf_0])
  have t' : runL step_impl_sumOf_0 (0, l, (l.length : Int), (0 : Int)) = _ := t
  simp only [F_impl_sumOf, t']

theorem votes_counts : ∀ (l : List Int), (∀ x ∈ l, -1 ≤ x ∧ x ≤ 1) → l.countP (fun x => x != 0) = l.count 1 + l.count (-1) ∧ l.sum = (l.count 1 : Int) - (l.count (-1) : Int)
  | [], _ => by simp
  | x :: l, h => by
    obtain ⟨h1, h2⟩ := votes_counts l (fun y hy => h y (by simp [hy]))
    have hx := h x (by simp)
    have : x = -1 ∨ x = 0 ∨ x = 1 := by omega
    rcases this with rfl | rfl | rfl
    · simp only [List.countP_cons, List.count_cons, List.sum_cons, h1, h2]
      refine ⟨?_, ?_⟩ <;> simp <;> omega
    · simp only [List.countP_cons, List.count_cons, List.sum_cons, h1, h2]
      refine ⟨?_, ?_⟩ <;> simp <;> omega
    · simp only [List.countP_cons, List.count_cons, List.sum_cons, h1, h2]
      refine ⟨?_, ?_⟩ <;> simp <;> omega

/-- passed, if so many more vote for it -/
def passes (l : List Int) (more : Int) : Bool := decide (2 * (more + (l.count 1 : Int) + (l.count (-1) : Int)) > (l.length : Int)) && decide ((l.count 1 : Int) + more > (l.count (-1) : Int))

theorem ofPassed_is (p : Prop') (more : Int) (hv : p.2.2.2.length ≤ 1048576) (h0 : 0 ≤ more) (h1 : more ≤ 1048576) : F_spec_ofPassed (p, more) = some (passes p.2.2.2 more) := by
  have c1 : p.2.2.2.count 1 ≤ p.2.2.2.length := List.count_le_length
  have c2 : p.2.2.2.count (-1) ≤ p.2.2.2.length := List.count_le_length
  have w1 : IntKind.i64.wrap (((p.2.2.2.count 1 : Nat) : Int) + more) = ((p.2.2.2.count 1 : Nat) : Int) + more := wrap_id (by omega) (by omega)
  have w2 : IntKind.i64.wrap (((p.2.2.2.count 1 : Nat) : Int) + more + ((p.2.2.2.count (-1) : Nat) : Int)) = more + ((p.2.2.2.count 1 : Nat) : Int) + ((p.2.2.2.count (-1) : Nat) : Int) := by rw [wrap_id (by omega) (by omega)]; omega
  have w3 : IntKind.i64.wrap (2 * (more + ((p.2.2.2.count 1 : Nat) : Int) + ((p.2.2.2.count (-1) : Nat) : Int))) = 2 * (more + ((p.2.2.2.count 1 : Nat) : Int) + ((p.2.2.2.count (-1) : Nat) : Int)) := wrap_id (by omega) (by omega)
  simp only [F_spec_ofPassed, ofCount_is p _ hv, w1, w2, w3, passes]
  cases decide (2 * (more + ((p.2.2.2.count 1 : Nat) : Int) + ((p.2.2.2.count (-1) : Nat) : Int)) > (p.2.2.2.length : Int)) <;> simp

theorem passed_is (p : Prop') (more : Int) (hv : p.2.2.2.length ≤ 1048576) (hok : votesOK p.2.2.2 = true) (h0 : 0 ≤ more) (h1 : more ≤ 1048576) : F_impl_Proposal_passed (p, more) = some (passes p.2.2.2 more) := by
  have c1 : p.2.2.2.count 1 ≤ p.2.2.2.length := List.count_le_length
  have c2 : p.2.2.2.count (-1) ≤ p.2.2.2.length := List.count_le_length
  have hm : ∀ x ∈ p.2.2.2, -1 ≤ x ∧ x ≤ 1 := fun x hx => votesOK_mem hok hx
  obtain ⟨r, e, hr⟩ := those_int_is p.2.2.2 hv (K_impl_Proposal_passed_1 ()) (fun x => x != 0) (fun x => rfl)
  obtain ⟨v1, v2⟩ := votes_counts p.2.2.2 hm
  have hs := sumOf_is p.2.2.2 hv hm
  have hb := sum_bound p.2.2.2 hm
  have hr' : (r.length : Int) = ((p.2.2.2.count 1 : Nat) : Int) + ((p.2.2.2.count (-1) : Nat) : Int) := by rw [hr, v1]; omega
  have w1 : IntKind.i64.wrap (more + (r.length : Int)) = more + ((p.2.2.2.count 1 : Nat) : Int) + ((p.2.2.2.count (-1) : Nat) : Int) := by rw [hr', wrap_id (by omega) (by omega)]; omega
  have w3 : IntKind.i64.wrap (2 * (more + ((p.2.2.2.count 1 : Nat) : Int) + ((p.2.2.2.count (-1) : Nat) : Int))) = 2 * (more + ((p.2.2.2.count 1 : Nat) : Int) + ((p.2.2.2.count (-1) : Nat) : Int)) := wrap_id (by omega) (by omega)
  have w4 : IntKind.i64.wrap (p.2.2.2.sum + more) = p.2.2.2.sum + more := wrap_id (by omega) (by omega)
  have hd : decide (p.2.2.2.sum + more > 0) = decide (((p.2.2.2.count 1 : Nat) : Int) + more > ((p.2.2.2.count (-1) : Nat) : Int)) := by
    rw [v2]
    by_cases hq : ((p.2.2.2.count 1 : Nat) : Int) + more > ((p.2.2.2.count (-1) : Nat) : Int)
    · rw [decide_eq_true hq, decide_eq_true (by omega)]
    · rw [decide_eq_false hq, decide_eq_false (by omega)]
  simp only [F_impl_Proposal_passed, e, w1, w3, hs, w4, hd, passes]
  cases decide (2 * (more + ((p.2.2.2.count 1 : Nat) : Int) + ((p.2.2.2.count (-1) : Nat) : Int)) > (p.2.2.2.length : Int)) <;> simp

/-- where a proposal with a number lies -/
def findP (l : List Prop') (n : Int) : Int := firstN (fun i => (l.getD i dP).1 == n) l.length
theorem ofFind_is (l : List Prop') (n : Int) (hl : l.length ≤ 1048576) : F_spec_ofFind (l, n) = some (findP l n) := by
  rcases runL_first (f := step_spec_ofFind_0) (fun i => !((l.getD i dP).1 == n)) (fun i => (n, l, (l.length : Int), (i : Int))) (fun i => .inl (i : Int)) (.inr ()) l.length (fun i hi => by
    have hw := wrap_succ (i := i) (by omega)
    simp only [step_spec_ofFind_0, lt_len hi, nonneg, Bool.and_self, cond_true, Int.toNat_natCast, hw]
    cases ((l.getD i dP).1 == n) <;> rfl) (by simp [step_spec_ofFind_0]) with ⟨t, hp⟩ | ⟨i, hi, hp, hj, t⟩
  · have t' : runL step_spec_ofFind_0 (n, l, (l.length : Int), (0 : Int)) = _ := t
    simp only [F_spec_ofFind, t', findP]
    rw [firstN_none (fun j hj => by simpa using hp j hj)]
  · have t' : runL step_spec_ofFind_0 (n, l, (l.length : Int), (0 : Int)) = _ := t
    simp only [F_spec_ofFind, t', findP]
    rw [firstN_at hi (by simpa using hp) (fun j hj' => by simpa using hj j hj')]

theorem IndexFunc_prop_is (l : List Prop') (hl : l.length ≤ 9223372036854775807) (φ : Prop' → Option Bool) (p : Nat → Bool) (hφ : ∀ i, i < l.length → φ (l.getD i dP) = some (p i)) :
    F_slices_IndexFunc_impl_Proposal_impl_Proposal (l, φ) = some (firstN p l.length) := by
  rcases runL_first (f := step_slices_IndexFunc_impl_Proposal_impl_Proposal_0) (fun i => !p i) (fun i => (l, φ, (l.length : Int), (i : Int))) (fun i => .inl (i : Int)) (.inr ()) l.length (fun i hi => by
    have hw := wrap_succ (i := i) (by omega)
    simp only [step_slices_IndexFunc_impl_Proposal_impl_Proposal_0, lt_len hi, nonneg, Bool.and_self, cond_true, Int.toNat_natCast, hw, hφ i hi]
    cases p i <;> rfl) (by simp [step_slices_IndexFunc_impl_Proposal_impl_Proposal_0]) with ⟨t, hp⟩ | ⟨i, hi, hp, hj, t⟩
  · have t' : runL step_slices_IndexFunc_impl_Proposal_impl_Proposal_0 (l, φ, (l.length : Int), (0 : Int)) = _ := t
    simp only [F_slices_IndexFunc_impl_Proposal_impl_Proposal, t']
    rw [firstN_none (fun j hj => by simpa using hp j hj)]
  · have t' : runL step_slices_IndexFunc_impl_Proposal_impl_Proposal_0 (l, φ, (l.length : Int), (0 : Int)) = _ := t
    simp only [F_slices_IndexFunc_impl_Proposal_impl_Proposal, t']
    rw [firstN_at hi (by simpa using hp) (fun j hj' => by simpa using hj j hj')]
theorem proposalAt_is (l : List Prop') (n : Int) (hl : l.length ≤ 1048576) : F_impl_proposalAt (l, n) = some (findP l n) := by
  have h := IndexFunc_prop_is l (by omega) (K_impl_proposalAt_1 n) (fun i => (l.getD i dP).1 == n) (fun i hi => rfl)
  simp only [F_impl_proposalAt, h, findP]

/-- a place that was found lies in the list -/
theorem findP_cases (l : List Prop') (n : Int) : (findP l n = -1) ∨ ∃ i : Nat, i < l.length ∧ findP l n = (i : Int) := by
  rcases firstN_cases (fun i => (l.getD i dP).1 == n) l.length with ⟨e, _⟩ | ⟨i, hi, e, _, _⟩
  · exact .inl e
  · exact .inr ⟨i, hi, e⟩

theorem good_votes {m : Int} {l : List Prop'} (h : good m l = true) {i : Nat} (hi : i < l.length) : votesOK (l.getD i dP).2.2.2 = true ∧ ((l.getD i dP).2.2.2.length : Int) = m := by
  simp only [good, Bool.and_eq_true] at h
  have := allN_true.1 h.1.1 i hi
  simp only [goodAt, Bool.and_eq_true, beq_iff_eq] at this
  exact ⟨this.1.2, this.1.1.2⟩
theorem good_m {m : Int} {l : List Prop'} (h : good m l = true) : 1 ≤ m ∧ m ≤ 7 ∧ l.length ≤ 12 := by
  simp only [good, Bool.and_eq_true, decide_eq_true_eq] at h
  omega
end Go.Proofs.YtdpkcnmlflngpaaDoor
/- Copies of proposals, and marks on them, as plain Lean. Lengths fit an int. -/
set_option linter.unusedVariables false
set_option linter.unusedSimpArgs false
namespace Go.Proofs.YtdpkcnmlflngpaaDoor
open Go
theorem set_getD_self {α : Type} (l : List α) (i : Nat) (d : α) : l.set i (l.getD i d) = l := by
  apply List.ext_getElem?
  intro j
  rw [List.getElem?_set]
  split
  · rename_i h
    subst h
    split
    · rename_i h
      simp [List.getD, h]
    · rename_i h
      rw [List.getElem?_eq_none (by omega)]
  · rfl
theorem copyProposals_is (l : List Prop') (hf : Fits l) : F_impl_copyProposals l = some l := by
  have hlen := hf.len
  have h0 : F_slices_Clone_impl_Proposal_impl_Proposal l = some l := by
    have : decide (l.length * 56 ≤ 140737488355328) = true := decide_eq_true (by omega)
    simp only [F_slices_Clone_impl_Proposal_impl_Proposal, this, cond_true]
  have t := runL_traj (f := step_impl_copyProposals_0) (fun i => ((l.length : Int), ((i : Int), l, (i : Int)))) (l, (l.length : Int)) l.length (fun i hi => by
    have hw := wrap_succ (i := i) (by omega)
    have hv := hf.votes _ (getD_mem hi dP)
    have h1 : F_slices_Clone_int_int (l.getD i (0, (0, ByteArray.empty, []))).2.2.2 = some (l.getD i (0, (0, ByteArray.empty, []))).2.2.2 := by
      have : decide ((l.getD i (0, (0, ByteArray.empty, []))).2.2.2.length * 8 ≤ 140737488355328) = true := decide_eq_true (by have : (l.getD i (0, (0, ByteArray.empty, []))).2.2.2.length ≤ 1048576 := hv; omega)
      simp only [F_slices_Clone_int_int, this, cond_true]
    have hs : l.set i ((l.getD i (0, (0, ByteArray.empty, []))).1, ((l.getD i (0, (0, ByteArray.empty, []))).2.1, (l.getD i (0, (0, ByteArray.empty, []))).2.2.1, (l.getD i (0, (0, ByteArray.empty, []))).2.2.2)) = l := set_getD_self l i _
    have hle : decide (i ≤ i) = true := decide_eq_true (Nat.le_refl _)
    have heq : decide (i = i) = true := decide_eq_true rfl
    simp only [step_impl_copyProposals_0, lt_len hi, nonneg, Bool.and_self, cond_true, Int.toNat_natCast, hle, heq, decide_true, h1, hs, hw]) (by
    simp [step_impl_copyProposals_0])
  have t' : runL step_impl_copyProposals_0 ((l.length : Int), ((0 : Int), l, (0 : Int))) = some (l, (l.length : Int)) := t
  have heq : decide (l.length = l.length) = true := decide_eq_true rfl
  simp only [F_impl_copyProposals, h0, t', Int.toNat_natCast, heq, decide_true, cond_true]
theorem ofOwn_is (l : List Prop') (hf : Fits l) : F_spec_ofOwn l = some l := by
  have hlen := hf.len
  have t := runL_traj (f := step_spec_ofOwn_0) (fun i => (l, ((l.length : Int), (i : Int), l.take i))) l l.length (fun i hi => by
    have hw := wrap_succ (i := i) (by omega)
    have hv := hf.votes _ (getD_mem hi dP)
    have h1 : F_spec_l1Own (l.getD i (0, (0, ByteArray.empty, []))).2.2.2 = some (l.getD i (0, (0, ByteArray.empty, []))).2.2.2 := by
      have : decide ((([] : List Int).length + (l.getD i (0, (0, ByteArray.empty, []))).2.2.2.length) * 8 ≤ 140737488355328) = true := decide_eq_true (by have : (l.getD i (0, (0, ByteArray.empty, []))).2.2.2.length ≤ 1048576 := hv; simp only [List.length_nil]; omega)
      simp only [F_spec_l1Own, this, cond_true, List.nil_append]
    have hs : l.take i ++ [((l.getD i (0, (0, ByteArray.empty, []))).1, ((l.getD i (0, (0, ByteArray.empty, []))).2.1, (l.getD i (0, (0, ByteArray.empty, []))).2.2.1, (l.getD i (0, (0, ByteArray.empty, []))).2.2.2))] = l.take (i + 1) := (take_succ_getD hi _).symm
    have hg : decide (((l.take i).length + [((l.getD i (0, (0, ByteArray.empty, []))).1, ((l.getD i (0, (0, ByteArray.empty, []))).2.1, (l.getD i (0, (0, ByteArray.empty, []))).2.2.1, (l.getD i (0, (0, ByteArray.empty, []))).2.2.2))].length) * 56 ≤ 140737488355328) = true := decide_eq_true (by simp; omega)
    simp only [step_spec_ofOwn_0, lt_len hi, nonneg, Bool.and_self, cond_true, Int.toNat_natCast, h1, hg, hs, hw]) (by
    simp [step_spec_ofOwn_0])
  have t' : runL step_spec_ofOwn_0 (l, ((l.length : Int), (0 : Int), [])) = some l := t
  simp only [F_spec_ofOwn, t']

theorem Fits.set {l : List Prop'} (hf : Fits l) {i : Nat} (hi : i < l.length) {e : Prop'} (h1 : e.2.2.1.size ≤ 9223372036854775807) (h2 : e.2.2.2.length ≤ 1048576) : Fits (l.set i e) := by
  refine ⟨by rw [List.length_set]; exact hf.len, fun x hx => ?_, fun x hx => ?_⟩
  · rcases List.mem_or_eq_of_mem_set hx with h | rfl
    · exact hf.gloss x h
    · exact h1
  · rcases List.mem_or_eq_of_mem_set hx with h | rfl
    · exact hf.votes x h
    · exact h2
theorem fits_nil : Fits [] := ⟨by simp, by simp, by simp⟩
end Go.Proofs.YtdpkcnmlflngpaaDoor
/- What the drawn arguments are like: plain laws. No conditions. -/
set_option linter.unusedVariables false
set_option linter.unusedSimpArgs false
namespace Go.Proofs.YtdpkcnmlflngpaaDoor
open Go
/-- a cursor that has taken at most n steps -/
structure CurOK (n : Nat) (c : List Int × (Int × Int)) : Prop where
  len : c.1.length ≤ 1048576
  bytes : ∀ b ∈ c.1, 0 ≤ b ∧ b ≤ 255
  at0 : 0 ≤ c.2.1
  atn : c.2.1 ≤ (n : Int)
theorem CurOK.mono {n m : Nat} {c : List Int × (Int × Int)} (h : CurOK n c) (hm : n ≤ m) : CurOK m c := ⟨h.len, h.bytes, h.at0, by have := h.atn; omega⟩
theorem masked (v : Int) : 0 ≤ IntKind.i64.wrap (IntKind.u64.wrap ((BitVec.ofInt IntKind.u64.bits v &&& BitVec.ofInt IntKind.u64.bits 255).toNat : Nat)) ∧ IntKind.i64.wrap (IntKind.u64.wrap ((BitVec.ofInt IntKind.u64.bits v &&& BitVec.ofInt IntKind.u64.bits 255).toNat : Nat)) ≤ 255 := by
  have h1 : (BitVec.ofInt IntKind.u64.bits v &&& BitVec.ofInt IntKind.u64.bits 255).toNat ≤ 255 := by
    rw [BitVec.toNat_and]
    exact Nat.le_trans Nat.and_le_right (by decide)
  generalize (BitVec.ofInt IntKind.u64.bits v &&& BitVec.ofInt IntKind.u64.bits 255).toNat = m at h1
  have h2 : IntKind.u64.wrap (m : Int) = (m : Int) := by
    simp [IntKind.wrap, IntKind.bits, IntKind.signed]
    omega
  rw [h2, wrap_id (by omega) (by omega)]
  omega
theorem next_ok {n : Nat} {c : List Int × (Int × Int)} (h : CurOK n c) (hn : n ≤ 4611686018427387904) : ∃ c' v, F_spec_l1Cur_next c = some (c', v) ∧ CurOK (n + 1) c' ∧ 0 ≤ v ∧ v ≤ 255 := by
  obtain ⟨code, i, seed⟩ := c
  have hat0 : 0 ≤ i := h.at0
  have hatn : i ≤ (n : Int) := h.atn
  have hw : IntKind.i64.wrap (i + 1) = i + 1 := wrap_id (by omega) (by omega)
  have q40 : decide (0 ≤ (40 : Int)) = true := rfl
  have ok : ∀ s, CurOK (n + 1) (code, (i + 1, s)) := fun s => ⟨h.len, h.bytes, by show 0 ≤ i + 1; omega, by show i + 1 ≤ _; omega⟩
  cases h1 : decide (i < (code.length : Int)) with
  | true =>
    have h1' : i < (code.length : Int) := of_decide_eq_true h1
    have h0 : decide (0 ≤ i) = true := decide_eq_true hat0
    have hlt : i.toNat < code.length := by omega
    have hb : 0 ≤ code.getD i.toNat 0 ∧ code.getD i.toNat 0 ≤ 255 := h.bytes _ (getD_mem hlt 0)
    have hwb : IntKind.i64.wrap (code.getD i.toNat 0) = code.getD i.toNat 0 := wrap_id (by omega) (by omega)
    simp only [F_spec_l1Cur_next, h1, h0, Bool.and_self, cond_true, hw, hwb, q40]
    cases decide (i + 1 ≤ (code.length : Int)) with
    | true => exact ⟨_, _, rfl, ok _, hb⟩
    | false => exact ⟨_, _, rfl, ok _, masked _⟩
  | false =>
    simp only [F_spec_l1Cur_next, h1, cond_false, hw, q40, cond_true]
    cases decide (i + 1 ≤ (code.length : Int)) with
    | true => exact ⟨_, _, rfl, ok _, by omega⟩
    | false => exact ⟨_, _, rfl, ok _, masked _⟩
theorem pick_ok {n : Nat} {c : List Int × (Int × Int)} (h : CurOK n c) (hn : n ≤ 4611686018427387904) {k : Int} (k0 : 1 ≤ k) (k1 : k ≤ 200) : ∃ c' v, F_spec_l1Cur_pick (c, k) = some (c', v) ∧ CurOK (n + 1) c' ∧ 0 ≤ v ∧ v < k := by
  cases h1 : decide (k ≤ 1) with
  | true =>
    have := of_decide_eq_true h1
    exact ⟨c, 0, by simp only [F_spec_l1Cur_pick, h1, cond_true], h.mono (by omega), by omega, by omega⟩
  | false =>
    have h1' := of_decide_eq_false h1
    obtain ⟨c', v, e, hc, v0, v1⟩ := next_ok h hn
    have h2 : decide (k > 200) = false := decide_eq_false (by omega)
    have h3 : decide (k = 0) = false := decide_eq_false (by omega)
    refine ⟨c', v.tmod k, by simp only [F_spec_l1Cur_pick, h1, cond_false, e, h2, h3, Bool.not_false, cond_true], hc, Int.tmod_nonneg _ v0, Int.tmod_lt_of_pos _ (by omega)⟩
theorem one_ok {n : Nat} {c : List Int × (Int × Int)} (h : CurOK n c) (hn : n ≤ 4611686018427387904) {k : Int} (k0 : 1 ≤ k) (k1 : k ≤ 200) : ∃ c' b, F_spec_l1Cur_one (c, k) = some (c', b) ∧ CurOK (n + 1) c' := by
  obtain ⟨c', v, e, hc, _⟩ := pick_ok h hn k0 k1
  exact ⟨c', v == 0, by simp only [F_spec_l1Cur_one, e], hc⟩
theorem of_ok {n : Nat} {c : List Int × (Int × Int)} (h : CurOK n c) (hn : n ≤ 4611686018427387904) {l : List ByteArray} (k0 : 1 ≤ l.length) (k1 : l.length ≤ 200) : ∃ c' v, F_spec_l1Cur_of (c, l) = some (c', v) ∧ CurOK (n + 1) c' ∧ v ∈ l := by
  obtain ⟨c', v, e, hc, v0, v1⟩ := pick_ok h hn (k := (l.length : Int)) (by omega) (by omega)
  have h0 : decide (0 ≤ v) = true := decide_eq_true v0
  have h1 : decide (v < (l.length : Int)) = true := decide_eq_true v1
  exact ⟨c', l.getD v.toNat ByteArray.empty, by simp only [F_spec_l1Cur_of, e, h0, h1, Bool.and_self, cond_true], hc, getD_mem (by omega) _⟩
theorem among_ok {n : Nat} {c : List Int × (Int × Int)} (h : CurOK n c) (hn : n ≤ 4611686018427387904) {l : List Int} (k0 : 1 ≤ l.length) (k1 : l.length ≤ 200) : ∃ c' v, F_spec_l1Cur_among (c, l) = some (c', v) ∧ CurOK (n + 1) c' ∧ v ∈ l := by
  obtain ⟨c', v, e, hc, v0, v1⟩ := pick_ok h hn (k := (l.length : Int)) (by omega) (by omega)
  have h0 : decide (0 ≤ v) = true := decide_eq_true v0
  have h1 : decide (v < (l.length : Int)) = true := decide_eq_true v1
  exact ⟨c', l.getD v.toNat 0, by simp only [F_spec_l1Cur_among, e, h0, h1, Bool.and_self, cond_true], hc, getD_mem (by omega) _⟩
theorem gloss_ok {n : Nat} {c : List Int × (Int × Int)} (h : CurOK n c) (hn : n ≤ 4611686018427387904) : ∃ c' v, F_spec_l1Cur_gloss c = some (c', v) ∧ CurOK (n + 1) c' ∧ v.size ≤ 9 := by
  obtain ⟨c', v, e, hc, hv⟩ := of_ok h hn (l := [(⟨#[83, 85, 78]⟩ : ByteArray), (⟨#[72, 79, 85, 83, 69]⟩ : ByteArray), (⟨#[84, 82, 69, 69]⟩ : ByteArray), (⟨#[82, 65, 73, 78]⟩ : ByteArray), (⟨#[66, 79, 79, 75]⟩ : ByteArray), (⟨#[69, 73, 71, 72, 84, 76, 69, 84]⟩ : ByteArray)]) (by simp) (by simp)
  refine ⟨c', v, by simp only [F_spec_l1Cur_gloss, e], hc, ?_⟩
  simp only [List.mem_cons, List.not_mem_nil, or_false] at hv
  rcases hv with rfl | rfl | rfl | rfl | rfl | rfl <;> decide
theorem anyGloss_ok {n : Nat} {c : List Int × (Int × Int)} (h : CurOK n c) (hn : n ≤ 4611686018427387903) : ∃ c' v, F_spec_l1Cur_anyGloss c = some (c', v) ∧ CurOK (n + 2) c' ∧ v.size ≤ 9 := by
  obtain ⟨c1, v1, e1, hc1, hv1⟩ := of_ok h (by omega) (l := [(⟨#[]⟩ : ByteArray), (⟨#[115, 117, 110]⟩ : ByteArray), (⟨#[78, 73, 78, 69, 76, 69, 84, 84, 69]⟩ : ByteArray), (⟨#[65, 49]⟩ : ByteArray), (⟨#[90, 79, 79]⟩ : ByteArray), (⟨#[65]⟩ : ByteArray)]) (by simp) (by simp)
  have z1 : v1.size ≤ 9 := by
    simp only [List.mem_cons, List.not_mem_nil, or_false] at hv1
    rcases hv1 with rfl | rfl | rfl | rfl | rfl | rfl <;> decide
  obtain ⟨c', v, e, hc, hv⟩ := of_ok hc1 (by omega) (l := [(⟨#[83, 85, 78]⟩ : ByteArray), (⟨#[72, 79, 85, 83, 69]⟩ : ByteArray), (⟨#[84, 82, 69, 69]⟩ : ByteArray), (⟨#[82, 65, 73, 78]⟩ : ByteArray), (⟨#[66, 79, 79, 75]⟩ : ByteArray), (⟨#[83, 85, 78]⟩ : ByteArray), v1]) (by simp) (by simp)
  refine ⟨c', v, by simp only [F_spec_l1Cur_anyGloss, e1, e], hc, ?_⟩
  simp only [List.mem_cons, List.not_mem_nil, or_false] at hv
  rcases hv with rfl | rfl | rfl | rfl | rfl | rfl | rfl
  all_goals first | exact z1 | decide
abbrev PropD := Int × (Int × (ByteArray × List Int))
structure SmallP (e : PropD) : Prop where
  gloss : e.2.2.1.size ≤ 16
  votes : e.2.2.2.length ≤ 16
theorem among2 {n : Nat} {c : List Int × (Int × Int)} (h : CurOK n c) (hn : n ≤ 4611686018427387904) (l : List Int) (k0 : 1 ≤ l.length) (k1 : l.length ≤ 200) : ∃ c' v, F_spec_l1Cur_among (c, l) = some (c', v) ∧ CurOK (n + 1) c' := by
  obtain ⟨c', v, e, h1, _⟩ := among_ok h hn k0 k1
  exact ⟨c', v, e, h1⟩
theorem proposal_ok {n : Nat} {c : List Int × (Int × Int)} (h : CurOK n c) (hn : n ≤ 4611686018427380000) (number : Int) {m : Int} (m0 : 0 ≤ m) (m1 : m ≤ 8) : ∃ c' p, F_spec_l1Cur_proposal (c, number, m) = some (c', p) ∧ CurOK (n + 30) c' ∧ SmallP p := by
  obtain ⟨c1, v1, e1, h1, _, _⟩ := pick_ok h (by omega) (k := 2) (by omega) (by omega)
  obtain ⟨c2, v2, e2, h2, g2⟩ := gloss_ok h1 (by omega)
  obtain ⟨c3, v3, e3, h3⟩ := one_ok h2 (by omega) (k := 2) (by omega) (by omega)
  obtain ⟨o, eo, q1, q2, q3, q4⟩ := runL_inv (f := step_spec_l1Cur_proposal_0)
    (fun s => s.1 = m ∧ s.2.2.2.2.1.size ≤ 9 ∧ s.2.2.2.2.2.2.2.2.2.2.2.length ≤ 8 ∧ CurOK (n + 3 + 2 * s.2.2.2.2.2.2.2.2.2.2.2.length) (s.2.2.2.2.2.2.2.2.1, s.2.2.2.2.2.2.2.2.2.1, s.2.2.2.2.2.2.2.2.2.2.1))
    (fun o => o.1 = m ∧ o.2.2.2.1.size ≤ 9 ∧ o.2.2.2.2.1.length ≤ 8 ∧ CurOK (n + 19) o.2.2.2.2.2.2.2.2) (fun s => 8 - s.2.2.2.2.2.2.2.2.2.2.2.length) (by
    rintro ⟨s1, s2, s3, s4, s5, s6, s7, s8, code, i, seed, votes⟩ ⟨r1, r2, r3, r4⟩
    simp only at r1 r2 r3 r4
    subst r1
    cases hl : decide ((votes.length : Int) < s1) with
    | false =>
      left
      have hc : CurOK (n + 19) (code, i, seed) := r4.mono (by omega)
      exact ⟨_, by simp only [step_spec_l1Cur_proposal_0, hl, cond_false]; rfl, rfl, r2, r3, hc⟩
    | true =>
      right
      have hl' := of_decide_eq_true hl
      obtain ⟨d1, w1, f1, k1⟩ := among2 r4 (by omega) [(-1), 0, 1] (by simp) (by simp)
      have room : ∀ z : Int, decide ((votes.length + [z].length) * 8 ≤ 140737488355328) = true := fun z => decide_eq_true (by simp; omega)
      have room1 : decide ((votes.length + ([1] : List Nat).length) * 8 ≤ 140737488355328) = true := decide_eq_true (by simp; omega)
      cases s2 with
      | false =>
        refine ⟨_, by simp only [step_spec_l1Cur_proposal_0, hl, cond_true, f1, cond_false, room]; rfl, ⟨rfl, r2, by simp; omega, ?_⟩, by simp; omega⟩
        simp only [List.length_append, List.length_singleton]
        exact k1.mono (by omega)
      | true =>
        obtain ⟨d2, w2, f2, k2⟩ := one_ok k1 (by omega) (k := 2) (by omega) (by omega)
        cases w2 with
        | false =>
          refine ⟨_, by simp only [step_spec_l1Cur_proposal_0, hl, cond_true, f1, f2, cond_false, room]; rfl, ⟨rfl, r2, by simp; omega, ?_⟩, by simp; omega⟩
          simp only [List.length_append, List.length_singleton]
          exact k2.mono (by omega)
        | true =>
          refine ⟨_, by simp only [step_spec_l1Cur_proposal_0, hl, cond_true, f1, f2, room1]; rfl, ⟨rfl, r2, by simp; omega, ?_⟩, by simp; omega⟩
          simp only [List.length_append, List.length_singleton]
          exact k2.mono (by omega)) (m, (v3, number, (v1, v2, (0, 0, (ByteArray.empty, c3.1, (c3.2.1, c3.2.2, []))))))
    ⟨rfl, g2, by simp, h3.mono (by simp)⟩
  obtain ⟨c4, v4, e4, h4⟩ := one_ok q4 (by omega) (k := 5) (by omega) (by omega)
  obtain ⟨c5, v5, e5, h5, _, _⟩ := pick_ok h4 (by omega) (k := 60) (by omega) (by omega)
  obtain ⟨c6, v6, e6, h6⟩ := among2 h5 (by omega) [0, 999, 1000] (by simp) (by simp)
  obtain ⟨c7, v7, e7, h7⟩ := among2 h5 (by omega) [(-1), 2] (by simp) (by simp)
  obtain ⟨c8, v8, e8, h8, g8⟩ := anyGloss_ok h5 (by omega)
  obtain ⟨c9, v9, e9, h9, _, _⟩ := pick_ok h5 (by omega) (k := 4) (by omega) (by omega)
  have z0 : decide (0 ≤ o.1) = true := decide_eq_true (by omega)
  have z1 : decide (o.1 ≤ o.1) = true := decide_eq_true (Int.le_refl _)
  have z2 : decide (o.1 * (8 : Int) ≤ 140737488355328) = true := decide_eq_true (by omega)
  have z3 : ∀ z : Int, decide (((List.replicate (o.1).toNat (0 : Int)).length + [z].length) * 8 ≤ 140737488355328) = true := fun z => decide_eq_true (by simp; omega)
  have z4 : ∀ z : Int, decide ((o.2.2.2.2.1.length + [z].length) * 8 ≤ 140737488355328) = true := fun z => decide_eq_true (by simp; omega)
  have lr : (List.replicate (o.1).toNat (0 : Int)).length ≤ 8 := by simp; omega
  cases v4 with
  | true =>
    cases b0 : v5 == 0 with
    | true => exact ⟨_, _, by simp only [F_spec_l1Cur_proposal, e1, e2, e3, eo, e4, cond_true, z0, z1, z2, Bool.and_self, e5, b0, e6]; rfl, h6.mono (by omega), ⟨Nat.le_trans q2 (by omega), Nat.le_trans lr (by omega)⟩⟩
    | false =>
      cases b1 : v5 == 1 with
      | true => exact ⟨_, _, by simp only [F_spec_l1Cur_proposal, e1, e2, e3, eo, e4, cond_true, cond_false, z0, z1, z2, Bool.and_self, e5, b0, b1, e7]; rfl, h7.mono (by omega), ⟨Nat.le_trans q2 (by omega), Nat.le_trans lr (by omega)⟩⟩
      | false =>
        cases b2 : v5 == 2 with
        | true => exact ⟨_, _, by simp only [F_spec_l1Cur_proposal, e1, e2, e3, eo, e4, cond_true, cond_false, z0, z1, z2, Bool.and_self, e5, b0, b1, b2, e8]; rfl, h8.mono (by omega), ⟨Nat.le_trans g8 (by omega), Nat.le_trans lr (by omega)⟩⟩
        | false =>
          cases b3 : v5 == 3 with
          | true => exact ⟨_, _, by simp only [F_spec_l1Cur_proposal, e1, e2, e3, eo, e4, cond_true, cond_false, z0, z1, z2, Bool.and_self, e5, b0, b1, b2, b3, e9, z3]; rfl, h9.mono (by omega), ⟨Nat.le_trans q2 (by omega), by simp only [List.length_append, List.length_singleton]; omega⟩⟩
          | false => exact ⟨_, _, by simp only [F_spec_l1Cur_proposal, e1, e2, e3, eo, e4, cond_true, cond_false, z0, z1, z2, Bool.and_self, e5, b0, b1, b2, b3]; rfl, h5.mono (by omega), ⟨Nat.le_trans q2 (by omega), Nat.le_trans lr (by omega)⟩⟩
  | false =>
    cases b0 : v5 == 0 with
    | true => exact ⟨_, _, by simp only [F_spec_l1Cur_proposal, e1, e2, e3, eo, e4, cond_true, cond_false, e5, b0, e6]; rfl, h6.mono (by omega), ⟨Nat.le_trans q2 (by omega), Nat.le_trans q3 (by omega)⟩⟩
    | false =>
      cases b1 : v5 == 1 with
      | true => exact ⟨_, _, by simp only [F_spec_l1Cur_proposal, e1, e2, e3, eo, e4, cond_true, cond_false, e5, b0, b1, e7]; rfl, h7.mono (by omega), ⟨Nat.le_trans q2 (by omega), Nat.le_trans q3 (by omega)⟩⟩
      | false =>
        cases b2 : v5 == 2 with
        | true => exact ⟨_, _, by simp only [F_spec_l1Cur_proposal, e1, e2, e3, eo, e4, cond_true, cond_false, e5, b0, b1, b2, e8]; rfl, h8.mono (by omega), ⟨Nat.le_trans g8 (by omega), Nat.le_trans q3 (by omega)⟩⟩
        | false =>
          cases b3 : v5 == 3 with
          | true => exact ⟨_, _, by simp only [F_spec_l1Cur_proposal, e1, e2, e3, eo, e4, cond_true, cond_false, e5, b0, b1, b2, b3, e9, z4]; rfl, h9.mono (by omega), ⟨Nat.le_trans q2 (by omega), by simp only [List.length_append, List.length_singleton]; omega⟩⟩
          | false => exact ⟨_, _, by simp only [F_spec_l1Cur_proposal, e1, e2, e3, eo, e4, cond_true, cond_false, e5, b0, b1, b2, b3]; rfl, h5.mono (by omega), ⟨Nat.le_trans q2 (by omega), Nat.le_trans q3 (by omega)⟩⟩
structure SmallL (l : List PropD) : Prop where
  len : l.length ≤ 13
  all : ∀ e ∈ l, SmallP e
theorem props_loop {n : Nat} {c : List Int × (Int × Int)} (h : CurOK n c) (hn : n ≤ 4611686018427300000) {m N : Int} (m0 : 0 ≤ m) (m1 : m ≤ 8) (n0 : 0 ≤ N) (n1 : N ≤ 13) :
    ∃ o, runL step_spec_l1Cur_proposals_0 (m, N, (1, c.1, (c.2.1, c.2.2, []))) = some o ∧ o.1 = m ∧ o.2.1 = N ∧ (o.2.2.1.length : Int) = N ∧ SmallL o.2.2.1 ∧ CurOK (n + 600) o.2.2.2 := by
  obtain ⟨o, eo, q1, q2, q3, q4, q5⟩ := runL_inv (f := step_spec_l1Cur_proposals_0)
    (fun s => s.1 = m ∧ s.2.1 = N ∧ (s.2.2.2.2.2.2.length : Int) ≤ N ∧ (∀ e ∈ s.2.2.2.2.2.2, SmallP e) ∧ CurOK (n + 40 * s.2.2.2.2.2.2.length) (s.2.2.2.1, s.2.2.2.2.1, s.2.2.2.2.2.1))
    (fun o => o.1 = m ∧ o.2.1 = N ∧ (o.2.2.1.length : Int) = N ∧ (∀ e ∈ o.2.2.1, SmallP e) ∧ CurOK (n + 600) o.2.2.2) (fun s => 13 - s.2.2.2.2.2.2.length) (by
    rintro ⟨s1, s2, s3, code, i, seed, l⟩ ⟨r1, r2, r3, r4, r5⟩
    simp only at r1 r2 r3 r4 r5
    subst r1 r2
    cases hl : decide ((l.length : Int) < s2) with
    | false =>
      left
      have hl' := of_decide_eq_false hl
      have hc : CurOK (n + 600) (code, i, seed) := r5.mono (by omega)
      exact ⟨_, by simp only [step_spec_l1Cur_proposals_0, hl, cond_false]; rfl, rfl, rfl, by show (l.length : Int) = s2; omega, r4, hc⟩
    | true =>
      right
      have hl' := of_decide_eq_true hl
      obtain ⟨d1, p, f1, k1, sp⟩ := proposal_ok r5 (by omega) s3 m0 m1
      obtain ⟨d2, w, f2, k2, _, _⟩ := pick_ok k1 (by omega) (k := 3) (by omega) (by omega)
      have room : decide ((l.length + ([p] : List PropD).length) * 56 ≤ 140737488355328) = true := decide_eq_true (by simp; omega)
      refine ⟨_, by simp only [step_spec_l1Cur_proposals_0, hl, cond_true, f1, room, Bool.and_self, f2]; rfl, ⟨rfl, rfl, by simp; omega, fun e he => ?_, ?_⟩, by simp; omega⟩
      · rcases List.mem_append.1 he with h' | h'
        · exact r4 e h'
        · obtain rfl : e = p := by simpa using h'
          exact sp
      · simp only [List.length_append, List.length_singleton]
        exact k2.mono (by omega)) (m, N, (1, c.1, (c.2.1, c.2.2, []))) ⟨rfl, rfl, by simpa using n0, by simp, h.mono (by simp)⟩
  exact ⟨o, eo, q1, q2, q3, ⟨by omega, q4⟩, q5⟩
theorem props_end {n : Nat} {c : List Int × (Int × Int)} (h : CurOK n c) (hn : n ≤ 4611686018427300000) {m N : Int} (m0 : 0 ≤ m) (m1 : m ≤ 8) {l : List PropD} (hl : (l.length : Int) = N) (hs : SmallL l) {R : Option ((List Int × (Int × Int)) × List PropD × Int)}
    (hR : R = match F_spec_l1Cur_pick (c, 24) with
      | none => none
      | some y21 =>
        bif ((y21.2 == 0)) then
          bif (decide (N > 0)) then
            match F_spec_l1Cur_proposal ((y21.1, 999, m)) with
            | none => none
            | some y23 =>
              bif decide (0 ≤ IntKind.i64.wrap (N - 1)) && decide (IntKind.i64.wrap (N - 1) < (l.length : Int)) then
                some ((y23.1, l.set (IntKind.i64.wrap (N - 1)).toNat (y23.2), m))
              else none
          else
            some ((y21.1, l, m))
        else
          bif ((y21.2 == 1)) then
            match F_spec_l1Cur_among ((y21.1, [0, 8, IntKind.i64.wrap (m + 1), (-1)])) with
            | none => none
            | some y26 =>
              some ((y26.1, l, y26.2))
          else
            some ((y21.1, l, m))) : ∃ c' r k, R = some (c', r, k) ∧ CurOK (n + 40) c' ∧ SmallL r := by
  have hlen := hs.len
  obtain ⟨c1, v1, e1, h1, _, _⟩ := pick_ok h (by omega) (k := 24) (by omega) (by omega)
  obtain ⟨c2, p, e2, h2, sp⟩ := proposal_ok h1 (by omega) 999 m0 m1
  obtain ⟨c3, v3, e3, h3⟩ := among2 h1 (by omega) [0, 8, IntKind.i64.wrap (m + 1), (-1)] (by simp) (by simp)
  simp only [e1] at hR
  cases b0 : v1 == 0 with
  | true =>
    rw [b0] at hR
    simp only [cond_true] at hR
    cases b1 : decide (N > 0) with
    | true =>
      have hN := of_decide_eq_true b1
      have hw : IntKind.i64.wrap (N - 1) = N - 1 := wrap_id (by omega) (by omega)
      have z0 : decide (0 ≤ N - 1) = true := decide_eq_true (by omega)
      have z1 : decide (N - 1 < (l.length : Int)) = true := decide_eq_true (by omega)
      simp only [b1, cond_true, e2, hw, z0, z1, Bool.and_self] at hR
      refine ⟨_, _, _, hR, h2.mono (by omega), ⟨by simpa using hlen, fun e he => ?_⟩⟩
      rcases List.mem_or_eq_of_mem_set he with h' | rfl
      · exact hs.all e h'
      · exact sp
    | false =>
      simp only [b1, cond_false] at hR
      exact ⟨_, _, _, hR, h1.mono (by omega), hs⟩
  | false =>
    rw [b0] at hR
    simp only [cond_false] at hR
    cases b1 : v1 == 1 with
    | true =>
      simp only [b1, cond_true, e3] at hR
      exact ⟨_, _, _, hR, h3.mono (by omega), hs⟩
    | false =>
      simp only [b1, cond_false] at hR
      exact ⟨_, _, _, hR, h1.mono (by omega), hs⟩
theorem proposals_ok {n : Nat} {c : List Int × (Int × Int)} (h : CurOK n c) (hn : n ≤ 4611686018427000000) : ∃ c' l k, F_spec_l1Cur_proposals c = some (c', l, k) ∧ CurOK (n + 700) c' ∧ SmallL l := by
  obtain ⟨c1, v1, e1, h1, m1⟩ := among_ok h (by omega) (l := [1, 2, 3, 3, 5, 7]) (by simp) (by simp)
  have hm : 0 ≤ v1 ∧ v1 ≤ 8 := by
    simp only [List.mem_cons, List.not_mem_nil, or_false] at m1
    omega
  obtain ⟨c2, v2, e2, h2, a2, b2⟩ := pick_ok h1 (by omega) (k := 6) (by omega) (by omega)
  obtain ⟨c3, v3, e3, h3⟩ := one_ok h2 (by omega) (k := 12) (by omega) (by omega)
  cases v3 with
  | true =>
    obtain ⟨c4, v4, e4, h4, a4, b4⟩ := pick_ok h3 (by omega) (k := 2) (by omega) (by omega)
    have hw : IntKind.i64.wrap (12 + v4) = 12 + v4 := wrap_id (by omega) (by omega)
    obtain ⟨o, eo, q1, q2, q3, q4, q5⟩ := props_loop h4 (by omega) hm.1 hm.2 (N := 12 + v4) (by omega) (by omega)
    obtain ⟨c', r, k, e, h', hs⟩ := props_end q5 (by omega) (m := o.1) (N := o.2.1) (by omega) (by omega) (by omega) q4 rfl
    refine ⟨c', r, k, ?_, h'.mono (by omega), hs⟩
    simp only [F_spec_l1Cur_proposals, e1, e2, e3, e4, cond_true, hw, eo]
    exact e
  | false =>
    obtain ⟨o, eo, q1, q2, q3, q4, q5⟩ := props_loop h3 (by omega) hm.1 hm.2 (N := v2) (by omega) (by omega)
    obtain ⟨c', r, k, e, h', hs⟩ := props_end q5 (by omega) (m := o.1) (N := o.2.1) (by omega) (by omega) (by omega) q4 rfl
    refine ⟨c', r, k, ?_, h'.mono (by omega), hs⟩
    simp only [F_spec_l1Cur_proposals, e1, e2, e3, cond_false, eo]
    exact e
theorem numberIn_ok {n : Nat} {c : List Int × (Int × Int)} (h : CurOK n c) (hn : n ≤ 4611686018427000000) {l : List PropD} (hl : l.length ≤ 13) : ∃ c' k, F_spec_l1Cur_numberIn (c, l) = some (c', k) ∧ CurOK (n + 4) c' := by
  obtain ⟨d, w, e, k⟩ := among2 h (by omega) [1, 0, 50, (-1)] (by simp) (by simp)
  cases b0 : decide ((l.length : Int) > 0) with
  | false => exact ⟨_, _, by simp only [F_spec_l1Cur_numberIn, b0, cond_false, e]; rfl, k.mono (by omega)⟩
  | true =>
    have hp := of_decide_eq_true b0
    obtain ⟨c1, v1, e1, h1⟩ := one_ok h (by omega) (k := 8) (by omega) (by omega)
    obtain ⟨d1, w1, f1, k1⟩ := among2 h1 (by omega) [1, 0, 50, (-1)] (by simp) (by simp)
    cases v1 with
    | true => exact ⟨_, _, by simp only [F_spec_l1Cur_numberIn, b0, cond_true, e1, Bool.not_true, cond_false, f1]; rfl, k1.mono (by omega)⟩
    | false =>
      obtain ⟨c2, v2, e2, h2, a2, b2⟩ := pick_ok h1 (by omega) (k := (l.length : Int)) (by omega) (by omega)
      have z0 : decide (0 ≤ v2) = true := decide_eq_true a2
      have z1 : decide (v2 < (l.length : Int)) = true := decide_eq_true b2
      exact ⟨_, _, by simp only [F_spec_l1Cur_numberIn, b0, cond_true, e1, Bool.not_false, e2, z0, z1, Bool.and_self]; rfl, h2.mono (by omega)⟩
/-- the drawn bytes -/
def Bytes (code : List Int) : Prop := code.length ≤ 1048576 ∧ ∀ b ∈ code, 0 ≤ b ∧ b ≤ 255
theorem Bytes.cur {code : List Int} (h : Bytes code) : CurOK 0 (code, ((0 : Int), (0 : Int))) := ⟨h.1, h.2, by simp, by simp⟩
theorem DrawCastVote_ok {code : List Int} (h : Bytes code) : ∃ l m n a v, F_spec_DrawCastVote code = some (l, m, n, a, v) ∧ SmallL l := by
  obtain ⟨c1, l, m, e1, h1, s1⟩ := proposals_ok h.cur (by omega)
  obtain ⟨c2, n, e2, h2⟩ := numberIn_ok h1 (by omega) s1.len
  obtain ⟨c4, v4, e4, h4⟩ := among2 h2 (by omega) [0, m, (-1)] (by simp) (by simp)
  obtain ⟨c5, v5, e5, h5⟩ := among2 h4 (by omega) [0, 1, IntKind.i64.wrap (m - 1), v4] (by simp) (by simp)
  obtain ⟨c6, v6, e6, h6⟩ := among2 h5 (by omega) [(-1), 0, 2] (by simp) (by simp)
  obtain ⟨c7, v7, e7, h7⟩ := among2 h6 (by omega) [1, (-1), 1, v6] (by simp) (by simp)
  exact ⟨l, m, n, v5, v7, by simp only [F_spec_DrawCastVote, e1, e2, e4, e5, e6, e7], s1⟩
theorem DrawVotesMissing_ok {code : List Int} (h : Bytes code) : ∃ l m n, F_spec_DrawVotesMissing code = some (l, m, n) ∧ SmallL l := by
  obtain ⟨c1, l, m, e1, h1, s1⟩ := proposals_ok h.cur (by omega)
  obtain ⟨c2, n, e2, h2⟩ := numberIn_ok h1 (by omega) s1.len
  exact ⟨l, m, n, by simp only [F_spec_DrawVotesMissing, F_spec_DrawIsPassed, e1, e2], s1⟩
theorem DrawProposalText_ok {code : List Int} (h : Bytes code) : ∃ p, F_spec_DrawProposalText code = some p ∧ SmallP p := by
  obtain ⟨c1, v1, e1, h1⟩ := among2 h.cur (by omega) [1, 12, 999] (by simp) (by simp)
  obtain ⟨c2, v2, e2, h2, m2⟩ := among_ok h1 (by omega) (l := [0, 8]) (by simp) (by simp)
  obtain ⟨c3, v3, e3, h3, m3⟩ := among_ok h2 (by omega) (l := [1, 3, 7, v2]) (by simp) (by simp)
  have hv : 0 ≤ v3 ∧ v3 ≤ 8 := by
    simp only [List.mem_cons, List.not_mem_nil, or_false] at m2 m3
    omega
  obtain ⟨c4, p, e4, h4, sp⟩ := proposal_ok h3 (by omega) v1 hv.1 hv.2
  exact ⟨p, by simp only [F_spec_DrawProposalText, e1, e2, e3, e4], sp⟩
end Go.Proofs.YtdpkcnmlflngpaaDoor
/- The law of WithdrawProposal, as plain Lean: it answers true. Lengths fit an int. -/
set_option linter.unusedVariables false
set_option linter.unusedSimpArgs false
namespace Go.Proofs.YtdpkcnmlflngpaaDoor
open Go
theorem Fits.sub {l r : List Prop'} (hf : Fits l) (hl : r.length ≤ l.length) (hm : ∀ x ∈ r, x ∈ l) : Fits r :=
  ⟨by have := hf.len; omega, fun x hx => hf.gloss x (hm x hx), fun x hx => hf.votes x (hm x hx)⟩
theorem ContainsFunc_int_is (l : List Int) (hl : l.length ≤ 9223372036854775807) (φ : Int → Option Bool) (p : Int → Bool) (hφ : ∀ x, φ x = some (p x)) :
    F_slices_ContainsFunc_int_int (l, φ) = some (l.any p) := by
  rcases runL_first (f := step_slices_IndexFunc_int_int_0) (fun i => !p (l.getD i 0)) (fun i => (l, φ, (l.length : Int), (i : Int))) (fun i => .inl (i : Int)) (.inr ()) l.length (fun i hi => by
    have hw := wrap_succ (i := i) (by omega)
    simp only [step_slices_IndexFunc_int_int_0, lt_len hi, nonneg, Bool.and_self, cond_true, Int.toNat_natCast, hw, hφ]
    cases p (l.getD i 0) <;> rfl) (by simp [step_slices_IndexFunc_int_int_0]) with ⟨t, hp⟩ | ⟨i, hi, hp, hj, t⟩
  · have t' : runL step_slices_IndexFunc_int_int_0 (l, φ, (l.length : Int), (0 : Int)) = _ := t
    have : l.any p = false := by
      rw [List.any_eq_false]
      intro x hx
      obtain ⟨i, hi, rfl⟩ := List.getElem_of_mem hx
      have := hp i hi
      simpa [List.getD, List.getElem?_eq_getElem hi] using this
    simp only [F_slices_ContainsFunc_int_int, F_slices_IndexFunc_int_int, t', this]
    rfl
  · have t' : runL step_slices_IndexFunc_int_int_0 (l, φ, (l.length : Int), (0 : Int)) = _ := t
    have : l.any p = true := by
      rw [List.any_eq_true]
      refine ⟨l.getD i 0, getD_mem hi 0, by simpa using hp⟩
    simp only [F_slices_ContainsFunc_int_int, F_slices_IndexFunc_int_int, t', this]
    simp
theorem any_count (l : List Int) : l.any (fun x => x != 0) = decide (((l.count 0 : Nat) : Int) < (l.length : Int)) := by
  have h := List.count_le_length (a := (0 : Int)) (l := l)
  cases ha : l.any (fun x => x != 0) with
  | false =>
    rw [List.any_eq_false] at ha
    have : l.count 0 = l.length := List.count_eq_length.2 fun b hb => by have := ha b hb; simp at this; omega
    rw [this]; simp
  | true =>
    rw [List.any_eq_true] at ha
    obtain ⟨x, hx, hne⟩ := ha
    have : l.count 0 ≠ l.length := fun e => by
      have := List.count_eq_length.1 e x hx
      simp at hne; omega
    symm
    apply decide_eq_true
    omega
theorem WithdrawProposal_same (l : List Prop') (m n : Int) (hf : Fits l) : ∃ o, F_spec_WithdrawProposal (l, m, n) = some o ∧ F_impl_WithdrawProposal (l, m, n) = some o ∧ Fits o.1 := by
  have h1 := ofFind_is l n hf.len
  have h2 := proposalAt_is l n hf.len
  have h3 := ofGood_is l m hf
  have h4 := AreProposals_is l m hf
  have h5 := copyProposals_is l hf
  cases hg : good m l with
  | false => exact ⟨([], false), by simp [F_spec_WithdrawProposal, h1, h3, hg], by simp [F_impl_WithdrawProposal, h2, h4, hg], fits_nil⟩
  | true =>
    rcases findP_cases l n with e | ⟨i, hi, e⟩
    · exact ⟨([], false), by simp [F_spec_WithdrawProposal, h1, h3, hg, e], by simp [F_impl_WithdrawProposal, h2, h4, hg, e], fits_nil⟩
    · have hn : decide ((i : Int) < 0) = false := by simp
      obtain ⟨g1, g2⟩ := good_votes hg hi
      have g2 : ((l.getD i (0, (0, ByteArray.empty, []))).2.2.2.length : Int) = m := g2
      have hvl : (l.getD i (0, (0, ByteArray.empty, []))).2.2.2.length ≤ 1048576 := hf.votes _ (getD_mem hi dP)
      have hc := ofCount_is (l.getD i (0, (0, ByteArray.empty, []))) 0 hvl
      have hx := ContainsFunc_int_is (l.getD i (0, (0, ByteArray.empty, []))).2.2.2 (by omega) (K_impl_WithdrawProposal_1 ()) (fun x => x != 0) (fun x => rfl)
      rw [any_count, g2] at hx
      cases hb : decide ((((l.getD i (0, (0, ByteArray.empty, []))).2.2.2.count 0 : Nat) : Int) < m) with
      | true =>
        rw [hb] at hx
        exact ⟨([], false), by simp only [F_spec_WithdrawProposal, h1, h3, hg, e, hn, Bool.not_true, cond_false, nonneg, lt_len hi, Bool.and_self, cond_true, Int.toNat_natCast, hc, hb], by simp only [F_impl_WithdrawProposal, h2, h4, hg, e, hn, Bool.not_true, cond_false, nonneg, lt_len hi, Bool.and_self, cond_true, Int.toNat_natCast, hx], fits_nil⟩
      | false =>
        rw [hb] at hx
        have hlen := hf.len
        have hw : IntKind.i64.wrap ((i : Int) + 1) = ((i + 1 : Nat) : Int) := wrap_succ (by omega)
        have f1 : Fits (l.take i) := hf.sub (by rw [List.length_take]; exact Nat.min_le_right ..) (fun x hx => (List.take_sublist _ _).mem hx)
        have f2 : Fits (l.drop (i + 1)) := hf.sub (by simp) (fun x hx => (List.drop_sublist _ _).mem hx)
        have e1 : (l.drop ((0 : Int)).toNat).take (((i : Int)).toNat - ((0 : Int)).toNat) = l.take i := by simp
        have e2 : (l.drop (((i + 1 : Nat) : Int)).toNat).take (((l.length : Int)).toNat - (((i + 1 : Nat) : Int)).toNat) = l.drop (i + 1) := by
          rw [Int.toNat_natCast, Int.toNat_natCast]
          exact List.take_of_length_le (by simp)
        have q0 : decide (0 ≤ (0 : Int)) = true := rfl
        have q1 : decide ((i : Int) ≤ (l.length : Int)) = true := decide_eq_true (by omega)
        have q2 : decide (((i + 1 : Nat) : Int) ≤ (l.length : Int)) = true := decide_eq_true (by omega)
        have q3 : decide ((l.length : Int) ≤ (l.length : Int)) = true := decide_eq_true (Int.le_refl _)
        have d3 : decide (((l.take i).length + (l.drop (i + 1)).length) * 56 ≤ 140737488355328) = true := by
          exact decide_eq_true (by simp; omega)
        have d4 : F_slices_Delete_impl_Proposal_impl_Proposal (l, (i : Int), ((i + 1 : Nat) : Int)) = some (l.take i ++ l.drop (i + 1)) := by
          have h1 : decide (0 ≤ (i : Int)) = true := nonneg i
          have h2 : decide ((i : Int) ≤ ((i + 1 : Nat) : Int)) = true := decide_eq_true (by omega)
          have h3 : decide (((i + 1 : Nat) : Int) ≤ (l.length : Int)) = true := decide_eq_true (by omega)
          have h4 : decide (l.length ≤ 9223372036854775807) = true := decide_eq_true (by omega)
          simp only [F_slices_Delete_impl_Proposal_impl_Proposal, h1, h2, h3, h4, Bool.and_self, cond_true, Int.toNat_natCast]
        refine ⟨(l.take i ++ l.drop (i + 1), true), ?_, ?_, hf.sub (by simp; omega) (fun x hx => ?_)⟩
        · simp only [F_spec_WithdrawProposal, h1, h3, hg, e, hn, Bool.not_true, cond_false, nonneg, lt_len hi, Bool.and_self, cond_true, hw, e1, e2, q0, q1, q2, q3, ofOwn_is _ f1, ofOwn_is _ f2]
          rw [Int.toNat_natCast, hc]
          simp only [hb, cond_false, d3, Bool.and_true, cond_true]
        · simp only [F_impl_WithdrawProposal, h2, h4, hg, e, hn, Bool.not_true, cond_false, nonneg, lt_len hi, Bool.and_self, cond_true, hw, h5, d4]
          rw [Int.toNat_natCast, hx]
          simp only [cond_false]
        · rcases List.mem_append.1 hx with h | h
          · exact (List.take_sublist _ _).mem h
          · exact (List.drop_sublist _ _).mem h
end Go.Proofs.YtdpkcnmlflngpaaDoor
/- The law of VotesMissing, as plain Lean: it answers true. Lengths fit an int. -/
set_option linter.unusedVariables false
set_option linter.unusedSimpArgs false
namespace Go.Proofs.YtdpkcnmlflngpaaDoor
open Go
theorem votes_loop (l : List Prop') (i : Nat) (hi : i < l.length) (hv : (l.getD i dP).2.2.2.length ≤ 1048576) (hok : votesOK (l.getD i dP).2.2.2 = true) :
    ∃ o, runL step_spec_VotesMissing_0 (l, (i : Int), 0) = some o ∧ runL step_impl_VotesMissing_0 (l, (i : Int), (((l.getD i dP).2.2.2.count 0 + 1 : Nat) : Int), 0) = some o := by
  have hc : (l.getD i dP).2.2.2.count 0 ≤ (l.getD i dP).2.2.2.length := List.count_le_length
  have hcnt := ofCount_is (l.getD i dP) 0 hv
  obtain ⟨o, p, e1, e2, rfl⟩ := runL_sim (f := step_spec_VotesMissing_0) (g := step_impl_VotesMissing_0)
    (fun s t => ∃ n : Nat, s = (l, (i : Int), (n : Int)) ∧ t = (l, (i : Int), (((l.getD i dP).2.2.2.count 0 + 1 : Nat) : Int), (n : Int)) ∧ n ≤ (l.getD i dP).2.2.2.count 0 + 1)
    (fun o p => o = p) (fun s => (l.getD i dP).2.2.2.count 0 + 1 - s.2.2.toNat) (by
    rintro s t ⟨n, rfl, rfl, hn⟩
    rcases Nat.lt_or_ge n ((l.getD i dP).2.2.2.count 0 + 1) with hlt | hge
    · have hw := wrap_succ (i := n) (by omega)
      have hle : decide ((n : Int) ≤ (((l.getD i dP).2.2.2.count 0 : Nat) : Int)) = true := decide_eq_true (by omega)
      have p1 := ofPassed_is (l.getD i dP) (n : Int) hv (by omega) (by omega)
      have p2 := passed_is (l.getD i dP) (n : Int) hv hok (by omega) (by omega)
      cases hp : passes (l.getD i dP).2.2.2 (n : Int) with
      | true =>
        left
        refine ⟨.inl ((n : Int), true), _, ?_, ?_, rfl⟩
        · simp only [step_spec_VotesMissing_0, lt_len hi, nonneg, Bool.and_self, cond_true, Int.toNat_natCast, hcnt, hle, p1, hp]
        · simp only [step_impl_VotesMissing_0, lt_len hi, lt_len hlt, nonneg, Bool.and_self, cond_true, Int.toNat_natCast, p2, hp]
      | false =>
        right
        refine ⟨(l, (i : Int), ((n + 1 : Nat) : Int)), (l, (i : Int), (((l.getD i dP).2.2.2.count 0 + 1 : Nat) : Int), ((n + 1 : Nat) : Int)), ?_, ?_, ⟨n + 1, rfl, rfl, by omega⟩, by simp only [Int.toNat_natCast]; omega⟩
        · simp only [step_spec_VotesMissing_0, lt_len hi, nonneg, Bool.and_self, cond_true, Int.toNat_natCast, hcnt, hle, p1, hp, cond_false, hw]
        · simp only [step_impl_VotesMissing_0, lt_len hi, lt_len hlt, nonneg, Bool.and_self, cond_true, Int.toNat_natCast, p2, hp, cond_false, hw]
    · left
      have : n = (l.getD i dP).2.2.2.count 0 + 1 := by omega
      subst this
      have hle : decide ((((l.getD i dP).2.2.2.count 0 + 1 : Nat) : Int) ≤ (((l.getD i dP).2.2.2.count 0 : Nat) : Int)) = false := decide_eq_false (by omega)
      refine ⟨.inr (), .inr (), ?_, ?_, rfl⟩
      · simp only [step_spec_VotesMissing_0, lt_len hi, nonneg, Bool.and_self, cond_true, Int.toNat_natCast, hcnt, hle, cond_false]
      · simp only [step_impl_VotesMissing_0, not_lt_len, cond_false]) (l, (i : Int), 0) (l, (i : Int), (((l.getD i dP).2.2.2.count 0 + 1 : Nat) : Int), 0) ⟨0, rfl, rfl, by omega⟩
  exact ⟨o, e1, e2⟩
theorem VotesMissing_same (l : List Prop') (m n : Int) (hf : Fits l) : ∃ o, F_spec_VotesMissing (l, m, n) = some o ∧ F_impl_VotesMissing (l, m, n) = some o := by
  have h1 := ofFind_is l n hf.len
  have h2 := proposalAt_is l n hf.len
  have h3 := ofGood_is l m hf
  have h4 := AreProposals_is l m hf
  cases hg : good m l with
  | false => exact ⟨(0, false), by simp [F_spec_VotesMissing, h1, h3, hg], by simp [F_impl_VotesMissing, h2, h4, hg]⟩
  | true =>
    rcases findP_cases l n with e | ⟨i, hi, e⟩
    · exact ⟨(0, false), by simp [F_spec_VotesMissing, h1, h3, hg, e], by simp [F_impl_VotesMissing, h2, h4, hg, e]⟩
    · have hv := hf.votes _ (getD_mem hi dP)
      have hc : (l.getD i dP).2.2.2.count 0 ≤ (l.getD i dP).2.2.2.length := List.count_le_length
      obtain ⟨o, e1, e2⟩ := votes_loop l i hi hv (good_votes hg hi).1
      obtain ⟨r, r1, r2⟩ := those_int_is (l.getD i dP).2.2.2 hv (K_impl_VotesMissing_1 ()) (fun x => x == 0) (fun x => rfl)
      have hw : IntKind.i64.wrap ((r.length : Int) + 1) = (((l.getD i dP).2.2.2.count 0 + 1 : Nat) : Int) := by
        rw [wrap_succ (by rw [r2]; show List.count 0 _ < _; omega), r2]; rfl
      have hn : decide ((i : Int) < 0) = false := by simp
      rcases o with o | o
      · refine ⟨o, ?_, ?_⟩
        · simp only [F_spec_VotesMissing, h1, h3, hg, e, hn, Bool.not_true, cond_false, e1]
        · simp only [F_impl_VotesMissing, h2, h4, hg, e, hn, Bool.not_true, cond_false, nonneg, lt_len hi, Bool.and_self, cond_true, Int.toNat_natCast, r1, hw, e2]
      · refine ⟨(0, false), ?_, ?_⟩
        · simp only [F_spec_VotesMissing, h1, h3, hg, e, hn, Bool.not_true, cond_false, e1]
        · simp only [F_impl_VotesMissing, h2, h4, hg, e, hn, Bool.not_true, cond_false, nonneg, lt_len hi, Bool.and_self, cond_true, Int.toNat_natCast, r1, hw, e2]
end Go.Proofs.YtdpkcnmlflngpaaDoor
/- What casting, withdrawing and counting do to proposals: plain laws. No conditions. -/
set_option linter.unusedVariables false
set_option linter.unusedSimpArgs false
namespace Go.Proofs.YtdpkcnmlflngpaaDoor
open Go
theorem getD_set {α : Type} (l : List α) (i j : Nat) (e d : α) : (l.set i e).getD j d = if i = j ∧ j < l.length then e else l.getD j d := by
  simp only [List.getD, List.getElem?_set]
  by_cases h : i = j
  · subst h
    by_cases h2 : i < l.length
    · simp [h2]
    · simp [h2]
  · simp [h]
theorem good_iff {m : Int} {l : List Prop'} : good m l = true ↔ (∀ i, i < l.length → goodAt m l i = true) ∧ 1 ≤ m ∧ m ≤ 7 ∧ l.length ≤ 12 := by
  unfold good
  simp only [Bool.and_eq_true, allN_true, decide_eq_true_eq]
  constructor
  · rintro ⟨⟨h1, h2, h3⟩, h4⟩; exact ⟨h1, h2, h3, by omega⟩
  · rintro ⟨h1, h2, h3, h4⟩; exact ⟨⟨h1, h2, h3⟩, by omega⟩
theorem goodAt_iff {m : Int} {l : List Prop'} {i : Nat} : goodAt m l i = true ↔ numOK (l.getD i dP) = true ∧ ((l.getD i dP).2.2.2.length : Int) = m ∧ votesOK (l.getD i dP).2.2.2 = true ∧ (i = 0 ∨ (l.getD (i - 1) dP).1 < (l.getD i dP).1) := by
  unfold goodAt rises
  simp only [Bool.and_eq_true, Bool.or_eq_true, beq_iff_eq, decide_eq_true_eq, Bool.not_eq_true', decide_eq_false_iff_not]
  constructor
  · rintro ⟨⟨⟨h1, h2⟩, h3⟩, h4⟩; exact ⟨h1, h2, h3, h4.imp_right fun h => by omega⟩
  · rintro ⟨h1, h2, h3, h4⟩; exact ⟨⟨⟨h1, h2⟩, h3⟩, h4.imp_right fun h => by omega⟩
theorem num_lt {m : Int} {l : List Prop'} (h : good m l = true) : ∀ {i j : Nat}, i < j → j < l.length → (l.getD i dP).1 < (l.getD j dP).1 := by
  intro i j hij hj
  induction j with
  | zero => omega
  | succ j ih =>
    have hs := (goodAt_iff.1 ((good_iff.1 h).1 (j + 1) hj)).2.2.2
    have hs : (l.getD j dP).1 < (l.getD (j + 1) dP).1 := by
      rcases hs with hs | hs
      · omega
      · exact hs
    rcases Nat.lt_succ_iff_lt_or_eq.1 hij with h' | rfl
    · have := ih h' (by omega); omega
    · exact hs
theorem findP_hit {l : List Prop'} {n : Int} {i : Nat} (h : findP l n = (i : Int)) (hi : i < l.length) : (l.getD i dP).1 = n := by
  unfold findP at h
  rcases firstN_cases (fun i => (l.getD i dP).1 == n) l.length with ⟨e, _⟩ | ⟨k, hk, e, hp, _⟩
  · rw [e] at h; omega
  · rw [e] at h
    have : k = i := by omega
    subst this
    simpa using hp
theorem findP_at {m : Int} {l : List Prop'} {n : Int} {i : Nat} (hg : good m l = true) (hi : i < l.length) (hn : (l.getD i dP).1 = n) : findP l n = (i : Int) := by
  unfold findP
  refine firstN_at hi (by simpa using hn) (fun j hj => ?_)
  have h1 := num_lt hg hj hi
  have h2 : (l.getD j dP).1 ≠ n := by omega
  simpa using h2
theorem good_set {m : Int} {l : List Prop'} (h : good m l = true) {i : Nat} (hi : i < l.length) {vs : List Int} (hl : (vs.length : Int) = m) (hv : votesOK vs = true) :
    good m (l.set i ((l.getD i dP).1, ((l.getD i dP).2.1, (l.getD i dP).2.2.1, vs))) = true := by
  obtain ⟨h1, h2, h3, h4⟩ := good_iff.1 h
  have num : ∀ j, ((l.set i ((l.getD i dP).1, ((l.getD i dP).2.1, (l.getD i dP).2.2.1, vs))).getD j dP).1 = (l.getD j dP).1 := by
    intro j
    rw [getD_set]
    split
    · rename_i h; rw [h.1]
    · rfl
  refine good_iff.2 ⟨fun j hj => ?_, h2, h3, by simpa using h4⟩
  have hj' : j < l.length := by simpa using hj
  obtain ⟨g1, g2, g3, g4⟩ := goodAt_iff.1 (h1 j hj')
  refine goodAt_iff.2 ⟨?_, ?_, ?_, ?_⟩
  · rw [getD_set]
    split
    · rename_i h
      obtain ⟨rfl, _⟩ := h
      exact g1
    · exact g1
  · rw [getD_set]
    split
    · exact hl
    · exact g2
  · rw [getD_set]
    split
    · exact hv
    · exact g3
  · rw [num, num]; exact g4
theorem findP_set {m : Int} {l : List Prop'} {n : Int} {i : Nat} (k : Int) (g : ByteArray) (vs : List Int) (hi : i < l.length) (h : findP l n = (i : Int)) (hg : good m (l.set i ((l.getD i dP).1, (k, g, vs))) = true) :
    findP (l.set i ((l.getD i dP).1, (k, g, vs))) n = (i : Int) := by
  refine findP_at hg (by simpa using hi) ?_
  rw [getD_set, if_pos ⟨rfl, hi⟩]
  exact findP_hit h hi
theorem getD_cut (l : List Prop') {i j : Nat} (hi : i < l.length) : (l.take i ++ l.drop (i + 1)).getD j dP = l.getD (if j < i then j else j + 1) dP := by
  simp only [List.getD]
  by_cases h : j < i
  · rw [List.getElem?_append_left (by simp; omega), List.getElem?_take, if_pos h, if_pos h]
  · rw [List.getElem?_append_right (by simp; omega), List.getElem?_drop, if_neg h]
    simp only [List.length_take]
    congr 2
    omega
theorem good_cut {m : Int} {l : List Prop'} (h : good m l = true) {i : Nat} (hi : i < l.length) : good m (l.take i ++ l.drop (i + 1)) = true := by
  obtain ⟨h1, h2, h3, h4⟩ := good_iff.1 h
  refine good_iff.2 ⟨fun j hj => ?_, h2, h3, by simp; omega⟩
  have hj' : j < l.length - 1 := by simp at hj; omega
  have hq : (if j < i then j else j + 1) < l.length := by split <;> omega
  obtain ⟨g1, g2, g3, g4⟩ := goodAt_iff.1 (h1 _ hq)
  refine goodAt_iff.2 ⟨by rw [getD_cut l hi]; exact g1, by rw [getD_cut l hi]; exact g2, by rw [getD_cut l hi]; exact g3, ?_⟩
  rcases Nat.eq_zero_or_pos j with e | e
  · exact .inl e
  · right
    rw [getD_cut l hi, getD_cut l hi]
    exact num_lt h (by split <;> split <;> omega) hq
theorem findP_cut {m : Int} {l : List Prop'} {n : Int} {i : Nat} (hg : good m l = true) (hi : i < l.length) (h : findP l n = (i : Int)) : findP (l.take i ++ l.drop (i + 1)) n = -1 := by
  have hn := findP_hit h hi
  unfold findP
  refine firstN_none (fun j hj => ?_)
  have hj' : j < l.length - 1 := by simp at hj; omega
  rw [getD_cut l hi]
  have : (l.getD (if j < i then j else j + 1) dP).1 ≠ n := by
    rw [← hn]
    split
    · rename_i h'
      have := num_lt hg h' hi
      omega
    · rename_i h'
      have := num_lt hg (show i < j + 1 by omega) (show j + 1 < l.length by omega)
      omega
  simpa using this
theorem IsPassed_val (l : List Prop') (m n : Int) (hf : Fits l) : F_spec_IsPassed (l, m, n) = some (if good m l = true ∧ 0 ≤ findP l n then (passes (l.getD (findP l n).toNat dP).2.2.2 0, true) else (false, false)) ∧ F_impl_IsPassed (l, m, n) = some (if good m l = true ∧ 0 ≤ findP l n then (passes (l.getD (findP l n).toNat dP).2.2.2 0, true) else (false, false)) := by
  have h1 := ofFind_is l n hf.len
  have h2 := proposalAt_is l n hf.len
  have h3 := ofGood_is l m hf
  have h4 := AreProposals_is l m hf
  cases hg : good m l with
  | false => exact ⟨by simp [F_spec_IsPassed, h1, h3, hg], by simp [F_impl_IsPassed, h2, h4, hg]⟩
  | true =>
    rcases findP_cases l n with e | ⟨i, hi, e⟩
    · exact ⟨by simp [F_spec_IsPassed, h1, h3, hg, e], by simp [F_impl_IsPassed, h2, h4, hg, e]⟩
    · have hv := hf.votes _ (getD_mem hi dP)
      have p1 := ofPassed_is (l.getD i dP) 0 hv (by omega) (by omega)
      have p2 := passed_is (l.getD i dP) 0 hv (good_votes hg hi).1 (by omega) (by omega)
      have hn : decide ((i : Int) < 0) = false := by simp
      have hq : (true = true ∧ 0 ≤ (i : Int)) := ⟨rfl, by omega⟩
      rw [e, if_pos hq, Int.toNat_natCast]
      refine ⟨?_, ?_⟩
      · simp only [F_spec_IsPassed, h1, h3, hg, e, hn, Bool.not_true, cond_false, nonneg, lt_len hi, Bool.and_self, cond_true, Int.toNat_natCast, p1]
      · simp only [F_impl_IsPassed, h2, h4, hg, e, hn, Bool.not_true, cond_false, nonneg, lt_len hi, Bool.and_self, cond_true, Int.toNat_natCast, p2]
theorem CastVote_true {l : List Prop'} {m n a v : Int} (hf : Fits l) (hg : good m l = true) {i : Nat} (hi : i < l.length) (e : findP l n = (i : Int)) (a0 : 0 ≤ a) (a1 : a < m) (hv : v = 1 ∨ v = -1) :
    F_spec_CastVote (l, m, n, a, v) = some (l.set i ((l.getD i dP).1, ((l.getD i dP).2.1, (l.getD i dP).2.2.1, (l.getD i dP).2.2.2.set a.toNat v)), true) ∧ F_impl_CastVote (l, m, n, a, v) = some (l.set i ((l.getD i dP).1, ((l.getD i dP).2.1, (l.getD i dP).2.2.1, (l.getD i dP).2.2.2.set a.toNat v)), true) := by
  have h1 := ofFind_is l n hf.len
  have h2 := proposalAt_is l n hf.len
  have h3 := ofGood_is l m hf
  have h4 := AreProposals_is l m hf
  have h5 := copyProposals_is l hf
  have h6 := ofOwn_is l hf
  have hn : decide ((i : Int) < 0) = false := by simp
  obtain ⟨g1, g2⟩ := good_votes hg hi
  obtain ⟨m1, m2, m3⟩ := good_m hg
  have hwm : IntKind.i64.wrap (m - 1) = m - 1 := wrap_id (by omega) (by omega)
  have ha0 : decide (0 ≤ a) = true := decide_eq_true a0
  have ha1 : decide (a < ((l.getD i (0, (0, ByteArray.empty, []))).2.2.2.length : Int)) = true := decide_eq_true (by have : ((l.getD i (0, (0, ByteArray.empty, []))).2.2.2.length : Int) = m := g2; omega)
  have ha2 : decide (a ≤ IntKind.i64.wrap (m - 1)) = true := by rw [hwm]; exact decide_eq_true (by omega)
  rcases hv with rfl | rfl
  · have hv1 : ((1 : Int) != 1) = false := by decide
    exact ⟨by simp only [F_spec_CastVote, h1, h3, hg, e, hn, l1In_is, Bool.not_true, cond_true, cond_false, hv1, h6, nonneg, lt_len hi, Bool.and_self, Int.toNat_natCast, ha0, ha1, ha2], by simp only [F_impl_CastVote, h2, h4, hg, e, hn, within_is, Bool.not_true, cond_true, cond_false, hv1, h5, nonneg, lt_len hi, Bool.and_self, Int.toNat_natCast, ha0, ha1, ha2]⟩
  · have hv1 : ((-1 : Int) != 1) = true := by decide
    have hv2 : ((-1 : Int) != (-1)) = false := by decide
    exact ⟨by simp only [F_spec_CastVote, h1, h3, hg, e, hn, l1In_is, Bool.not_true, cond_true, cond_false, hv1, hv2, h6, nonneg, lt_len hi, Bool.and_self, Int.toNat_natCast, ha0, ha1, ha2], by simp only [F_impl_CastVote, h2, h4, hg, e, hn, within_is, Bool.not_true, cond_true, cond_false, hv1, hv2, h5, nonneg, lt_len hi, Bool.and_self, Int.toNat_natCast, ha0, ha1, ha2]⟩
theorem CastVote_cases (l : List Prop') (m n a v : Int) (hf : Fits l) : (F_spec_CastVote (l, m, n, a, v) = some ([], false) ∧ F_impl_CastVote (l, m, n, a, v) = some ([], false)) ∨
    (good m l = true ∧ ∃ i : Nat, i < l.length ∧ findP l n = (i : Int) ∧ 0 ≤ a ∧ a < m ∧ (v = 1 ∨ v = -1)) := by
  have h1 := ofFind_is l n hf.len
  have h2 := proposalAt_is l n hf.len
  have h3 := ofGood_is l m hf
  have h4 := AreProposals_is l m hf
  cases hg : good m l with
  | false => exact .inl ⟨by simp [F_spec_CastVote, h1, h3, hg], by simp [F_impl_CastVote, h2, h4, hg]⟩
  | true =>
    rcases findP_cases l n with e | ⟨i, hi, e⟩
    · exact .inl ⟨by simp [F_spec_CastVote, h1, h3, hg, e], by simp [F_impl_CastVote, h2, h4, hg, e]⟩
    · have hn : decide ((i : Int) < 0) = false := by simp
      obtain ⟨m1, m2, m3⟩ := good_m hg
      have hwm : IntKind.i64.wrap (m - 1) = m - 1 := wrap_id (by omega) (by omega)
      cases hin : decide (0 ≤ a) && decide (a ≤ IntKind.i64.wrap (m - 1)) with
      | false => exact .inl ⟨by simp only [F_spec_CastVote, h1, h3, hg, e, hn, l1In_is, hin, Bool.not_true, Bool.not_false, cond_true, cond_false], by simp only [F_impl_CastVote, h2, h4, hg, e, hn, within_is, hin, Bool.not_true, Bool.not_false, cond_true, cond_false]⟩
      | true =>
        have ha : 0 ≤ a ∧ a < m := by rw [hwm] at hin; simp at hin; omega
        by_cases hv : v = 1 ∨ v = -1
        · exact .inr ⟨rfl, i, hi, e, ha.1, ha.2, hv⟩
        · have hv1 : (v != 1) = true := by simp; omega
          have hv2 : (v != (-1)) = true := by simp; omega
          exact .inl ⟨by simp only [F_spec_CastVote, h1, h3, hg, e, hn, l1In_is, hin, Bool.not_true, Bool.not_false, cond_true, cond_false, hv1, hv2], by simp only [F_impl_CastVote, h2, h4, hg, e, hn, within_is, hin, Bool.not_true, Bool.not_false, cond_true, cond_false, hv1, hv2]⟩
theorem WithdrawProposal_cases (l : List Prop') (m n : Int) (hf : Fits l) : (F_spec_WithdrawProposal (l, m, n) = some ([], false) ∧ F_impl_WithdrawProposal (l, m, n) = some ([], false)) ∨
    (good m l = true ∧ ∃ i : Nat, i < l.length ∧ findP l n = (i : Int) ∧ F_spec_WithdrawProposal (l, m, n) = some (l.take i ++ l.drop (i + 1), true) ∧ F_impl_WithdrawProposal (l, m, n) = some (l.take i ++ l.drop (i + 1), true)) := by
  obtain ⟨o, e1, e2, _⟩ := WithdrawProposal_same l m n hf
  rw [e1, e2]
  have h1 := ofFind_is l n hf.len
  have h3 := ofGood_is l m hf
  cases hg : good m l with
  | false =>
    left
    have : F_spec_WithdrawProposal (l, m, n) = some ([], false) := by simp [F_spec_WithdrawProposal, h1, h3, hg]
    rw [e1] at this
    exact ⟨this, this⟩
  | true =>
    rcases findP_cases l n with e | ⟨i, hi, e⟩
    · left
      have : F_spec_WithdrawProposal (l, m, n) = some ([], false) := by simp [F_spec_WithdrawProposal, h1, h3, hg, e]
      rw [e1] at this
      exact ⟨this, this⟩
    · have hn : decide ((i : Int) < 0) = false := by simp
      have hvl : (l.getD i (0, (0, ByteArray.empty, []))).2.2.2.length ≤ 1048576 := hf.votes _ (getD_mem hi dP)
      have hc := ofCount_is (l.getD i (0, (0, ByteArray.empty, []))) 0 hvl
      cases hb : decide ((((l.getD i (0, (0, ByteArray.empty, []))).2.2.2.count 0 : Nat) : Int) < m) with
      | true =>
        left
        have : F_spec_WithdrawProposal (l, m, n) = some ([], false) := by simp only [F_spec_WithdrawProposal, h1, h3, hg, e, hn, Bool.not_true, cond_false, nonneg, lt_len hi, Bool.and_self, cond_true, Int.toNat_natCast, hc, hb]
        rw [e1] at this
        exact ⟨this, this⟩
      | false =>
        right
        refine ⟨rfl, i, hi, e, ?_⟩
        have hlen := hf.len
        have hw : IntKind.i64.wrap ((i : Int) + 1) = ((i + 1 : Nat) : Int) := wrap_succ (by omega)
        have f1 : Fits (l.take i) := hf.sub (by rw [List.length_take]; exact Nat.min_le_right ..) (fun x hx => (List.take_sublist _ _).mem hx)
        have f2 : Fits (l.drop (i + 1)) := hf.sub (by simp) (fun x hx => (List.drop_sublist _ _).mem hx)
        have x1 : (l.drop ((0 : Int)).toNat).take (((i : Int)).toNat - ((0 : Int)).toNat) = l.take i := by simp
        have x2 : (l.drop (((i + 1 : Nat) : Int)).toNat).take (((l.length : Int)).toNat - (((i + 1 : Nat) : Int)).toNat) = l.drop (i + 1) := by
          rw [Int.toNat_natCast, Int.toNat_natCast]
          exact List.take_of_length_le (by simp)
        have q0 : decide (0 ≤ (0 : Int)) = true := rfl
        have q1 : decide ((i : Int) ≤ (l.length : Int)) = true := decide_eq_true (by omega)
        have q2 : decide (((i + 1 : Nat) : Int) ≤ (l.length : Int)) = true := decide_eq_true (by omega)
        have q3 : decide ((l.length : Int) ≤ (l.length : Int)) = true := decide_eq_true (Int.le_refl _)
        have d3 : decide (((l.take i).length + (l.drop (i + 1)).length) * 56 ≤ 140737488355328) = true := decide_eq_true (by simp; omega)
        have : F_spec_WithdrawProposal (l, m, n) = some (l.take i ++ l.drop (i + 1), true) := by
          simp only [F_spec_WithdrawProposal, h1, h3, hg, e, hn, Bool.not_true, cond_false, nonneg, lt_len hi, Bool.and_self, cond_true, hw, x1, x2, q0, q1, q2, q3, ofOwn_is _ f1, ofOwn_is _ f2]
          rw [Int.toNat_natCast, hc]
          simp only [hb, cond_false, d3, Bool.and_true, cond_true]
        rw [e1] at this
        exact ⟨this, this⟩
theorem VotesMissing_cases (l : List Prop') (m n : Int) (hf : Fits l) :
    (F_spec_VotesMissing (l, m, n) = some (0, false) ∧ F_impl_VotesMissing (l, m, n) = some (0, false) ∧ ∀ i : Nat, good m l = true → i < l.length → findP l n = (i : Int) → passes (l.getD i dP).2.2.2 0 = false) ∨
    (good m l = true ∧ ∃ i k : Nat, i < l.length ∧ findP l n = (i : Int) ∧ F_spec_VotesMissing (l, m, n) = some ((k : Int), true) ∧ F_impl_VotesMissing (l, m, n) = some ((k : Int), true) ∧ k ≤ (l.getD i dP).2.2.2.count 0 ∧ passes (l.getD i dP).2.2.2 (k : Int) = true ∧ (0 < k → passes (l.getD i dP).2.2.2 0 = false)) := by
  obtain ⟨o, e1, e2⟩ := VotesMissing_same l m n hf
  rw [e1, e2]
  have h1 := ofFind_is l n hf.len
  have h3 := ofGood_is l m hf
  cases hg : good m l with
  | false =>
    left
    have : F_spec_VotesMissing (l, m, n) = some (0, false) := by simp [F_spec_VotesMissing, h1, h3, hg]
    rw [e1] at this
    exact ⟨this, this, fun _ h => by cases h⟩
  | true =>
    rcases findP_cases l n with e | ⟨i, hi, e⟩
    · left
      have : F_spec_VotesMissing (l, m, n) = some (0, false) := by simp [F_spec_VotesMissing, h1, h3, hg, e]
      rw [e1] at this
      exact ⟨this, this, fun j _ _ h => by rw [e] at h; omega⟩
    · have hn : decide ((i : Int) < 0) = false := by simp
      have hv := hf.votes _ (getD_mem hi dP)
      have hc : (l.getD i dP).2.2.2.count 0 ≤ (l.getD i dP).2.2.2.length := List.count_le_length
      have hcnt := ofCount_is (l.getD i dP) 0 hv
      have one : ∀ j, j < (l.getD i dP).2.2.2.count 0 + 1 → step_spec_VotesMissing_0 (l, (i : Int), (j : Int)) = some (bif passes (l.getD i dP).2.2.2 (j : Int) then .inr (.inl ((j : Int), true)) else .inl (l, (i : Int), ((j + 1 : Nat) : Int))) := by
        intro j hj
        have hw := wrap_succ (i := j) (by omega)
        have hle : decide ((j : Int) ≤ (((l.getD i dP).2.2.2.count 0 : Nat) : Int)) = true := decide_eq_true (by omega)
        have p1 := ofPassed_is (l.getD i dP) (j : Int) hv (by omega) (by omega)
        simp only [step_spec_VotesMissing_0, lt_len hi, nonneg, Bool.and_self, cond_true, Int.toNat_natCast, hcnt, hle, p1, hw]
        cases passes (l.getD i dP).2.2.2 (j : Int) <;> rfl
      have stop : step_spec_VotesMissing_0 (l, (i : Int), (((l.getD i dP).2.2.2.count 0 + 1 : Nat) : Int)) = some (.inr (.inr ())) := by
        have hle : decide ((((l.getD i dP).2.2.2.count 0 + 1 : Nat) : Int) ≤ (((l.getD i dP).2.2.2.count 0 : Nat) : Int)) = false := decide_eq_false (by omega)
        simp only [step_spec_VotesMissing_0, lt_len hi, nonneg, Bool.and_self, cond_true, Int.toNat_natCast, hcnt, hle, cond_false]
      rcases runL_first (f := step_spec_VotesMissing_0) (fun j => !passes (l.getD i dP).2.2.2 (j : Int)) (fun j => (l, (i : Int), (j : Int))) (fun j => .inl ((j : Int), true)) (.inr ()) ((l.getD i dP).2.2.2.count 0 + 1) (fun j hj => by
        rw [one j hj]
        cases passes (l.getD i dP).2.2.2 (j : Int) <;> rfl) stop with ⟨t, hp⟩ | ⟨k, hk, hp, hj, t⟩
      · left
        have t' : runL step_spec_VotesMissing_0 (l, (i : Int), (0 : Int)) = some (.inr ()) := t
        have : F_spec_VotesMissing (l, m, n) = some (0, false) := by simp only [F_spec_VotesMissing, h1, h3, hg, e, hn, Bool.not_true, cond_false, t']
        rw [e1] at this
        refine ⟨this, this, fun j _ _ h => ?_⟩
        rw [e] at h
        have : j = i := by omega
        subst this
        simpa using hp 0 (by omega)
      · right
        have t' : runL step_spec_VotesMissing_0 (l, (i : Int), (0 : Int)) = some (.inl ((k : Int), true)) := t
        have : F_spec_VotesMissing (l, m, n) = some ((k : Int), true) := by simp only [F_spec_VotesMissing, h1, h3, hg, e, hn, Bool.not_true, cond_false, t']
        rw [e1] at this
        exact ⟨rfl, i, k, hi, e, this, this, by omega, by simpa using hp, fun h0 => by simpa using hj 0 h0⟩
end Go.Proofs.YtdpkcnmlflngpaaDoor
/- The law of ProposalText, as plain Lean: it answers true. Lengths fit an int. -/
set_option linter.unusedVariables false
set_option linter.unusedSimpArgs false
namespace Go.Proofs.YtdpkcnmlflngpaaDoor
open Go

/-- a decimal numeral -/
noncomputable def it (n : Int) : ByteArray := ⟨(Lib.itoa n).toArray⟩
theorem it_size {n : Int} (h0 : 0 ≤ n) (h1 : n ≤ 9999) : (it n).size ≤ 10000 := by
  obtain ⟨k, rfl⟩ : ∃ k : Nat, n = (k : Int) := ⟨n.toNat, by omega⟩
  have := decDigits_short k
  have e : (it (k : Int)).size = (Lib.decDigits k).length := by rw [it, Lib.itoa_nonneg]; show ((Lib.decDigits k).toArray).size = _; simp
  omega
theorem l1Num_is {n : Int} (h0 : 0 ≤ n) (h1 : n ≤ 9999) : F_spec_l1Num n = some (it n) := by
  rw [F_spec_l1Num_is, decide_eq_true h0, decide_eq_true (show n ≤ 9223372036854775807 by omega)]; rfl
theorem Itoa_is {n : Int} (h0 : 0 ≤ n) (h1 : n ≤ 9999) : F_strconv_Itoa n = some (it n) := by
  rw [F_strconv_Itoa_is, decide_eq_true (show -9223372036854775808 ≤ n by omega), decide_eq_true (show n ≤ 9223372036854775807 by omega)]; rfl

theorem kind_sign {k : Int} (h0 : 0 ≤ k) (h1 : k ≤ 1) : ∃ c : ByteArray, c.size = 1 ∧ (⟨#[43, 45]⟩ : ByteArray).extract k.toNat (k + 1).toNat = c ∧ [(⟨#[43]⟩ : ByteArray), (⟨#[45]⟩ : ByteArray)].getD k.toNat ByteArray.empty = c := by
  have : k = 0 ∨ k = 1 := by omega
  rcases this with rfl | rfl
  · exact ⟨⟨#[43]⟩, rfl, by decide, rfl⟩
  · exact ⟨⟨#[45]⟩, rfl, by decide, rfl⟩
theorem vote_sign {v : Int} (h0 : -1 ≤ v) (h1 : v ≤ 1) : ∃ c : ByteArray, c.size = 1 ∧ (⟨#[110, 46, 121]⟩ : ByteArray).extract (v + 1).toNat (v + 2).toNat = c ∧ [(⟨#[110]⟩ : ByteArray), (⟨#[46]⟩ : ByteArray), (⟨#[121]⟩ : ByteArray)].getD (v + 1).toNat ByteArray.empty = c := by
  have : v = -1 ∨ v = 0 ∨ v = 1 := by omega
  rcases this with rfl | rfl | rfl
  · exact ⟨⟨#[110]⟩, rfl, by decide, rfl⟩
  · exact ⟨⟨#[46]⟩, rfl, by decide, rfl⟩
  · exact ⟨⟨#[121]⟩, rfl, by decide, rfl⟩

theorem votes_text (l : List Int) (hl : l.length ≤ 7) (hok : votesOK l = true) (t0 : ByteArray) (h0 : t0.size ≤ 100000) :
    ∃ t, runL step_spec_ProposalText_0 (t0, l, (l.length : Int), 0) = some t ∧ runL step_impl_ProposalText_0 (t0, l, (l.length : Int), 0) = some t := by
  obtain ⟨o, p, e1, e2, rfl⟩ := runL_sim (f := step_spec_ProposalText_0) (g := step_impl_ProposalText_0) (fun a b => a = b ∧ ∃ (t : ByteArray) (i : Nat), a = (t, l, (l.length : Int), (i : Int)) ∧ i ≤ l.length ∧ t.size ≤ 100000 + i)
    (fun o p => o = p) (fun a => l.length - a.2.2.2.toNat) (by
    rintro a b ⟨rfl, t, i, rfl, hi, ht⟩
    rcases Nat.lt_or_ge i l.length with hlt | hge
    · right
      have hv := allN_true.1 hok i hlt
      simp only [Bool.and_eq_true, decide_eq_true_eq] at hv
      obtain ⟨c, c1, c2, c3⟩ := vote_sign hv.1 hv.2
      have hw := wrap_succ (i := i) (by omega)
      have w1 : IntKind.i64.wrap (l.getD i 0 + 1) = l.getD i 0 + 1 := wrap_id (by omega) (by omega)
      have w2 : IntKind.i64.wrap (l.getD i 0 + 2) = l.getD i 0 + 2 := wrap_id (by omega) (by omega)
      have z3 : (⟨#[110, 46, 121]⟩ : ByteArray).size = 3 := rfl
      have g1 : decide (0 ≤ l.getD i 0 + 1) = true := decide_eq_true (by omega)
      have g2 : decide (l.getD i 0 + 1 ≤ l.getD i 0 + 2) = true := decide_eq_true (by omega)
      have g3 : decide (l.getD i 0 + 2 ≤ ((3 : Nat) : Int)) = true := decide_eq_true (by omega)
      have g4 : decide (l.getD i 0 + 1 < (3 : Int)) = true := decide_eq_true (by omega)
      have g5 : decide (t.size + c.size ≤ 9223372036854775807) = true := decide_eq_true (by omega)
      refine ⟨(t ++ c, l, (l.length : Int), ((i + 1 : Nat) : Int)), _, ?_, ?_, ⟨rfl, _, i + 1, rfl, by omega, by rw [ByteArray.size_append]; omega⟩, by simp; omega⟩
      · simp only [step_spec_ProposalText_0, lt_len hlt, nonneg, Bool.and_self, cond_true, Int.toNat_natCast, w1, w2, z3, g1, g2, g3, c2, g5, hw]
      · simp only [step_impl_ProposalText_0, lt_len hlt, nonneg, Bool.and_self, cond_true, Int.toNat_natCast, w1, g1, g4, c3, g5, hw]
    · left
      have : i = l.length := by omega
      subst this
      exact ⟨t, t, by simp only [step_spec_ProposalText_0, not_lt_len, cond_false], by simp only [step_impl_ProposalText_0, not_lt_len, cond_false], rfl⟩) (t0, l, (l.length : Int), 0) (t0, l, (l.length : Int), 0) ⟨rfl, t0, 0, rfl, by omega, by omega⟩
  exact ⟨o, e1, e2⟩

theorem proposal_text (p : Prop') (hg : p.2.2.1.size ≤ 9223372036854775807) (hv : p.2.2.2.length ≤ 9223372036854775807) : ∃ o, F_spec_ProposalText p = some o ∧ F_impl_ProposalText p = some o := by
  have h1 := ofOne_is p (p.2.2.2.length : Int) hg hv
  have h2 := isProposal_is p hg hv
  have hb : ((p.2.2.2.length : Int) == (p.2.2.2.length : Int)) = true := by simp
  rw [hb, Bool.and_true] at h1
  by_cases h7 : (p.2.2.2.length : Int) ≤ 7
  · have g7 : decide ((p.2.2.2.length : Int) ≤ 7) = true := decide_eq_true h7
    have g7' : decide ((p.2.2.2.length : Int) > 7) = false := decide_eq_false (by omega)
    rw [g7, Bool.and_true] at h2
    cases hok : (numOK p && votesOK p.2.2.2) with
    | false => exact ⟨(⟨#[]⟩, false), by simp [F_spec_ProposalText, h1, hok], by simp [F_impl_ProposalText, h2, hok]⟩
    | true =>
      have hok' := hok
      simp only [Bool.and_eq_true] at hok'
      obtain ⟨hn, hvo⟩ := hok'
      simp only [numOK, gl, Bool.and_eq_true, decide_eq_true_eq] at hn
      obtain ⟨⟨⟨n1, n2⟩, k1, k2⟩, _, _, g8⟩ := hn
      obtain ⟨c, c1, c2, c3⟩ := kind_sign k1 k2
      have hy := it_size (n := p.1) (by omega) (by omega)
      have w1 : IntKind.i64.wrap (p.2.1 + 1) = p.2.1 + 1 := wrap_id (by omega) (by omega)
      have z1 : (⟨#[32]⟩ : ByteArray).size = 1 := rfl
      have z2 : (⟨#[43, 45]⟩ : ByteArray).size = 2 := rfl
      have hgs : p.2.2.1.size ≤ 8 := by omega
      obtain ⟨t, t1, t2⟩ := votes_text p.2.2.2 (by omega) hvo (((it p.1 ++ c) ++ p.2.2.1) ++ (⟨#[32]⟩ : ByteArray)) (by simp only [ByteArray.size_append, z1, c1]; omega)
      have q1 : decide (0 ≤ p.2.1) = true := decide_eq_true k1
      have q2 : decide (p.2.1 ≤ p.2.1 + 1) = true := decide_eq_true (by omega)
      have q3 : decide (p.2.1 + 1 ≤ ((2 : Nat) : Int)) = true := decide_eq_true (by omega)
      have q4 : decide (p.2.1 < (2 : Int)) = true := decide_eq_true (by omega)
      have q5 : decide ((it p.1).size + c.size ≤ 9223372036854775807) = true := decide_eq_true (by omega)
      have q6 : decide ((it p.1 ++ c).size + p.2.2.1.size ≤ 9223372036854775807) = true := decide_eq_true (by simp only [ByteArray.size_append]; omega)
      have q7 : decide (((it p.1 ++ c) ++ p.2.2.1).size + (⟨#[32]⟩ : ByteArray).size ≤ 9223372036854775807) = true := decide_eq_true (by simp only [ByteArray.size_append, z1]; omega)
      refine ⟨(t, true), ?_, ?_⟩
      · simp only [F_spec_ProposalText, h1, hok, Bool.not_true, cond_false, g7', l1Num_is (show 0 ≤ p.1 by omega) (by omega), w1, z2, q1, q2, q3, Bool.and_self, cond_true, c2, q5, q6, q7, t1]
      · simp only [F_impl_ProposalText, h2, hok, Bool.not_true, cond_false, Itoa_is (show 0 ≤ p.1 by omega) (by omega), q1, q4, Bool.and_self, cond_true, c3, q5, q6, q7, t2]
  · have g7 : decide ((p.2.2.2.length : Int) ≤ 7) = false := decide_eq_false h7
    have g7' : decide ((p.2.2.2.length : Int) > 7) = true := decide_eq_true (by omega)
    rw [g7, Bool.and_false, Bool.false_and] at h2
    refine ⟨(⟨#[]⟩, false), ?_, by simp [F_impl_ProposalText, h2]⟩
    cases hok : (numOK p && votesOK p.2.2.2) <;> simp [F_spec_ProposalText, h1, hok, g7']

end Go.Proofs.YtdpkcnmlflngpaaDoor
/- The rounds of the law of proposals. No conditions. -/
set_option linter.unusedVariables false
set_option linter.unusedSimpArgs false
namespace Go.Proofs.YtdpkcnmlflngpaaDoor
open Go
theorem SmallL.fits {l : List Prop'} (h : SmallL l) : Fits l := ⟨by have := h.len; omega, fun e he => by have := (h.all e he).gloss; omega, fun e he => by have := (h.all e he).votes; omega⟩
theorem sameInts_is (l : List Int) (h : l.length ≤ 1048576) : F_laws_sameInts (l, l) = some true := by
  have t := runL_traj (f := step_laws_sameInts_0) (fun i => (l, l, (l.length : Int), (i : Int))) (.inr ()) l.length (fun i hi => by
    have hw := wrap_succ (i := i) (by omega)
    simp only [step_laws_sameInts_0, lt_len hi, nonneg, Bool.and_self, cond_true, Int.toNat_natCast, bne_self_eq_false, cond_false, hw]) (by simp [step_laws_sameInts_0])
  have t' : runL step_laws_sameInts_0 (l, (l, (l.length : Int), (0 : Int))) = some (.inr ()) := t
  simp only [F_laws_sameInts, bne_self_eq_false, cond_false, t']
theorem pSame_is (l : List Prop') (h : Fits l) : F_laws_pSameProposals (l, l) = some true := by
  have hlen := h.len
  have t := runL_traj (f := step_laws_pSameProposals_0) (fun i => (l, l, (l.length : Int), (i : Int))) (.inr ()) l.length (fun i hi => by
    have hw := wrap_succ (i := i) (by omega)
    have hs := sameInts_is (l.getD i (0, (0, ByteArray.empty, []))).2.2.2 (h.votes _ (getD_mem hi dP))
    simp only [step_laws_pSameProposals_0, lt_len hi, nonneg, Bool.and_self, cond_true, Int.toNat_natCast, bne_self_eq_false, beq_self_eq_true, Bool.not_true, cond_false, hs, hw]) (by simp [step_laws_pSameProposals_0])
  have t' : runL step_laws_pSameProposals_0 (l, (l, (l.length : Int), (0 : Int))) = some (.inr ()) := t
  simp only [F_laws_pSameProposals, bne_self_eq_false, cond_false, t']

theorem casts_inner (more : List Int) (l : List Prop') (m n a v : Int) (c cast : List Prop') (i : Nat) (hi : i < cast.length) (hl : l.length = cast.length) (hv : (cast.getD i dP).2.2.2.length = (l.getD i dP).2.2.2.length) (hs : (cast.getD i dP).2.2.2.length ≤ 100)
    (hh : ∀ k, k < (cast.getD i dP).2.2.2.length → (cast.getD i dP).2.2.2.getD k 0 = if (cast.getD i dP).1 = n ∧ (k : Int) = a then v else (l.getD i dP).2.2.2.getD k 0) :
    runL step_laws_FnProposals_0 (more, l, m, n, a, v, c, (i : Int), cast, (cast.length : Int), (i : Int), (cast.getD i dP).2.2.2, ((cast.getD i dP).2.2.2.length : Int), 0, cast.getD i dP) = some (.inr (more, l, m, n, a, v, c, cast, (cast.length : Int), (i : Int))) := by
  have t := runL_traj (f := step_laws_FnProposals_0) (fun k => (more, l, m, n, a, v, c, (i : Int), cast, (cast.length : Int), (i : Int), (cast.getD i dP).2.2.2, ((cast.getD i dP).2.2.2.length : Int), (k : Int), cast.getD i dP)) (.inr (more, l, m, n, a, v, c, cast, (cast.length : Int), (i : Int))) (cast.getD i dP).2.2.2.length (fun k hk => by
    have hw := wrap_succ (i := k) (by omega)
    have hil : i < l.length := by omega
    have hkl : k < (l.getD i (0, (0, ByteArray.empty, []))).2.2.2.length := by have := hv; show k < (l.getD i dP).2.2.2.length; omega
    have hq := hh k hk
    simp only [step_laws_FnProposals_0, lt_len hk, lt_len hil, lt_len hkl, nonneg, Bool.and_self, cond_true, Int.toNat_natCast, hw]
    by_cases h1 : (cast.getD i dP).1 = n
    · have b1 : ((cast.getD i dP).1 == n) = true := beq_iff_eq.2 h1
      by_cases h2 : (k : Int) = a
      · have b2 : ((k : Int) == a) = true := by simp [h2]
        rw [if_pos ⟨h1, h2⟩] at hq
        simp only [b1, b2, cond_true, hq, bne_self_eq_false, cond_false, hw]
      · have b2 : ((k : Int) == a) = false := by simp [h2]
        rw [if_neg (fun h => h2 h.2)] at hq
        have hq : (cast.getD i dP).2.2.2.getD k 0 = (l.getD i (0, (0, ByteArray.empty, []))).2.2.2.getD k 0 := hq
        simp only [b1, b2, cond_true, hq, bne_self_eq_false, cond_false, hw]
    · have b1 : ((cast.getD i dP).1 == n) = false := beq_eq_false_iff_ne.2 h1
      rw [if_neg (fun h => h1 h.1)] at hq
      have hq : (cast.getD i dP).2.2.2.getD k 0 = (l.getD i (0, (0, ByteArray.empty, []))).2.2.2.getD k 0 := hq
      simp only [b1, cond_false, hq, bne_self_eq_false, hw]) (by simp only [step_laws_FnProposals_0, not_lt_len, cond_false])
  exact t
theorem casts_loop (more : List Int) (l : List Prop') (m n a v : Int) (c cast : List Prop') (hc : cast.length ≤ 100) (hl : l.length = cast.length) (hv : ∀ i, i < cast.length → (cast.getD i dP).2.2.2.length = (l.getD i dP).2.2.2.length) (hs : ∀ i, i < cast.length → (cast.getD i dP).2.2.2.length ≤ 100)
    (hh : ∀ i, i < cast.length → ∀ k, k < (cast.getD i dP).2.2.2.length → (cast.getD i dP).2.2.2.getD k 0 = if (cast.getD i dP).1 = n ∧ (k : Int) = a then v else (l.getD i dP).2.2.2.getD k 0) :
    runL step_laws_FnProposals_1 (more, l, m, n, a, v, c, cast, (cast.length : Int), 0) = some (.inr (more, m, c)) := by
  have t := runL_traj (f := step_laws_FnProposals_1) (fun i => (more, l, m, n, a, v, c, cast, (cast.length : Int), (i : Int))) (.inr (more, m, c)) cast.length (fun i hi => by
    have hw := wrap_succ (i := i) (by omega)
    have hin := casts_inner more l m n a v c cast i hi hl (hv i hi) (hs i hi) (hh i hi)
    have hin : runL step_laws_FnProposals_0 (more, l, m, n, a, v, c, (i : Int), cast, (cast.length : Int), (i : Int), (cast.getD i (0, (0, ByteArray.empty, []))).2.2.2, ((cast.getD i (0, (0, ByteArray.empty, []))).2.2.2.length : Int), 0, cast.getD i (0, (0, ByteArray.empty, []))) = some (.inr (more, l, m, n, a, v, c, cast, (cast.length : Int), (i : Int))) := hin
    simp only [step_laws_FnProposals_1, lt_len hi, nonneg, Bool.and_self, cond_true, Int.toNat_natCast, hin, hw]) (by simp only [step_laws_FnProposals_1, not_lt_len, cond_false])
  exact t
/-- the votes behind k rounds, and how many are still to be cast -/
def castW (v : List Int) (left : Nat) : Nat → List Int × Nat
  | 0 => (v, left)
  | k + 1 => if v.getD k 0 = 0 ∧ 0 < (castW v left k).2 then ((castW v left k).1.set k 1, (castW v left k).2 - 1) else castW v left k
structure WOK (v : List Int) (left k : Nat) : Prop where
  len : (castW v left k).1.length = v.length
  same : ∀ j, k ≤ j → (castW v left k).1.getD j 0 = v.getD j 0
  ok : votesOK v = true → votesOK (castW v left k).1 = true
  ones : (castW v left k).1.count 1 + (castW v left k).2 = v.count 1 + left
  nos : (castW v left k).1.count (-1) = v.count (-1)
  zeros : (castW v left k).2 = left - (v.take k).count 0
theorem castW_ok (v : List Int) (left : Nat) : ∀ k, k ≤ v.length → WOK v left k
  | 0, _ => ⟨rfl, fun _ _ => rfl, fun h => h, rfl, rfl, by simp [castW]⟩
  | k + 1, hk => by
    have ih := castW_ok v left k (by omega)
    have htk : (v.take (k + 1)).count 0 = (v.take k).count 0 + if v.getD k 0 = 0 then 1 else 0 := by
      rw [take_succ_getD (by omega) 0, List.count_append, List.count_singleton]
      by_cases h : v.getD k 0 = 0 <;> simp [h]
    by_cases hc : v.getD k 0 = 0 ∧ 0 < (castW v left k).2
    · have e : castW v left (k + 1) = ((castW v left k).1.set k 1, (castW v left k).2 - 1) := by rw [castW, if_pos hc]
      have hkl : k < (castW v left k).1.length := by rw [ih.len]; omega
      have h0 : (castW v left k).1[k] = 0 := by
        have := ih.same k (Nat.le_refl _)
        rw [hc.1] at this
        simpa [List.getD, List.getElem?_eq_getElem hkl] using this
      have c1 : ((castW v left k).1.set k 1).count 1 = (castW v left k).1.count 1 + 1 := by
        rw [List.count_set hkl, h0]; simp
      have c2 : ((castW v left k).1.set k 1).count (-1) = (castW v left k).1.count (-1) := by
        rw [List.count_set hkl, h0]; simp
      refine ⟨by rw [e]; simpa using ih.len, fun j hj => ?_, fun h => ?_, by rw [e]; show _ + _ = _; rw [c1]; have := ih.ones; have := hc.2; omega, by rw [e]; exact c2.trans ih.nos, by rw [e, htk, if_pos hc.1]; show _ - 1 = _; rw [ih.zeros]; omega⟩
      · rw [e]
        show ((castW v left k).1.set k 1).getD j 0 = _
        rw [getD_set, if_neg (by omega)]
        exact ih.same j (by omega)
      · rw [e]
        have hok := allN_true.1 (ih.ok h)
        refine allN_true.2 fun j hj => ?_
        have hj' : j < (castW v left k).1.length := by simpa using hj
        show (decide (-1 ≤ ((castW v left k).1.set k 1).getD j 0) && decide (((castW v left k).1.set k 1).getD j 0 ≤ 1)) = true
        rw [getD_set]
        split
        · rfl
        · exact hok j hj'
    · have e : castW v left (k + 1) = castW v left k := by rw [castW, if_neg hc]
      refine ⟨by rw [e]; exact ih.len, fun j hj => by rw [e]; exact ih.same j (by omega), by rw [e]; exact ih.ok, by rw [e]; exact ih.ones, by rw [e]; exact ih.nos, ?_⟩
      rw [e, htk, ih.zeros]
      have := ih.zeros
      by_cases h : v.getD k 0 = 0
      · rw [if_pos h]
        have : (castW v left k).2 = 0 := by
          rcases Nat.eq_zero_or_pos (castW v left k).2 with h' | h'
          · exact h'
          · exact absurd ⟨h, h'⟩ hc
        omega
      · rw [if_neg h]; omega
/-- the proposals with other votes -/
def withVotes (u : List Prop') (i : Nat) (w : List Int) : List Prop' := u.set i ((u.getD i dP).1, ((u.getD i dP).2.1, (u.getD i dP).2.2.1, w))
theorem withVotes_get {u : List Prop'} {i : Nat} (hi : i < u.length) (w : List Int) : (withVotes u i w).getD i dP = ((u.getD i dP).1, ((u.getD i dP).2.1, (u.getD i dP).2.2.1, w)) := by
  unfold withVotes
  rw [getD_set, if_pos ⟨rfl, hi⟩]
theorem withVotes_len (u : List Prop') (i : Nat) (w : List Int) : (withVotes u i w).length = u.length := by simp [withVotes]
theorem withVotes_self (u : List Prop') (i : Nat) : withVotes u i (u.getD i dP).2.2.2 = u := set_getD_self u i dP
theorem withVotes_again {u : List Prop'} {i : Nat} (hi : i < u.length) (w w' : List Int) : withVotes (withVotes u i w) i w' = withVotes u i w' := by
  have h := withVotes_get hi w
  have e : withVotes (withVotes u i w) i w' = (withVotes u i w).set i ((u.getD i dP).1, ((u.getD i dP).2.1, (u.getD i dP).2.2.1, w')) := by
    rw [withVotes, h]
  rw [e]
  simp [withVotes, List.set_set]
theorem withVotes_fits {u : List Prop'} (hf : Fits u) {i : Nat} (hi : i < u.length) {w : List Int} (hw : w.length ≤ 1048576) : Fits (withVotes u i w) := hf.set hi (hf.gloss (u.getD i dP) (getD_mem hi dP)) hw
theorem vote_inner (more : List Int) (u : List Prop') (m n : Int) (left : Nat) (i : Nat) (hf : Fits u) (hg : good m u = true) (hi : i < u.length) (e : findP u n = (i : Int)) (hleft : left ≤ 1048576) :
    runL step_laws_FnProposals_2 (more, m, n, u, (left : Int), u, (u.length : Int), (i : Int), (u.getD i dP).2.2.2, ((u.getD i dP).2.2.2.length : Int), 0) =
      some (.inr (more, m, n, withVotes u i (castW (u.getD i dP).2.2.2 left (u.getD i dP).2.2.2.length).1, ((castW (u.getD i dP).2.2.2 left (u.getD i dP).2.2.2.length).2 : Int), u, (u.length : Int), (i : Int))) := by
  obtain ⟨g1, g2⟩ := good_votes hg hi
  have hvl := hf.votes _ (getD_mem hi dP)
  have t := runL_traj (f := step_laws_FnProposals_2) (fun k => (more, m, n, withVotes u i (castW (u.getD i dP).2.2.2 left k).1, ((castW (u.getD i dP).2.2.2 left k).2 : Int), u, (u.length : Int), (i : Int), (u.getD i dP).2.2.2, ((u.getD i dP).2.2.2.length : Int), (k : Int)))
    (.inr (more, m, n, withVotes u i (castW (u.getD i dP).2.2.2 left (u.getD i dP).2.2.2.length).1, ((castW (u.getD i dP).2.2.2 left (u.getD i dP).2.2.2.length).2 : Int), u, (u.length : Int), (i : Int))) (u.getD i dP).2.2.2.length (fun k hk => by
    have hw := wrap_succ (i := k) (by omega)
    have W := castW_ok (u.getD i dP).2.2.2 left k (by omega)
    have hzl : (castW (u.getD i dP).2.2.2 left k).2 ≤ left := by rw [W.zeros]; omega
    simp only [step_laws_FnProposals_2, lt_len hk, nonneg, Bool.and_self, cond_true, Int.toNat_natCast, hw]
    by_cases h1 : (u.getD i dP).2.2.2.getD k 0 = 0
    · have b1 : ((u.getD i dP).2.2.2.getD k 0 == 0) = true := by simp only [h1, beq_self_eq_true]
      by_cases h2 : 0 < (castW (u.getD i dP).2.2.2 left k).2
      · have b2 : decide (((castW (u.getD i dP).2.2.2 left k).2 : Int) > 0) = true := decide_eq_true (by omega)
        have e1 : castW (u.getD i dP).2.2.2 left (k + 1) = ((castW (u.getD i dP).2.2.2 left k).1.set k 1, (castW (u.getD i dP).2.2.2 left k).2 - 1) := by rw [castW, if_pos ⟨h1, h2⟩]
        have hwl : ((castW (u.getD i dP).2.2.2 left k).1.length : Int) = m := by rw [W.len]; exact g2
        have hf2 : Fits (withVotes u i (castW (u.getD i dP).2.2.2 left k).1) := withVotes_fits hf hi (by rw [W.len]; exact hvl)
        have hg2 : good m (withVotes u i (castW (u.getD i dP).2.2.2 left k).1) = true := good_set hg hi hwl (W.ok g1)
        have hp2 : findP (withVotes u i (castW (u.getD i dP).2.2.2 left k).1) n = (i : Int) := findP_set _ _ _ hi e hg2
        obtain ⟨s1, s2⟩ := CastVote_true (a := (k : Int)) (v := 1) hf2 hg2 (by rw [withVotes_len]; exact hi) hp2 (by omega) (by have : (k : Int) < ((u.getD i dP).2.2.2.length : Int) := by omega
                                                                                                                                have g2 : ((u.getD i dP).2.2.2.length : Int) = m := g2
                                                                                                                                omega) (.inl rfl)
        rw [withVotes_get hi, Int.toNat_natCast] at s1 s2
        have e2 : (withVotes u i (castW (u.getD i dP).2.2.2 left k).1).set i ((u.getD i dP).1, ((u.getD i dP).2.1, (u.getD i dP).2.2.1, (castW (u.getD i dP).2.2.2 left k).1.set k 1)) = withVotes u i ((castW (u.getD i dP).2.2.2 left k).1.set k 1) := by simp [withVotes, List.set_set]
        simp only at s1 s2
        rw [e2] at s1 s2
        have hf3 : Fits (withVotes u i ((castW (u.getD i dP).2.2.2 left k).1.set k 1)) := withVotes_fits hf hi (by rw [List.length_set, W.len]; exact hvl)
        have hw2 : IntKind.i64.wrap (((castW (u.getD i dP).2.2.2 left k).2 : Int) - 1) = (((castW (u.getD i dP).2.2.2 left k).2 - 1 : Nat) : Int) := wrap_pred (by omega) h2
        simp only [b1, b2, cond_true, s1, s2, Bool.not_true, cond_false, pSame_is _ hf3, hw2, e1, hw]
      · have b2 : decide (((castW (u.getD i dP).2.2.2 left k).2 : Int) > 0) = false := decide_eq_false (by omega)
        have e1 : castW (u.getD i dP).2.2.2 left (k + 1) = castW (u.getD i dP).2.2.2 left k := by rw [castW, if_neg (fun h => h2 h.2)]
        simp only [b1, b2, cond_true, cond_false, e1, hw]
    · have b1 : ((u.getD i dP).2.2.2.getD k 0 == 0) = false := by simpa using h1
      have e1 : castW (u.getD i dP).2.2.2 left (k + 1) = castW (u.getD i dP).2.2.2 left k := by rw [castW, if_neg (fun h => h1 h.1)]
      simp only [b1, cond_false, e1, hw]) (by simp only [step_laws_FnProposals_2, not_lt_len, cond_false])
  have e0 : withVotes u i (castW (u.getD i dP).2.2.2 left 0).1 = u := withVotes_self u i
  simp only [e0] at t
  exact t
theorem vote_loop (more : List Int) (u : List Prop') (m n : Int) (left : Nat) (i : Nat) (hf : Fits u) (hg : good m u = true) (hi : i < u.length) (e : findP u n = (i : Int)) (hleft : left ≤ (u.getD i dP).2.2.2.count 0) :
    runL step_laws_FnProposals_3 (more, m, n, u, (left : Int), u, (u.length : Int), 0) = some (.inr (more, m, n, withVotes u i (castW (u.getD i dP).2.2.2 left (u.getD i dP).2.2.2.length).1, 0)) := by
  have hlen := hf.len
  have hvl := hf.votes _ (getD_mem hi dP)
  have hcl : (u.getD i dP).2.2.2.count 0 ≤ (u.getD i dP).2.2.2.length := List.count_le_length
  have W := castW_ok (u.getD i dP).2.2.2 left (u.getD i dP).2.2.2.length (Nat.le_refl _)
  have hz : (castW (u.getD i dP).2.2.2 left (u.getD i dP).2.2.2.length).2 = 0 := by rw [W.zeros, List.take_length]; omega
  have hin := vote_inner more u m n left i hf hg hi e (by omega)
  rw [hz] at hin
  have hn := findP_hit e hi
  have t := runL_traj (f := step_laws_FnProposals_3) (fun j => (more, m, n, if j ≤ i then u else withVotes u i (castW (u.getD i dP).2.2.2 left (u.getD i dP).2.2.2.length).1, if j ≤ i then (left : Int) else 0, u, (u.length : Int), (j : Int)))
    (.inr (more, m, n, withVotes u i (castW (u.getD i dP).2.2.2 left (u.getD i dP).2.2.2.length).1, 0)) u.length (fun j hj => by
    have hw := wrap_succ (i := j) (by omega)
    by_cases hji : j = i
    · subst hji
      have b1 : ((u.getD j (0, (0, ByteArray.empty, []))).1 != n) = false := by
        have : (u.getD j (0, (0, ByteArray.empty, []))).1 = n := hn
        rw [this]; exact bne_self_eq_false _
      have hin : runL step_laws_FnProposals_2 (more, m, n, u, (left : Int), u, (u.length : Int), (j : Int), (u.getD j (0, (0, ByteArray.empty, []))).2.2.2, ((u.getD j (0, (0, ByteArray.empty, []))).2.2.2.length : Int), 0) = _ := hin
      simp only [step_laws_FnProposals_3, lt_len hj, nonneg, Bool.and_self, cond_true, Int.toNat_natCast, b1, cond_false, if_pos (Nat.le_refl _), hin, hw, if_neg (show ¬ j + 1 ≤ j by omega)]
      rfl
    · have b1 : ((u.getD j (0, (0, ByteArray.empty, []))).1 != n) = true := by
        have : (u.getD j dP).1 ≠ n := by
          rw [← hn]
          rcases Nat.lt_or_gt_of_ne hji with h | h
          · have := num_lt hg h hi; omega
          · have := num_lt hg h hj; omega
        simpa using this
      have i1 : (if j + 1 ≤ i then u else withVotes u i (castW (u.getD i dP).2.2.2 left (u.getD i dP).2.2.2.length).1) = if j ≤ i then u else withVotes u i (castW (u.getD i dP).2.2.2 left (u.getD i dP).2.2.2.length).1 := by
        by_cases h : j ≤ i
        · rw [if_pos h, if_pos (by omega)]
        · rw [if_neg h, if_neg (by omega)]
      have i2 : (if j + 1 ≤ i then (left : Int) else 0) = if j ≤ i then (left : Int) else 0 := by
        by_cases h : j ≤ i
        · rw [if_pos h, if_pos (by omega)]
        · rw [if_neg h, if_neg (by omega)]
      simp only [step_laws_FnProposals_3, lt_len hj, nonneg, Bool.and_self, cond_true, Int.toNat_natCast, b1, hw, i1, i2]) (by
    simp only [step_laws_FnProposals_3, not_lt_len, cond_false, if_neg (show ¬ u.length ≤ i by omega)])
  simp only [if_pos (Nat.zero_le i)] at t
  exact t
end Go.Proofs.YtdpkcnmlflngpaaDoor
/- The law of proposals, as plain Lean: it answers true. The bytes are bytes. -/
set_option linter.unusedVariables false
set_option linter.unusedSimpArgs false
namespace Go.Proofs.YtdpkcnmlflngpaaDoor
open Go
theorem byte_wf {n : Int} (h : (Lit.int .u8 n).wf = true) : 0 ≤ n ∧ n ≤ 255 := by
  simp only [Lit.wf, Bool.and_eq_true, decide_eq_true_eq] at h
  have h1 : IntKind.u8.min = 0 := by decide
  have h2 : IntKind.u8.max = 255 := by decide
  omega
theorem DrawWithdraw_ok {code : List Int} (h : Bytes code) : ∃ l m n, F_spec_DrawWithdrawProposal code = some (l, m, n) ∧ SmallL l := by
  obtain ⟨c1, l, m, e1, h1, s1⟩ := proposals_ok h.cur (by omega)
  have hl := s1.len
  obtain ⟨o, eo, hq⟩ := runL_inv (f := step_spec_DrawWithdrawProposal_0)
    (fun s => ∃ i : Nat, s.1 = l ∧ s.2.1 = m ∧ s.2.2.1 = l ∧ s.2.2.2.1 = (l.length : Int) ∧ s.2.2.2.2.1 = (i : Int) ∧ i ≤ l.length ∧ CurOK (0 + 700 + i) s.2.2.2.2.2)
    (fun o => (∃ k, o = .inl (l, m, k)) ∨ ∃ c, o = .inr (l, m, c) ∧ CurOK (0 + 800) c) (fun s => l.length - s.2.2.2.2.1.toNat) (by
    rintro ⟨s1', s2, s3, s4, s5, c⟩ ⟨i, r1, r2, r3, r4, r5, r6, r7⟩
    simp only at r1 r2 r3 r4 r5 r6 r7
    subst r1 r2 r3 r4 r5
    rcases Nat.lt_or_ge i s3.length with hi | hi
    · have hw := wrap_succ (i := i) (by omega)
      have hv : (s3.getD i (0, (0, ByteArray.empty, []))).2.2.2.length ≤ 1048576 := by have := (s1.all _ (getD_mem hi dP)).votes; show (s3.getD i dP).2.2.2.length ≤ _; omega
      have hc := ofCount_is (s3.getD i (0, (0, ByteArray.empty, []))) 0 hv
      cases hb : ((((s3.getD i (0, (0, ByteArray.empty, []))).2.2.2.count 0 : Nat) : Int) == ((s3.getD i (0, (0, ByteArray.empty, []))).2.2.2.length : Int)) with
      | true =>
        obtain ⟨c2, b, e2, h2⟩ := one_ok r7 (by omega) (k := 2) (by omega) (by omega)
        cases b with
        | true =>
          left
          exact ⟨_, by simp only [step_spec_DrawWithdrawProposal_0, lt_len hi, nonneg, Bool.and_self, cond_true, Int.toNat_natCast, hc, hb, e2]; rfl, .inl ⟨_, rfl⟩⟩
        | false =>
          right
          refine ⟨_, by simp only [step_spec_DrawWithdrawProposal_0, lt_len hi, nonneg, Bool.and_self, cond_true, Int.toNat_natCast, hc, hb, e2, cond_false, hw]; rfl, ⟨i + 1, rfl, rfl, rfl, rfl, rfl, hi, CurOK.mono (m := 0 + 700 + (i + 1)) h2 (by omega)⟩, ?_⟩
          simp only [Int.toNat_natCast]
          omega
      | false =>
        right
        refine ⟨_, by simp only [step_spec_DrawWithdrawProposal_0, lt_len hi, nonneg, Bool.and_self, cond_true, Int.toNat_natCast, hc, hb, cond_false, hw]; rfl, ⟨i + 1, rfl, rfl, rfl, rfl, rfl, hi, CurOK.mono (m := 0 + 700 + (i + 1)) r7 (by omega)⟩, ?_⟩
        simp only [Int.toNat_natCast]
        omega
    · left
      have : i = s3.length := by omega
      subst this
      exact ⟨_, by simp only [step_spec_DrawWithdrawProposal_0, not_lt_len, cond_false], .inr ⟨_, rfl, CurOK.mono (m := 0 + 800) r7 (by omega)⟩⟩)
    (l, m, l, (l.length : Int), 0, c1) ⟨0, rfl, rfl, rfl, rfl, rfl, Nat.zero_le _, h1.mono (by omega)⟩
  rcases hq with ⟨k, rfl⟩ | ⟨c, rfl, hc⟩
  · exact ⟨l, m, k, by simp only [F_spec_DrawWithdrawProposal, e1, eo], s1⟩
  · obtain ⟨c2, k, e2, h2⟩ := numberIn_ok hc (by omega) s1.len
    exact ⟨l, m, k, by simp only [F_spec_DrawWithdrawProposal, e1, eo, e2], s1⟩
theorem IsPassed_at {l : List Prop'} {m n : Int} (hf : Fits l) (hg : good m l = true) {i : Nat} (hi : i < l.length) (e : findP l n = (i : Int)) : F_spec_IsPassed (l, m, n) = some (passes (l.getD i dP).2.2.2 0, true) ∧ F_impl_IsPassed (l, m, n) = some (passes (l.getD i dP).2.2.2 0, true) := by
  have := IsPassed_val l m n hf
  rw [e, if_pos ⟨hg, by omega⟩, Int.toNat_natCast] at this
  exact this
theorem IsPassed_not {l : List Prop'} {m n : Int} (hf : Fits l) (h : ¬ (good m l = true ∧ 0 ≤ findP l n)) : F_spec_IsPassed (l, m, n) = some (false, false) ∧ F_impl_IsPassed (l, m, n) = some (false, false) := by
  have := IsPassed_val l m n hf
  rw [if_neg h] at this
  exact this
theorem law_FnProposals (code more : List Int) (h1 : code.length ≤ 9223372036854775807) (h2 : more.length ≤ 9223372036854775807) (b1 : ∀ b ∈ code, 0 ≤ b ∧ b ≤ 255) (b2 : ∀ b ∈ more, 0 ≤ b ∧ b ≤ 255) : F_laws_FnProposals (code, more) = some true := by
  by_cases hbig : F_laws_big (code, more) = some true
  · simp only [F_laws_FnProposals, hbig, cond_true]
  have hb0 : F_laws_big (code, more) = some false ∧ code.length ≤ 1048576 ∧ more.length ≤ 1048576 := by
    cases c1 : decide ((code.length : Int) > 1048576) with
    | true => exact absurd (by simp only [F_laws_big, c1, cond_true]) hbig
    | false =>
      have c1' := of_decide_eq_false c1
      have hw : IntKind.i64.wrap (1048576 - (code.length : Int)) = 1048576 - (code.length : Int) := wrap_id (by omega) (by omega)
      cases c2 : decide ((more.length : Int) > 1048576 - (code.length : Int)) with
      | true => exact absurd (by simp only [F_laws_big, c1, cond_false, hw, c2]) hbig
      | false =>
        have c2' := of_decide_eq_false c2
        exact ⟨by simp only [F_laws_big, c1, cond_false, hw, c2], by omega, by omega⟩
  obtain ⟨hb, l1, l2⟩ := hb0
  have B1 : Bytes code := ⟨l1, b1⟩
  have B2 : Bytes more := ⟨l2, b2⟩
  obtain ⟨l, m, n, a, v, d1, sl⟩ := DrawCastVote_ok B1
  obtain ⟨u, k, q, d2, su⟩ := DrawVotesMissing_ok B2
  obtain ⟨w, k3, g, d3, sw⟩ := DrawWithdraw_ok B2
  obtain ⟨p, d4, sp⟩ := DrawProposalText_ok B2
  obtain ⟨t, t1, t2⟩ := proposal_text p (by have := sp.gloss; omega) (by have := sp.votes; omega)
  have fl := sl.fits
  have fu := su.fits
  have fw := sw.fits
  -- the third part
  have part3 : ∃ (r : List Prop') (b : Bool), F_spec_WithdrawProposal (w, k3, g) = some (r, b) ∧ F_impl_WithdrawProposal (w, k3, g) = some (r, b) ∧ Fits r ∧ (b = true → F_impl_IsPassed (r, k3, g) = some (false, false) ∧ F_impl_AreProposals (r, k3) = some true ∧ ((r.length : Int) != IntKind.i64.wrap ((w.length : Int) - 1)) = false) := by
    rcases WithdrawProposal_cases w k3 g fw with ⟨e1, e2⟩ | ⟨hg, i, hi, hp, e1, e2⟩
    · exact ⟨[], false, e1, e2, fits_nil, fun h => by cases h⟩
    · have hgc := good_cut hg hi
      have hfc : Fits (w.take i ++ w.drop (i + 1)) := fw.sub (by simp; omega) (fun x hx => by
        rcases List.mem_append.1 hx with h | h
        · exact (List.take_sublist _ _).mem h
        · exact (List.drop_sublist _ _).mem h)
      refine ⟨_, true, e1, e2, hfc, fun _ => ⟨(IsPassed_not hfc (fun h => by rw [findP_cut hg hi hp] at h; omega)).2, by rw [AreProposals_is _ _ hfc, hgc], ?_⟩⟩
      have hwl := fw.len
      have : IntKind.i64.wrap ((w.length : Int) - 1) = ((w.length - 1 : Nat) : Int) := wrap_pred (by omega) (by omega)
      rw [this]
      have hlen : (w.take i ++ w.drop (i + 1)).length = w.length - 1 := by simp; omega
      rw [hlen]
      exact bne_self_eq_false _
  obtain ⟨r3, c3, w1, w2, fr3, w3⟩ := part3
  have s3 := pSame_is r3 fr3
  -- the second part
  have part2 : (F_spec_VotesMissing (u, k, q) = some (0, false) ∧ F_impl_VotesMissing (u, k, q) = some (0, false) ∧ ∃ y : Bool, F_spec_IsPassed (u, k, q) = some (false, y) ∧ F_impl_IsPassed (u, k, q) = some (false, y)) ∨
      ∃ (z : Nat) (fin : List Prop'), F_spec_VotesMissing (u, k, q) = some ((z : Int), true) ∧ F_impl_VotesMissing (u, k, q) = some ((z : Int), true) ∧ F_spec_IsPassed (u, k, q) = some (((z : Int) == 0), true) ∧ F_impl_IsPassed (u, k, q) = some (((z : Int) == 0), true) ∧
        runL step_laws_FnProposals_3 (more, k, q, u, (z : Int), u, (u.length : Int), 0) = some (.inr (more, k, q, fin, 0)) ∧ F_impl_IsPassed (fin, k, q) = some (true, true) := by
    rcases VotesMissing_cases u k q fu with ⟨e1, e2, h0⟩ | ⟨hg, i, z, hi, hp, e1, e2, hz, hpz, hp0⟩
    · refine .inl ⟨e1, e2, ?_⟩
      by_cases hc : good k u = true ∧ 0 ≤ findP u q
      · rcases findP_cases u q with e | ⟨i, hi, e⟩
        · rw [e] at hc; omega
        · obtain ⟨i1, i2⟩ := IsPassed_at fu hc.1 hi e
          rw [h0 i hc.1 hi e] at i1 i2
          exact ⟨true, i1, i2⟩
      · exact ⟨false, IsPassed_not fu hc⟩
    · right
      obtain ⟨i1, i2⟩ := IsPassed_at fu hg hi hp
      have hz0 : passes (u.getD i dP).2.2.2 0 = ((z : Int) == 0) := by
        rcases Nat.eq_zero_or_pos z with h | h
        · subst h; rw [show ((0 : Nat) : Int) = 0 from rfl] at hpz; rw [hpz]; rfl
        · rw [hp0 h]
          have : ((z : Int) == 0) = false := by simp; omega
          rw [this]
      rw [hz0] at i1 i2
      have W := castW_ok (u.getD i dP).2.2.2 z (u.getD i dP).2.2.2.length (Nat.le_refl _)
      have hz2 : (castW (u.getD i dP).2.2.2 z (u.getD i dP).2.2.2.length).2 = 0 := by rw [W.zeros, List.take_length]; omega
      obtain ⟨g1, g2⟩ := good_votes hg hi
      have hff : Fits (withVotes u i (castW (u.getD i dP).2.2.2 z (u.getD i dP).2.2.2.length).1) := withVotes_fits fu hi (by rw [W.len]; exact fu.votes _ (getD_mem hi dP))
      have hgf : good k (withVotes u i (castW (u.getD i dP).2.2.2 z (u.getD i dP).2.2.2.length).1) = true := good_set hg hi (by rw [W.len]; exact g2) (W.ok g1)
      have hpf : findP (withVotes u i (castW (u.getD i dP).2.2.2 z (u.getD i dP).2.2.2.length).1) q = (i : Int) := findP_set _ _ _ hi hp hgf
      refine ⟨z, _, e1, e2, i1, i2, vote_loop more u k q z i fu hg hi hp hz, ?_⟩
      have := (IsPassed_at hff hgf (by rw [withVotes_len]; exact hi) hpf).2
      rw [this, withVotes_get hi]
      have : passes (castW (u.getD i dP).2.2.2 z (u.getD i dP).2.2.2.length).1 0 = true := by
        have h1 := W.ones
        rw [hz2] at h1
        have h2 := W.nos
        have h3 := W.len
        unfold passes at hpz ⊢
        simp only [Bool.and_eq_true, decide_eq_true_eq] at hpz ⊢
        rw [h2, h3]
        omega
      rw [this]
  -- the first part
  have part1 : (F_spec_CastVote (l, m, n, a, v) = some ([], false) ∧ F_impl_CastVote (l, m, n, a, v) = some ([], false)) ∨
      ∃ r : List Prop', F_spec_CastVote (l, m, n, a, v) = some (r, true) ∧ F_impl_CastVote (l, m, n, a, v) = some (r, true) ∧ Fits r ∧ runL step_laws_FnProposals_1 (more, l, m, n, a, v, r, r, (r.length : Int), 0) = some (.inr (more, m, r)) ∧ F_impl_AreProposals (r, m) = some true := by
    rcases CastVote_cases l m n a v fl with h | ⟨hg, i, hi, hp, a0, a1, hv⟩
    · exact .inl h
    · right
      obtain ⟨e1, e2⟩ := CastVote_true fl hg hi hp a0 a1 hv
      obtain ⟨g1, g2⟩ := good_votes hg hi
      have hsl := (sl.all _ (getD_mem hi dP)).votes
      have hvok : votesOK ((l.getD i dP).2.2.2.set a.toNat v) = true := by
        refine allN_true.2 fun j hj => ?_
        have hj' : j < (l.getD i dP).2.2.2.length := by simpa using hj
        rw [getD_set]
        split
        · rcases hv with rfl | rfl <;> rfl
        · exact allN_true.1 g1 j hj'
      have hff : Fits (withVotes l i ((l.getD i dP).2.2.2.set a.toNat v)) := withVotes_fits fl hi (by rw [List.length_set]; omega)
      have hgf : good m (withVotes l i ((l.getD i dP).2.2.2.set a.toNat v)) = true := good_set hg hi (by rw [List.length_set]; exact g2) hvok
      have hnum := findP_hit hp hi
      have other : ∀ j, j < l.length → j ≠ i → (withVotes l i ((l.getD i dP).2.2.2.set a.toNat v)).getD j dP = l.getD j dP ∧ (l.getD j dP).1 ≠ n := by
        intro j hj hne
        refine ⟨by unfold withVotes; rw [getD_set, if_neg (by omega)], ?_⟩
        rw [← hnum]
        rcases Nat.lt_or_gt_of_ne hne with h | h
        · have := num_lt hg h hi; omega
        · have := num_lt hg h hj; omega
      refine ⟨withVotes l i ((l.getD i dP).2.2.2.set a.toNat v), e1, e2, hff, casts_loop more l m n a v _ _ (by rw [withVotes_len]; have := sl.len; omega) (withVotes_len _ _ _).symm (fun j hj => ?_) (fun j hj => ?_) (fun j hj kk hk => ?_), by rw [AreProposals_is _ _ hff, hgf]⟩
      · rw [withVotes_len] at hj
        by_cases hji : j = i
        · subst hji; rw [withVotes_get hi]; simp
        · rw [(other j hj hji).1]
      · rw [withVotes_len] at hj
        have hs := (sl.all _ (getD_mem hj dP)).votes
        by_cases hji : j = i
        · subst hji; rw [withVotes_get hi]; show (List.set _ _ _).length ≤ 100; rw [List.length_set]; omega
        · rw [(other j hj hji).1]; omega
      · rw [withVotes_len] at hj
        by_cases hji : j = i
        · subst hji
          rw [withVotes_get hi] at hk ⊢
          simp only at hk ⊢
          rw [List.length_set] at hk
          rw [getD_set]
          by_cases hka : (kk : Int) = a
          · rw [if_pos ⟨by omega, hk⟩, if_pos ⟨hnum, hka⟩]
          · rw [if_neg (by omega), if_neg (fun h => hka h.2)]
        · rw [(other j hj hji).1, if_neg (fun h => (other j hj hji).2 h.1)]
  rcases part1 with ⟨c1, c2⟩ | ⟨r1, c1, c2, fr1, lp1, are1⟩
  · have s1 := pSame_is [] fits_nil
    rcases part2 with ⟨v1, v2, y, i1, i2⟩ | ⟨z, fin, v1, v2, i1, i2, lp3, i3⟩
    · cases y <;> cases c3 with
      | false => simp only [F_laws_FnProposals, hb, cond_false, d1, c1, c2, s1, beq_self_eq_true, Bool.not_true, d2, v1, v2, i1, i2, bne_self_eq_false, cond_true, Bool.not_false, d3, w1, w2, s3, d4, t1, t2]
      | true => obtain ⟨x1, x2, x3⟩ := w3 rfl; simp only [F_laws_FnProposals, hb, cond_false, d1, c1, c2, s1, beq_self_eq_true, Bool.not_true, d2, v1, v2, i1, i2, bne_self_eq_false, cond_true, Bool.not_false, d3, w1, w2, s3, x1, x2, x3, d4, t1, t2]
    · cases c3 with
      | false => simp only [F_laws_FnProposals, hb, cond_false, d1, c1, c2, s1, beq_self_eq_true, Bool.not_true, d2, v1, v2, i1, i2, lp3, i3, bne_self_eq_false, cond_true, Bool.not_false, d3, w1, w2, s3, d4, t1, t2]
      | true => obtain ⟨x1, x2, x3⟩ := w3 rfl; simp only [F_laws_FnProposals, hb, cond_false, d1, c1, c2, s1, beq_self_eq_true, Bool.not_true, d2, v1, v2, i1, i2, lp3, i3, bne_self_eq_false, cond_true, Bool.not_false, d3, w1, w2, s3, x1, x2, x3, d4, t1, t2]
  · have s1 := pSame_is r1 fr1
    rcases part2 with ⟨v1, v2, y, i1, i2⟩ | ⟨z, fin, v1, v2, i1, i2, lp3, i3⟩
    · cases y <;> cases c3 with
      | false => simp only [F_laws_FnProposals, hb, cond_false, d1, c1, c2, s1, lp1, are1, beq_self_eq_true, Bool.not_true, d2, v1, v2, i1, i2, bne_self_eq_false, cond_true, Bool.not_false, d3, w1, w2, s3, d4, t1, t2]
      | true => obtain ⟨x1, x2, x3⟩ := w3 rfl; simp only [F_laws_FnProposals, hb, cond_false, d1, c1, c2, s1, lp1, are1, beq_self_eq_true, Bool.not_true, d2, v1, v2, i1, i2, bne_self_eq_false, cond_true, Bool.not_false, d3, w1, w2, s3, x1, x2, x3, d4, t1, t2]
    · cases c3 with
      | false => simp only [F_laws_FnProposals, hb, cond_false, d1, c1, c2, s1, lp1, are1, beq_self_eq_true, Bool.not_true, d2, v1, v2, i1, i2, lp3, i3, bne_self_eq_false, cond_true, Bool.not_false, d3, w1, w2, s3, d4, t1, t2]
      | true => obtain ⟨x1, x2, x3⟩ := w3 rfl; simp only [F_laws_FnProposals, hb, cond_false, d1, c1, c2, s1, lp1, are1, beq_self_eq_true, Bool.not_true, d2, v1, v2, i1, i2, lp3, i3, bne_self_eq_false, cond_true, Bool.not_false, d3, w1, w2, s3, x1, x2, x3, d4, t1, t2]
end Go.Proofs.YtdpkcnmlflngpaaDoor
