/- Plain laws for this claim, several texts in one. No conditions beyond the bounds that are named. -/
import Derived.Test.YtadehfgciiocfaaEvZk
import Derived.Test.YtadehfgciiocfaaC0
import Derived.Sort.Walk0
/- Words for pure laws: rounds of loops, bounds of numbers. No conditions. -/
set_option linter.unusedVariables false
namespace Go.Proofs.Ytadehfgciiocfaa
open Go
theorem wrap_id {n : Int} (h0 : -9223372036854775808 ≤ n) (h1 : n ≤ 9223372036854775807) : IntKind.i64.wrap n = n := by
  simp [IntKind.wrap, IntKind.bits, IntKind.signed]
  omega
theorem wrap_succ {i : Nat} (h : i < 9223372036854775807) : IntKind.i64.wrap ((i : Int) + 1) = ((i + 1 : Nat) : Int) := by rw [wrap_id (by omega) (by omega)]; omega
theorem wrap_pred {i : Nat} (h : i < 9223372036854775807) (h0 : 0 < i) : IntKind.i64.wrap ((i : Int) - 1) = ((i - 1 : Nat) : Int) := by rw [wrap_id (by omega) (by omega)]; omega

/-- a loop that keeps R and comes to an end has Q behind it -/
theorem runL_inv {S O : Type} {f : S → Option (S ⊕ O)} (R : S → Prop) (Q : O → Prop) (μ : S → Nat)
    (h : ∀ s, R s → (∃ o, f s = some (.inr o) ∧ Q o) ∨ ∃ s', f s = some (.inl s') ∧ R s' ∧ μ s' < μ s) : ∀ s, R s → ∃ o, runL f s = some o ∧ Q o := by
  have go : ∀ n s, μ s ≤ n → R s → ∃ o, runL f s = some o ∧ Q o := by
    intro n
    induction n with
    | zero =>
      intro s hn hs
      rcases h s hs with ⟨o, e, q⟩ | ⟨s', e, r, l⟩
      · exact ⟨o, by rw [runL_eq, e], q⟩
      · omega
    | succ n ih =>
      intro s hn hs
      rcases h s hs with ⟨o, e, q⟩ | ⟨s', e, r, l⟩
      · exact ⟨o, by rw [runL_eq, e], q⟩
      · obtain ⟨o, e2, q⟩ := ih s' (by omega) r
        exact ⟨o, by rw [runL_eq, e]; exact e2, q⟩
  exact fun s hs => go _ s (Nat.le_refl _) hs

/-- two loops, round by round -/
theorem runL_sim {S T O P : Type} {f : S → Option (S ⊕ O)} {g : T → Option (T ⊕ P)} (R : S → T → Prop) (Q : O → P → Prop) (μ : S → Nat)
    (h : ∀ s t, R s t → (∃ o p, f s = some (.inr o) ∧ g t = some (.inr p) ∧ Q o p) ∨ ∃ s' t', f s = some (.inl s') ∧ g t = some (.inl t') ∧ R s' t' ∧ μ s' < μ s) :
    ∀ s t, R s t → ∃ o p, runL f s = some o ∧ runL g t = some p ∧ Q o p := by
  have go : ∀ n s t, μ s ≤ n → R s t → ∃ o p, runL f s = some o ∧ runL g t = some p ∧ Q o p := by
    intro n
    induction n with
    | zero =>
      intro s t hn hs
      rcases h s t hs with ⟨o, p, e, e2, q⟩ | ⟨s', t', e, e2, r, l⟩
      · exact ⟨o, p, by rw [runL_eq, e], by rw [runL_eq, e2], q⟩
      · omega
    | succ n ih =>
      intro s t hn hs
      rcases h s t hs with ⟨o, p, e, e2, q⟩ | ⟨s', t', e, e2, r, l⟩
      · exact ⟨o, p, by rw [runL_eq, e], by rw [runL_eq, e2], q⟩
      · obtain ⟨o, p, e3, e4, q⟩ := ih s' t' (by omega) r
        exact ⟨o, p, by rw [runL_eq, e]; exact e3, by rw [runL_eq, e2]; exact e4, q⟩
  exact fun s t hs => go _ s t (Nat.le_refl _) hs

/-- a loop over m rounds whose states are known -/
theorem runL_traj {S O : Type} {f : S → Option (S ⊕ O)} (s : Nat → S) (o : O) (m : Nat) (h : ∀ i, i < m → f (s i) = some (.inl (s (i + 1)))) (hend : f (s m) = some (.inr o)) : runL f (s 0) = some o := by
  have go : ∀ k i, m - i = k → i ≤ m → runL f (s i) = some o := by
    intro k
    induction k with
    | zero => intro i hk hi; rw [runL_eq, show i = m by omega, hend]
    | succ k ih => intro i hk hi; rw [runL_eq, h i (by omega)]; exact ih (i + 1) (by omega) (by omega)
  exact go m 0 (by omega) (by omega)

/-- a loop that goes on while p holds: the first place where it fails -/
theorem runL_first {S O : Type} {f : S → Option (S ⊕ O)} (p : Nat → Bool) (s : Nat → S) (no : Nat → O) (yes : O) (m : Nat)
    (h : ∀ i, i < m → f (s i) = some (bif p i then .inl (s (i + 1)) else .inr (no i))) (hend : f (s m) = some (.inr yes)) :
    (runL f (s 0) = some yes ∧ ∀ i, i < m → p i = true) ∨ ∃ i, i < m ∧ p i = false ∧ (∀ j, j < i → p j = true) ∧ runL f (s 0) = some (no i) := by
  have go : ∀ k i, m - i = k → i ≤ m → (∀ j, j < i → p j = true) → runL f (s 0) = runL f (s i) → (runL f (s 0) = some yes ∧ ∀ i, i < m → p i = true) ∨ ∃ i, i < m ∧ p i = false ∧ (∀ j, j < i → p j = true) ∧ runL f (s 0) = some (no i) := by
    intro k
    induction k with
    | zero =>
      intro i hk hi hp he
      have : i = m := by omega
      subst this
      exact .inl ⟨by rw [he, runL_eq, hend], hp⟩
    | succ k ih =>
      intro i hk hi hp he
      have hi' : i < m := by omega
      cases hpi : p i with
      | false => exact .inr ⟨i, hi', hpi, hp, by rw [he, runL_eq, h i hi', hpi]; rfl⟩
      | true =>
        refine ih (i + 1) (by omega) (by omega) (fun j hj => ?_) ?_
        · rcases Nat.lt_succ_iff_lt_or_eq.1 hj with hj | hj
          · exact hp j hj
          · exact hj ▸ hpi
        · rw [he, runL_eq f (s i), h i hi', hpi]; rfl
  exact go m 0 (by omega) (by omega) (fun j hj => by omega) rfl

/-- all of the first m places -/
def allN (p : Nat → Bool) (m : Nat) : Bool := (List.range m).all p
theorem allN_true {p : Nat → Bool} {m : Nat} : allN p m = true ↔ ∀ i, i < m → p i = true := by simp [allN]
theorem allN_false {p : Nat → Bool} {m : Nat} : allN p m = false ↔ ∃ i, i < m ∧ p i = false := by simp [allN]

theorem runL_all {S O : Type} {f : S → Option (S ⊕ O)} (p : Nat → Bool) (s : Nat → S) (no yes : O) (m : Nat)
    (h : ∀ i, i < m → f (s i) = some (bif p i then .inl (s (i + 1)) else .inr no)) (hend : f (s m) = some (.inr yes)) : runL f (s 0) = some (bif allN p m then yes else no) := by
  rcases runL_first p s (fun _ => no) yes m h hend with ⟨e, hp⟩ | ⟨i, hi, hp, _, e⟩
  · rw [e, allN_true.2 hp]; rfl
  · rw [e, allN_false.2 ⟨i, hi, hp⟩]; rfl

/-- the first of m places where p holds, or -1 -/
def firstN (p : Nat → Bool) (m : Nat) : Int := match (List.range m).find? p with | some i => (i : Int) | none => -1
theorem firstN_at {p : Nat → Bool} {m i : Nat} (hi : i < m) (hp : p i = true) (hj : ∀ j, j < i → p j = false) : firstN p m = (i : Int) := by
  unfold firstN
  have : (List.range m).find? p = some i := by
    rw [List.find?_range_eq_some]
    refine ⟨hp, by simpa using hi, fun j hj' => by simp [hj j hj']⟩
  rw [this]
theorem firstN_none {p : Nat → Bool} {m : Nat} (h : ∀ j, j < m → p j = false) : firstN p m = -1 := by
  unfold firstN
  have : (List.range m).find? p = none := by
    rw [List.find?_eq_none]
    intro x hx
    simp [h x (by simpa using hx)]
  rw [this]
theorem firstN_cases (p : Nat → Bool) (m : Nat) : (firstN p m = -1 ∧ ∀ j, j < m → p j = false) ∨ ∃ i, i < m ∧ firstN p m = (i : Int) ∧ p i = true ∧ ∀ j, j < i → p j = false := by
  cases h : (List.range m).find? p with
  | none =>
    have h' := List.find?_eq_none.1 h
    have : ∀ j, j < m → p j = false := fun j hj => by simpa using h' j (by simpa using hj)
    exact .inl ⟨firstN_none this, this⟩
  | some i =>
    obtain ⟨h1, h2, h3⟩ := List.find?_range_eq_some.1 h
    have h2' : i < m := by simpa using h2
    have h3' : ∀ j, j < i → p j = false := fun j hj => by simpa using h3 j hj
    exact .inr ⟨i, h2', firstN_at h2' h1 h3', h1, h3'⟩

/-- a loop that looks for the first place where p holds -/
theorem runL_find {S O : Type} {f : S → Option (S ⊕ O)} (p : Nat → Bool) (s : Nat → S) (o : Int → O) (m : Nat)
    (h : ∀ i, i < m → f (s i) = some (bif p i then .inr (o i) else .inl (s (i + 1)))) (hend : f (s m) = some (.inr (o (-1)))) : runL f (s 0) = some (o (firstN p m)) := by
  rcases runL_first (fun i => !p i) s (fun i => o i) (o (-1)) m (fun i hi => by rw [h i hi]; cases p i <;> rfl) hend with ⟨e, hp⟩ | ⟨i, hi, hp, hj, e⟩
  · rw [e, firstN_none (fun j hj => by simpa using hp j hj)]
  · rw [e, firstN_at hi (by simpa using hp) (fun j hj' => by simpa using hj j hj')]

theorem getD_mem {α : Type} {l : List α} {i : Nat} (h : i < l.length) (d : α) : l.getD i d ∈ l := by simp [List.getD, List.getElem?_eq_getElem h]
theorem take_succ_getD {α : Type} {l : List α} {i : Nat} (h : i < l.length) (d : α) : l.take (i + 1) = l.take i ++ [l.getD i d] := by
  rw [List.take_add_one, List.getD, List.getElem?_eq_getElem h]; rfl
theorem lt_len {i n : Nat} (h : i < n) : decide ((i : Int) < (n : Int)) = true := by simp; omega
theorem not_lt_len (n : Nat) : decide ((n : Int) < (n : Int)) = false := by simp
theorem nonneg (i : Nat) : decide (0 ≤ (i : Int)) = true := by simp

/-- a copy that is written place by place -/
theorem set_copy {α : Type} (l : List α) (d : α) {i : Nat} (h : i < l.length) : (l.take i ++ List.replicate (l.length - i) d).set i (l.getD i d) = l.take (i + 1) ++ List.replicate (l.length - (i + 1)) d := by
  have e : l.length - i = (l.length - (i + 1)) + 1 := by omega
  have hi : (l.take i).length = i := by simp; omega
  rw [take_succ_getD h d, e, List.replicate_succ, List.set_append, if_neg (by omega), hi, Nat.sub_self, List.set_cons_zero, List.append_assoc]
  rfl
theorem copy_len {α : Type} (l : List α) (d : α) {i : Nat} (h : i ≤ l.length) : (l.take i ++ List.replicate (l.length - i) d).length = l.length := by simp; omega
end Go.Proofs.Ytadehfgciiocfaa
/- Copies are what is copied, lists are equal to themselves, sizes are counted. No conditions beyond the bounds that are named. -/
set_option linter.unusedVariables false
set_option linter.unusedSimpArgs false
namespace Go.Proofs.Ytadehfgciiocfaa
open Go
theorem toLogEdit_is (p : (Int × (ByteArray × Bool))) : F_laws_toLogEdit p = some p := rfl
theorem eqLogEdit_is (p : (Int × (ByteArray × Bool))) : F_laws_eqLogEdit (p, p) = some true := by simp [F_laws_eqLogEdit]
theorem toLogEditS_is (l : List (Int × (ByteArray × Bool))) (h : l.length ≤ 1048576) : F_laws_toLogEditS l = some l := by
  have t := runL_traj (f := step_laws_toLogEditS_0) (fun i => (l, (i : Int), l.take i ++ List.replicate (l.length - i) (0, ByteArray.empty, false))) l l.length (fun i hi => by
    have hw := wrap_succ (i := i) (by omega)
    simp only [step_laws_toLogEditS_0, lt_len hi, nonneg, Bool.and_self, cond_true, Int.toNat_natCast, copy_len l (0, ByteArray.empty, false) (Nat.le_of_lt hi), set_copy l (0, ByteArray.empty, false) hi, hw, toLogEdit_is]) (by simp [step_laws_toLogEditS_0])
  have t' : runL step_laws_toLogEditS_0 (l, (0 : Int), List.replicate l.length (0, ByteArray.empty, false)) = some l := by simpa using t
  have h2 : decide ((l.length : Int) * 32 ≤ 140737488355328) = true := by simp; omega
  simp only [F_laws_toLogEditS, nonneg, h2, Int.le_refl, decide_true, Bool.and_true, cond_true, Int.toNat_natCast, t']
theorem eqLogEditS_is (l : List (Int × (ByteArray × Bool))) (h : l.length ≤ 9223372036854775807) : F_laws_eqLogEditS (l, l) = some true := by
  have t := runL_traj (f := step_laws_eqLogEditS_0) (fun i => (l, l, (i : Int))) (.inr ()) l.length (fun i hi => by
    have hw := wrap_succ (i := i) (by omega)
    simp only [step_laws_eqLogEditS_0, lt_len hi, nonneg, Bool.and_self, cond_true, Int.toNat_natCast, hw, eqLogEdit_is, Bool.not_true, cond_false]) (by simp [step_laws_eqLogEditS_0])
  have t' : runL step_laws_eqLogEditS_0 (l, l, (0 : Int)) = some (.inr ()) := t
  simp [F_laws_eqLogEditS, t']

theorem szLogEdit_is (p : (Int × (ByteArray × Bool))) (left : Int) (h0 : 0 ≤ left) (h1 : left ≤ 1048576) (hg : p.2.1.size ≤ 9223372036854775807) :
    ∃ o, F_laws_szLogEdit (p, left) = some o ∧ (o < 0 ∨ (0 ≤ o ∧ o ≤ 1048576)) := by
  have hw : IntKind.i64.wrap (left - (p.2.1.size : Int)) = left - (p.2.1.size : Int) := wrap_id (by omega) (by omega)
  by_cases hn : left - (p.2.1.size : Int) < 0
  · exact ⟨-1, by simp [F_laws_szLogEdit, hw, hn], .inl (by omega)⟩
  · exact ⟨left - (p.2.1.size : Int), by simp [F_laws_szLogEdit, hw, hn], .inr ⟨by omega, by omega⟩⟩

theorem szLogEditS_is (l : List (Int × (ByteArray × Bool))) (hl : l.length ≤ 9223372036854775807) (hg : ∀ e ∈ l, e.2.1.size ≤ 9223372036854775807) :
    ∃ o, F_laws_szLogEditS (l, 1048576) = some o ∧ (o < 0 ∨ l.length ≤ 1048576) := by
  have hw : IntKind.i64.wrap (1048576 - (l.length : Int)) = 1048576 - (l.length : Int) := wrap_id (by omega) (by omega)
  by_cases hn : 1048576 - (l.length : Int) < 0
  · exact ⟨-1, by simp [F_laws_szLogEditS, hw, hn], .inl (by omega)⟩
  · obtain ⟨o, ho, hq⟩ := runL_inv (f := step_laws_szLogEditS_0) (fun s => ∃ i : Nat, s.1 = l ∧ s.2.2 = (i : Int) ∧ i ≤ l.length ∧ 0 ≤ s.2.1 ∧ s.2.1 ≤ 1048576)
      (fun o => True) (fun s => (l.length : Int).toNat - s.2.2.toNat) (by
      rintro ⟨s1, left, s3⟩ ⟨i, e1, e2, hi, h0, h1⟩
      simp only at e1 e2 h0 h1 hi
      subst e1 e2
      rcases Nat.lt_or_ge i s1.length with hlt | hge
      · obtain ⟨o, e, hq⟩ := szLogEdit_is (s1.getD i (0, ByteArray.empty, false)) left h0 h1 (hg _ (getD_mem hlt _))
        have hws := wrap_succ (i := i) (by omega)
        rcases hq with hneg | ⟨q0, q1⟩
        · left
          refine ⟨.inl (-1), ?_, trivial⟩
          simp only [step_laws_szLogEditS_0, lt_len hlt, nonneg, Bool.and_self, cond_true, Int.toNat_natCast, e, decide_eq_true hneg]
        · right
          refine ⟨(s1, o, ((i + 1 : Nat) : Int)), ?_, ⟨i + 1, rfl, rfl, by omega, q0, q1⟩, by simp; omega⟩
          simp only [step_laws_szLogEditS_0, lt_len hlt, nonneg, Bool.and_self, cond_true, Int.toNat_natCast, e, decide_eq_false (show ¬ o < 0 by omega), cond_false, hws]
      · left
        have : i = s1.length := by omega
        subst this
        exact ⟨.inr left, by simp [step_laws_szLogEditS_0], trivial⟩) (l, 1048576 - (l.length : Int), 0) ⟨0, rfl, rfl, by omega, by simp; omega, by simp; omega⟩
    rcases o with v | v
    · exact ⟨v, by simp [F_laws_szLogEditS, hw, hn, ho], .inr (by omega)⟩
    · exact ⟨v, by simp [F_laws_szLogEditS, hw, hn, ho], .inr (by omega)⟩
theorem eqStringS_is (l : List ByteArray) (h : l.length ≤ 9223372036854775807) : F_laws_eqStringS (l, l) = some true := by
  have t := runL_traj (f := step_laws_eqStringS_0) (fun i => (l, l, (i : Int))) (.inr ()) l.length (fun i hi => by
    have hw := wrap_succ (i := i) (by omega)
    simp only [step_laws_eqStringS_0, lt_len hi, nonneg, Bool.and_self, cond_true, Int.toNat_natCast, hw, BEq.rfl, Bool.not_true, cond_false]) (by simp [step_laws_eqStringS_0])
  have t' : runL step_laws_eqStringS_0 (l, l, (0 : Int)) = some (.inr ()) := t
  simp [F_laws_eqStringS, t']
end Go.Proofs.Ytadehfgciiocfaa
/- Glosses: what a word of capitals is, on both sides. No conditions beyond the bounds that are named. -/
set_option linter.unusedVariables false
set_option linter.unusedSimpArgs false
namespace Go.Proofs.Ytadehfgciiocfaa
open Go
/-- the bytes of the capitals -/
theorem cap_byte : ∀ b : Fin 256, (decide (Lib.indexByte [65, 66, 67, 68, 69, 70, 71, 72, 73, 74, 75, 76, 77, 78, 79, 80, 81, 82, 83, 84, 85, 86, 87, 88, 89, 90] (UInt8.ofNat b.val) < 0)) = !(decide (65 ≤ (b.val : Int)) && decide ((b.val : Int) ≤ 90)) := by decide +kernel
abbrev capitals : ByteArray := ⟨#[65, 66, 67, 68, 69, 70, 71, 72, 73, 74, 75, 76, 77, 78, 79, 80, 81, 82, 83, 84, 85, 86, 87, 88, 89, 90]⟩
theorem cap_index (s : ByteArray) (i : Nat) : ∃ n, F_strings_IndexByte (capitals, byteAt s i) = some n ∧ decide (n < 0) = !(decide (65 ≤ byteAt s i) && decide (byteAt s i ≤ 90)) := by
  obtain ⟨b, hb⟩ : ∃ b : UInt8, byteAt s i = (b.toNat : Int) := ⟨_, rfl⟩
  refine ⟨_, rfl, ?_⟩
  rw [hb]
  have hc := cap_byte ⟨b.toNat, b.toNat_lt⟩
  simpa [Nat.toUInt8] using hc

/-- capitals alone -/
def capsOnly (s : ByteArray) : Bool := allN (fun i => decide (65 ≤ byteAt s i) && decide (byteAt s i ≤ 90)) s.size
/-- a gloss -/
def gl (s : ByteArray) : Bool := capsOnly s && (decide (1 ≤ (s.size : Int)) && decide ((s.size : Int) ≤ 8))

theorem l1In_is (a b c : Int) : F_spec_l1In (a, b, c) = some (decide (b ≤ a) && decide (a ≤ c)) := by
  unfold F_spec_l1In
  by_cases h : b ≤ a <;> simp [h]
theorem within_is (a b c : Int) : F_impl_within (a, b, c) = some (decide (b ≤ a) && decide (a ≤ c)) := by
  unfold F_impl_within
  by_cases h : b ≤ a <;> simp [h]

theorem lt_not {a b : Int} : decide (a < b) = !decide (b ≤ a) := by by_cases h : b ≤ a <;> simp [h] <;> omega
theorem gt_not {a b : Int} : decide (a > b) = !decide (a ≤ b) := by by_cases h : a ≤ b <;> simp [h] <;> omega

theorem hasOnly_is (s : ByteArray) (hs : s.size ≤ 9223372036854775807) : F_impl_hasOnly (s, capitals) = some (capsOnly s) := by
  have t := runL_all (f := step_impl_hasOnly_0) (fun i => decide (65 ≤ byteAt s i) && decide (byteAt s i ≤ 90)) (fun i => (s, capitals, (s.size : Int), (i : Int))) (.inl false) (.inr ()) s.size (fun i hi => by
    have hw := wrap_succ (i := i) (by omega)
    obtain ⟨n, e1, e2⟩ := cap_index s i
    simp only [step_impl_hasOnly_0, lt_len hi, nonneg, Bool.and_self, cond_true, Int.toNat_natCast, e1, e2, hw]
    cases (decide (65 ≤ byteAt s i) && decide (byteAt s i ≤ 90)) <;> rfl) (by simp [step_impl_hasOnly_0])
  have t' : runL step_impl_hasOnly_0 (s, capitals, (s.size : Int), (0 : Int)) = _ := t
  simp only [F_impl_hasOnly, t']
  unfold capsOnly
  cases allN _ _ <;> rfl

theorem IsGloss_is (s : ByteArray) (hs : s.size ≤ 9223372036854775807) : F_impl_IsGloss s = some (gl s) := by
  simp only [F_impl_IsGloss, F_impl_isWordOf, within_is, gl, hasOnly_is s hs]
  cases decide (1 ≤ (s.size : Int)) <;> cases decide ((s.size : Int) ≤ 8) <;> simp

end Go.Proofs.Ytadehfgciiocfaa
/- Texts put into a rising list: plain laws. Lengths fit an int. -/
set_option linter.unusedVariables false
set_option linter.unusedSimpArgs false
namespace Go.Proofs.Ytadehfgciiocfaa
open Go
def lessB (a b : ByteArray) : Bool := Op.bytesLess a.toList b.toList
/-- how many stand ahead -/
def ahead (s : ByteArray) : List ByteArray → Nat
  | [] => 0
  | a :: l => if lessB a s = true then ahead s l + 1 else 0
theorem ahead_le (s : ByteArray) : ∀ l, ahead s l ≤ l.length
  | [] => Nat.le_refl _
  | a :: l => by
    unfold ahead
    split
    · have := ahead_le s l; simp; omega
    · simp
theorem ahead_less (s : ByteArray) : ∀ (l : List ByteArray) (i : Nat), i < ahead s l → lessB (l.getD i ByteArray.empty) s = true
  | [], i, h => by simp [ahead] at h
  | a :: l, i, h => by
    unfold ahead at h
    split at h
    · rename_i hl
      cases i with
      | zero => exact hl
      | succ i => exact ahead_less s l i (by omega)
    · omega
theorem ahead_stop (s : ByteArray) : ∀ (l : List ByteArray), ahead s l < l.length → lessB (l.getD (ahead s l) ByteArray.empty) s = false
  | [], h => by simp at h
  | a :: l, h => by
    unfold ahead at h ⊢
    split
    · rename_i hl
      rw [if_pos hl] at h
      exact ahead_stop s l (by simp at h; omega)
    · rename_i hl
      simpa using hl
/-- a text comes to its place, if it is not there -/
def put (l : List ByteArray) (s : ByteArray) : List ByteArray := if ahead s l < l.length ∧ ((l.getD (ahead s l) ByteArray.empty).toList == s.toList) = true then l else l.take (ahead s l) ++ [s] ++ l.drop (ahead s l)
end Go.Proofs.Ytadehfgciiocfaa
/- Strictly rising lists of texts: plain laws. Lengths fit an int. -/
set_option linter.unusedVariables false
set_option linter.unusedSimpArgs false
namespace Go.Proofs.Ytadehfgciiocfaa
open Go Classical
theorem lessB_lt (a b : ByteArray) : lessB a b = decide (a.data.toList < b.data.toList) := by
  unfold lessB
  rw [bytesLess_eq, Lib.toList_data, Lib.toList_data]
theorem bytes_ext {a b : ByteArray} (h : a.data.toList = b.data.toList) : a = b := by
  obtain ⟨⟨a⟩⟩ := a
  obtain ⟨⟨b⟩⟩ := b
  have : a = b := h
  rw [this]
theorem lessB_irrefl (a : ByteArray) : lessB a a = false := by
  rw [lessB_lt]; exact decide_eq_false (List.lt_irrefl _)
theorem lessB_trans {a b c : ByteArray} (h : lessB a b = true) (k : lessB b c = true) : lessB a c = true := by
  rw [lessB_lt] at *
  exact decide_eq_true (List.lt_trans (of_decide_eq_true h) (of_decide_eq_true k))
theorem lessB_tri {a b : ByteArray} (h : lessB a b = false) (k : lessB b a = false) : a = b := by
  rw [lessB_lt] at *
  have h := of_decide_eq_false h
  have k := of_decide_eq_false k
  exact bytes_ext (List.le_antisymm (List.not_lt.1 k) (List.not_lt.1 h))
theorem beq_is (a b : ByteArray) : (a.toList == b.toList) = decide (a = b) := by
  rw [Lib.toList_data, Lib.toList_data]
  by_cases h : a = b
  · subst h; simp
  · have : ¬ a.data.toList = b.data.toList := fun e => h (bytes_ext e)
    rw [decide_eq_false h]
    exact beq_eq_false_iff_ne.2 this
def Rise (l : List ByteArray) : Prop := l.Pairwise fun a b => lessB a b = true
theorem Rise.ext : ∀ {l m : List ByteArray}, Rise l → Rise m → (∀ x, x ∈ l ↔ x ∈ m) → l = m
  | [], [], _, _, _ => rfl
  | [], b :: m, _, _, h => by have := (h b).2 (by simp); cases this
  | a :: l, [], _, _, h => by have := (h a).1 (by simp); cases this
  | a :: l, b :: m, hl, hm, h => by
    obtain ⟨l1, l2⟩ := List.pairwise_cons.1 hl
    obtain ⟨m1, m2⟩ := List.pairwise_cons.1 hm
    have hab : a = b := by
      rcases List.mem_cons.1 ((h a).1 (by simp)) with e | e
      · exact e
      · rcases List.mem_cons.1 ((h b).2 (by simp)) with e' | e'
        · exact e'.symm
        · have := lessB_trans (l1 b e') (m1 a e)
          rw [lessB_irrefl] at this
          cases this
    subst hab
    rw [Rise.ext l2 m2 fun x => ⟨fun hx => by
      rcases List.mem_cons.1 ((h x).1 (by simp [hx])) with e | e
      · subst e
        have := l1 x hx
        rw [lessB_irrefl] at this
        cases this
      · exact e, fun hx => by
      rcases List.mem_cons.1 ((h x).2 (by simp [hx])) with e | e
      · subst e
        have := m1 x hx
        rw [lessB_irrefl] at this
        cases this
      · exact e⟩]
theorem Rise.lt {l : List ByteArray} (h : Rise l) {i j : Nat} (hij : i < j) (hj : j < l.length) : lessB (l.getD i ByteArray.empty) (l.getD j ByteArray.empty) = true := by
  have := List.pairwise_iff_getElem.1 h i j (by omega) hj hij
  simpa [List.getD, List.getElem?_eq_getElem hj, List.getElem?_eq_getElem (show i < l.length by omega)] using this
theorem rise_of {l : List ByteArray} (h : ∀ i, 0 < i → i < l.length → lessB (l.getD (i - 1) ByteArray.empty) (l.getD i ByteArray.empty) = true) : Rise l := by
  refine List.pairwise_iff_getElem.2 fun i j hi hj hij => ?_
  have go : ∀ d i, i + d + 1 < l.length → lessB (l.getD i ByteArray.empty) (l.getD (i + d + 1) ByteArray.empty) = true := by
    intro d
    induction d with
    | zero => intro i hi; exact h (i + 1) (by omega) hi
    | succ d ih => intro i hi; exact lessB_trans (ih i (by omega)) (h (i + (d + 1) + 1) (by omega) hi)
  have := go (j - i - 1) i (by omega)
  rw [show i + (j - i - 1) + 1 = j by omega] at this
  simpa [List.getD, List.getElem?_eq_getElem hj, List.getElem?_eq_getElem hi] using this
theorem Rise.before {l : List ByteArray} (h : Rise l) (s : ByteArray) {i : Nat} (hi : i < l.length) : lessB (l.getD i ByteArray.empty) s = decide (i < ahead s l) := by
  rcases Nat.lt_or_ge i (ahead s l) with hk | hk
  · rw [ahead_less s l i hk, decide_eq_true hk]
  · rw [decide_eq_false (by omega)]
    have hs := ahead_stop s l (by omega)
    rcases Nat.eq_or_lt_of_le hk with e | e
    · rw [← e]; exact hs
    · have hl := h.lt e hi
      cases hq : lessB (l.getD i ByteArray.empty) s with
      | false => rfl
      | true => rw [lessB_trans hl hq] at hs; cases hs
theorem Rise.mem {l : List ByteArray} (h : Rise l) (s : ByteArray) : s ∈ l ↔ ahead s l < l.length ∧ l.getD (ahead s l) ByteArray.empty = s := by
  constructor
  · intro hs
    obtain ⟨i, hi, e⟩ := List.getElem_of_mem hs
    have hd : l.getD i ByteArray.empty = s := by simp [List.getD, List.getElem?_eq_getElem hi, e]
    have hb := h.before s hi
    rw [hd, lessB_irrefl] at hb
    have hge : ahead s l ≤ i := by have := of_decide_eq_false hb.symm; omega
    rcases Nat.eq_or_lt_of_le hge with e' | e'
    · exact ⟨by omega, by rw [e']; exact hd⟩
    · have hl := h.lt e' hi
      rw [hd, ahead_stop s l (by omega)] at hl
      cases hl
  · rintro ⟨h1, h2⟩
    rw [← h2]
    exact getD_mem h1 _
theorem put_is {l : List ByteArray} (h : Rise l) (s : ByteArray) : put l s = if s ∈ l then l else l.take (ahead s l) ++ [s] ++ l.drop (ahead s l) := by
  unfold put
  have e : (ahead s l < l.length ∧ ((l.getD (ahead s l) ByteArray.empty).toList == s.toList) = true) ↔ s ∈ l := by
    rw [h.mem s, beq_is, decide_eq_true_iff]
  by_cases hs : s ∈ l
  · rw [if_pos hs, if_pos (e.2 hs)]
  · rw [if_neg hs, if_neg fun h => hs (e.1 h)]
theorem put_mem {l : List ByteArray} (h : Rise l) (s x : ByteArray) : x ∈ put l s ↔ x = s ∨ x ∈ l := by
  rw [put_is h]
  split
  · rename_i hs
    exact ⟨.inr, fun h => h.elim (fun e => e ▸ hs) id⟩
  · have : x ∈ l ↔ x ∈ l.take (ahead s l) ∨ x ∈ l.drop (ahead s l) := by
      rw [← List.mem_append, List.take_append_drop]
    rw [this]
    simp only [List.mem_append, List.mem_singleton]
    constructor
    · rintro ((h | h) | h)
      · exact .inr (.inl h)
      · exact .inl h
      · exact .inr (.inr h)
    · rintro (h | h | h)
      · exact .inl (.inr h)
      · exact .inl (.inl h)
      · exact .inr h
theorem Rise.put {l : List ByteArray} (h : Rise l) (s : ByteArray) : Rise (put l s) := by
  rw [put_is h]
  split
  · exact h
  · rename_i hs
    have h1 : ∀ x ∈ l.take (ahead s l), lessB x s = true := by
      intro x hx
      obtain ⟨i, hi, e⟩ := List.getElem_of_mem hx
      have hi' : i < ahead s l ∧ i < l.length := by simp at hi; omega
      have := ahead_less s l i hi'.1
      rw [List.getElem_take] at e
      rw [← e]
      simpa [List.getD, List.getElem?_eq_getElem hi'.2] using this
    have h2 : ∀ x ∈ l.drop (ahead s l), lessB s x = true := by
      intro x hx
      obtain ⟨i, hi, e⟩ := List.getElem_of_mem hx
      have hi' : ahead s l + i < l.length := by simp at hi; omega
      rw [List.getElem_drop] at e
      have hb := h.before s hi'
      rw [decide_eq_false (by omega)] at hb
      have hd : l.getD (ahead s l + i) ByteArray.empty = x := by simp [List.getD, List.getElem?_eq_getElem hi', e]
      rw [hd] at hb
      cases hq : lessB s x with
      | true => rfl
      | false =>
        have := lessB_tri hb hq
        subst this
        exact absurd (List.mem_of_mem_drop hx) hs
    have hp : Rise (l.take (ahead s l) ++ l.drop (ahead s l)) := by rw [List.take_append_drop]; exact h
    obtain ⟨p1, p2, p3⟩ := List.pairwise_append.1 hp
    rw [List.append_assoc]
    refine List.pairwise_append.2 ⟨p1, List.pairwise_cons.2 ⟨h2, p2⟩, fun a ha b hb => ?_⟩
    rcases List.mem_cons.1 hb with rfl | hb
    · exact h1 a ha
    · exact p3 a ha b hb
theorem put_len {l : List ByteArray} (s : ByteArray) : (put l s).length ≤ l.length + 1 := by
  unfold put
  split
  · omega
  · have := ahead_le s l
    simp; omega
theorem Rise.remove {l : List ByteArray} (h : Rise l) {s : ByteArray} (hs : s ∈ l) : l.take (ahead s l) ++ l.drop (ahead s l + 1) = l.filter fun x => decide (x ≠ s) := by
  obtain ⟨hk, hd⟩ := (h.mem s).1 hs
  have hl : l = l.take (ahead s l) ++ s :: l.drop (ahead s l + 1) := by
    have e1 : l[ahead s l] = s := by simpa [List.getD, List.getElem?_eq_getElem hk] using hd
    have : l.drop (ahead s l) = s :: l.drop (ahead s l + 1) := by rw [List.drop_eq_getElem_cons hk, e1]
    rw [← this, List.take_append_drop]
  generalize hA : l.take (ahead s l) = A at hl ⊢
  generalize hB : l.drop (ahead s l + 1) = B at hl ⊢
  subst hl
  obtain ⟨p1, p2, p3⟩ := List.pairwise_append.1 h
  obtain ⟨q1, q2⟩ := List.pairwise_cons.1 p2
  have f1 : A.filter (fun x => decide (x ≠ s)) = A := List.filter_eq_self.2 fun x hx => by
    have := p3 x hx s (by simp)
    refine decide_eq_true fun e => ?_
    subst e
    rw [lessB_irrefl] at this; cases this
  have f2 : B.filter (fun x => decide (x ≠ s)) = B := List.filter_eq_self.2 fun x hx => by
    have := q1 x hx
    refine decide_eq_true fun e => ?_
    subst e
    rw [lessB_irrefl] at this; cases this
  rw [List.filter_append, List.filter_cons, f1, f2]
  simp
theorem Rise.filter {l : List ByteArray} (h : Rise l) (p : ByteArray → Bool) : Rise (l.filter p) := List.Pairwise.sublist List.filter_sublist h
theorem filter_there {l : List ByteArray} {s : ByteArray} : (l.filter fun x => decide (x ≠ s)).length < l.length ↔ s ∈ l := by
  constructor
  · intro h
    refine Classical.byContradiction fun hs => ?_
    have hf : l.filter (fun x => decide (x ≠ s)) = l := List.filter_eq_self.2 fun x hx => by
      refine decide_eq_true fun e => ?_
      subst e
      exact hs hx
    rw [hf] at h
    omega
  · intro hs
    rcases Nat.lt_or_ge (l.filter fun x => decide (x ≠ s)).length l.length with h | h
    · exact h
    · have := List.length_filter_eq_length_iff.1 (Nat.le_antisymm (List.length_filter_le _ _) h) s hs
      simp at this
end Go.Proofs.Ytadehfgciiocfaa
/- What distinct comes to: the elements of a list of texts, strictly rising. Lengths fit an int. -/
set_option linter.unusedVariables false
set_option linter.unusedSimpArgs false
namespace Go.Proofs.Ytadehfgciiocfaa
open Go Classical
/-- runs of the same become one -/
def cpt : List ByteArray → List ByteArray
  | [] => []
  | [a] => [a]
  | a :: b :: l => if a = b then cpt (b :: l) else a :: cpt (b :: l)
theorem cpt_snoc (x : ByteArray) : ∀ l : List ByteArray, cpt (l ++ [x]) = if l.getLast? = some x then cpt l else cpt l ++ [x]
  | [] => rfl
  | [a] => by
    show (if a = x then [x] else a :: [x]) = _
    by_cases h : a = x
    · subst h; simp [cpt]
    · simp [cpt, h]
  | a :: b :: l => by
    have ih := cpt_snoc x (b :: l)
    show (if a = b then cpt (b :: l ++ [x]) else a :: cpt (b :: l ++ [x])) = _
    rw [ih, List.getLast?_cons_cons]
    by_cases h : a = b
    · simp [cpt, h]
    · by_cases hx : (b :: l).getLast? = some x
      · simp [cpt, h, hx]
      · simp [cpt, h, hx]
theorem cpt_mem : ∀ (l : List ByteArray) (x : ByteArray), x ∈ cpt l ↔ x ∈ l
  | [], _ => Iff.rfl
  | [_], _ => Iff.rfl
  | a :: b :: l, x => by
    have ih := cpt_mem (b :: l) x
    unfold cpt
    split
    · rename_i h
      rw [ih, h]
      simp
    · simp only [List.mem_cons] at ih ⊢
      rw [ih]
theorem cpt_rise : ∀ {l : List ByteArray}, l.Pairwise (fun a b => lessB b a = false) → Rise (cpt l)
  | [], _ => List.Pairwise.nil
  | [a], _ => by simp [cpt, Rise]
  | a :: b :: l, h => by
    obtain ⟨h1, h2⟩ := List.pairwise_cons.1 h
    have ih := cpt_rise h2
    unfold cpt
    split
    · exact ih
    · rename_i hne
      refine List.pairwise_cons.2 ⟨fun x hx => ?_, ih⟩
      have hx := (cpt_mem _ x).1 hx
      have hab : lessB a b = true := by
        cases hq : lessB a b with
        | true => rfl
        | false => exact absurd (lessB_tri hq (h1 b (by simp))) hne
      rcases List.mem_cons.1 hx with rfl | hx
      · exact hab
      · cases hq : lessB a x with
        | true => rfl
        | false =>
          have hbx := (List.pairwise_cons.1 h2).1 x hx
          have hxa := h1 x (by simp [hx])
          have e := lessB_tri hq hxa
          subst e
          rw [hbx] at hab
          cases hab
theorem cpt_len : ∀ l : List ByteArray, (cpt l).length ≤ l.length
  | [] => Nat.le_refl _
  | [_] => Nat.le_refl _
  | a :: b :: l => by
    have ih := cpt_len (b :: l)
    unfold cpt
    split
    · simp at ih ⊢; omega
    · simp at ih ⊢; omega
theorem take_last {l : List ByteArray} {i : Nat} (h0 : 0 < i) (h : i ≤ l.length) : (l.take i).getLast? = some (l.getD (i - 1) ByteArray.empty) := by
  have e : l.take i = l.take (i - 1) ++ [l.getD (i - 1) ByteArray.empty] := by
    have := take_succ_getD (l := l) (i := i - 1) (by omega) ByteArray.empty
    rwa [show i - 1 + 1 = i by omega] at this
  rw [e, List.getLast?_append]
  simp
theorem cpt_next {l : List ByteArray} {i : Nat} (h0 : 0 < i) (h : i < l.length) : cpt (l.take (i + 1)) = if l.getD (i - 1) ByteArray.empty = l.getD i ByteArray.empty then cpt (l.take i) else cpt (l.take i) ++ [l.getD i ByteArray.empty] := by
  rw [take_succ_getD h ByteArray.empty, cpt_snoc, take_last h0 (by omega)]
  simp

theorem compact_inner (x : List ByteArray) (i : Nat) (hx : x.length ≤ 1048576000) (h0 : 0 < i) (hi : i < x.length) (hp : cpt (x.take i) = x.take i) (he : x.getD (i - 1) ByteArray.empty = x.getD i ByteArray.empty) :
    ∃ o, runL step_slices_Compact_string_string_0 ((i : Int), (i : Int), (((x.length - i : Nat) : Int), 1, x)) = some o ∧ ∃ (k : Nat) (cur : List ByteArray), o = ((k : Int), cur) ∧ k ≤ x.length ∧ cur.length = x.length ∧ cur.take k = cpt x := by
  refine runL_inv (f := step_slices_Compact_string_string_0) (fun s => ∃ (k j : Nat) (cur : List ByteArray), s = ((k : Int), (i : Int), (((x.length - i : Nat) : Int), (j : Int), cur)) ∧ 1 ≤ j ∧ j ≤ x.length - i ∧ k < i + j ∧ cur.length = x.length ∧ cur.take k = cpt (x.take (i + j)) ∧ ∀ t, i + j ≤ t + 1 → t < x.length → cur.getD t ByteArray.empty = x.getD t ByteArray.empty)
    (fun o => ∃ (k : Nat) (cur : List ByteArray), o = ((k : Int), cur) ∧ k ≤ x.length ∧ cur.length = x.length ∧ cur.take k = cpt x) (fun s => x.length - s.2.2.2.1.toNat) ?_ _
    ⟨i, 1, x, rfl, Nat.le_refl _, by omega, by omega, rfl, by rw [cpt_next h0 hi, if_pos he, hp], fun t _ _ => rfl⟩
  rintro s ⟨k, j, cur, rfl, hj1, hj2, hk, hcl, hct, hsame⟩
  rcases Nat.lt_or_ge j (x.length - i) with hlt | hge
  · right
    have w1 := wrap_pred (i := j) (by omega) (by omega)
    have w2 := wrap_succ (i := k) (by omega)
    have w3 := wrap_succ (i := j) (by omega)
    have g1 : cur.getD (i + j) ByteArray.empty = x.getD (i + j) ByteArray.empty := hsame _ (by omega) (by omega)
    have g2 : cur.getD (i + (j - 1)) ByteArray.empty = x.getD (i + j - 1) ByteArray.empty := by rw [show i + (j - 1) = i + j - 1 by omega]; exact hsame _ (by omega) (by omega)
    have hn := cpt_next (l := x) (i := i + j) (by omega) (by omega)
    have hkl : k < cur.length := by omega
    by_cases hq : x.getD (i + j) ByteArray.empty = x.getD (i + j - 1) ByteArray.empty
    · have hb : ((x.getD (i + j) ByteArray.empty).toList == (x.getD (i + j - 1) ByteArray.empty).toList) = true := by rw [beq_is]; exact decide_eq_true hq
      refine ⟨((k : Int), (i : Int), (((x.length - i : Nat) : Int), ((j + 1 : Nat) : Int), cur)), ?_, ⟨k, j + 1, cur, rfl, by omega, by omega, by omega, hcl, ?_, fun t ht htl => hsame t (by omega) htl⟩, by simp; omega⟩
      · simp only [step_slices_Compact_string_string_0, Int.toNat_natCast, lt_len hlt, nonneg, Bool.and_self, cond_true, w1, lt_len (show j - 1 < x.length - i by omega), g1, g2, hb, Bool.not_true, cond_false, w3]
      · rw [show i + (j + 1) = i + j + 1 by omega, hn, if_pos hq.symm]; exact hct
    · have hb : ((x.getD (i + j) ByteArray.empty).toList == (x.getD (i + j - 1) ByteArray.empty).toList) = false := by rw [beq_is]; exact decide_eq_false hq
      refine ⟨(((k + 1 : Nat) : Int), (i : Int), (((x.length - i : Nat) : Int), ((j + 1 : Nat) : Int), cur.set k (x.getD (i + j) ByteArray.empty))), ?_, ⟨k + 1, j + 1, _, rfl, by omega, by omega, by omega, by simp [hcl], ?_, fun t ht htl => ?_⟩, by simp; omega⟩
      · simp only [step_slices_Compact_string_string_0, Int.toNat_natCast, lt_len hlt, nonneg, Bool.and_self, cond_true, w1, lt_len (show j - 1 < x.length - i by omega), g1, g2, hb, Bool.not_false, lt_len hkl, w2, w3]
      · rw [show i + (j + 1) = i + j + 1 by omega, hn, if_neg (fun e => hq e.symm), ← hct]
        rw [take_succ_getD (by simpa using hkl) ByteArray.empty, List.take_set, List.set_eq_of_length_le (by simp; omega)]
        simp [List.getD, hkl]
      · have hne : k ≠ t := by omega
        have := hsame t (by omega) htl
        simpa [List.getD, List.getElem?_set, hne] using this
  · left
    have hj : j = x.length - i := by omega
    subst hj
    refine ⟨((k : Int), cur), by simp only [step_slices_Compact_string_string_0, Int.toNat_natCast, not_lt_len, cond_false], k, cur, rfl, by omega, hcl, ?_⟩
    rw [hct, show i + (x.length - i) = x.length by omega, List.take_length]

theorem compact_is (x : List ByteArray) (hx : x.length ≤ 1048576000) : F_slices_Compact_string_string x = some (cpt x) := by
  unfold F_slices_Compact_string_string
  by_cases h2 : (x.length : Int) < 2
  · rw [decide_eq_true h2]
    match x, h2 with
    | [], _ => rfl
    | [a], _ => rfl
    | a :: b :: l, h2 => simp at h2; omega
  · rw [decide_eq_false h2]
    obtain ⟨o, ho, hq⟩ := runL_inv (f := step_slices_Compact_string_string_1) (fun s => ∃ i : Nat, s = ((i : Int), x) ∧ 1 ≤ i ∧ i ≤ x.length ∧ cpt (x.take i) = x.take i)
      (fun o => (o = .inr x ∧ cpt x = x) ∨ ∃ (k : Nat) (c : List ByteArray), o = .inl (0, ((k : Int), c)) ∧ c.take k = cpt x) (fun s => x.length - s.1.toNat) (by
      rintro s ⟨i, rfl, hi1, hi2, hp⟩
      rcases Nat.lt_or_ge i x.length with hlt | hge
      · have w1 := wrap_pred (i := i) (by omega) hi1
        have w2 := wrap_succ (i := i) (by omega)
        by_cases hq : x.getD i ByteArray.empty = x.getD (i - 1) ByteArray.empty
        · left
          have hb : ((x.getD i ByteArray.empty).toList == (x.getD (i - 1) ByteArray.empty).toList) = true := by rw [beq_is]; exact decide_eq_true hq
          obtain ⟨o, ho, k, cur, rfl, hk, hcl, hct⟩ := compact_inner x i hx hi1 hlt hp hq.symm
          have g1 : decide ((i : Int) ≤ (x.length : Int)) = true := decide_eq_true (by omega)
          have g2 : decide ((x.length : Int) ≤ (x.length : Int)) = true := decide_eq_true (Int.le_refl _)
          have g3 : decide ((k : Int) ≤ (cur.length : Int)) = true := decide_eq_true (by omega)
          have g4 : decide ((cur.length : Int) ≤ (cur.length : Int)) = true := decide_eq_true (Int.le_refl _)
          have g5 : decide (k + (cur.length - k) ≤ cur.length) = true := decide_eq_true (by omega)
          have g6 : decide ((k : Int) ≤ (((cur.take k ++ List.replicate (cur.length - k) ByteArray.empty ++ cur.drop (k + (cur.length - k))).length : Nat) : Int)) = true := decide_eq_true (by simp; omega)
          have g0 : decide (0 ≤ (0 : Int)) = true := rfl
          have z0 : ((0 : Int).toNat) = 0 := rfl
          refine ⟨.inl (0, ((k : Int), cur.take k ++ List.replicate (cur.length - k) ByteArray.empty ++ cur.drop (k + (cur.length - k)))), ?_, .inr ⟨k, _, rfl, ?_⟩⟩
          · simp only [step_slices_Compact_string_string_1, lt_len hlt, nonneg, Bool.and_self, cond_true, w1, lt_len (show i - 1 < x.length by omega), Int.toNat_natCast, hb, g1, g2, ho, g3, g4, g5, g6, g0, z0, Nat.sub_zero, Int.ofNat_zero]
          · rw [List.append_assoc, List.take_append_of_le_length (by simp; omega), List.take_take, Nat.min_self, hct]
        · right
          have hb : ((x.getD i ByteArray.empty).toList == (x.getD (i - 1) ByteArray.empty).toList) = false := by rw [beq_is]; exact decide_eq_false hq
          refine ⟨(((i + 1 : Nat) : Int), x), ?_, ⟨i + 1, rfl, by omega, by omega, ?_⟩, by simp; omega⟩
          · simp only [step_slices_Compact_string_string_1, lt_len hlt, nonneg, Bool.and_self, cond_true, w1, lt_len (show i - 1 < x.length by omega), Int.toNat_natCast, hb, cond_false, w2]
          · rw [cpt_next hi1 hlt, if_neg (fun e => hq e.symm), hp, take_succ_getD hlt ByteArray.empty]
      · left
        have : i = x.length := by omega
        subst this
        refine ⟨.inr x, by simp only [step_slices_Compact_string_string_1, not_lt_len, cond_false], .inl ⟨rfl, ?_⟩⟩
        rwa [List.take_length] at hp) (1, x) ⟨1, rfl, Nat.le_refl _, by omega, by
        match x, h2 with
        | a :: l, _ => rfl⟩
    simp only [ho, cond_false]
    rcases hq with ⟨rfl, e⟩ | ⟨k, c, rfl, e⟩
    · simp only [e]
    · have h0 : ((0 : Int).toNat) = 0 := rfl
      simp [e]

theorem mergeSort_bytes (x : List ByteArray) : ∃ S : List ByteArray, F_slices_Sort_string_string x = (if x.length < 4611686018427387904 then some S else none) ∧ S.Perm x ∧ S.Pairwise (fun a b => lessB b a = false) := by
  refine ⟨((x.map fun b => b.data.toList).mergeSort fun a b => decide (a ≤ b)).map fun l => ⟨l.toArray⟩, ?_, ?_, ?_⟩
  · simp only [F_slices_Sort_string_string, F_sort]
    by_cases h : x.length < 4611686018427387904 <;> simp [h]
  · have h1 : (((x.map fun b : ByteArray => b.data.toList).mergeSort fun a b => decide (a ≤ b)).map fun l : List UInt8 => (⟨l.toArray⟩ : ByteArray)).Perm ((x.map fun b : ByteArray => b.data.toList).map fun l : List UInt8 => (⟨l.toArray⟩ : ByteArray)) := List.Perm.map _ (List.mergeSort_perm _ _)
    have h2 : (x.map fun b : ByteArray => b.data.toList).map (fun l : List UInt8 => (⟨l.toArray⟩ : ByteArray)) = x := by
      rw [List.map_map]
      have : ((fun l : List UInt8 => (⟨l.toArray⟩ : ByteArray)) ∘ fun b : ByteArray => b.data.toList) = id := by
        funext b
        obtain ⟨⟨l⟩⟩ := b
        rfl
      rw [this, List.map_id]
    rw [h2] at h1
    exact h1
  · refine List.pairwise_map.2 ?_
    have h := List.pairwise_mergeSort (le := fun a b : List UInt8 => decide (a ≤ b)) (fun a b c h k => decide_eq_true (List.le_trans (of_decide_eq_true h) (of_decide_eq_true k))) (fun a b => by
      rcases List.le_total a b with h | h
      · simp [h]
      · simp [h]) (x.map fun b => b.data.toList)
    refine h.imp fun {a b} hab => ?_
    rw [lessB_lt]
    exact decide_eq_false (List.not_lt.2 (of_decide_eq_true hab))
theorem distinct_is (x : List ByteArray) (hx : x.length ≤ 1048576000) : ∃ D, F_impl_distinct_string x = some D ∧ Rise D ∧ (∀ s, s ∈ D ↔ s ∈ x) ∧ D.length ≤ x.length := by
  obtain ⟨S, e, hp, hs⟩ := mergeSort_bytes x
  have hl := hp.length_eq
  rw [if_pos (by omega)] at e
  have h1 : F_slices_Clone_string_string x = some x := by
    simp only [F_slices_Clone_string_string]
    rw [decide_eq_true (by omega)]; rfl
  have h2 := compact_is S (by omega)
  refine ⟨cpt S, by simp only [F_impl_distinct_string, h1, e, h2], cpt_rise hs, fun s => ?_, ?_⟩
  · rw [cpt_mem]
    exact hp.mem_iff
  · have := cpt_len S; omega
end Go.Proofs.Ytadehfgciiocfaa
/- What slices.DeleteFunc and slices.Contains come to at texts. Lengths fit an int. -/
set_option linter.unusedVariables false
set_option linter.unusedSimpArgs false
namespace Go.Proofs.Ytadehfgciiocfaa
open Go Classical
theorem deleteFunc_is (l : List ByteArray) (hl : l.length ≤ 1048576000) (φ : ByteArray → Option Bool) (p : ByteArray → Bool) (hφ : ∀ x ∈ l, φ x = some (p x)) : F_slices_DeleteFunc_string_string (l, φ) = some (l.filter fun x => !p x) := by
  have hφ' : ∀ i, i < l.length → φ (l.getD i ByteArray.empty) = some (p (l.getD i ByteArray.empty)) := fun i hi => hφ _ (getD_mem hi _)
  have hfind : F_slices_IndexFunc_string_string (l, φ) = some (firstN (fun i => p (l.getD i ByteArray.empty)) l.length) := by
    rcases runL_first (f := step_slices_IndexFunc_string_string_0) (fun i => !p (l.getD i ByteArray.empty)) (fun i => (l, φ, (l.length : Int), (i : Int))) (fun i => .inl (i : Int)) (.inr ()) l.length (fun i hi => by
      have hw := wrap_succ (i := i) (by omega)
      simp only [step_slices_IndexFunc_string_string_0, lt_len hi, nonneg, Bool.and_self, cond_true, Int.toNat_natCast, hw, hφ' i hi]
      cases p (l.getD i ByteArray.empty) <;> rfl) (by simp [step_slices_IndexFunc_string_string_0]) with ⟨t, hp⟩ | ⟨i, hi, hp, hj, t⟩
    · have t' : runL step_slices_IndexFunc_string_string_0 (l, φ, (l.length : Int), (0 : Int)) = _ := t
      simp only [F_slices_IndexFunc_string_string, t']
      rw [firstN_none (fun j hj => by simpa only [Bool.not_eq_true'] using hp j hj)]
    · have t' : runL step_slices_IndexFunc_string_string_0 (l, φ, (l.length : Int), (0 : Int)) = _ := t
      simp only [F_slices_IndexFunc_string_string, t']
      rw [firstN_at hi (by simpa only [Bool.not_eq_false'] using hp) (fun j hj' => by simpa only [Bool.not_eq_true'] using hj j hj')]
  have hnone : ∀ k, k ≤ l.length → (∀ j, j < k → p (l.getD j ByteArray.empty) = false) → (l.take k).filter (fun x => !p x) = l.take k := fun k hk h => List.filter_eq_self.2 fun x hx => by
    obtain ⟨i, hi, rfl⟩ := List.getElem_of_mem hx
    have hi' : i < k ∧ i < l.length := by simp at hi; omega
    have := h i hi'.1
    rw [List.getElem_take]
    simpa [List.getD, List.getElem?_eq_getElem hi'.2] using this
  unfold F_slices_DeleteFunc_string_string
  rw [hfind]
  rcases firstN_cases (fun i => p (l.getD i ByteArray.empty)) l.length with ⟨e, h⟩ | ⟨k, hk, e, hp, hj⟩
  · rw [e]
    have := hnone l.length (Nat.le_refl _) h
    rw [List.take_length] at this
    rw [this]
    rfl
  · rw [e]
    have ne1 : ((k : Int) == -1) = false := beq_eq_false_iff_ne.2 (by omega)
    have hw := wrap_succ (i := k) (by omega)
    have hstart : (l.take (k + 1)).filter (fun x => !p x) = l.take k := by
      rw [take_succ_getD hk ByteArray.empty, List.filter_append, hnone k (by omega) hj]
      simp only [List.filter_cons, List.filter_nil, hp, Bool.not_true, Bool.false_eq_true, if_false, List.append_nil]
    obtain ⟨o, ho, i, cur, rfl, hi, hcl, hct⟩ := runL_inv (f := step_slices_DeleteFunc_string_string_0) (fun s => ∃ (i j : Nat) (cur : List ByteArray), s = (φ, ((i : Int), (j : Int), cur)) ∧ i < j ∧ j ≤ l.length ∧ cur.length = l.length ∧ cur.take i = (l.take j).filter (fun x => !p x) ∧ ∀ t, j ≤ t → t < l.length → cur.getD t ByteArray.empty = l.getD t ByteArray.empty)
      (fun o => ∃ (i : Nat) (cur : List ByteArray), o = ((i : Int), cur) ∧ i ≤ l.length ∧ cur.length = l.length ∧ cur.take i = l.filter (fun x => !p x)) (fun s => l.length - s.2.2.1.toNat) (by
      rintro s ⟨i, j, cur, rfl, hij, hjl, hcl, hct, hsame⟩
      rcases Nat.lt_or_ge j l.length with hlt | hge
      · right
        have hw1 := wrap_succ (i := i) (by omega)
        have hw2 := wrap_succ (i := j) (by omega)
        have hg := hsame j (Nat.le_refl _) hlt
        have hlc : j < cur.length := by omega
        have hic : i < cur.length := by omega
        cases hq : p (l.getD j ByteArray.empty) with
        | true =>
          refine ⟨(φ, ((i : Int), ((j + 1 : Nat) : Int), cur)), ?_, ⟨i, j + 1, cur, rfl, by omega, by omega, hcl, ?_, fun t h1 h2 => hsame t (by omega) h2⟩, by simp; omega⟩
          · simp only [step_slices_DeleteFunc_string_string_0, lt_len hlc, nonneg, Bool.and_self, cond_true, Int.toNat_natCast, hg, hφ' j hlt, hq, Bool.not_true, cond_false, hw2]
          · rw [hct, take_succ_getD hlt ByteArray.empty, List.filter_append]
            simp only [List.filter_cons, List.filter_nil, hq, Bool.not_true, Bool.false_eq_true, if_false, List.append_nil]
        | false =>
          refine ⟨(φ, (((i + 1 : Nat) : Int), ((j + 1 : Nat) : Int), cur.set i (l.getD j ByteArray.empty))), ?_, ⟨i + 1, j + 1, _, rfl, by omega, by omega, by simp [hcl], ?_, fun t h1 h2 => ?_⟩, by simp; omega⟩
          · simp only [step_slices_DeleteFunc_string_string_0, lt_len hlc, lt_len hic, nonneg, Bool.and_self, cond_true, Int.toNat_natCast, hg, hφ' j hlt, hq, Bool.not_false, hw1, hw2]
          · rw [take_succ_getD (by simpa using hic) ByteArray.empty, List.take_set, List.set_eq_of_length_le (by simp; omega), hct, take_succ_getD hlt ByteArray.empty, List.filter_append]
            simp only [List.filter_cons, List.filter_nil, hq, Bool.not_false, if_true]
            simp [List.getD, hic]
          · have hne : i ≠ t := by omega
            have := hsame t (by omega) h2
            simpa [List.getD, List.getElem?_set, hne] using this
      · left
        have : j = cur.length := by omega
        subst this
        refine ⟨((i : Int), cur), by simp only [step_slices_DeleteFunc_string_string_0, not_lt_len, cond_false], i, cur, rfl, by omega, hcl, ?_⟩
        rw [hct, hcl, List.take_length]) (φ, ((k : Int), ((k + 1 : Nat) : Int), l)) ⟨k, k + 1, l, rfl, by omega, by omega, rfl, hstart.symm, fun t _ _ => rfl⟩
    have g3 : decide ((i : Int) ≤ (cur.length : Int)) = true := decide_eq_true (by omega)
    have g4 : decide ((cur.length : Int) ≤ (cur.length : Int)) = true := decide_eq_true (Int.le_refl _)
    have g5 : decide (i + (cur.length - i) ≤ cur.length) = true := decide_eq_true (by omega)
    have g6 : decide ((i : Int) ≤ (((cur.take i ++ List.replicate (cur.length - i) ByteArray.empty ++ cur.drop (i + (cur.length - i))).length : Nat) : Int)) = true := decide_eq_true (by simp; omega)
    have g0 : decide (0 ≤ (0 : Int)) = true := rfl
    have z0 : ((0 : Int).toNat) = 0 := rfl
    simp only [ne1, cond_false, hw, ho, nonneg, g3, g4, g5, g6, g0, z0, Bool.and_self, cond_true, Int.toNat_natCast, Nat.sub_zero]
    congr 1
    rw [List.append_assoc, List.take_append_of_le_length (by simp; omega), List.take_take, Nat.min_self, hct]
end Go.Proofs.Ytadehfgciiocfaa
/- Marks that are written into a row are read there. No conditions beyond the bounds that are named. -/
set_option linter.unusedVariables false
set_option linter.unusedSimpArgs false
namespace Go.Proofs.Ytadehfgciiocfaa
open Go

/-- the first n marks -/
def marksOf {α : Type} (f : Nat → α) (n : Nat) : List α := (List.range n).map f
theorem marksOf_len {α : Type} (f : Nat → α) (n : Nat) : (marksOf f n).length = n := by simp [marksOf]
theorem marksOf_get {α : Type} (f : Nat → α) {n i : Nat} (h : i < n) (d : α) : (marksOf f n).getD i d = f i := by simp [marksOf, List.getD, h]
theorem marksOf_set {α : Type} (f : Nat → α) (l : List α) {i : Nat} (h : i < l.length) : (marksOf f i ++ l.drop i).set i (f i) = marksOf f (i + 1) ++ l.drop (i + 1) := by
  rw [List.set_append, if_neg (by simp [marksOf_len]), marksOf_len, Nat.sub_self, List.drop_eq_getElem_cons h, List.set_cons_zero]
  simp [marksOf, List.range_succ]
theorem marks_len {α : Type} (f : Nat → α) (l : List α) {i : Nat} (h : i ≤ l.length) : (marksOf f i ++ l.drop i).length = l.length := by simp [marksOf_len]; omega

def markI (j : Nat) : Int := (j : Int) + 1
theorem bytesStr_one (n : Int) : (bytesStr [n]).size = 1 := rfl
theorem tdiv10 {n : Int} (h : 0 < n) : 0 ≤ n.tdiv 10 ∧ n.tdiv 10 ≤ n - 1 := by
  have h1 : n.tdiv 10 = n / 10 := Int.tdiv_eq_ediv_of_nonneg (by omega)
  omega
theorem markText_some (k : Int) (h : k ≤ 4611686018427387904) : ∃ t, F_laws_markText k = some t := by
  by_cases h0 : k ≤ 0
  · exact ⟨_, by simp [F_laws_markText, h0]; rfl⟩
  · obtain ⟨o, ho, hq⟩ := runL_inv (f := step_laws_markText_0) (fun s => 0 ≤ s.1 ∧ (s.2.size : Int) + s.1 ≤ 4611686018427387904) (fun o => (o.size : Int) ≤ 4611686018427387904) (fun s => s.1.toNat) (by
      rintro ⟨n, s⟩ ⟨h1, h2⟩
      simp only at h1 h2
      by_cases hn : n > 0
      · right
        obtain ⟨d1, d2⟩ := tdiv10 hn
        have hw : IntKind.i64.wrap (n.tdiv 10) = n.tdiv 10 := wrap_id (by omega) (by omega)
        have hm : IntKind.i64.max = 9223372036854775807 := by decide
        refine ⟨(n.tdiv 10, bytesStr [IntKind.u8.wrap (IntKind.i64.wrap (48 + n.tmod 10))] ++ s), ?_, ⟨d1, ?_⟩, by simp; omega⟩
        · have hg : decide ((bytesStr [IntKind.u8.wrap (IntKind.i64.wrap (48 + n.tmod 10))]).size + s.size ≤ 9223372036854775807) = true := by
            rw [bytesStr_one]; exact decide_eq_true (by omega)
          simp only [step_laws_markText_0, decide_eq_true hn, cond_true, hm, hg, hw]
          rfl
        · simp only [ByteArray.size_append, bytesStr_one]
          omega
      · left
        refine ⟨s, ?_, by omega⟩
        simp only [step_laws_markText_0, decide_eq_false hn, cond_false]) (k, ⟨#[]⟩) ⟨by omega, by have hz : (⟨#[]⟩ : ByteArray).size = 0 := rfl; simp only [hz]; omega⟩
    have hm : IntKind.i64.max = 9223372036854775807 := by decide
    have hz : ((⟨#[109]⟩ : ByteArray).size) = 1 := rfl
    have hg : decide ((⟨#[109]⟩ : ByteArray).size + o.size ≤ 9223372036854775807) = true := by rw [hz]; exact decide_eq_true (by omega)
    exact ⟨_, by simp only [F_laws_markText, decide_eq_false h0, cond_false, ho, hm, hg, cond_true]; rfl⟩
noncomputable def mt (k : Int) : ByteArray := (F_laws_markText k).getD ByteArray.empty
theorem mt_is {k : Int} (h : k ≤ 4611686018427387904) : F_laws_markText k = some (mt k) := by
  obtain ⟨t, e⟩ := markText_some k h
  simp [mt, e]

theorem getD_set_self {α : Type} (l : List α) {i : Nat} (h : i < l.length) (a d : α) : (l.set i a).getD i d = a := by simp [List.getD, h]
noncomputable def markE (j : Nat) : Int × (ByteArray × Bool) := (1 + 3 * (j : Int), (mt (2 + 3 * (j : Int)), ((3 + 3 * (j : Int)).tmod 3 == 0)))
theorem markLogEditS_is (l : List (Int × (ByteArray × Bool))) (h : l.length ≤ 1048576) : F_laws_markLogEditS (l, 1) = some (marksOf markE l.length, 1 + 3 * (l.length : Int)) := by
  have t := runL_traj (f := step_laws_markLogEditS_0) (fun i => (1 + 3 * (i : Int), (i : Int), marksOf markE i ++ l.drop i)) (1 + 3 * (l.length : Int), marksOf markE l.length) l.length (fun i hi => by
    have hw := wrap_succ (i := i) (by omega)
    have w1 : IntKind.i64.wrap (1 + 3 * (i : Int) + 1) = 2 + 3 * (i : Int) := by rw [wrap_id (by omega) (by omega)]; omega
    have w2 : IntKind.i64.wrap (2 + 3 * (i : Int) + 1) = 3 + 3 * (i : Int) := by rw [wrap_id (by omega) (by omega)]; omega
    have w3 : IntKind.i64.wrap (3 + 3 * (i : Int) + 1) = 1 + 3 * ((i + 1 : Nat) : Int) := by rw [wrap_id (by omega) (by omega)]; omega
    have hl := marks_len markE l (Nat.le_of_lt hi)
    have hl' : i < (marksOf markE i ++ l.drop i).length := by rw [hl]; exact hi
    have h3 : (!decide ((3 : Int) = 0)) = true := rfl
    have hs : ∀ a, ((marksOf markE i ++ l.drop i).set i a).getD i (0, ByteArray.empty, false) = a := fun a => getD_set_self _ hl' _ _
    have hm : (marksOf markE i ++ l.drop i).set i (1 + 3 * (i : Int), (mt (2 + 3 * (i : Int)), ((3 + 3 * (i : Int)).tmod 3 == 0))) = marksOf markE (i + 1) ++ l.drop (i + 1) := marksOf_set markE l hi
    simp only [step_laws_markLogEditS_0, List.length_set, hl, lt_len hi, nonneg, Bool.and_self, cond_true, Int.toNat_natCast, hw, w1, w2, w3, mt_is (show 2 + 3 * (i : Int) ≤ 4611686018427387904 by omega), h3, List.set_set, hs, hm]
    rfl) (by
    simp [step_laws_markLogEditS_0, marksOf_len])
  have t' : runL step_laws_markLogEditS_0 (1, (0 : Int), l) = some (1 + 3 * (l.length : Int), marksOf markE l.length) := t
  simp only [F_laws_markLogEditS, t']
end Go.Proofs.Ytadehfgciiocfaa
/- Marks in lists of texts. Lengths fit an int. -/
set_option linter.unusedVariables false
set_option linter.unusedSimpArgs false
namespace Go.Proofs.Ytadehfgciiocfaa
open Go
theorem markStringS_from (l : List ByteArray) (k : Int) (h : l.length ≤ 1048576) (h0 : 0 ≤ k) (h1 : k ≤ 4000000000000000000) : F_laws_markStringS (l, k) = some (marksOf (fun j => mt (k + (j : Int))) l.length, k + (l.length : Int)) := by
  have t := runL_traj (f := step_laws_markStringS_0) (fun i => (k + (i : Int), (i : Int), marksOf (fun j => mt (k + (j : Int))) i ++ l.drop i)) (k + (l.length : Int), marksOf (fun j => mt (k + (j : Int))) l.length) l.length (fun i hi => by
    have hw := wrap_succ (i := i) (by omega)
    have hw2 : IntKind.i64.wrap (k + (i : Int) + 1) = k + ((i + 1 : Nat) : Int) := by rw [wrap_id (by omega) (by omega)]; omega
    have hl := marks_len (fun j : Nat => mt (k + (j : Int))) l (Nat.le_of_lt hi)
    have hm := marksOf_set (fun j : Nat => mt (k + (j : Int))) l hi
    simp only [step_laws_markStringS_0, hl, lt_len hi, nonneg, Bool.and_self, cond_true, Int.toNat_natCast, mt_is (show k + (i : Int) ≤ 4611686018427387904 by omega), hm, hw, hw2]) (by
    simp [step_laws_markStringS_0, marksOf_len])
  have t' : runL step_laws_markStringS_0 (k, (0 : Int), l) = some (k + (l.length : Int), marksOf (fun j => mt (k + (j : Int))) l.length) := by rw [← t]; simp [marksOf]
  simp only [F_laws_markStringS, t']
theorem heldStringS_from (n : Nat) (k : Int) (h : n ≤ 1048576) (h0 : 0 ≤ k) (h1 : k ≤ 4000000000000000000) : F_laws_heldStringS (marksOf (fun j => mt (k + (j : Int))) n, k) = some (k + (n : Int)) := by
  have t := runL_traj (f := step_laws_heldStringS_0) (fun i => (marksOf (fun j => mt (k + (j : Int))) n, k + (i : Int), (i : Int))) (.inr (k + (n : Int))) n (fun i hi => by
    have hw := wrap_succ (i := i) (by omega)
    have hw2 : IntKind.i64.wrap (k + (i : Int) + 1) = k + ((i + 1 : Nat) : Int) := by rw [wrap_id (by omega) (by omega)]; omega
    have hm := marksOf_get (fun j : Nat => mt (k + (j : Int))) hi ByteArray.empty
    simp only [step_laws_heldStringS_0, marksOf_len, lt_len hi, nonneg, Bool.and_self, cond_true, Int.toNat_natCast, mt_is (show k + (i : Int) ≤ 4611686018427387904 by omega), hm, BEq.rfl, Bool.not_true, cond_false, hw, hw2]) (by simp [step_laws_heldStringS_0, marksOf_len])
  have t' : runL step_laws_heldStringS_0 (marksOf (fun j => mt (k + (j : Int))) n, k, (0 : Int)) = some (.inr (k + (n : Int))) := by rw [← t]; simp
  simp only [F_laws_heldStringS, t']
end Go.Proofs.Ytadehfgciiocfaa
/- What the functions of the journal come to, on both sides: plain laws. No conditions beyond the bounds that are named. -/
set_option linter.unusedVariables false
set_option linter.unusedSimpArgs false
namespace Go.Proofs.Ytadehfgciiocfaa
open Go

abbrev Edit := Int × (ByteArray × Bool)
abbrev dE : Edit := (0, ByteArray.empty, false)

theorem fsWord_is (s : ByteArray) (hs : s.size ≤ 9223372036854775807) : F_spec_fsWord s = some (gl s) := by
  have t := runL_all (f := step_spec_fsWord_0) (fun i => decide (65 ≤ byteAt s i) && decide (byteAt s i ≤ 90)) (fun i => (s, (i : Int))) (.inl false) (.inr s) s.size (fun i hi => by
    have hw := wrap_succ (i := i) (by omega)
    simp only [step_spec_fsWord_0, lt_len hi, nonneg, Bool.and_self, cond_true, Int.toNat_natCast, hw, lt_not, gt_not]
    cases decide (65 ≤ byteAt s i) <;> cases decide (byteAt s i ≤ 90) <;> rfl) (by simp [step_spec_fsWord_0])
  have t' : runL step_spec_fsWord_0 (s, (0 : Int)) = _ := t
  simp only [F_spec_fsWord, t']
  unfold gl capsOnly
  cases allN (fun i => decide (65 ≤ byteAt s i) && decide (byteAt s i ≤ 90)) s.size <;> simp [l1In_is]

def edOK (e : Edit) : Bool := (decide (1 ≤ e.1) && decide (e.1 ≤ 999)) && gl e.2.1
theorem joOne_is (e : Edit) (hg : e.2.1.size ≤ 9223372036854775807) : F_spec_joOne e = some (edOK e) := by
  simp only [F_spec_joOne, l1In_is, fsWord_is _ hg, edOK]
  cases (decide (1 ≤ e.1) && decide (e.1 ≤ 999)) <;> simp
theorem isLogEdit_is (e : Edit) (hg : e.2.1.size ≤ 9223372036854775807) : F_impl_isLogEdit e = some (edOK e) := by
  simp only [F_impl_isLogEdit, within_is, IsGloss_is _ hg, edOK]
  cases (decide (1 ≤ e.1) && decide (e.1 ≤ 999)) <;> simp

def risesE (l : List Edit) (i : Nat) : Bool := decide (i = 0) || !decide ((l.getD i dE).1 ≤ (l.getD (i - 1) dE).1)
def goodEAt (l : List Edit) (i : Nat) : Bool := edOK (l.getD i dE) && risesE l i
def goodE (l : List Edit) : Bool := allN (goodEAt l) l.length && decide ((l.length : Int) ≤ 40)

structure FitsE (l : List Edit) : Prop where
  len : l.length ≤ 1048576
  gloss : ∀ e ∈ l, e.2.1.size ≤ 9223372036854775807

theorem joGood_is (l : List Edit) (hf : FitsE l) : F_spec_joGood l = some (goodE l) := by
  have hlen := hf.len
  have t := runL_all (f := step_spec_joGood_0) (goodEAt l) (fun i => (l, l, (l.length : Int), (i : Int))) (.inl false) (.inr l) l.length (fun i hi => by
    have hw := wrap_succ (i := i) (by omega)
    have h1 := joOne_is (l.getD i dE) (hf.gloss _ (getD_mem hi dE))
    simp only [step_spec_joGood_0, lt_len hi, nonneg, Bool.and_self, cond_true, Int.toNat_natCast, hw, h1, goodEAt]
    cases edOK (l.getD i dE) with
    | false => rfl
    | true =>
      rcases Nat.eq_zero_or_pos i with rfl | hp
      · simp [risesE]
      · have hwp := wrap_pred (i := i) (by omega) hp
        have hp' : decide ((i : Int) > 0) = true := by simp; omega
        have h0 : decide (i = 0) = false := by simp; omega
        simp only [Bool.not_true, cond_false, hp', cond_true, hwp, lt_len (show i - 1 < l.length by omega), nonneg, Bool.and_self, Int.toNat_natCast, risesE, h0, Bool.false_or, Bool.true_and, ge_iff_le]
        cases decide ((l.getD i dE).1 ≤ (l.getD (i - 1) dE).1) <;> rfl) (by simp [step_spec_joGood_0])
  have t' : runL step_spec_joGood_0 (l, l, (l.length : Int), (0 : Int)) = _ := t
  simp only [F_spec_joGood, t', goodE]
  cases allN (goodEAt l) l.length <;> simp

theorem AreEdits_is (l : List Edit) (hf : FitsE l) : F_impl_AreEdits l = some (goodE l) := by
  have hlen := hf.len
  have t := runL_all (f := step_impl_AreEdits_0) (goodEAt l) (fun i => (l, l, (l.length : Int), (i : Int))) (.inl false) (.inr l) l.length (fun i hi => by
    have hw := wrap_succ (i := i) (by omega)
    have h1 := isLogEdit_is (l.getD i dE) (hf.gloss _ (getD_mem hi dE))
    simp only [step_impl_AreEdits_0, lt_len hi, nonneg, Bool.and_self, cond_true, Int.toNat_natCast, hw, h1, goodEAt]
    cases edOK (l.getD i dE) with
    | false => rfl
    | true =>
      rcases Nat.eq_zero_or_pos i with rfl | hp
      · simp [risesE]
      · have hwp := wrap_pred (i := i) (by omega) hp
        have hp' : decide ((i : Int) > 0) = true := by simp; omega
        have h0 : decide (i = 0) = false := by simp; omega
        simp only [Bool.not_true, cond_false, hp', cond_true, hwp, lt_len (show i - 1 < l.length by omega), nonneg, Bool.and_self, Int.toNat_natCast, risesE, h0, Bool.false_or, Bool.true_and, ge_iff_le]
        cases decide ((l.getD i dE).1 ≤ (l.getD (i - 1) dE).1) <;> rfl) (by simp [step_impl_AreEdits_0])
  have t' : runL step_impl_AreEdits_0 (l, l, (l.length : Int), (0 : Int)) = _ := t
  simp only [F_impl_AreEdits, t', goodE]
  cases allN (goodEAt l) l.length <;> simp

structure WfE (l : List Edit) : Prop where
  len : l.length ≤ 9223372036854775807
  gloss : ∀ e ∈ l, e.2.1.size ≤ 9223372036854775807
theorem WfE.cases {l : List Edit} (h : WfE l) : ∃ o, F_laws_szLogEditS (l, 1048576) = some o ∧ (o < 0 ∨ (¬ o < 0 ∧ FitsE l ∧ F_laws_toLogEditS l = some l ∧ F_laws_eqLogEditS (l, l) = some true)) := by
  obtain ⟨o, e, hq⟩ := szLogEditS_is l h.len h.gloss
  refine ⟨o, e, ?_⟩
  by_cases hn : o < 0
  · exact .inl hn
  · rcases hq with hq | hq
    · exact .inl hq
    · exact .inr ⟨hn, ⟨hq, h.gloss⟩, toLogEditS_is l hq, eqLogEditS_is l h.len⟩

theorem goodE_len {l : List Edit} (h : goodE l = true) : l.length ≤ 40 := by
  simp only [goodE, Bool.and_eq_true, decide_eq_true_eq] at h
  omega
theorem goodE_num {l : List Edit} (h : goodE l = true) {i : Nat} (hi : i < l.length) : 1 ≤ (l.getD i dE).1 ∧ (l.getD i dE).1 ≤ 999 := by
  simp only [goodE, Bool.and_eq_true] at h
  have := allN_true.1 h.1 i hi
  simp only [goodEAt, edOK, Bool.and_eq_true, decide_eq_true_eq] at this
  exact this.1.1
theorem goodE_gloss {l : List Edit} (h : goodE l = true) {i : Nat} (hi : i < l.length) : (l.getD i dE).2.1.size ≤ 8 := by
  simp only [goodE, Bool.and_eq_true] at h
  have := allN_true.1 h.1 i hi
  simp only [goodEAt, edOK, gl, Bool.and_eq_true, decide_eq_true_eq] at this
  have := this.1.2.2.2
  omega
end Go.Proofs.Ytadehfgciiocfaa
/- The law of GlossesIn, as plain Lean: it answers true. Lengths fit an int. -/
set_option linter.unusedVariables false
set_option linter.unusedSimpArgs false
namespace Go.Proofs.Ytadehfgciiocfaa
open Go

/-! ### What is in -/
theorem keq_is (a b : ByteArray) : Ty.keq .str a b = decide (a = b) := beq_is a b
theorem mfind_cons (s g : ByteArray) (x : Bool) (r : List (ByteArray × Bool)) : mfind .str .bool s ((g, x) :: r) = if s = g then some x else mfind .str .bool s r := by
  have e : mfind .str .bool s ((g, x) :: r) = bif Ty.keq .str s g then some x else mfind .str .bool s r := rfl
  rw [e, keq_is]
  by_cases h : s = g
  · rw [decide_eq_true h, if_pos h]; rfl
  · rw [decide_eq_false h, if_neg h]; rfl
theorem mput_cons (g h : ByteArray) (x y : Bool) (r : List (ByteArray × Bool)) : mput .str .bool g x ((h, y) :: r) = if g = h then (g, x) :: r else (h, y) :: mput .str .bool g x r := by
  have e : mput .str .bool g x ((h, y) :: r) = bif Ty.keq .str g h then (g, x) :: r else (h, y) :: mput .str .bool g x r := rfl
  rw [e, keq_is]
  by_cases h : g = h
  · rw [decide_eq_true h, if_pos h]; rfl
  · rw [decide_eq_false h, if_neg h]; rfl
theorem mfind_mput (s g : ByteArray) (x : Bool) : ∀ es : List (ByteArray × Bool), mfind .str .bool s (mput .str .bool g x es) = if s = g then some x else mfind .str .bool s es
  | [] => mfind_cons s g x []
  | (h, y) :: r => by
    rw [mput_cons]
    by_cases hg : g = h
    · rw [if_pos hg, mfind_cons, mfind_cons]
      by_cases hs : s = g
      · rw [if_pos hs, if_pos hs]
      · rw [if_neg hs, if_neg hs, if_neg (by rw [← hg]; exact hs)]
    · rw [if_neg hg, mfind_cons, mfind_cons, mfind_mput s g x r]
      by_cases hs : s = g
      · rw [if_pos hs, if_pos hs, if_neg (by rw [hs]; exact hg)]
      · rw [if_neg hs, if_neg hs]
def inn (s : ByteArray) (es : List (ByteArray × Bool)) : Bool := mget .str .bool s es false
theorem inn_put (s g : ByteArray) (x : Bool) (es : List (ByteArray × Bool)) : inn s (mput .str .bool g x es) = if s = g then x else inn s es := by
  unfold inn mget
  rw [mfind_mput]
  by_cases h : s = g
  · simp [h]
  · simp [h]
def updE (es : List (ByteArray × Bool)) (e : Edit) : List (ByteArray × Bool) := mput .str .bool e.2.1 (!e.2.2) es
def upd (out : List ByteArray) (e : Edit) : List ByteArray := bif !e.2.2 then put out e.2.1 else out.filter fun x => decide (x ≠ e.2.1)
theorem upd_ok {out : List ByteArray} {es : List (ByteArray × Bool)} (hr : Rise out) (hm : ∀ s, s ∈ out ↔ inn s es = true) (e : Edit) : Rise (upd out e) ∧ (∀ s, s ∈ upd out e ↔ inn s (updE es e) = true) ∧ (upd out e).length ≤ out.length + 1 := by
  unfold upd updE
  cases he : e.2.2 with
  | true =>
    simp only [Bool.not_true, cond_false]
    refine ⟨hr.filter _, fun s => ?_, Nat.le_trans (List.length_filter_le _ _) (by omega)⟩
    rw [List.mem_filter, hm s, inn_put]
    by_cases h : s = e.2.1
    · simp [h]
    · simp [h]
  | false =>
    simp only [Bool.not_false, cond_true]
    refine ⟨hr.put _, fun s => ?_, put_len _⟩
    rw [put_mem hr, hm s, inn_put]
    by_cases h : s = e.2.1
    · simp [h]
    · simp [h]
theorem upds_ok : ∀ (l : List Edit) (out : List ByteArray) (es : List (ByteArray × Bool)), Rise out → (∀ s, s ∈ out ↔ inn s es = true) → Rise (l.foldl upd out) ∧ (∀ s, s ∈ l.foldl upd out ↔ inn s (l.foldl updE es) = true) ∧ (l.foldl upd out).length ≤ out.length + l.length
  | [], out, es, hr, hm => ⟨hr, hm, by simp⟩
  | e :: l, out, es, hr, hm => by
    obtain ⟨h1, h2, h3⟩ := upd_ok hr hm e
    obtain ⟨k1, k2, k3⟩ := upds_ok l _ _ h1 h2
    exact ⟨k1, k2, by simp only [List.foldl_cons, List.length_cons]; omega⟩
theorem inn_all : ∀ (l : List Edit) (es : List (ByteArray × Bool)) (s : ByteArray), inn s (l.foldl updE es) = true → inn s es = true ∨ s ∈ l.map fun e => e.2.1
  | [], es, s, h => .inl h
  | e :: l, es, s, h => by
    rcases inn_all l _ s h with h | h
    · rw [updE, inn_put] at h
      by_cases hs : s = e.2.1
      · exact .inr (by simp [hs])
      · rw [if_neg hs] at h
        exact .inl h
    · exact .inr (List.mem_cons_of_mem _ h)

/-! ### The reference's round -/
theorem keep_at {l : List ByteArray} {k : Nat} (h : k < l.length) {g : ByteArray} (hg : l.getD k ByteArray.empty = g) : l.take k ++ [g] ++ l.drop (k + 1) = l := by
  have e : l[k] = g := by simpa [List.getD, List.getElem?_eq_getElem h] using hg
  rw [List.append_assoc, ← e]
  simp
theorem gin_step (l : List Edit) (hn : l.length ≤ 40) (i : Nat) (hi : i < l.length) (out : List ByteArray) (hr : Rise out) (ho : out.length ≤ 40) :
    step_spec_GlossesIn_1 (out, (l, (l.length : Int), (i : Int))) = some (.inl (upd out (l.getD i dE), (l, (l.length : Int), ((i + 1 : Nat) : Int)))) := by
  have hw := wrap_succ (i := i) (by omega)
  have hk := ahead_le (l.getD i dE).2.1 out
  have t := runL_traj (f := step_spec_GlossesIn_0) (fun k => (out, (k : Int), l, (l.length : Int), (i : Int), l.getD i (0, ByteArray.empty, false))) (out, ((ahead (l.getD i dE).2.1 out : Nat) : Int), l, (l.length : Int), (i : Int), l.getD i (0, ByteArray.empty, false)) (ahead (l.getD i dE).2.1 out) (fun k hk' => by
    have hwk := wrap_succ (i := k) (by omega)
    have hless : Op.bytesLess (out.getD k ByteArray.empty).toList (l.getD i (0, ByteArray.empty, false)).2.1.toList = true := ahead_less _ out k hk'
    simp only [step_spec_GlossesIn_0, lt_len (show k < out.length by omega), nonneg, Bool.and_self, cond_true, Int.toNat_natCast, hless, hwk]) (by
    rcases Nat.lt_or_ge (ahead (l.getD i dE).2.1 out) out.length with h | h
    · have hless : Op.bytesLess (out.getD (ahead (l.getD i dE).2.1 out) ByteArray.empty).toList (l.getD i (0, ByteArray.empty, false)).2.1.toList = false := ahead_stop _ out h
      simp only [step_spec_GlossesIn_0, lt_len h, nonneg, Bool.and_self, cond_true, Int.toNat_natCast, hless, cond_false]
    · have h0 : decide (((ahead (l.getD i dE).2.1 out : Nat) : Int) < (out.length : Int)) = false := decide_eq_false (by omega)
      simp only [step_spec_GlossesIn_0, h0, cond_false])
  have t' : runL step_spec_GlossesIn_0 (out, (0, l, ((l.length : Int), (i : Int), l.getD i (0, ByteArray.empty, false)))) = some (out, (((ahead (l.getD i dE).2.1 out : Nat) : Int), l, ((l.length : Int), (i : Int), l.getD i (0, ByteArray.empty, false)))) := t
  have hmem := hr.mem (l.getD i dE).2.1
  have hput := put_is hr (l.getD i dE).2.1
  have hrem := fun hs => hr.remove (s := (l.getD i dE).2.1) hs
  clear t
  have hdE : (0, ByteArray.empty, false) = dE := rfl
  rw [hdE] at t'
  simp only [step_spec_GlossesIn_1, lt_len hi, nonneg, Bool.and_self, cond_true, Int.toNat_natCast, hdE]
  generalize l.getD i dE = e at *
  generalize hka : ahead e.2.1 out = k at *
  rw [t']
  have q0 : decide (0 ≤ (0 : Int)) = true := rfl
  have q01 : decide ((0 : Nat) ≤ 1) = true := rfl
  have q00 : decide ((0 : Nat) ≤ 0) = true := rfl
  have q1 : decide ((0 : Int) ≤ ((k : Nat) : Int)) = true := decide_eq_true (by omega)
  have q2 : decide (((k : Nat) : Int) ≤ (out.length : Int)) = true := decide_eq_true (by omega)
  have q3 : decide ((out.length : Int) ≤ (out.length : Int)) = true := decide_eq_true (Int.le_refl _)
  have e1 : (out.drop ((0 : Int)).toNat).take (k - ((0 : Int)).toNat) = out.take k := by simp
  have e2 : (out.drop k).take (out.length - k) = out.drop k := List.take_of_length_le (by simp)
  have l1 : (out.take k).length = k := by simp; omega
  have l2 : (out.drop k).length = out.length - k := by simp
  have e3 : ((out.drop k).drop (1 : Int).toNat).take ((out.drop k).length - (1 : Int).toNat) = out.drop (k + 1) := by
    rw [List.drop_drop]
    exact List.take_of_length_le (by simp; omega)
  have e4 : (out.drop k).getD (0 : Int).toNat ByteArray.empty = out.getD k ByteArray.empty := by simp [List.getD]
  have r1 : decide ((([] : List ByteArray).length + (out.take k).length) * 16 ≤ 140737488355328) = true := decide_eq_true (by simp; omega)
  have r2 : decide (((out.take k).length + ([e.2.1] : List ByteArray).length) * 16 ≤ 140737488355328) = true := decide_eq_true (by simp; omega)
  have r3 : decide (((out.take k ++ [e.2.1]).length + (out.drop k).length) * 16 ≤ 140737488355328) = true := decide_eq_true (by simp; omega)
  have r4 : decide (((out.take k ++ [e.2.1]).length + (out.drop (k + 1)).length) * 16 ≤ 140737488355328) = true := decide_eq_true (by simp; omega)
  have r5 : decide (((out.take k).length + (out.drop k).length) * 16 ≤ 140737488355328) = true := decide_eq_true (by simp; omega)
  have r6 : decide (((out.take k).length + (out.drop (k + 1)).length) * 16 ≤ 140737488355328) = true := decide_eq_true (by simp; omega)
  have j0 : ([] : List ByteArray) ++ out.take k = out.take k := rfl
  unfold upd
  rcases Nat.lt_or_ge k out.length with h | h
  · have p1 : decide (((out.drop k).length : Int) > 0) = true := decide_eq_true (by rw [l2]; omega)
    have p2 : decide ((0 : Int) < ((out.drop k).length : Int)) = true := decide_eq_true (by rw [l2]; omega)
    have p3 : decide ((1 : Int) ≤ ((out.drop k).length : Int)) = true := decide_eq_true (by rw [l2]; omega)
    have p4 : decide (((out.drop k).length : Int) ≤ ((out.drop k).length : Int)) = true := decide_eq_true (Int.le_refl _)
    by_cases hg : out.getD k ByteArray.empty = e.2.1
    · have hb : ((out.getD k ByteArray.empty).toList == e.2.1.toList) = true := by rw [beq_is]; exact decide_eq_true hg
      have hin : e.2.1 ∈ out := hmem.2 ⟨h, hg⟩
      rw [if_pos hin] at hput
      cases he : e.2.2 with
      | true =>
        simp only [q0, q00, q01, q1, q2, q3, p1, p2, p3, p4, Bool.and_self, cond_true, Int.toNat_natCast, e1, e2, e3, e4, hb, r1, r6, he, Bool.not_true, cond_false, hw, j0, hrem hin]
      | false =>
        simp only [q0, q00, q01, q1, q2, q3, p1, p2, p3, p4, Bool.and_self, cond_true, Int.toNat_natCast, e1, e2, e3, e4, hb, r1, r2, r4, he, Bool.not_false, hw, j0, hput, keep_at h hg]
    · have hb : ((out.getD k ByteArray.empty).toList == e.2.1.toList) = false := by rw [beq_is]; exact decide_eq_false hg
      have hin : ¬ e.2.1 ∈ out := fun hin => hg (hmem.1 hin).2
      have hf : (out.filter fun x => decide (x ≠ e.2.1)) = out := List.filter_eq_self.2 fun x hx => decide_eq_true fun (q : x = e.2.1) => hin (q ▸ hx)
      rw [if_neg hin] at hput
      cases he : e.2.2 with
      | true =>
        simp only [q0, q00, q01, q1, q2, q3, p1, p2, Bool.and_self, cond_true, Int.toNat_natCast, e1, e2, e4, hb, r1, r5, he, Bool.not_true, cond_false, hw, j0, hf, List.take_append_drop]
      | false =>
        simp only [q0, q00, q01, q1, q2, q3, p1, p2, Bool.and_self, cond_true, Int.toNat_natCast, e1, e2, e4, hb, r1, r2, r3, he, Bool.not_false, cond_false, hw, j0, hput]
  · have p1 : decide (((out.drop k).length : Int) > 0) = false := decide_eq_false (by rw [l2]; omega)
    have hin : ¬ e.2.1 ∈ out := fun hin => by have := (hmem.1 hin).1; omega
    have hf : (out.filter fun x => decide (x ≠ e.2.1)) = out := List.filter_eq_self.2 fun x hx => decide_eq_true fun (q : x = e.2.1) => hin (q ▸ hx)
    rw [if_neg hin] at hput
    cases he : e.2.2 with
    | true =>
      simp only [q0, q00, q01, q1, q2, q3, p1, Bool.and_self, cond_true, Int.toNat_natCast, e1, e2, r1, r5, he, Bool.not_true, cond_false, hw, j0, hf, List.take_append_drop]
    | false =>
      simp only [q0, q00, q01, q1, q2, q3, p1, Bool.and_self, cond_true, Int.toNat_natCast, e1, e2, r1, r2, r3, he, Bool.not_false, cond_false, hw, j0, hput]

theorem inn_nil (s : ByteArray) : s ∈ ([] : List ByteArray) ↔ inn s [] = true := ⟨fun h => (by cases h), fun h => (by cases h)⟩
theorem gin_spec (l : List Edit) (hn : l.length ≤ 40) : runL step_spec_GlossesIn_1 ([], (l, (l.length : Int), 0)) = some (l.foldl upd []) := by
  have t := runL_traj (f := step_spec_GlossesIn_1) (fun i => ((l.take i).foldl upd [], (l, (l.length : Int), (i : Int)))) (l.foldl upd []) l.length (fun i hi => by
    obtain ⟨h1, _, h3⟩ := upds_ok (l.take i) [] [] List.Pairwise.nil inn_nil
    have h3' : ((l.take i).foldl upd []).length ≤ 40 := by
      have : (l.take i).length ≤ l.length := by simp; omega
      simp only [List.length_nil] at h3
      omega
    have hs : (l.take (i + 1)).foldl upd [] = upd ((l.take i).foldl upd []) (l.getD i dE) := by
      rw [take_succ_getD hi dE, List.foldl_append]; rfl
    rw [hs]
    exact gin_step l hn i hi _ h1 h3') (by simp only [step_spec_GlossesIn_1, not_lt_len, cond_false, List.take_length])
  exact t
theorem gin_impl (l : List Edit) (hn : l.length ≤ 40) : runL step_impl_GlossesIn_0 (l, (l.length : Int), (0, [], [])) = some (l.map (fun e => e.2.1), l.foldl updE []) := by
  have t := runL_traj (f := step_impl_GlossesIn_0) (fun i => (l, (l.length : Int), ((i : Int), (l.take i).foldl updE [], (l.take i).map fun e => e.2.1))) (l.map (fun e => e.2.1), l.foldl updE []) l.length (fun i hi => by
    have hw := wrap_succ (i := i) (by omega)
    have hs : (l.take (i + 1)).foldl updE [] = mput .str .bool (l.getD i (0, ByteArray.empty, false)).2.1 (!(l.getD i (0, ByteArray.empty, false)).2.2) ((l.take i).foldl updE []) := by
      rw [take_succ_getD hi dE, List.foldl_append]; rfl
    have hm : (l.take (i + 1)).map (fun e => e.2.1) = (l.take i).map (fun e => e.2.1) ++ [(l.getD i (0, ByteArray.empty, false)).2.1] := by
      rw [take_succ_getD hi dE, List.map_append]; rfl
    have hg : decide ((((l.take i).map fun e => e.2.1).length + [(l.getD i (0, ByteArray.empty, false)).2.1].length) * 16 ≤ 140737488355328) = true := decide_eq_true (by simp; omega)
    rw [hs, hm]
    simp only [step_impl_GlossesIn_0, lt_len hi, nonneg, Bool.and_self, cond_true, Int.toNat_natCast, hg, hw]) (by simp only [step_impl_GlossesIn_0, not_lt_len, cond_false, List.take_length])
  exact t

theorem GlossesIn_same (l : List Edit) (hf : FitsE l) : ∃ o, F_spec_GlossesIn l = some o ∧ F_impl_GlossesIn l = some o ∧ o.1.length ≤ 40 ∧ o.2 = goodE l := by
  cases hg : goodE l with
  | false => exact ⟨([], false), by simp [F_spec_GlossesIn, joGood_is l hf, hg], by simp [F_impl_GlossesIn, AreEdits_is l hf, hg], by simp, rfl⟩
  | true =>
    have hn := goodE_len hg
    obtain ⟨r1, m1, n1⟩ := upds_ok l [] [] List.Pairwise.nil inn_nil
    simp only [List.length_nil] at n1
    obtain ⟨D, e3, r3, m3, l3⟩ := distinct_is (l.map fun e => e.2.1) (by simp; omega)
    have hφ : ∀ x ∈ D, K_impl_GlossesIn_1 (l.foldl updE []) x = some (!inn x (l.foldl updE [])) := fun x _ => rfl
    have e4 := deleteFunc_is D (by simp at l3; omega) (K_impl_GlossesIn_1 (l.foldl updE [])) (fun x => !inn x (l.foldl updE [])) hφ
    have he : D.filter (fun x => !!inn x (l.foldl updE [])) = l.foldl upd [] := Rise.ext (r3.filter _) r1 fun s => by
      rw [List.mem_filter, m3, m1]
      simp only [Bool.not_not]
      constructor
      · exact fun h => h.2
      · intro h
        rcases inn_all l [] s h with h' | h'
        · cases h'
        · exact ⟨h', h⟩
    rw [he] at e4
    refine ⟨(l.foldl upd [], true), ?_, ?_, by simp only; omega, rfl⟩
    · simp only [F_spec_GlossesIn, joGood_is l hf, hg, Bool.not_true, cond_false, gin_spec l hn]
    · simp only [F_impl_GlossesIn, AreEdits_is l hf, hg, Bool.not_true, cond_false, gin_impl l hn, e3, e4]
theorem law_GlossesIn (l : List Edit) (h : WfE l) : F_laws_FnExactGlossesIn l = some true := by
  obtain ⟨o, e, hq⟩ := h.cases
  rcases hq with hn | ⟨hn, hf, e1, e2⟩
  · simp [F_laws_FnExactGlossesIn, e, hn]
  · obtain ⟨⟨r, b⟩, s1, s2, s3, _⟩ := GlossesIn_same l hf
    simp only at s3
    have m1 := markLogEditS_is l hf.len
    have m2 := markStringS_from r 1 (by omega) (by omega) (by omega)
    have m3 := heldStringS_from r.length 1 (by omega) (by omega) (by omega)
    have n1 : ¬ (1 + 3 * (l.length : Int) < 0) := by omega
    have n2 : ¬ (1 + (r.length : Int) < 0) := by omega
    simp [F_laws_FnExactGlossesIn, e, hn, e1, e2, s1, s2, eqStringS_is r (by omega), m1, m2, m3, n1, n2]
end Go.Proofs.Ytadehfgciiocfaa
