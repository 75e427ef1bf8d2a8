/- Plain laws for this claim, several texts in one. No conditions beyond the bounds that are named. -/
import Derived.Test.YtklfnbckoaphpaaGreatDoorEvZk
import Derived.Test.YtklfnbckoaphpaaGreatDoorC1
import Derived.Lib.IndexLaws
import Derived.Lib.IndexBytes
import Derived.Lib.SplitLaws
import Derived.Lib.CutLaws
import Derived.Lib.Repeat
import Derived.Sort.Walk0
/- Words for pure laws: rounds of loops, bounds of numbers. No conditions. -/
set_option linter.unusedVariables false
namespace Go.Proofs.YtklfnbckoaphpaaGreatDoor
open Go
theorem wrap_id {n : Int} (h0 : -9223372036854775808 ≤ n) (h1 : n ≤ 9223372036854775807) : IntKind.i64.wrap n = n := by
  simp [IntKind.wrap, IntKind.bits, IntKind.signed]
  omega
theorem wrap_succ {i : Nat} (h : i < 9223372036854775807) : IntKind.i64.wrap ((i : Int) + 1) = ((i + 1 : Nat) : Int) := by rw [wrap_id (by omega) (by omega)]; omega
theorem wrap_pred {i : Nat} (h : i < 9223372036854775807) (h0 : 0 < i) : IntKind.i64.wrap ((i : Int) - 1) = ((i - 1 : Nat) : Int) := by rw [wrap_id (by omega) (by omega)]; omega

/-- a loop that keeps R and comes to an end has Q behind it -/
theorem runL_inv {S O : Type} {f : S → Option (S ⊕ O)} (R : S → Prop) (Q : O → Prop) (μ : S → Nat)
    (h : ∀ s, R s → (∃ o, f s = some (.inr o) ∧ Q o) ∨ ∃ s', f s = some (.inl s') ∧ R s' ∧ μ s' < μ s) : ∀ s, R s → ∃ o, runL f s = some o ∧ Q o := by
  have go : ∀ n s, μ s ≤ n → R s → ∃ o, runL f s = some o ∧ Q o := by
    intro n
    induction n with
    | zero =>
      intro s hn hs
      rcases h s hs with ⟨o, e, q⟩ | ⟨s', e, r, l⟩
      · exact ⟨o, by rw [runL_eq, e], q⟩
      · omega
    | succ n ih =>
      intro s hn hs
      rcases h s hs with ⟨o, e, q⟩ | ⟨s', e, r, l⟩
      · exact ⟨o, by rw [runL_eq, e], q⟩
      · obtain ⟨o, e2, q⟩ := ih s' (by omega) r
        exact ⟨o, by rw [runL_eq, e]; exact e2, q⟩
  exact fun s hs => go _ s (Nat.le_refl _) hs

/-- a loop over m rounds whose states are known -/
theorem runL_traj {S O : Type} {f : S → Option (S ⊕ O)} (s : Nat → S) (o : O) (m : Nat) (h : ∀ i, i < m → f (s i) = some (.inl (s (i + 1)))) (hend : f (s m) = some (.inr o)) : runL f (s 0) = some o := by
  have go : ∀ k i, m - i = k → i ≤ m → runL f (s i) = some o := by
    intro k
    induction k with
    | zero => intro i hk hi; rw [runL_eq, show i = m by omega, hend]
    | succ k ih => intro i hk hi; rw [runL_eq, h i (by omega)]; exact ih (i + 1) (by omega) (by omega)
  exact go m 0 (by omega) (by omega)

/-- a loop that goes on while p holds: the first place where it fails -/
theorem runL_first {S O : Type} {f : S → Option (S ⊕ O)} (p : Nat → Bool) (s : Nat → S) (no : Nat → O) (yes : O) (m : Nat)
    (h : ∀ i, i < m → f (s i) = some (bif p i then .inl (s (i + 1)) else .inr (no i))) (hend : f (s m) = some (.inr yes)) :
    (runL f (s 0) = some yes ∧ ∀ i, i < m → p i = true) ∨ ∃ i, i < m ∧ p i = false ∧ (∀ j, j < i → p j = true) ∧ runL f (s 0) = some (no i) := by
  have go : ∀ k i, m - i = k → i ≤ m → (∀ j, j < i → p j = true) → runL f (s 0) = runL f (s i) → (runL f (s 0) = some yes ∧ ∀ i, i < m → p i = true) ∨ ∃ i, i < m ∧ p i = false ∧ (∀ j, j < i → p j = true) ∧ runL f (s 0) = some (no i) := by
    intro k
    induction k with
    | zero =>
      intro i hk hi hp he
      have : i = m := by omega
      subst this
      exact .inl ⟨by rw [he, runL_eq, hend], hp⟩
    | succ k ih =>
      intro i hk hi hp he
      have hi' : i < m := by omega
      cases hpi : p i with
      | false => exact .inr ⟨i, hi', hpi, hp, by rw [he, runL_eq, h i hi', hpi]; rfl⟩
      | true =>
        refine ih (i + 1) (by omega) (by omega) (fun j hj => ?_) ?_
        · rcases Nat.lt_succ_iff_lt_or_eq.1 hj with hj | hj
          · exact hp j hj
          · exact hj ▸ hpi
        · rw [he, runL_eq f (s i), h i hi', hpi]; rfl
  exact go m 0 (by omega) (by omega) (fun j hj => by omega) rfl

/-- all of the first m places -/
def allN (p : Nat → Bool) (m : Nat) : Bool := (List.range m).all p
theorem allN_true {p : Nat → Bool} {m : Nat} : allN p m = true ↔ ∀ i, i < m → p i = true := by simp [allN]
theorem allN_false {p : Nat → Bool} {m : Nat} : allN p m = false ↔ ∃ i, i < m ∧ p i = false := by simp [allN]

theorem runL_all {S O : Type} {f : S → Option (S ⊕ O)} (p : Nat → Bool) (s : Nat → S) (no yes : O) (m : Nat)
    (h : ∀ i, i < m → f (s i) = some (bif p i then .inl (s (i + 1)) else .inr no)) (hend : f (s m) = some (.inr yes)) : runL f (s 0) = some (bif allN p m then yes else no) := by
  rcases runL_first p s (fun _ => no) yes m h hend with ⟨e, hp⟩ | ⟨i, hi, hp, _, e⟩
  · rw [e, allN_true.2 hp]; rfl
  · rw [e, allN_false.2 ⟨i, hi, hp⟩]; rfl

/-- the first of m places where p holds, or -1 -/
def firstN (p : Nat → Bool) (m : Nat) : Int := match (List.range m).find? p with | some i => (i : Int) | none => -1
theorem firstN_at {p : Nat → Bool} {m i : Nat} (hi : i < m) (hp : p i = true) (hj : ∀ j, j < i → p j = false) : firstN p m = (i : Int) := by
  unfold firstN
  have : (List.range m).find? p = some i := by
    rw [List.find?_range_eq_some]
    refine ⟨hp, by simpa using hi, fun j hj' => by simp [hj j hj']⟩
  rw [this]
theorem firstN_none {p : Nat → Bool} {m : Nat} (h : ∀ j, j < m → p j = false) : firstN p m = -1 := by
  unfold firstN
  have : (List.range m).find? p = none := by
    rw [List.find?_eq_none]
    intro x hx
    simp [h x (by simpa using hx)]
  rw [this]
theorem firstN_cases (p : Nat → Bool) (m : Nat) : (firstN p m = -1 ∧ ∀ j, j < m → p j = false) ∨ ∃ i, i < m ∧ firstN p m = (i : Int) ∧ p i = true ∧ ∀ j, j < i → p j = false := by
  cases h : (List.range m).find? p with
  | none =>
    have h' := List.find?_eq_none.1 h
    have : ∀ j, j < m → p j = false := fun j hj => by simpa using h' j (by simpa using hj)
    exact .inl ⟨firstN_none this, this⟩
  | some i =>
    obtain ⟨h1, h2, h3⟩ := List.find?_range_eq_some.1 h
    have h2' : i < m := by simpa using h2
    have h3' : ∀ j, j < i → p j = false := fun j hj => by simpa using h3 j hj
    exact .inr ⟨i, h2', firstN_at h2' h1 h3', h1, h3'⟩

/-- a loop that looks for the first place where p holds -/
theorem runL_find {S O : Type} {f : S → Option (S ⊕ O)} (p : Nat → Bool) (s : Nat → S) (o : Int → O) (m : Nat)
    (h : ∀ i, i < m → f (s i) = some (bif p i then .inr (o i) else .inl (s (i + 1)))) (hend : f (s m) = some (.inr (o (-1)))) : runL f (s 0) = some (o (firstN p m)) := by
  rcases runL_first (fun i => !p i) s (fun i => o i) (o (-1)) m (fun i hi => by rw [h i hi]; cases p i <;> rfl) hend with ⟨e, hp⟩ | ⟨i, hi, hp, hj, e⟩
  · rw [e, firstN_none (fun j hj => by simpa using hp j hj)]
  · rw [e, firstN_at hi (by simpa using hp) (fun j hj' => by simpa using hj j hj')]

theorem getD_mem {α : Type} {l : List α} {i : Nat} (h : i < l.length) (d : α) : l.getD i d ∈ l := by simp [List.getD, List.getElem?_eq_getElem h]
theorem take_succ_getD {α : Type} {l : List α} {i : Nat} (h : i < l.length) (d : α) : l.take (i + 1) = l.take i ++ [l.getD i d] := by
  rw [List.take_add_one, List.getD, List.getElem?_eq_getElem h]; rfl
theorem lt_len {i n : Nat} (h : i < n) : decide ((i : Int) < (n : Int)) = true := by simp; omega
theorem not_lt_len (n : Nat) : decide ((n : Int) < (n : Int)) = false := by simp
theorem nonneg (i : Nat) : decide (0 ≤ (i : Int)) = true := by simp

end Go.Proofs.YtklfnbckoaphpaaGreatDoor
/- The words of the laws. No conditions beyond the bounds that are named. -/
set_option linter.unusedVariables false
set_option linter.unusedSimpArgs false
namespace Go.Proofs.YtklfnbckoaphpaaGreatDoor
open Go
end Go.Proofs.YtklfnbckoaphpaaGreatDoor
/- Bytes, and texts that are split at a byte, on both sides: plain laws. No conditions beyond the bounds that are named. -/
set_option linter.unusedVariables false
set_option linter.unusedSimpArgs false
namespace Go.Proofs.YtklfnbckoaphpaaGreatDoor
open Go

/-! ### Bytes -/
def ba (l : List UInt8) : ByteArray := ⟨l.toArray⟩
theorem ba_data (l : List UInt8) : (ba l).data.toList = l := rfl
theorem eq_ba (x : ByteArray) : x = ba x.data.toList := by
  rcases x with ⟨⟨l⟩⟩
  rfl
theorem ba_size (l : List UInt8) : (ba l).size = l.length := rfl
theorem ba_app (a b : List UInt8) : ba a ++ ba b = ba (a ++ b) := by
  have h : ∀ (x y : ByteArray), x.data.toList = y.data.toList → x = y := fun x y h => by rw [eq_ba x, eq_ba y, h]
  apply h
  simp [ba, ByteArray.data_append]
theorem ba_extract (l : List UInt8) (a b : Nat) : (ba l).extract a b = ba ((l.drop a).take (b - a)) := by
  have h : ∀ (x y : ByteArray), x.data.toList = y.data.toList → x = y := fun x y h => by rw [eq_ba x, eq_ba y, h]
  apply h
  rw [Lib.extract_data]
  rfl
theorem ba_byteAt (l : List UInt8) (i : Nat) : byteAt (ba l) i = ((l.getD i 0).toNat : Int) := rfl
theorem ba_inj {a b : List UInt8} : ba a = ba b ↔ a = b := ⟨fun h => by have := congrArg (fun x : ByteArray => x.data.toList) h; exact this, fun h => h ▸ rfl⟩
theorem ba_toList (l : List UInt8) : (ba l).toList = l := by rw [Lib.toList_data]; rfl
theorem byte_beq (b c : UInt8) : (((b.toNat : Nat) : Int) == ((c.toNat : Nat) : Int)) = decide (b = c) := by
  by_cases h : b = c
  · subst h; simp
  · have : ¬ ((b.toNat : Int) = (c.toNat : Int)) := fun e => h (UInt8.toNat_inj.1 (by omega))
    rw [decide_eq_false h]; exact beq_eq_false_iff_ne.2 this
theorem l1In_is (a b c : Int) : F_spec_l1In (a, b, c) = some (decide (b ≤ a) && decide (a ≤ c)) := by
  unfold F_spec_l1In
  by_cases h : b ≤ a <;> simp [h]
theorem within_is (a b c : Int) : F_impl_within (a, b, c) = some (decide (b ≤ a) && decide (a ≤ c)) := by
  unfold F_impl_within
  by_cases h : b ≤ a <;> simp [h]
theorem lt_not {a b : Int} : decide (a < b) = !decide (b ≤ a) := by by_cases h : b ≤ a <;> simp [h] <;> omega
/-! ### Splitting -/
def spl (c : UInt8) : List UInt8 → List (List UInt8)
  | [] => [[]]
  | b :: r => if b = c then [] :: spl c r else (b :: (spl c r).headD []) :: (spl c r).tail
theorem spl_none (c : UInt8) : ∀ a, c ∉ a → spl c a = [a]
  | [], _ => rfl
  | b :: r, h => by
    have hb : ¬ b = c := fun e => h (by simp [e])
    rw [spl, if_neg hb, spl_none c r (fun q => h (List.mem_cons_of_mem _ q))]
    rfl
theorem spl_cons (c : UInt8) : ∀ a r, c ∉ a → spl c (a ++ c :: r) = a :: spl c r
  | [], r, _ => by simp [spl]
  | b :: a, r, h => by
    have hb : ¬ b = c := fun e => h (by simp [e])
    rw [List.cons_append, spl, if_neg hb, spl_cons c a r (fun q => h (List.mem_cons_of_mem _ q))]
    rfl
end Go.Proofs.YtklfnbckoaphpaaGreatDoor
/- Shapes and orientations, on both sides: plain laws. No conditions beyond the bounds that are named. -/
set_option linter.unusedVariables false
set_option linter.unusedSimpArgs false
namespace Go.Proofs.YtklfnbckoaphpaaGreatDoor
open Go
abbrev Shape := Int × (Int × (Int × (Int × (Int × Bool))))
abbrev Orient := Int × Int
def shAdj (s : Shape) : Bool := ((s.2.1 == 0) && (s.2.2.1 == 0)) || (((s.2.2.1 == 0) && (s.2.2.2.1 == 0)) || ((s.2.2.2.1 == 0) && (s.2.2.2.2.1 == 0)))
def in02 (n : Int) : Bool := decide (0 ≤ n) && decide (n ≤ 2)
def shOK (s : Shape) : Bool := in02 s.1 && (in02 s.2.1 && in02 s.2.2.1 && in02 s.2.2.2.1 && in02 s.2.2.2.2.1) && (!s.2.2.2.2.2 || shAdj s)
theorem allN_all {α : Type} (q : α → Bool) (d : α) (l : List α) : allN (fun i => q (l.getD i d)) l.length = l.all q := by
  rw [Bool.eq_iff_iff, allN_true, List.all_eq_true]
  constructor
  · intro h x hx
    obtain ⟨i, hi, rfl⟩ := List.mem_iff_getElem.1 hx
    have := h i hi
    rwa [List.getD, List.getElem?_eq_getElem hi] at this
  · intro h i hi
    rw [List.getD, List.getElem?_eq_getElem hi]
    exact h _ (List.getElem_mem hi)
theorem l1All_is (l : List Int) (a b : Int) (hl : l.length ≤ 9223372036854775806) : F_spec_l1All (l, a, b) = some (l.all fun v => decide (a ≤ v) && decide (v ≤ b)) := by
  have t := runL_all (f := step_spec_l1All_0) (fun i => decide (a ≤ l.getD i 0) && decide (l.getD i 0 ≤ b)) (fun i => (a, b, (l, (l.length : Int), (i : Int)))) (.inl false) (.inr ()) l.length (fun i hi => by
    have hw := wrap_succ (i := i) (by omega)
    simp only [step_spec_l1All_0, lt_len hi, nonneg, Bool.and_self, cond_true, Int.toNat_natCast, l1In_is, hw]
    cases decide (a ≤ l.getD i 0) && decide (l.getD i 0 ≤ b) <;> rfl) (by simp only [step_spec_l1All_0, not_lt_len, cond_false])
  have t' : runL step_spec_l1All_0 (a, b, (l, (l.length : Int), 0)) = _ := t
  simp only [F_spec_l1All, t', allN_all (fun v => decide (a ≤ v) && decide (v ≤ b)) 0 l]
  cases l.all _ <;> rfl
theorem shWide_is (s : Shape) : F_spec_shWide s = some (shAdj s) := by
  obtain ⟨t, a, b, c, d, sp⟩ := s
  have s1 : step_spec_shWide_0 (1, [a, b, c, d]) = some (bif (a == 0) && (b == 0) then .inr (.inl true) else .inl (2, [a, b, c, d])) := by
    have e : step_spec_shWide_0 (1, [a, b, c, d]) = bif (a == 0) then (bif (b == 0) then some (.inr (.inl true)) else some (.inl (2, [a, b, c, d]))) else some (.inl (2, [a, b, c, d])) := rfl
    rw [e]; cases (a == 0) <;> cases (b == 0) <;> rfl
  have s2 : step_spec_shWide_0 (2, [a, b, c, d]) = some (bif (b == 0) && (c == 0) then .inr (.inl true) else .inl (3, [a, b, c, d])) := by
    have e : step_spec_shWide_0 (2, [a, b, c, d]) = bif (b == 0) then (bif (c == 0) then some (.inr (.inl true)) else some (.inl (3, [a, b, c, d]))) else some (.inl (3, [a, b, c, d])) := rfl
    rw [e]; cases (b == 0) <;> cases (c == 0) <;> rfl
  have s3 : step_spec_shWide_0 (3, [a, b, c, d]) = some (bif (c == 0) && (d == 0) then .inr (.inl true) else .inl (4, [a, b, c, d])) := by
    have e : step_spec_shWide_0 (3, [a, b, c, d]) = bif (c == 0) then (bif (d == 0) then some (.inr (.inl true)) else some (.inl (4, [a, b, c, d]))) else some (.inl (4, [a, b, c, d])) := rfl
    rw [e]; cases (c == 0) <;> cases (d == 0) <;> rfl
  have s4 : step_spec_shWide_0 (4, [a, b, c, d]) = some (.inr (.inr ())) := rfl
  simp only [F_spec_shWide, F_spec_shFingers, shAdj]
  rw [runL_eq, s1]
  cases (a == 0) && (b == 0) with
  | true => rfl
  | false =>
    simp only [cond_false, Bool.false_or]
    rw [runL_eq, s2]
    cases (b == 0) && (c == 0) with
    | true => rfl
    | false =>
      simp only [cond_false, Bool.false_or]
      rw [runL_eq, s3]
      cases (c == 0) && (d == 0) with
      | true => rfl
      | false =>
        simp only [cond_false]
        rw [runL_eq, s4]
theorem shGood_is (s : Shape) : F_spec_shGood s = some (shOK s) := by
  obtain ⟨t, a, b, c, d, sp⟩ := s
  have h := l1All_is [a, b, c, d] 0 2 (by simp)
  have hw := shWide_is (t, a, b, c, d, sp)
  simp only [F_spec_shGood, F_spec_shFingers, l1In_is, h, hw, shOK, in02]
  simp only [List.all_cons, List.all_nil, Bool.and_true]
  generalize (decide (0 ≤ t) && decide (t ≤ 2)) = T
  generalize (decide (0 ≤ a) && decide (a ≤ 2)) = A
  generalize (decide (0 ≤ b) && decide (b ≤ 2)) = B
  generalize (decide (0 ≤ c) && decide (c ≤ 2)) = C
  generalize (decide (0 ≤ d) && decide (d ≤ 2)) = D
  cases T <;> cases A <;> cases B <;> cases C <;> cases D <;> cases sp <;> rfl
theorem maySpread_is (s : Shape) : F_impl_Shape_maySpread s = some (shAdj s) := by
  obtain ⟨t, a, b, c, d, sp⟩ := s
  simp only [F_impl_Shape_maySpread, shAdj]
  cases (a == 0) <;> cases (b == 0) <;> cases (c == 0) <;> cases (d == 0) <;> rfl
theorem IndexFunc_int_is (l : List Int) (hl : l.length ≤ 9223372036854775806) (φ : Int → Option Bool) (p : Int → Bool) (hφ : ∀ v ∈ l, φ v = some (p v)) : F_slices_ContainsFunc_int_int (l, φ) = some (l.any p) := by
  rcases runL_first (f := step_slices_IndexFunc_int_int_0) (fun i => !p (l.getD i 0)) (fun i => (l, φ, (l.length : Int), (i : Int))) (fun i => .inl (i : Int)) (.inr ()) l.length (fun i hi => by
    have hw := wrap_succ (i := i) (by omega)
    simp only [step_slices_IndexFunc_int_int_0, lt_len hi, nonneg, Bool.and_self, cond_true, Int.toNat_natCast, hw, hφ _ (getD_mem hi 0)]
    cases p (l.getD i 0) <;> rfl) (by simp only [step_slices_IndexFunc_int_int_0, not_lt_len, cond_false]) with ⟨t, hp⟩ | ⟨i, hi, hp, hj, t⟩
  · have t' : runL step_slices_IndexFunc_int_int_0 (l, φ, (l.length : Int), (0 : Int)) = _ := t
    simp only [F_slices_ContainsFunc_int_int, F_slices_IndexFunc_int_int, t']
    have : l.any p = false := by
      rw [List.any_eq_false]
      intro x hx
      obtain ⟨i, hi, rfl⟩ := List.mem_iff_getElem.1 hx
      have := hp i hi
      rw [List.getD, List.getElem?_eq_getElem hi] at this
      simpa using this
    rw [this]; rfl
  · have t' : runL step_slices_IndexFunc_int_int_0 (l, φ, (l.length : Int), (0 : Int)) = _ := t
    simp only [F_slices_ContainsFunc_int_int, F_slices_IndexFunc_int_int, t']
    have : l.any p = true := List.any_eq_true.2 ⟨_, getD_mem hi 0, by simpa using hp⟩
    rw [this, decide_eq_true (show (i : Int) ≥ 0 by omega)]
theorem allWithin_is (l : List Int) (a b : Int) (hl : l.length ≤ 9223372036854775806) : F_impl_allWithin (l, a, b) = some (l.all fun v => decide (a ≤ v) && decide (v ≤ b)) := by
  have h := IndexFunc_int_is l hl (K_impl_allWithin_1 (a, b)) (fun v => !(decide (a ≤ v) && decide (v ≤ b))) (fun v _ => by simp only [K_impl_allWithin_1, F_impl_allWithin_1, within_is])
  simp only [F_impl_allWithin, h]
  rw [List.any_eq_not_all_not]
  simp
theorem IsShape_is (s : Shape) : F_impl_IsShape s = some (shOK s) := by
  obtain ⟨t, a, b, c, d, sp⟩ := s
  have h := allWithin_is ([t] ++ [a, b, c, d]) 0 2 (by simp)
  have hm := maySpread_is (t, a, b, c, d, sp)
  have g : decide (([t].length + [a, b, c, d].length) * 8 ≤ 140737488355328) = true := rfl
  simp only [F_impl_IsShape, F_impl_Shape_bends, g, cond_true, h, hm, shOK, in02]
  simp only [List.cons_append, List.nil_append, List.all_cons, List.all_nil, Bool.and_true]
  generalize (decide (0 ≤ t) && decide (t ≤ 2)) = T
  generalize (decide (0 ≤ a) && decide (a ≤ 2)) = A
  generalize (decide (0 ≤ b) && decide (b ≤ 2)) = B
  generalize (decide (0 ≤ c) && decide (c ≤ 2)) = C
  generalize (decide (0 ≤ d) && decide (d ≤ 2)) = D
  cases T <;> cases A <;> cases B <;> cases C <;> cases D <;> cases sp <;> rfl
end Go.Proofs.YtklfnbckoaphpaaGreatDoor
/- Shapes are parsed alike on both sides: plain laws. No conditions beyond the bounds that are named. -/
set_option linter.unusedVariables false
set_option linter.unusedSimpArgs false
namespace Go.Proofs.YtklfnbckoaphpaaGreatDoor
open Go
def shZ : Shape := (0, (0, 0, (0, 0, false)))
def dig (n : Int) : UInt8 := UInt8.ofNat (48 + n.toNat)
theorem in02_cases {n : Int} (h : in02 n = true) : n = 0 ∨ n = 1 ∨ n = 2 := by
  simp only [in02, Bool.and_eq_true, decide_eq_true_eq] at h
  omega
theorem Itoa_dig {n : Int} (h : in02 n = true) : F_strconv_Itoa n = some (ba [dig n]) := by
  have k0 : Lib.itoa 0 = [dig 0] := by decide +kernel
  have k1 : Lib.itoa 1 = [dig 1] := by decide +kernel
  have k2 : Lib.itoa 2 = [dig 2] := by decide +kernel
  rcases in02_cases h with rfl | rfl | rfl
  · rw [F_strconv_Itoa_is, k0]; rfl
  · rw [F_strconv_Itoa_is, k1]; rfl
  · rw [F_strconv_Itoa_is, k2]; rfl
def shText (s : Shape) : List UInt8 := [dig s.1, dig s.2.1, dig s.2.2.1, dig s.2.2.2.1, dig s.2.2.2.2.1] ++ bif s.2.2.2.2.2 then [115] else []
theorem shOK_parts {s : Shape} (h : shOK s = true) : in02 s.1 = true ∧ in02 s.2.1 = true ∧ in02 s.2.2.1 = true ∧ in02 s.2.2.2.1 = true ∧ in02 s.2.2.2.2.1 = true ∧ (s.2.2.2.2.2 = true → shAdj s = true) := by
  simp only [shOK, Bool.and_eq_true, Bool.or_eq_true, Bool.not_eq_true'] at h
  obtain ⟨⟨h1, ⟨⟨h2, h3⟩, h4⟩, h5⟩, h6⟩ := h
  refine ⟨h1, h2, h3, h4, h5, fun e => ?_⟩
  rcases h6 with h6 | h6
  · rw [h6] at e; cases e
  · exact h6
theorem Shape_text_is {s : Shape} (h : shOK s = true) : F_impl_Shape_text s = some (ba (shText s)) := by
  obtain ⟨t, a, b, c, d, sp⟩ := s
  obtain ⟨h1, h2, h3, h4, h5, _⟩ := shOK_parts h
  have e1 := Itoa_dig h1
  have e2 := Itoa_dig h2
  have e3 := Itoa_dig h3
  have e4 := Itoa_dig h4
  have e5 := Itoa_dig h5
  simp only at e1 e2 e3 e4 e5
  have s0 : step_impl_Shape_text_0 (ba [dig t], 4, 0, [a, b, c, d], t, a, b, c, d, sp) = some (.inl (ba [dig t, dig a], 4, 1, [a, b, c, d], t, a, b, c, d, sp)) := by
    have e : step_impl_Shape_text_0 (ba [dig t], 4, 0, [a, b, c, d], t, a, b, c, d, sp) = match F_strconv_Itoa a with | none => none | some y5 => bif decide ((ba [dig t]).size + y5.size ≤ 9223372036854775807) then some (.inl (ba [dig t] ++ y5, 4, 1, [a, b, c, d], t, a, b, c, d, sp)) else none := rfl
    rw [e, e2]; simp only [ba_app]; rfl
  have s1 : step_impl_Shape_text_0 (ba [dig t, dig a], 4, 1, [a, b, c, d], t, a, b, c, d, sp) = some (.inl (ba [dig t, dig a, dig b], 4, 2, [a, b, c, d], t, a, b, c, d, sp)) := by
    have e : step_impl_Shape_text_0 (ba [dig t, dig a], 4, 1, [a, b, c, d], t, a, b, c, d, sp) = match F_strconv_Itoa b with | none => none | some y5 => bif decide ((ba [dig t, dig a]).size + y5.size ≤ 9223372036854775807) then some (.inl (ba [dig t, dig a] ++ y5, 4, 2, [a, b, c, d], t, a, b, c, d, sp)) else none := rfl
    rw [e, e3]; simp only [ba_app]; rfl
  have s2 : step_impl_Shape_text_0 (ba [dig t, dig a, dig b], 4, 2, [a, b, c, d], t, a, b, c, d, sp) = some (.inl (ba [dig t, dig a, dig b, dig c], 4, 3, [a, b, c, d], t, a, b, c, d, sp)) := by
    have e : step_impl_Shape_text_0 (ba [dig t, dig a, dig b], 4, 2, [a, b, c, d], t, a, b, c, d, sp) = match F_strconv_Itoa c with | none => none | some y5 => bif decide ((ba [dig t, dig a, dig b]).size + y5.size ≤ 9223372036854775807) then some (.inl (ba [dig t, dig a, dig b] ++ y5, 4, 3, [a, b, c, d], t, a, b, c, d, sp)) else none := rfl
    rw [e, e4]; simp only [ba_app]; rfl
  have s3 : step_impl_Shape_text_0 (ba [dig t, dig a, dig b, dig c], 4, 3, [a, b, c, d], t, a, b, c, d, sp) = some (.inl (ba [dig t, dig a, dig b, dig c, dig d], 4, 4, [a, b, c, d], t, a, b, c, d, sp)) := by
    have e : step_impl_Shape_text_0 (ba [dig t, dig a, dig b, dig c], 4, 3, [a, b, c, d], t, a, b, c, d, sp) = match F_strconv_Itoa d with | none => none | some y5 => bif decide ((ba [dig t, dig a, dig b, dig c]).size + y5.size ≤ 9223372036854775807) then some (.inl (ba [dig t, dig a, dig b, dig c] ++ y5, 4, 4, [a, b, c, d], t, a, b, c, d, sp)) else none := rfl
    rw [e, e5]; simp only [ba_app]; rfl
  have s4 : step_impl_Shape_text_0 (ba [dig t, dig a, dig b, dig c, dig d], 4, 4, [a, b, c, d], t, a, b, c, d, sp) = some (.inr (ba [dig t, dig a, dig b, dig c, dig d], t, a, b, c, d, sp)) := rfl
  have l4 : (([a, b, c, d].length : Nat) : Int) = 4 := rfl
  have r : runL step_impl_Shape_text_0 (ba [dig t], 4, 0, [a, b, c, d], t, a, b, c, d, sp) = some (ba [dig t, dig a, dig b, dig c, dig d], t, a, b, c, d, sp) := by
    rw [runL_eq, s0]; simp only []
    rw [runL_eq, s1]; simp only []
    rw [runL_eq, s2]; simp only []
    rw [runL_eq, s3]; simp only []
    rw [runL_eq, s4]
  simp only [F_impl_Shape_text, F_impl_Shape_bends, e1, l4, r, shText]
  cases sp with
  | false => simp only [cond_false, List.append_nil]
  | true =>
    have g : decide ((ba [dig t, dig a, dig b, dig c, dig d]).size + (⟨#[115]⟩ : ByteArray).size ≤ 9223372036854775807) = true := rfl
    simp only [cond_true, g]
    exact congrArg some (ba_app _ [115])

/-! ### Parsing -/
def shD (x : ByteArray) (sp : Bool) : Shape := (byteAt x 0 - 48, (byteAt x 1 - 48, byteAt x 2 - 48, (byteAt x 3 - 48, byteAt x 4 - 48, sp)))
def shP (x : ByteArray) : Shape × Bool :=
  bif decide (x.size = 5) && shOK (shD x false) then (shD x false, true)
  else bif decide (x.size = 6) && decide (byteAt x 5 = 115) && shOK (shD x true) then (shD x true, true) else (shZ, false)
theorem runL_step {S O : Type} {f : S → Option (S ⊕ O)} {s s' : S} (h : f s = some (.inl s')) : runL f s = runL f s' := by rw [runL_eq, h]
theorem runL_end {S O : Type} {f : S → Option (S ⊕ O)} {s : S} {o : O} (h : f s = some (.inr o)) : runL f s = some o := by rw [runL_eq, h]
theorem byteAt_le (s : ByteArray) (i : Nat) : 0 ≤ byteAt s i ∧ byteAt s i ≤ 255 := by
  obtain ⟨b, hb⟩ : ∃ b : UInt8, byteAt s i = (b.toNat : Int) := ⟨_, rfl⟩
  have := b.toNat_lt
  omega
theorem wrap_byte (s : ByteArray) (i : Nat) : IntKind.i64.wrap (byteAt s i) = byteAt s i := by
  have := byteAt_le s i
  exact wrap_id (by omega) (by omega)
theorem wrap_dig (s : ByteArray) (i : Nat) : IntKind.i64.wrap (byteAt s i - 48) = byteAt s i - 48 := by
  have := byteAt_le s i
  exact wrap_id (by omega) (by omega)
theorem spec_loop (x : ByteArray) (h5 : 5 ≤ x.size) (r1 r2 r3 r4 r5 : Int) (rb : Bool) : runL step_spec_shParse_0 (x, 0, (r1, r2, (r3, r4, (r5, rb, [])))) = some (x, ([byteAt x 0 - 48, byteAt x 1 - 48, byteAt x 2 - 48, byteAt x 3 - 48, byteAt x 4 - 48], r1, (r2, r3, (r4, r5, rb)))) := by
  have t := runL_traj (f := step_spec_shParse_0) (fun i => (x, (i : Int), (r1, r2, (r3, r4, (r5, rb, (List.range i).map fun j => byteAt x j - 48))))) (x, ((List.range 5).map fun j => byteAt x j - 48, r1, (r2, r3, (r4, r5, rb)))) 5 (fun i hi => by
    have hw := wrap_succ (i := i) (by omega)
    have g1 : decide ((i : Int) < 5) = true := decide_eq_true (by omega)
    have g2 : decide ((i : Int) < (x.size : Int)) = true := decide_eq_true (by omega)
    have g3 : decide (((List.map (fun j => byteAt x j - 48) (List.range i)).length + [byteAt x i - 48].length) * 8 ≤ 140737488355328) = true := decide_eq_true (by simp; omega)
    simp only [step_spec_shParse_0, g1, g2, nonneg, Bool.and_self, cond_true, Int.toNat_natCast, wrap_byte, wrap_dig, g3, hw, List.range_succ, List.map_append, List.map_cons, List.map_nil]) rfl
  exact t
theorem with_is (s : Shape) (hs : s.2.2.2.2.2 = false) (v : Int) : F_impl_Shape_with (s, 0, v) = some (v, s.2) ∧ F_impl_Shape_with (s, 1, v) = some (s.1, v, s.2.2) ∧ F_impl_Shape_with (s, 2, v) = some (s.1, s.2.1, v, s.2.2.2) ∧
    F_impl_Shape_with (s, 3, v) = some (s.1, s.2.1, s.2.2.1, v, s.2.2.2.2) ∧ F_impl_Shape_with (s, 4, v) = some (s.1, s.2.1, s.2.2.1, s.2.2.2.1, v, s.2.2.2.2.2) := by
  obtain ⟨t, a, b, c, d, sp⟩ := s
  simp only at hs
  subst hs
  exact ⟨rfl, rfl, rfl, rfl, rfl⟩
theorem impl_loop (x : ByteArray) (h5 : 5 ≤ x.size) (R : Shape) : runL step_impl_ParseShape_0 (x, (0, (0, 0, (0, 0, (0, false, R))))) = some (x, (byteAt x 0 - 48, (byteAt x 1 - 48, byteAt x 2 - 48, (byteAt x 3 - 48, byteAt x 4 - 48, (false, R))))) := by
  have hp : ∀ i : Nat, i < 5 → ∀ s : Shape, (decide ((i : Int) < 5) = true ∧ decide ((i : Int) < (x.size : Int)) = true) := fun i hi _ => ⟨decide_eq_true (by omega), decide_eq_true (by omega)⟩
  have st : ∀ (i : Nat) (s s' : Shape), i < 5 → F_impl_Shape_with (s, (i : Int), byteAt x i - 48) = some s' → step_impl_ParseShape_0 (x, ((i : Int), (s.1, s.2.1, (s.2.2.1, s.2.2.2.1, (s.2.2.2.2.1, s.2.2.2.2.2, R))))) = some (.inl (x, (((i + 1 : Nat) : Int), (s'.1, s'.2.1, (s'.2.2.1, s'.2.2.2.1, (s'.2.2.2.2.1, s'.2.2.2.2.2, R)))))) := by
    intro i s s' hi hw
    have hws := wrap_succ (i := i) (by omega)
    have g1 : decide ((i : Int) < 5) = true := decide_eq_true (by omega)
    have g2 : decide ((i : Int) < (x.size : Int)) = true := decide_eq_true (by omega)
    have hw' : F_impl_Shape_with ((s.1, s.2.1, s.2.2.1, s.2.2.2.1, s.2.2.2.2.1, s.2.2.2.2.2), (i : Int), byteAt x i - 48) = some s' := hw
    simp only [step_impl_ParseShape_0, g1, g2, nonneg, Bool.and_self, cond_true, Int.toNat_natCast, wrap_byte, wrap_dig, hws, hw']
  have a0 := st 0 shZ _ (by omega) (with_is shZ rfl _).1
  have a1 := st 1 _ _ (by omega) (with_is (byteAt x 0 - 48, shZ.2) rfl _).2.1
  have a2 := st 2 _ _ (by omega) (with_is (byteAt x 0 - 48, byteAt x 1 - 48, shZ.2.2) rfl _).2.2.1
  have a3 := st 3 _ _ (by omega) (with_is (byteAt x 0 - 48, byteAt x 1 - 48, byteAt x 2 - 48, shZ.2.2.2) rfl _).2.2.2.1
  have a4 := st 4 _ _ (by omega) (with_is (byteAt x 0 - 48, byteAt x 1 - 48, byteAt x 2 - 48, byteAt x 3 - 48, shZ.2.2.2.2) rfl _).2.2.2.2
  have a0' : step_impl_ParseShape_0 (x, (0, (0, 0, (0, 0, (0, false, R))))) = _ := a0
  exact (runL_step a0').trans ((runL_step a1).trans ((runL_step a2).trans ((runL_step a3).trans ((runL_step a4).trans (runL_end rfl)))))
/-! ### Both sides -/
theorem shP_spec (x : ByteArray) : F_spec_shParse x = some (shP x) := by
  have hb := byteAt_le x 5
  simp only [F_spec_shParse, l1In_is]
  by_cases h5 : x.size = 5
  · have g1 : (decide (5 ≤ (x.size : Int)) && decide ((x.size : Int) ≤ 6)) = true := by rw [h5]; rfl
    have g2 : ((x.size : Int) == 6) = false := by rw [h5]; rfl
    have lp := spec_loop x (by omega) 0 0 0 0 0 false
    have sg := shGood_is (shD x false)
    unfold shD at sg
    simp only [g1, g2, Bool.not_true, cond_false, lp]
    have e : shP x = bif shOK (shD x false) then (shD x false, true) else (shZ, false) := by
      unfold shP
      rw [decide_eq_true h5, decide_eq_false (show ¬ x.size = 6 by omega)]
      simp only [Bool.true_and, Bool.false_and, cond_false]
    rw [e]
    have e2 : F_spec_shGood ((([byteAt x 0 - 48, byteAt x 1 - 48, byteAt x 2 - 48, byteAt x 3 - 48, byteAt x 4 - 48].getD (0 : Int).toNat 0), (([byteAt x 0 - 48, byteAt x 1 - 48, byteAt x 2 - 48, byteAt x 3 - 48, byteAt x 4 - 48].getD (1 : Int).toNat 0), ([byteAt x 0 - 48, byteAt x 1 - 48, byteAt x 2 - 48, byteAt x 3 - 48, byteAt x 4 - 48].getD (2 : Int).toNat 0), (([byteAt x 0 - 48, byteAt x 1 - 48, byteAt x 2 - 48, byteAt x 3 - 48, byteAt x 4 - 48].getD (3 : Int).toNat 0), ([byteAt x 0 - 48, byteAt x 1 - 48, byteAt x 2 - 48, byteAt x 3 - 48, byteAt x 4 - 48].getD (4 : Int).toNat 0), false)))) = some (shOK (shD x false)) := sg
    rw [e2]
    cases shOK (shD x false) <;> rfl
  · by_cases h6 : x.size = 6
    · have g1 : (decide (5 ≤ (x.size : Int)) && decide ((x.size : Int) ≤ 6)) = true := by rw [h6]; rfl
      have g2 : ((x.size : Int) == 6) = true := by rw [h6]; rfl
      have g3 : (decide (0 ≤ 5) && decide ((5 : Int) < (x.size : Int))) = true := by rw [h6]; rfl
      have lp := spec_loop x (by omega) 0 0 0 0 0 false
      have sg := shGood_is (shD x true)
      unfold shD at sg
      have e : shP x = bif decide (byteAt x 5 = 115) && shOK (shD x true) then (shD x true, true) else (shZ, false) := by
        unfold shP
        rw [decide_eq_true h6, decide_eq_false h5]
        simp only [Bool.true_and, Bool.false_and, cond_false]
      rw [e]
      simp only [g1, g2, g3, Bool.not_true, cond_false, cond_true, lp]
      by_cases hs : byteAt x 5 = 115
      · have hs' : (byteAt x (5 : Int).toNat != 115) = false := by
          show (byteAt x 5 != 115) = false
          rw [hs]; rfl
        rw [hs', decide_eq_true hs, cond_false, Bool.true_and]
        have e2 : F_spec_shGood ((([byteAt x 0 - 48, byteAt x 1 - 48, byteAt x 2 - 48, byteAt x 3 - 48, byteAt x 4 - 48].getD (0 : Int).toNat 0), (([byteAt x 0 - 48, byteAt x 1 - 48, byteAt x 2 - 48, byteAt x 3 - 48, byteAt x 4 - 48].getD (1 : Int).toNat 0), ([byteAt x 0 - 48, byteAt x 1 - 48, byteAt x 2 - 48, byteAt x 3 - 48, byteAt x 4 - 48].getD (2 : Int).toNat 0), (([byteAt x 0 - 48, byteAt x 1 - 48, byteAt x 2 - 48, byteAt x 3 - 48, byteAt x 4 - 48].getD (3 : Int).toNat 0), ([byteAt x 0 - 48, byteAt x 1 - 48, byteAt x 2 - 48, byteAt x 3 - 48, byteAt x 4 - 48].getD (4 : Int).toNat 0), true)))) = some (shOK (shD x true)) := sg
        rw [e2]
        cases shOK (shD x true) <;> rfl
      · have hs' : (byteAt x (5 : Int).toNat != 115) = true := by
          show (byteAt x 5 != 115) = true
          rw [bne_iff_ne]; exact hs
        rw [hs', decide_eq_false hs, cond_true, Bool.false_and, cond_false]
        rfl
    · have g1 : (decide (5 ≤ (x.size : Int)) && decide ((x.size : Int) ≤ 6)) = false := by
        rw [Bool.and_eq_false_iff]
        by_cases hl : x.size < 5
        · exact .inl (decide_eq_false (by omega))
        · exact .inr (decide_eq_false (by omega))
      have e : shP x = (shZ, false) := by
        unfold shP
        rw [decide_eq_false h5, decide_eq_false h6]
        simp only [Bool.false_and, cond_false]
      rw [e, g1]
      rfl
theorem dig_byte {b : UInt8} (h : in02 ((b.toNat : Int) - 48) = true) : dig ((b.toNat : Int) - 48) = b := by
  apply UInt8.toNat_inj.1
  unfold dig
  rcases in02_cases h with e | e | e <;> rw [e] <;> simp <;> omega
theorem shP_mid (l : List UInt8) (sp : Bool) (h5 : 5 ≤ l.length) (hl : l.length ≤ 6) (h6 : (((l.length : Nat) : Int) == 6) = sp) : F_impl_ParseShape (ba l) = bif shOK (shD (ba l) sp) then (bif decide (shText (shD (ba l) sp) = l) then some (shD (ba l) sp, true) else some (shZ, false)) else some (shZ, false) := by
  have g1 : (decide (5 ≤ ((ba l).size : Int)) && decide (((ba l).size : Int) ≤ 6)) = true := by
    rw [ba_size, decide_eq_true (by omega), decide_eq_true (by omega)]; rfl
  have g2 : (((ba l).size : Int) == 6) = sp := by rw [ba_size]; exact h6
  have lp := impl_loop (ba l) (by rw [ba_size]; omega) shZ
  have lp' : runL step_impl_ParseShape_0 (ba l, (0, (0, 0, (0, 0, (0, (false, 0, (0, 0, (0, 0, false)))))))) = _ := lp
  have e1 : F_impl_IsShape (byteAt (ba l) 0 - 48, byteAt (ba l) 1 - 48, byteAt (ba l) 2 - 48, byteAt (ba l) 3 - 48, byteAt (ba l) 4 - 48, sp) = some (shOK (shD (ba l) sp)) := IsShape_is (shD (ba l) sp)
  simp only [F_impl_ParseShape, within_is, g1, Bool.not_true, cond_false, lp', g2, e1]
  cases hok : shOK (shD (ba l) sp) with
  | false => rfl
  | true =>
    have e2 : F_impl_Shape_text (byteAt (ba l) 0 - 48, byteAt (ba l) 1 - 48, byteAt (ba l) 2 - 48, byteAt (ba l) 3 - 48, byteAt (ba l) 4 - 48, sp) = some (ba (shText (shD (ba l) sp))) := Shape_text_is hok
    simp only [Bool.not_true, cond_false, e2, ba_toList, cond_true]
    by_cases h : shText (shD (ba l) sp) = l
    · rw [h, decide_eq_true rfl, beq_self_eq_true]; rfl
    · rw [decide_eq_false h, beq_eq_false_iff_ne.2 h]; rfl
theorem shP_impl (x : ByteArray) : F_impl_ParseShape x = some (shP x) := by
  obtain ⟨l, rfl⟩ : ∃ l, x = ba l := ⟨x.data.toList, eq_ba x⟩
  by_cases h5 : l.length = 5
  · rw [shP_mid l false (by omega) (by omega) (by rw [h5]; rfl)]
    unfold shP
    rw [ba_size, decide_eq_true h5, decide_eq_false (show ¬ l.length = 6 by omega)]
    simp only [Bool.true_and, Bool.false_and, cond_false]
    cases hok : shOK (shD (ba l) false) with
    | false => rfl
    | true =>
      have ht : shText (shD (ba l) false) = l := by
        match l, h5 with
        | [b0, b1, b2, b3, b4], _ =>
          obtain ⟨q1, q2, q3, q4, q5, _⟩ := shOK_parts hok
          have d1 : dig (shD (ba [b0, b1, b2, b3, b4]) false).1 = b0 := dig_byte q1
          have d2 : dig (shD (ba [b0, b1, b2, b3, b4]) false).2.1 = b1 := dig_byte q2
          have d3 : dig (shD (ba [b0, b1, b2, b3, b4]) false).2.2.1 = b2 := dig_byte q3
          have d4 : dig (shD (ba [b0, b1, b2, b3, b4]) false).2.2.2.1 = b3 := dig_byte q4
          have d5 : dig (shD (ba [b0, b1, b2, b3, b4]) false).2.2.2.2.1 = b4 := dig_byte q5
          unfold shText
          rw [d1, d2, d3, d4, d5]
          rfl
      rw [decide_eq_true ht]; rfl
  · by_cases h6 : l.length = 6
    · rw [shP_mid l true (by omega) (by omega) (by rw [h6]; rfl)]
      unfold shP
      rw [ba_size, decide_eq_true h6, decide_eq_false h5]
      simp only [Bool.true_and, Bool.false_and, cond_false]
      cases hok : shOK (shD (ba l) true) with
      | false => rw [Bool.and_false]; rfl
      | true =>
        have ht : decide (shText (shD (ba l) true) = l) = decide (byteAt (ba l) 5 = 115) := by
          match l, h6 with
          | [b0, b1, b2, b3, b4, b5], _ =>
            obtain ⟨q1, q2, q3, q4, q5, _⟩ := shOK_parts hok
            have d1 : dig (shD (ba [b0, b1, b2, b3, b4, b5]) true).1 = b0 := dig_byte q1
            have d2 : dig (shD (ba [b0, b1, b2, b3, b4, b5]) true).2.1 = b1 := dig_byte q2
            have d3 : dig (shD (ba [b0, b1, b2, b3, b4, b5]) true).2.2.1 = b2 := dig_byte q3
            have d4 : dig (shD (ba [b0, b1, b2, b3, b4, b5]) true).2.2.2.1 = b3 := dig_byte q4
            have d5 : dig (shD (ba [b0, b1, b2, b3, b4, b5]) true).2.2.2.2.1 = b4 := dig_byte q5
            unfold shText
            rw [d1, d2, d3, d4, d5]
            have e : byteAt (ba [b0, b1, b2, b3, b4, b5]) 5 = (b5.toNat : Int) := rfl
            rw [e]
            by_cases hb : b5 = 115
            · subst hb
              rw [decide_eq_true (show ((115 : UInt8).toNat : Int) = 115 from rfl)]
              exact decide_eq_true rfl
            · have h1 : ¬ ((b5.toNat : Int) = 115) := fun q => hb (UInt8.toNat_inj.1 (by have : (115 : UInt8).toNat = 115 := rfl; omega))
              rw [decide_eq_false h1]
              refine decide_eq_false fun q => hb ?_
              have q' : [b0, b1, b2, b3, b4] ++ [115] = [b0, b1, b2, b3, b4] ++ [b5] := q
              have := List.append_cancel_left q'
              exact (List.cons.inj this).1.symm
        rw [ht, Bool.and_true, cond_true]
        cases decide (byteAt (ba l) 5 = 115) <;> rfl
    · have g1 : (decide (5 ≤ ((ba l).size : Int)) && decide (((ba l).size : Int) ≤ 6)) = false := by
        rw [Bool.and_eq_false_iff, ba_size]
        by_cases hl : l.length < 5
        · exact .inl (decide_eq_false (by omega))
        · exact .inr (decide_eq_false (by omega))
      have e : shP (ba l) = (shZ, false) := by
        unfold shP
        rw [ba_size, decide_eq_false h5, decide_eq_false h6]
        simp only [Bool.false_and, cond_false]
      simp only [F_impl_ParseShape, within_is, g1, Bool.not_false, cond_true, e]
      rfl
end Go.Proofs.YtklfnbckoaphpaaGreatDoor
/- Directions, orientations and movements, on both sides: plain laws. No conditions beyond the bounds that are named. -/
set_option linter.unusedVariables false
set_option linter.unusedSimpArgs false
namespace Go.Proofs.YtklfnbckoaphpaaGreatDoor
open Go

/-! ### Directions -/
def dirL : List UInt8 := [117, 100, 108, 114, 102, 98]
def dirI (n : Int) : Int := firstN (fun i => byteAt (ba dirL) i == n) 6
theorem mvIndex_is (n : Int) : F_spec_mvIndex n = some (dirI n) := by
  have t := runL_first (f := step_spec_mvIndex_0) (fun i => !(byteAt (ba dirL) i == n)) (fun i => (n, (i : Int))) (fun i => .inl (i : Int)) (.inr ()) 6 (fun i hi => by
    have hw := wrap_succ (i := i) (by omega)
    have g1 : decide ((i : Int) < (((⟨#[117, 100, 108, 114, 102, 98]⟩ : ByteArray).size : Nat) : Int)) = true := decide_eq_true (by show (i : Int) < 6; omega)
    have e : byteAt (⟨#[117, 100, 108, 114, 102, 98]⟩ : ByteArray) i = byteAt (ba dirL) i := rfl
    simp only [step_spec_mvIndex_0, F_spec_mvLetters, g1, nonneg, Bool.and_self, cond_true, Int.toNat_natCast, hw, e]
    cases (byteAt (ba dirL) i == n) <;> rfl) rfl
  rcases t with ⟨t, hp⟩ | ⟨i, hi, hp, hj, t⟩
  · have t' : runL step_spec_mvIndex_0 (n, 0) = _ := t
    simp only [F_spec_mvIndex, t']
    unfold dirI
    rw [firstN_none (fun j hj => by simpa using hp j hj)]
  · have t' : runL step_spec_mvIndex_0 (n, 0) = _ := t
    simp only [F_spec_mvIndex, t']
    unfold dirI
    rw [firstN_at hi (by simpa using hp) (fun j hj' => by simpa using hj j hj')]
theorem dirI_bytes : ∀ b : Fin 256, Lib.indexByte dirL (UInt8.ofNat b.val) = dirI (b.val : Int) := by decide +kernel
theorem dirI_byte (b : UInt8) : Lib.indexByte dirL b = dirI (b.toNat : Int) := by
  have := dirI_bytes ⟨b.toNat, b.toNat_lt⟩
  simpa using this
theorem IndexByte_dir (x : ByteArray) (i : Nat) : F_strings_IndexByte ((⟨#[117, 100, 108, 114, 102, 98]⟩ : ByteArray), byteAt x i) = some (dirI (byteAt x i)) := by
  obtain ⟨b, hb⟩ : ∃ b : UInt8, byteAt x i = (b.toNat : Int) := ⟨_, rfl⟩
  rw [hb, ← dirI_byte]
  unfold F_strings_IndexByte
  congr 2
  simp [Nat.toUInt8]

/-! ### Orientations -/
def in05 (n : Int) : Bool := decide (0 ≤ n) && decide (n ≤ 5)
def orOpp (n : Int) : Int := bif n.tmod 2 == 0 then n + 1 else n - 1
def orOK (o : Orient) : Bool := in05 o.1 && in05 o.2 && (o.1 != o.2) && (o.1 != orOpp o.2)
theorem in05_cases {n : Int} (h : in05 n = true) : n = 0 ∨ n = 1 ∨ n = 2 ∨ n = 3 ∨ n = 4 ∨ n = 5 := by
  simp only [in05, Bool.and_eq_true, decide_eq_true_eq] at h
  omega
theorem orOpp_is (n : Int) (h : in05 n = true) : F_spec_orOpposite n = some (orOpp n) := by
  rcases in05_cases h with rfl | rfl | rfl | rfl | rfl | rfl <;> rfl
theorem orGood_is (o : Orient) : F_spec_orGood o = some (orOK o) := by
  obtain ⟨a, b⟩ := o
  have e : ∀ n, F_spec_orDir n = some (in05 n) := fun n => by simp only [F_spec_orDir, l1In_is, in05]
  simp only [F_spec_orGood, e, orOK]
  cases ha : in05 a with
  | false => simp only [cond_false, Bool.false_and]
  | true =>
    cases hb : in05 b with
    | false => simp only [cond_true, cond_false, Bool.false_and, Bool.and_false]
    | true =>
      simp only [cond_true, Bool.true_and, orOpp_is b hb]
      cases (a != b) <;> rfl
theorem IsOrient_is (o : Orient) : F_impl_IsOrient o = some (orOK o) := by
  obtain ⟨a, b⟩ := o
  simp only [F_impl_IsOrient, within_is, orOK]
  show (bif in05 a then _ else _) = _
  cases ha : in05 a with
  | false => simp only [cond_false, Bool.false_and]
  | true =>
    simp only [cond_true]
    show (bif in05 b then _ else _) = _
    cases hb : in05 b with
    | false => simp only [cond_false, Bool.false_and, Bool.and_false]
    | true =>
      rcases in05_cases ha with rfl | rfl | rfl | rfl | rfl | rfl <;> rcases in05_cases hb with rfl | rfl | rfl | rfl | rfl | rfl <;> rfl
def orP (x : ByteArray) : Orient × Bool := bif decide (x.size = 2) && orOK (dirI (byteAt x 0), dirI (byteAt x 1)) then ((dirI (byteAt x 0), dirI (byteAt x 1)), true) else ((0, 0), false)
def orSw (n : Int) : Int := bif n == 2 then 3 else bif n == 3 then 2 else n
theorem orSwap_is (n : Int) : F_spec_orSwap n = some (orSw n) := by
  simp only [F_spec_orSwap, orSw]
  by_cases h2 : n = 2
  · subst h2; rfl
  · by_cases h3 : n = 3
    · subst h3; rfl
    · rw [beq_eq_false_iff_ne.2 h2, beq_eq_false_iff_ne.2 h3]; rfl
theorem mirrored1_is (n : Int) : F_impl_Orient_mirrored_1 n = some (orSw n) := by
  simp only [F_impl_Orient_mirrored_1, orSw]
  by_cases h2 : n = 2
  · subst h2; rfl
  · by_cases h3 : n = 3
    · subst h3; rfl
    · rw [beq_eq_false_iff_ne.2 h2, beq_eq_false_iff_ne.2 h3]; rfl
def orMir (o : Orient) : Orient := (orSw o.1, orSw o.2)
theorem orMirror_is (o : Orient) : F_spec_orMirror o = some (orMir o) := by simp only [F_spec_orMirror, orSwap_is, orMir]
theorem Orient_mirrored_is (o : Orient) : F_impl_Orient_mirrored o = some (orMir o) := by simp only [F_impl_Orient_mirrored, mirrored1_is, orMir]
theorem orSw_sw (n : Int) : orSw (orSw n) = n := by
  unfold orSw
  by_cases h2 : n = 2
  · subst h2; rfl
  · by_cases h3 : n = 3
    · subst h3; rfl
    · rw [beq_eq_false_iff_ne.2 h2, beq_eq_false_iff_ne.2 h3]
      simp only [cond_false]
      rw [beq_eq_false_iff_ne.2 h2, beq_eq_false_iff_ne.2 h3]; rfl
theorem orMir_mir (o : Orient) : orMir (orMir o) = o := by
  obtain ⟨a, b⟩ := o
  simp only [orMir, orSw_sw]
end Go.Proofs.YtklfnbckoaphpaaGreatDoor
/- Places, on both sides: plain laws. No conditions beyond the bounds that are named. -/
set_option linter.unusedVariables false
set_option linter.unusedSimpArgs false
namespace Go.Proofs.YtklfnbckoaphpaaGreatDoor
open Go
abbrev Place := Int × (Int × Bool)
def plOK (p : Place) : Bool := (decide (0 ≤ p.1) && decide (p.1 ≤ 9)) && (decide (-1 ≤ p.2.1) && decide (p.2.1 ≤ 1)) && !(p.2.2 && (p.1 == 0))
def plCd (c : Nat) : Place := (((c / 6 : Nat) : Int), (((c % 6) / 2 : Nat) : Int) - 1, (c % 2 == 1))
def plL : List Place := ((List.range 60).map plCd).filter plOK
def plNm : List (List UInt8) := [[115, 112, 97, 99, 101], [104, 101, 97, 100], [101, 121, 101], [99, 104, 101, 101, 107], [109, 111, 117, 116, 104], [99, 104, 105, 110], [110, 101, 99, 107], [99, 104, 101, 115, 116], [119, 97, 105, 115, 116], [104, 105, 112]]
def plT (p : Place) : List UInt8 := (plNm.getD p.1.toNat [] ++ (bif p.2.1 == -1 then [60] else bif p.2.1 == 1 then [62] else [])) ++ (bif p.2.2 then [42] else [])
theorem plGood_is (p : Place) : F_spec_plGood p = some (plOK p) := by
  obtain ⟨b, s, t⟩ := p
  simp only [F_spec_plGood, l1In_is, plOK]
  cases hb : decide (0 ≤ b) && decide (b ≤ 9) with
  | false => rfl
  | true =>
    cases hs : decide (-1 ≤ s) && decide (s ≤ 1) with
    | false => rfl
    | true =>
      simp only [Bool.and_eq_true, decide_eq_true_eq] at hb
      by_cases h0 : b = 0
      · subst h0; cases t <;> rfl
      · rw [decide_eq_true (show b > 0 by omega), beq_eq_false_iff_ne.2 h0]; cases t <;> rfl
theorem IsPlace_is (p : Place) : F_impl_IsPlace p = some (plOK p) := by
  obtain ⟨b, s, t⟩ := p
  simp only [F_impl_IsPlace, within_is, plOK]
  cases decide (0 ≤ b) && decide (b ≤ 9) with
  | false => rfl
  | true =>
    cases decide (-1 ≤ s) && decide (s ≤ 1) with
    | false => rfl
    | true => cases t <;> cases (b == 0) <;> rfl
theorem plOK_parts {p : Place} (h : plOK p = true) : (0 ≤ p.1 ∧ p.1 ≤ 9) ∧ (-1 ≤ p.2.1 ∧ p.2.1 ≤ 1) := by
  simp only [plOK, Bool.and_eq_true, decide_eq_true_eq] at h
  exact ⟨h.1.1, h.1.2⟩

/-! ### Texts -/
theorem plText_is {p : Place} (h : plOK p = true) : F_spec_plText p = some (ba (plT p)) := by
  obtain ⟨⟨b0, b9⟩, s0, s1⟩ := plOK_parts h
  obtain ⟨b, s, t⟩ := p
  simp only at b0 b9 s0 s1
  clear h
  have hs : s = -1 ∨ s = 0 ∨ s = 1 := by omega
  have hb : b = 0 ∨ b = 1 ∨ b = 2 ∨ b = 3 ∨ b = 4 ∨ b = 5 ∨ b = 6 ∨ b = 7 ∨ b = 8 ∨ b = 9 := by omega
  rcases hb with rfl | rfl | rfl | rfl | rfl | rfl | rfl | rfl | rfl | rfl <;> rcases hs with rfl | rfl | rfl <;> cases t <;> rfl
theorem Place_text_is {p : Place} (h : plOK p = true) : F_impl_Place_text p = some (ba (plT p)) := by
  obtain ⟨⟨b0, b9⟩, s0, s1⟩ := plOK_parts h
  obtain ⟨b, s, t⟩ := p
  simp only at b0 b9 s0 s1
  clear h
  have hs : s = -1 ∨ s = 0 ∨ s = 1 := by omega
  have hb : b = 0 ∨ b = 1 ∨ b = 2 ∨ b = 3 ∨ b = 4 ∨ b = 5 ∨ b = 6 ∨ b = 7 ∨ b = 8 ∨ b = 9 := by omega
  rcases hb with rfl | rfl | rfl | rfl | rfl | rfl | rfl | rfl | rfl | rfl <;> rcases hs with rfl | rfl | rfl <;> cases t <;> rfl

/-! ### All places -/
/-! ### Parsing -/
def plP (x : ByteArray) : Place × Bool := match plL.find? (fun p => decide (plT p = x.data.toList)) with | some p => (p, true) | none => ((0, 0, false), false)
theorem plP_some {l : List UInt8} {p : Place} (h : plL.find? (fun p => decide (plT p = l)) = some p) : plP (ba l) = (p, true) := by
  show (match plL.find? (fun p => decide (plT p = l)) with | some p => (p, true) | none => ((0, 0, false), false)) = _
  rw [h]
theorem plL_ok : ∀ p ∈ plL, plOK p = true := fun p hp => (List.mem_filter.1 hp).2
theorem beq_text (a b : List UInt8) : (a == b) = decide (a = b) := by
  by_cases h : a = b
  · subst h; simp
  · rw [decide_eq_false h, beq_eq_false_iff_ne.2 h]
end Go.Proofs.YtklfnbckoaphpaaGreatDoor
/- Movements, on both sides: plain laws. No conditions beyond the bounds that are named. -/
set_option linter.unusedVariables false
set_option linter.unusedSimpArgs false
namespace Go.Proofs.YtklfnbckoaphpaaGreatDoor
open Go
abbrev Move := ByteArray × Int
def dirAll (l : List UInt8) : Bool := l.all fun b => decide (0 ≤ dirI (b.toNat : Int))
theorem dirAll_N (l : List UInt8) : allN (fun i => decide (0 ≤ dirI (byteAt (ba l) i))) l.length = dirAll l := allN_all (fun b : UInt8 => decide (0 ≤ dirI (b.toNat : Int))) 0 l
theorem mvSteps_is (l : List UInt8) (hl : l.length ≤ 9223372036854775806) : F_spec_mvSteps (ba l) = some (dirAll l) := by
  have t := runL_all (f := step_spec_mvSteps_0) (fun i => decide (0 ≤ dirI (byteAt (ba l) i))) (fun i => (ba l, (i : Int))) (.inl false) (.inr ()) l.length (fun i hi => by
    have hw := wrap_succ (i := i) (by omega)
    have g : decide ((i : Int) < ((ba l).size : Int)) = true := lt_len (by rw [ba_size]; exact hi)
    simp only [step_spec_mvSteps_0, g, nonneg, Bool.and_self, cond_true, Int.toNat_natCast, mvIndex_is, hw, lt_not]
    cases decide (0 ≤ dirI (byteAt (ba l) i)) <;> rfl) (by
      have g : decide (((l.length : Nat) : Int) < ((ba l).size : Int)) = false := by rw [ba_size]; exact not_lt_len _
      simp only [step_spec_mvSteps_0, g, cond_false])
  have t' : runL step_spec_mvSteps_0 (ba l, 0) = _ := t
  simp only [F_spec_mvSteps, t', dirAll_N]
  cases dirAll l <;> rfl
theorem hasOnly_dir (l : List UInt8) (hl : l.length ≤ 9223372036854775806) : F_impl_hasOnly (ba l, (⟨#[117, 100, 108, 114, 102, 98]⟩ : ByteArray)) = some (dirAll l) := by
  have t := runL_all (f := step_impl_hasOnly_0) (fun i => decide (0 ≤ dirI (byteAt (ba l) i))) (fun i => (ba l, ((⟨#[117, 100, 108, 114, 102, 98]⟩ : ByteArray), ((l.length : Nat) : Int), (i : Int)))) (.inl false) (.inr ()) l.length (fun i hi => by
    have hw := wrap_succ (i := i) (by omega)
    have g : decide ((i : Int) < ((ba l).size : Int)) = true := lt_len (by rw [ba_size]; exact hi)
    simp only [step_impl_hasOnly_0, lt_len hi, g, nonneg, Bool.and_self, cond_true, Int.toNat_natCast, IndexByte_dir, hw, lt_not]
    cases decide (0 ≤ dirI (byteAt (ba l) i)) <;> rfl) (by simp only [step_impl_hasOnly_0, not_lt_len, cond_false])
  have t' : runL step_impl_hasOnly_0 (ba l, ((⟨#[117, 100, 108, 114, 102, 98]⟩ : ByteArray), (((ba l).size : Nat) : Int), 0)) = _ := t
  simp only [F_impl_hasOnly, t', dirAll_N]
  cases dirAll l <;> rfl
def mvOK (l : List UInt8) (r : Int) : Bool := decide (l.length ≤ 6) && dirAll l && (decide (1 ≤ r) && decide (r ≤ 3)) && (!decide (l = []) || (r == 1))
theorem mt_nil (l : List UInt8) : ((ba l).toList == (⟨#[]⟩ : ByteArray).toList) = decide (l = []) := by
  have e : (⟨#[]⟩ : ByteArray).toList = [] := ba_toList []
  rw [ba_toList, e, beq_text]
theorem mvGood_is (l : List UInt8) (r : Int) : F_spec_mvGood (ba l, r) = some (mvOK l r) := by
  simp only [F_spec_mvGood, mvOK]
  by_cases h : l.length ≤ 6
  · have g : decide (((ba l).size : Int) ≤ 6) = true := decide_eq_true (by rw [ba_size]; omega)
    simp only [g, cond_true, mvSteps_is l (by omega), l1In_is, mt_nil, decide_eq_true h, Bool.true_and]
    cases dirAll l <;> cases decide (1 ≤ r) && decide (r ≤ 3) <;> cases decide (l = []) <;> rfl
  · have g : decide (((ba l).size : Int) ≤ 6) = false := decide_eq_false (by rw [ba_size]; omega)
    simp only [g, cond_false, decide_eq_false h, Bool.false_and]
theorem IsMove_is (l : List UInt8) (r : Int) : F_impl_IsMove (ba l, r) = some (mvOK l r) := by
  simp only [F_impl_IsMove, mvOK]
  by_cases h : l.length ≤ 6
  · have g : decide (((ba l).size : Int) ≤ 6) = true := decide_eq_true (by rw [ba_size]; omega)
    simp only [g, cond_true, hasOnly_dir l (by omega), within_is, mt_nil, decide_eq_true h, Bool.true_and]
    cases dirAll l <;> cases decide (1 ≤ r) && decide (r ≤ 3) <;> cases decide (l = []) <;> rfl
  · have g : decide (((ba l).size : Int) ≤ 6) = false := decide_eq_false (by rw [ba_size]; omega)
    simp only [g, cond_false, decide_eq_false h, Bool.false_and]
theorem mvOK_parts {l : List UInt8} {r : Int} (h : mvOK l r = true) : l.length ≤ 6 ∧ dirAll l = true ∧ (1 ≤ r ∧ r ≤ 3) ∧ (l = [] → r = 1) := by
  simp only [mvOK, Bool.and_eq_true, Bool.or_eq_true, decide_eq_true_eq, Bool.not_eq_true', decide_eq_false_iff_not, beq_iff_eq] at h
  obtain ⟨⟨⟨h1, h2⟩, h3⟩, h4⟩ := h
  exact ⟨h1, h2, h3, fun e => h4.elim (fun q => absurd e q) id⟩

/-! ### Texts -/
def mvT (l : List UInt8) (r : Int) : List UInt8 := if l = [] then [45] else if r = 1 then l else l ++ [42, dig r]
theorem itoa2 : Lib.itoa 2 = [dig 2] := by decide +kernel
theorem itoa3 : Lib.itoa 3 = [dig 3] := by decide +kernel
theorem mvText_is {l : List UInt8} {r : Int} (h : mvOK l r = true) : F_spec_mvText (ba l, r) = some (ba (mvT l r)) := by
  obtain ⟨h6, _, ⟨h1, h3⟩, h0⟩ := mvOK_parts h
  simp only [F_spec_mvText, mvT, mt_nil]
  by_cases hl : l = []
  · rw [decide_eq_true hl, if_pos hl]; rfl
  · rw [decide_eq_false hl, if_neg hl, cond_false]
    have hr : r = 1 ∨ r = 2 ∨ r = 3 := by omega
    have g1 : decide ((ba l).size + (⟨#[42]⟩ : ByteArray).size ≤ 9223372036854775807) = true := decide_eq_true (by rw [ba_size]; show l.length + 1 ≤ _; omega)
    have e42 : ba l ++ (⟨#[42]⟩ : ByteArray) = ba (l ++ [42]) := ba_app l [42]
    have k2 : F_spec_l1Num 2 = some (ba [dig 2]) := by rw [F_spec_l1Num_is, itoa2]; rfl
    have k3 : F_spec_l1Num 3 = some (ba [dig 3]) := by rw [F_spec_l1Num_is, itoa3]; rfl
    have g2 : ∀ n, decide ((ba (l ++ [42])).size + (ba [dig n]).size ≤ 9223372036854775807) = true := fun n => decide_eq_true (by rw [ba_size, ba_size]; simp; omega)
    rcases hr with rfl | rfl | rfl
    · rfl
    · simp only [g1, cond_true, e42, k2, g2, ba_app, List.append_assoc]; rfl
    · simp only [g1, cond_true, e42, k3, g2, ba_app, List.append_assoc]; rfl
theorem Move_text_is {l : List UInt8} {r : Int} (h : mvOK l r = true) : F_impl_Move_text (ba l, r) = some (ba (mvT l r)) := by
  obtain ⟨h6, _, ⟨h1, h3⟩, h0⟩ := mvOK_parts h
  simp only [F_impl_Move_text, mvT, mt_nil]
  by_cases hl : l = []
  · rw [decide_eq_true hl, if_pos hl]; rfl
  · rw [decide_eq_false hl, if_neg hl, cond_false]
    have hr : r = 1 ∨ r = 2 ∨ r = 3 := by omega
    have g1 : decide ((ba l).size + (⟨#[42]⟩ : ByteArray).size ≤ 9223372036854775807) = true := decide_eq_true (by rw [ba_size]; show l.length + 1 ≤ _; omega)
    have e42 : ba l ++ (⟨#[42]⟩ : ByteArray) = ba (l ++ [42]) := ba_app l [42]
    have k2 : F_strconv_Itoa 2 = some (ba [dig 2]) := by rw [F_strconv_Itoa_is, itoa2]; rfl
    have k3 : F_strconv_Itoa 3 = some (ba [dig 3]) := by rw [F_strconv_Itoa_is, itoa3]; rfl
    have g2 : ∀ n, decide ((ba (l ++ [42])).size + (ba [dig n]).size ≤ 9223372036854775807) = true := fun n => decide_eq_true (by rw [ba_size, ba_size]; simp; omega)
    rcases hr with rfl | rfl | rfl
    · rfl
    · simp only [g1, cond_true, e42, k2, g2, ba_app, List.append_assoc]; rfl
    · simp only [g1, cond_true, e42, k3, g2, ba_app, List.append_assoc]; rfl

/-! ### Parsing -/
/-- steps that stand in a text -/
def stOK (a : List UInt8) : Bool := !decide (a = []) && decide (a.length ≤ 6) && dirAll a
def mvPl (l : List UInt8) : (List UInt8 × Int) × Bool := match spl 42 l with
  | [a] => if l = [45] then (([], 1), true) else bif stOK a then ((a, 1), true) else (([], 0), false)
  | [a, t] => bif stOK a && decide (t = [50]) then ((a, 2), true) else bif stOK a && decide (t = [51]) then ((a, 3), true) else (([], 0), false)
  | _ => (([], 0), false)
def mvP (x : ByteArray) : Move × Bool := ((ba (mvPl x.data.toList).1.1, (mvPl x.data.toList).1.2), (mvPl x.data.toList).2)
end Go.Proofs.YtklfnbckoaphpaaGreatDoor
/- Movements are parsed alike on both sides: plain laws. No conditions beyond the bounds that are named. -/
set_option linter.unusedVariables false
set_option linter.unusedSimpArgs false
namespace Go.Proofs.YtklfnbckoaphpaaGreatDoor
open Go
theorem tt (a l : List UInt8) : ((ba a).toList == (ba l).toList) = decide (a = l) := by rw [ba_toList, ba_toList, beq_text]
theorem mvPl_one {l : List UInt8} (h : 42 ∉ l) : mvPl l = if l = [45] then (([], 1), true) else bif stOK l then ((l, 1), true) else (([], 0), false) := by
  unfold mvPl; rw [spl_none 42 l h]
theorem mvPl_two {a r : List UInt8} (ha : 42 ∉ a) (hr : 42 ∉ r) : mvPl (a ++ 42 :: r) = bif stOK a && decide (r = [50]) then ((a, 2), true) else bif stOK a && decide (r = [51]) then ((a, 3), true) else (([], 0), false) := by
  unfold mvPl; rw [spl_cons 42 a r ha, spl_none 42 r hr]
theorem ok_one (l : List UInt8) : mvOK l 1 = (decide (l.length ≤ 6) && dirAll l) := by unfold mvOK; simp
theorem mvT_one {l : List UInt8} (h : l ≠ []) : mvT l 1 = l := by unfold mvT; rw [if_neg h, if_pos rfl]
end Go.Proofs.YtklfnbckoaphpaaGreatDoor
/- Hands are read alike on both sides: plain laws. No conditions beyond the bounds that are named. -/
set_option linter.unusedVariables false
set_option linter.unusedSimpArgs false
namespace Go.Proofs.YtklfnbckoaphpaaGreatDoor
open Go
abbrev Hand := Shape × (Orient × (Place × Move))
def mvZ : Move := (ByteArray.empty, 0)
def hdZ : Hand := (shZ, (0, 0), (0, 0, false), mvZ)
/-- a hand, what is wrong in its text, and where that begins -/
def hdP (x : ByteArray) : Hand × Int × Int := match spl 47 x.data.toList with
  | [a, b, c, d] =>
    bif !(shP (ba a)).2 then (hdZ, 3, 0) else bif !(orP (ba b)).2 then (hdZ, 4, (a.length : Int) + 1)
    else bif !(plP (ba c)).2 then (hdZ, 5, (a.length : Int) + 1 + ((b.length : Int) + 1)) else bif !(mvP (ba d)).2 then (hdZ, 6, (a.length : Int) + 1 + ((b.length : Int) + 1) + ((c.length : Int) + 1))
    else (((shP (ba a)).1, (orP (ba b)).1, (plP (ba c)).1, (mvP (ba d)).1), 0, 0)
  | _ => (hdZ, 2, 0)
theorem hdP_four {l a b c d : List UInt8} (h : spl 47 l = [a, b, c, d]) : hdP (ba l) = bif !(shP (ba a)).2 then (hdZ, 3, 0) else bif !(orP (ba b)).2 then (hdZ, 4, (a.length : Int) + 1)
    else bif !(plP (ba c)).2 then (hdZ, 5, (a.length : Int) + 1 + ((b.length : Int) + 1)) else bif !(mvP (ba d)).2 then (hdZ, 6, (a.length : Int) + 1 + ((b.length : Int) + 1) + ((c.length : Int) + 1))
    else (((shP (ba a)).1, (orP (ba b)).1, (plP (ba c)).1, (mvP (ba d)).1), 0, 0) := by
  unfold hdP
  rw [ba_data, h]
end Go.Proofs.YtklfnbckoaphpaaGreatDoor
/- The rules for two hands, on both sides: plain laws. No conditions beyond the bounds that are named. -/
set_option linter.unusedVariables false
set_option linter.unusedSimpArgs false
namespace Go.Proofs.YtklfnbckoaphpaaGreatDoor
open Go
def shEqB (s t : Shape) : Bool := (s.1 == t.1) && ((s.2.1 == t.2.1) && ((s.2.2.1 == t.2.2.1) && ((s.2.2.2.1 == t.2.2.2.1) && ((s.2.2.2.2.1 == t.2.2.2.2.1) && ((s.2.2.2.2.2 == t.2.2.2.2.2) && true)))))
theorem shEqB_is (s t : Shape) : shEqB s t = decide (s = t) := by
  obtain ⟨a, b, c, d, e, f⟩ := s
  obtain ⟨a', b', c', d', e', f'⟩ := t
  rw [Bool.eq_iff_iff]
  simp only [shEqB, Bool.and_true, Bool.and_eq_true, beq_iff_eq, decide_eq_true_eq, Prod.mk.injEq]
def orEqB (s t : Orient) : Bool := (s.1 == t.1) && ((s.2 == t.2) && true)
theorem orEqB_is (s t : Orient) : orEqB s t = decide (s = t) := by
  obtain ⟨a, b⟩ := s
  obtain ⟨a', b'⟩ := t
  rw [Bool.eq_iff_iff]
  simp only [orEqB, Bool.and_true, Bool.and_eq_true, beq_iff_eq, decide_eq_true_eq, Prod.mk.injEq]

/-! ### Plain shapes -/
def plainT : List ByteArray := [(⟨#[48, 48, 48, 48, 48]⟩ : ByteArray), (⟨#[48, 48, 48, 48, 48, 115]⟩ : ByteArray), (⟨#[50, 50, 50, 50, 50]⟩ : ByteArray), (⟨#[49, 48, 48, 48, 48]⟩ : ByteArray), (⟨#[49, 48, 50, 50, 50]⟩ : ByteArray), (⟨#[48, 48, 50, 50, 50]⟩ : ByteArray)]
def plainL : List Shape := plainT.map fun t => (shP t).1
theorem siPlain_is : F_spec_siPlain () = some plainL := by
  have t := runL_traj (f := step_spec_siPlain_0) (fun i => ((plainT.length : Int), ((i : Int), plainT, (plainT.take i).map fun t => (shP t).1))) plainL plainT.length (fun i hi => by
    have hw := wrap_succ (i := i) (by have : plainT.length = 6 := rfl; omega)
    have g : decide ((((plainT.take i).map fun t => (shP t).1).length + [(shP (plainT.getD i ByteArray.empty)).1].length) * 48 ≤ 140737488355328) = true := decide_eq_true (by have : plainT.length = 6 := rfl; simp; omega)
    simp only [step_spec_siPlain_0, lt_len hi, nonneg, Bool.and_self, cond_true, Int.toNat_natCast, shP_spec, g, hw, take_succ_getD hi ByteArray.empty, List.map_append, List.map_cons, List.map_nil]) (by simp only [step_spec_siPlain_0, not_lt_len, cond_false, List.take_length]; rfl)
  have t' : runL step_spec_siPlain_0 ((plainT.length : Int), (0, plainT, [])) = some plainL := t
  exact congrArg (fun z => match z with | none => none | some o9 => some o9) t'
theorem PlainShapes_is : F_impl_PlainShapes () = some plainL := by
  have t := runL_traj (f := step_impl_PlainShapes_0) (fun i => ((plainT.length : Int), ((i : Int), plainT, (plainT.take i).map fun t => (shP t).1))) plainL plainT.length (fun i hi => by
    have hw := wrap_succ (i := i) (by have : plainT.length = 6 := rfl; omega)
    have g : decide ((((plainT.take i).map fun t => (shP t).1).length + [(shP (plainT.getD i ByteArray.empty)).1].length) * 48 ≤ 140737488355328) = true := decide_eq_true (by have : plainT.length = 6 := rfl; simp; omega)
    simp only [step_impl_PlainShapes_0, lt_len hi, nonneg, Bool.and_self, cond_true, Int.toNat_natCast, shP_impl, g, hw, take_succ_getD hi ByteArray.empty, List.map_append, List.map_cons, List.map_nil]) (by simp only [step_impl_PlainShapes_0, not_lt_len, cond_false, List.take_length]; rfl)
  have t' : runL step_impl_PlainShapes_0 ((plainT.length : Int), (0, plainT, [])) = some plainL := t
  exact congrArg (fun z => match z with | none => none | some o9 => some o9) t'
def plainHas (o : Shape) : Bool := plainL.any fun s => decide (s = o)
theorem broken_loop (l : List Shape) (hl : l.length ≤ 1000) (o : Shape) (r1 r2 r3 r4 : Int) (r5 : Bool) (r6 : ByteArray) (r7 : Int) :
    runL step_spec_siBroken_0 ((l.length : Int), 0, (l, o.1, (o.2.1, o.2.2.1, (o.2.2.2.1, o.2.2.2.2.1, (o.2.2.2.2.2, r1, (r2, r3, (r4, r5, (r6, r7)))))))) = some (bif l.any (fun s => decide (s = o)) then .inl 0 else .inr ()) := by
  have t := runL_all (f := step_spec_siBroken_0) (fun i => !decide (l.getD i shZ = o)) (fun i => ((l.length : Int), (i : Int), (l, o.1, (o.2.1, o.2.2.1, (o.2.2.2.1, o.2.2.2.2.1, (o.2.2.2.2.2, r1, (r2, r3, (r4, r5, (r6, r7))))))))) (.inl 0) (.inr ()) l.length (fun i hi => by
    have hw := wrap_succ (i := i) (by omega)
    have he := shEqB_is (l.getD i (0, (0, 0, (0, 0, false)))) o
    unfold shEqB at he
    simp only [step_spec_siBroken_0, lt_len hi, nonneg, Bool.and_self, cond_true, Int.toNat_natCast, hw, he]
    show (bif decide (l.getD i shZ = o) then _ else _) = _
    cases decide (l.getD i shZ = o) <;> rfl) (by simp only [step_spec_siBroken_0, not_lt_len, cond_false])
  have t' : runL step_spec_siBroken_0 ((l.length : Int), 0, (l, o.1, (o.2.1, o.2.2.1, (o.2.2.2.1, o.2.2.2.2.1, (o.2.2.2.2.2, r1, (r2, r3, (r4, r5, (r6, r7)))))))) = _ := t
  rw [t', allN_all (fun s : Shape => !decide (s = o)) shZ l, List.any_eq_not_all_not]
  cases l.all _ <;> rfl
theorem Contains_is (l : List Shape) (hl : l.length ≤ 1000) (o : Shape) : F_slices_Contains_impl_Shape_impl_Shape (l, o) = some (l.any fun s => decide (s = o)) := by
  rcases runL_first (f := step_slices_Index_impl_Shape_impl_Shape_0) (fun i => !decide (l.getD i shZ = o)) (fun i => (l, ((l.length : Int), (i : Int), o))) (fun i => .inl (i : Int)) (.inr ()) l.length (fun i hi => by
    have hw := wrap_succ (i := i) (by omega)
    have he := shEqB_is o (l.getD i (0, (0, 0, (0, 0, false))))
    unfold shEqB at he
    have hs : decide (o = l.getD i (0, (0, 0, (0, 0, false)))) = decide (l.getD i shZ = o) := by
      show decide (o = l.getD i shZ) = _
      by_cases q : l.getD i shZ = o
      · rw [decide_eq_true q, decide_eq_true q.symm]
      · rw [decide_eq_false q, decide_eq_false (fun z => q z.symm)]
    simp only [step_slices_Index_impl_Shape_impl_Shape_0, lt_len hi, nonneg, Bool.and_self, cond_true, Int.toNat_natCast, hw, he, hs]
    cases decide (l.getD i shZ = o) <;> rfl) (by simp only [step_slices_Index_impl_Shape_impl_Shape_0, not_lt_len, cond_false]) with ⟨t, hp⟩ | ⟨i, hi, hp, hj, t⟩
  · have t' : runL step_slices_Index_impl_Shape_impl_Shape_0 (l, ((l.length : Int), 0, o)) = _ := t
    simp only [F_slices_Contains_impl_Shape_impl_Shape, F_slices_Index_impl_Shape_impl_Shape, t']
    have : (l.any fun s => decide (s = o)) = false := by
      rw [List.any_eq_false]
      intro x hx
      obtain ⟨i, hi, rfl⟩ := List.mem_iff_getElem.1 hx
      have := hp i hi
      rw [List.getD, List.getElem?_eq_getElem hi] at this
      simpa using this
    rw [this]; rfl
  · have t' : runL step_slices_Index_impl_Shape_impl_Shape_0 (l, ((l.length : Int), 0, o)) = _ := t
    simp only [F_slices_Contains_impl_Shape_impl_Shape, F_slices_Index_impl_Shape_impl_Shape, t']
    have : (l.any fun s => decide (s = o)) = true := List.any_eq_true.2 ⟨_, getD_mem hi shZ, by simpa using hp⟩
    rw [this, decide_eq_true (show (i : Int) ≥ 0 by omega)]

/-! ### All steps -/
theorem mvAll_is (l : List UInt8) (r : Int) (hl : l.length ≤ 6) (h1 : 1 ≤ r) (h3 : r ≤ 3) : F_spec_mvAll (ba l, r) = some (ba (Lib.repeatL l r.toNat)) := by
  obtain ⟨n, rfl⟩ : ∃ n : Nat, r = (n : Int) := ⟨r.toNat, by omega⟩
  have t := runL_traj (f := step_spec_mvTimes_0) (fun i => (ba l, ((n : Int) - (i : Int)), ba (Lib.repeatL l i))) (ba (Lib.repeatL l n)) n (fun i hi => by
    have g : decide ((n : Int) - (i : Int) > 0) = true := decide_eq_true (by omega)
    have hw : IntKind.i64.wrap ((n : Int) - (i : Int) - 1) = (n : Int) - ((i + 1 : Nat) : Int) := by rw [wrap_id (by omega) (by omega)]; omega
    have hz := Lib.repeatL_length l i
    have hm : i * l.length ≤ 3 * 6 := Nat.mul_le_mul (by omega) hl
    have g2 : decide ((ba (Lib.repeatL l i)).size + (ba l).size ≤ 9223372036854775807) = true := decide_eq_true (by rw [ba_size, ba_size]; omega)
    have hr : Lib.repeatL l (i + 1) = Lib.repeatL l i ++ l := by rw [Lib.repeatL_add, Lib.repeatL_one]
    simp only [step_spec_mvTimes_0, g, cond_true, g2, hw, ba_app, hr]) (by
      have g : decide ((n : Int) - (n : Int) > 0) = false := decide_eq_false (by omega)
      simp only [step_spec_mvTimes_0, g, cond_false])
  have t' : runL step_spec_mvTimes_0 (ba l, (n : Int), (⟨#[]⟩ : ByteArray)) = some (ba (Lib.repeatL l n)) := by
    have e : ((n : Int) - ((0 : Nat) : Int)) = (n : Int) := by omega
    rw [e] at t; exact t
  simp only [F_spec_mvAll, F_spec_mvTimes, t', Int.toNat_natCast]
theorem Move_all_is (l : List UInt8) (r : Int) (hl : l.length ≤ 6) (h1 : 1 ≤ r) (h3 : r ≤ 3) : F_impl_Move_all (ba l, r) = some (ba (Lib.repeatL l r.toNat)) := by
  have g : (decide (0 ≤ r) && decide (r ≤ 1024) && decide ((ba l).size ≤ 1048576)) = true := by
    rw [decide_eq_true (by omega), decide_eq_true (by omega), decide_eq_true (by rw [ba_size]; omega)]; rfl
  simp only [F_impl_Move_all, F_strings_Repeat_is, g, cond_true]
  rfl
theorem mvMirror_is (l : List UInt8) (r : Int) (hl : l.length ≤ 1048576) : F_spec_mvMirror (ba l, r) = some (ba (l.map rpByte), r) := by
  have t := runL_traj (f := step_spec_mvMirror_0) (fun i => (ba ((l.take i).map rpByte), ((i : Int), (ByteArray.empty, (0 : Int), (ba l, r))))) (ba (l.map rpByte), (ByteArray.empty, (0 : Int), (ba l, r))) l.length (fun i hi => by
    have hw := wrap_succ (i := i) (by omega)
    have g : decide ((i : Int) < ((ba l).size : Int)) = true := lt_len (by rw [ba_size]; exact hi)
    have hz : ((l.take i).map rpByte).length = i := by simp; omega
    have gs : ∀ b : UInt8, decide ((ba ((l.take i).map rpByte)).size + (ba [b]).size ≤ 9223372036854775807) = true := fun b => decide_eq_true (by rw [ba_size, ba_size, hz]; simp; omega)
    have hs : (l.take (i + 1)).map rpByte = (l.take i).map rpByte ++ [rpByte (l.getD i 0)] := by rw [take_succ_getD hi 0, List.map_append]; rfl
    have hb : byteAt (ba l) i = ((l.getD i 0).toNat : Int) := ba_byteAt l i
    simp only [step_spec_mvMirror_0, g, nonneg, Bool.and_self, cond_true, Int.toNat_natCast, hw, hb, hs]
    have e8 : ((((l.getD i 0).toNat : Nat) : Int) == 108) = decide (l.getD i 0 = 108) := byte_beq _ 108
    have e4 : ((((l.getD i 0).toNat : Nat) : Int) == 114) = decide (l.getD i 0 = 114) := byte_beq _ 114
    rw [e8, e4]
    by_cases h8 : l.getD i 0 = 108
    · have g1 := gs 114
      have g1' : decide ((ba ((l.take i).map rpByte)).size + (⟨#[114]⟩ : ByteArray).size ≤ 9223372036854775807) = true := g1
      rw [decide_eq_true h8, g1', h8]
      show some (Sum.inl (ba ((l.take i).map rpByte) ++ ba [114], _)) = _
      rw [ba_app]; rfl
    · rw [decide_eq_false h8]
      by_cases h4 : l.getD i 0 = 114
      · have g1 := gs 108
        have g1' : decide ((ba ((l.take i).map rpByte)).size + (⟨#[108]⟩ : ByteArray).size ≤ 9223372036854775807) = true := g1
        rw [decide_eq_true h4, g1', h4]
        show some (Sum.inl (ba ((l.take i).map rpByte) ++ ba [108], _)) = _
        rw [ba_app]; rfl
      · have hx : (ba l).extract i (i + 1) = ba [l.getD i 0] := by
          rw [ba_extract, show i + 1 - i = 1 by omega, List.drop_eq_getElem_cons hi]
          rw [List.getD, List.getElem?_eq_getElem hi]; rfl
        have hr : rpByte (l.getD i 0) = l.getD i 0 := by unfold rpByte; rw [if_neg h8, if_neg h4]
        have g3 : (decide ((i : Int) ≤ ((i + 1 : Nat) : Int)) && decide (((i + 1 : Nat) : Int) ≤ ((ba l).size : Int))) = true := by
          rw [decide_eq_true (by omega), decide_eq_true (by rw [ba_size]; omega)]; rfl
        rw [decide_eq_false h4, hr]
        simp only [cond_false, Bool.true_and, g3, cond_true, Int.toNat_natCast, hx, gs, ba_app]) (by
      have g : decide (((l.length : Nat) : Int) < ((ba l).size : Int)) = false := by rw [ba_size]; exact not_lt_len _
      simp only [step_spec_mvMirror_0, g, cond_false, List.take_length])
  have t' : runL step_spec_mvMirror_0 ((⟨#[]⟩ : ByteArray), (0, (ByteArray.empty, (0 : Int), (ba l, r)))) = _ := t
  simp only [F_spec_mvMirror, t']
theorem mirrored_is (l : List UInt8) (r : Int) (hl : l.length ≤ 1048576) : F_impl_Move_mirrored (ba l, r) = some (ba (l.map rpByte), r) := by
  rw [F_impl_Move_mirrored_is, show (ba l, r).1 = ba l from rfl, decide_eq_true (show (ba l).size ≤ 9223372036854775806 by rw [ba_size]; omega)]
  rfl

/-! ### The rules -/
def keepL (ms os : Shape) (mo oo : Orient) (a b : List UInt8) (mr orr : Int) : Bool :=
  bif decide (b = []) then decide (ms = os) || plainHas os
  else !decide (a = []) && (decide (ms = os) && ((decide (mo = oo) || decide (mo = orMir oo)) &&
    (decide (Lib.repeatL a mr.toNat = Lib.repeatL b orr.toNat) || decide (Lib.repeatL (a.map rpByte) mr.toNat = Lib.repeatL b orr.toNat))))
def keep (m o : Hand) : Bool := keepL m.1 o.1 m.2.1 o.2.1 m.2.2.2.1.data.toList o.2.2.2.1.data.toList m.2.2.2.2 o.2.2.2.2
def mvW (m : Move) : Prop := m.1.data.toList.length ≤ 6 ∧ 1 ≤ m.2 ∧ m.2 ≤ 3
theorem decide_comm' {α : Type} [DecidableEq α] (a b : α) : decide (a = b) = decide (b = a) := by
  by_cases h : a = b
  · rw [decide_eq_true h, decide_eq_true h.symm]
  · rw [decide_eq_false h, decide_eq_false (fun q => h q.symm)]
theorem orMir_flip (a b : Orient) : decide (a = orMir b) = decide (b = orMir a) := by
  by_cases h : a = orMir b
  · rw [decide_eq_true h, decide_eq_true (by rw [h, orMir_mir])]
  · rw [decide_eq_false h, decide_eq_false (fun q => h (by rw [q, orMir_mir]))]
theorem keep_spec (m o : Hand) (hm : mvW m.2.2.2) (ho : mvW o.2.2.2) : ∃ n, F_spec_siBroken (m, o) = some n ∧ (n != 0) = !keep m o := by
  obtain ⟨ms, mo, mp, mb, mr⟩ := m
  obtain ⟨os, oo, op, ob, orr⟩ := o
  obtain ⟨a, rfl⟩ : ∃ a, mb = ba a := ⟨mb.data.toList, eq_ba mb⟩
  obtain ⟨b, rfl⟩ : ∃ b, ob = ba b := ⟨ob.data.toList, eq_ba ob⟩
  obtain ⟨ha, h1, h3⟩ := hm
  obtain ⟨hb, k1, k3⟩ := ho
  simp only [ba_data] at ha hb h1 h3 k1 k3
  have es := shEqB_is ms os
  have eo := orEqB_is mo oo
  have eo2 := orEqB_is mo (orMir oo)
  unfold shEqB at es
  unfold orEqB at eo eo2
  have lp := broken_loop plainL (by show plainL.length ≤ 1000; decide) os oo.1 oo.2 op.1 op.2.1 op.2.2 (ba b) orr
  have A1 := mvAll_is a mr ha h1 h3
  have A2 := mvAll_is b orr hb k1 k3
  have A3 := mvMirror_is a mr (by omega)
  have A4 := mvAll_is (a.map rpByte) mr (by simpa using ha) h1 h3
  have ek : keep (ms, mo, mp, ba a, mr) (os, oo, op, ba b, orr) = keepL ms os mo oo a b mr orr := rfl
  rw [ek]
  simp only [F_spec_siBroken, mt_nil, es, keepL]
  cases hbn : decide (b = []) with
  | true =>
    simp only [cond_true]
    cases decide (ms = os) with
    | true => exact ⟨0, rfl, rfl⟩
    | false =>
      simp only [cond_false, siPlain_is, lp, Bool.false_or, plainHas]
      cases plainL.any _ with
      | true => exact ⟨0, rfl, rfl⟩
      | false => exact ⟨4, rfl, rfl⟩
  | false =>
    simp only [cond_false]
    cases han : decide (a = []) with
    | true => exact ⟨3, rfl, rfl⟩
    | false =>
      simp only [cond_false, Bool.not_false, Bool.true_and]
      cases decide (ms = os) with
      | false => exact ⟨1, rfl, rfl⟩
      | true =>
        simp only [Bool.not_true, cond_false, Bool.true_and, eo, orMirror_is, eo2, A1, A2, A3, A4, tt]
        cases decide (mo = oo) <;> cases decide (mo = orMir oo) <;> cases decide (Lib.repeatL a mr.toNat = Lib.repeatL b orr.toNat) <;> cases decide (Lib.repeatL (a.map rpByte) mr.toNat = Lib.repeatL b orr.toNat) <;>
          first | exact ⟨0, rfl, rfl⟩ | exact ⟨2, rfl, rfl⟩ | exact ⟨3, rfl, rfl⟩
theorem keep_impl (m o : Hand) (hm : mvW m.2.2.2) (ho : mvW o.2.2.2) : F_impl_keepRules (m, o) = some (keep m o) := by
  obtain ⟨ms, mo, mp, mb, mr⟩ := m
  obtain ⟨os, oo, op, ob, orr⟩ := o
  obtain ⟨a, rfl⟩ : ∃ a, mb = ba a := ⟨mb.data.toList, eq_ba mb⟩
  obtain ⟨b, rfl⟩ : ∃ b, ob = ba b := ⟨ob.data.toList, eq_ba ob⟩
  obtain ⟨ha, h1, h3⟩ := hm
  obtain ⟨hb, k1, k3⟩ := ho
  simp only [ba_data] at ha hb h1 h3 k1 k3
  have es := shEqB_is os ms
  have es2 := shEqB_is ms os
  have eo := orEqB_is oo mo
  have eo2 := orEqB_is oo (orMir mo)
  unfold shEqB at es es2
  unfold orEqB at eo eo2
  rw [decide_comm' os ms] at es
  rw [decide_comm' oo mo] at eo
  rw [← orMir_flip mo oo] at eo2
  have lp := Contains_is plainL (by show plainL.length ≤ 1000; decide) os
  have A1 := Move_all_is a mr ha h1 h3
  have A2 := Move_all_is b orr hb k1 k3
  have A3 := mirrored_is a mr (by omega)
  have A4 := Move_all_is (a.map rpByte) mr (by simpa using ha) h1 h3
  have c1 := decide_comm' (Lib.repeatL b orr.toNat) (Lib.repeatL a mr.toNat)
  have c2 := decide_comm' (Lib.repeatL b orr.toNat) (Lib.repeatL (a.map rpByte) mr.toNat)
  have ek : keep (ms, mo, mp, ba a, mr) (os, oo, op, ba b, orr) = keepL ms os mo oo a b mr orr := rfl
  rw [ek]
  simp only [F_impl_keepRules, F_impl_Hand_moves, mt_nil, es, es2, keepL]
  cases hbn : decide (b = []) with
  | true =>
    simp only [cond_true, Bool.not_true, Bool.not_false]
    cases decide (ms = os) with
    | true => rfl
    | false => simp only [cond_false, PlainShapes_is, lp, Bool.false_or, plainHas]
  | false =>
    simp only [cond_false, Bool.not_false, Bool.not_true, eo, Orient_mirrored_is, eo2, A1, A2, A3, A4, tt, c1, c2]
    cases decide (a = []) <;> cases decide (ms = os) <;> cases decide (mo = oo) <;> cases decide (mo = orMir oo) <;> cases decide (Lib.repeatL a mr.toNat = Lib.repeatL b orr.toNat) <;> cases decide (Lib.repeatL (a.map rpByte) mr.toNat = Lib.repeatL b orr.toNat) <;> rfl
end Go.Proofs.YtklfnbckoaphpaaGreatDoor
/- Signs are read alike on both sides: plain laws. No conditions beyond the bounds that are named. -/
set_option linter.unusedVariables false
set_option linter.unusedSimpArgs false
namespace Go.Proofs.YtklfnbckoaphpaaGreatDoor
open Go
abbrev Sign := Hand × (Bool × Hand)
/-! ### Equal signs -/
theorem eqShape_refl (s : Shape) : F_laws_eqShape (s, s) = some true := by simp only [F_laws_eqShape, bne_self_eq_false, cond_false, BEq.rfl, Bool.not_true]
theorem eqOrient_refl (s : Orient) : F_laws_eqOrient (s, s) = some true := by simp only [F_laws_eqOrient, bne_self_eq_false, cond_false]
theorem eqPlace_refl (s : Place) : F_laws_eqPlace (s, s) = some true := by simp only [F_laws_eqPlace, bne_self_eq_false, cond_false, BEq.rfl, Bool.not_true]
theorem eqMove_refl (s : Move) : F_laws_eqMove (s, s) = some true := by simp only [F_laws_eqMove, bne_self_eq_false, cond_false, BEq.rfl, Bool.not_true]
theorem eqHand_refl (s : Hand) : F_laws_eqHand (s, s) = some true := by
  simp only [F_laws_eqHand, eqShape_refl, eqOrient_refl, eqPlace_refl, eqMove_refl, Bool.not_true, cond_false]
theorem eqSign_refl (s : Sign) : F_laws_eqSign (s, s) = some true := by
  simp only [F_laws_eqSign, eqHand_refl, BEq.rfl, Bool.not_true, cond_false]
end Go.Proofs.YtklfnbckoaphpaaGreatDoor
/- Texts of parts, hands and signs are read back, and what is read has this text: plain laws. No conditions beyond those that are named. -/
set_option linter.unusedVariables false
set_option linter.unusedSimpArgs false
namespace Go.Proofs.YtklfnbckoaphpaaGreatDoor
open Go

/-! ### Shapes -/
theorem dig_nat' {n : Int} (h : in02 n = true) : ((dig n).toNat : Int) = n + 48 ∧ (dig n = 48 ∨ dig n = 49 ∨ dig n = 50) := by
  rcases in02_cases h with rfl | rfl | rfl
  · exact ⟨rfl, .inl rfl⟩
  · exact ⟨rfl, .inr (.inl rfl)⟩
  · exact ⟨rfl, .inr (.inr rfl)⟩
theorem sh_rt {s : Shape} (h : shOK s = true) : shP (ba (shText s)) = (s, true) := by
  obtain ⟨t, a, b, c, d, sp⟩ := s
  obtain ⟨h1, h2, h3, h4, h5, _⟩ := shOK_parts h
  have e1 := (dig_nat' h1).1
  have e2 := (dig_nat' h2).1
  have e3 := (dig_nat' h3).1
  have e4 := (dig_nat' h4).1
  have e5 := (dig_nat' h5).1
  simp only at e1 e2 e3 e4 e5
  cases sp with
  | false =>
    have hD : shD (ba (shText (t, a, b, c, d, false))) false = (t, a, b, c, d, false) := by
      have : shD (ba (shText (t, a, b, c, d, false))) false = (((dig t).toNat : Int) - 48, (((dig a).toNat : Int) - 48, ((dig b).toNat : Int) - 48, (((dig c).toNat : Int) - 48, ((dig d).toNat : Int) - 48, false))) := rfl
      rw [this, e1, e2, e3, e4, e5]
      simp only [Int.add_sub_cancel]
    have hs : (ba (shText (t, a, b, c, d, false))).size = 5 := rfl
    unfold shP
    rw [hD, h, decide_eq_true hs]
    rfl
  | true =>
    have hD : shD (ba (shText (t, a, b, c, d, true))) true = (t, a, b, c, d, true) := by
      have : shD (ba (shText (t, a, b, c, d, true))) true = (((dig t).toNat : Int) - 48, (((dig a).toNat : Int) - 48, ((dig b).toNat : Int) - 48, (((dig c).toNat : Int) - 48, ((dig d).toNat : Int) - 48, true))) := rfl
      rw [this, e1, e2, e3, e4, e5]
      simp only [Int.add_sub_cancel]
    have hs : (ba (shText (t, a, b, c, d, true))).size = 6 := rfl
    have hb : byteAt (ba (shText (t, a, b, c, d, true))) 5 = 115 := rfl
    unfold shP
    rw [hD, h, decide_eq_true hs, decide_eq_true hb, decide_eq_false (show ¬ (ba (shText (t, a, b, c, d, true))).size = 5 by rw [hs]; decide)]
    rfl
/-! ### Orientations -/
def dirB (n : Int) : UInt8 := dirL.getD n.toNat 0
theorem dirI_B {n : Int} (h : in05 n = true) : dirI ((dirB n).toNat : Int) = n := by
  rcases in05_cases h with rfl | rfl | rfl | rfl | rfl | rfl <;> decide +kernel
def orT (o : Orient) : List UInt8 := [dirB o.1, dirB o.2]
theorem orOK_parts {o : Orient} (h : orOK o = true) : in05 o.1 = true ∧ in05 o.2 = true := by
  simp only [orOK, Bool.and_eq_true] at h
  exact ⟨h.1.1.1, h.1.1.2⟩
theorem or_rt {o : Orient} (h : orOK o = true) : orP (ba (orT o)) = (o, true) := by
  obtain ⟨h1, h2⟩ := orOK_parts h
  have e1 : dirI (byteAt (ba (orT o)) 0) = o.1 := dirI_B h1
  have e2 : dirI (byteAt (ba (orT o)) 1) = o.2 := dirI_B h2
  have hs : (ba (orT o)).size = 2 := rfl
  unfold orP
  rw [decide_eq_true hs, e1, e2, show (o.1, o.2) = o from rfl, h]
  rfl
/-! ### Places -/
theorem plL_nodup : (plL.map plT).Nodup := by decide +kernel
theorem plL_all : ∀ c : Fin 60, plOK (plCd c.val) = true → plCd c.val ∈ plL := fun c h => List.mem_filter.2 ⟨List.mem_map.2 ⟨c.val, List.mem_range.2 c.isLt, rfl⟩, h⟩
theorem plL_mem {p : Place} (h : plOK p = true) : p ∈ plL := by
  obtain ⟨⟨b0, b9⟩, s0, s1⟩ := plOK_parts h
  obtain ⟨b, s, t⟩ := p
  simp only at b0 b9 s0 s1
  have key : ∃ c : Nat, c < 60 ∧ plCd c = (b, s, t) := by
    refine ⟨b.toNat * 6 + (s + 1).toNat * 2 + (if t then 1 else 0), by cases t <;> simp <;> omega, ?_⟩
    unfold plCd
    cases t with
    | false => refine Prod.ext ?_ (Prod.ext ?_ ?_) <;> simp <;> omega
    | true => refine Prod.ext ?_ (Prod.ext ?_ ?_) <;> simp <;> omega
  obtain ⟨c, hc, e⟩ := key
  have := plL_all ⟨c, hc⟩ (by rw [e]; exact h)
  rwa [e] at this
theorem nodup_inj {α β : Type} {f : α → β} : ∀ {l : List α}, (l.map f).Nodup → ∀ a ∈ l, ∀ b ∈ l, f a = f b → a = b
  | [], _, a, ha, _, _, _ => by cases ha
  | x :: l, h, a, ha, b, hb, e => by
    rw [List.map_cons, List.nodup_cons] at h
    rcases List.mem_cons.1 ha with rfl | ha'
    · rcases List.mem_cons.1 hb with rfl | hb'
      · rfl
      · exact absurd (List.mem_map.2 ⟨b, hb', e.symm⟩) h.1
    · rcases List.mem_cons.1 hb with rfl | hb'
      · exact absurd (List.mem_map.2 ⟨a, ha', e⟩) h.1
      · exact nodup_inj h.2 a ha' b hb' e
theorem plT_inj {p q : Place} (hp : plOK p = true) (hq : plOK q = true) (h : plT p = plT q) : p = q := nodup_inj plL_nodup p (plL_mem hp) q (plL_mem hq) h
theorem pl_rt {p : Place} (h : plOK p = true) : plP (ba (plT p)) = (p, true) := by
  cases hf : plL.find? (fun q => decide (plT q = plT p)) with
  | none =>
    have := List.find?_eq_none.1 hf p (plL_mem h)
    simp at this
  | some q =>
    rw [plP_some hf]
    have h1 := List.mem_of_find?_eq_some hf
    have h2 : plT q = plT p := by
      have h3 := List.find?_some hf
      exact of_decide_eq_true h3
    rw [plT_inj (plL_ok q h1) h h2]
/-! ### Movements -/
theorem dirAll_mem {l : List UInt8} (h : dirAll l = true) : ∀ b ∈ l, b ∈ dirL := by
  intro b hb
  have h1 := List.all_eq_true.1 h b hb
  have h2 := of_decide_eq_true h1
  rw [← dirI_byte] at h2
  rcases Int.lt_or_le (Lib.indexByte dirL b) 0 with hl | hl
  · omega
  · obtain ⟨o, ho⟩ : ∃ o : Nat, Lib.indexByte dirL b = o := ⟨(Lib.indexByte dirL b).toNat, by omega⟩
    exact List.mem_of_getElem? (Lib.indexByte_some ho).1
theorem dirAll_no {l : List UInt8} (h : dirAll l = true) {c : UInt8} (hc : c ∉ dirL) : c ∉ l := fun q => hc (dirAll_mem h c q)
theorem mv_rt {l : List UInt8} {r : Int} (h : mvOK l r = true) : mvP (ba (mvT l r)) = ((ba l, r), true) := by
  obtain ⟨h6, hd, ⟨h1, h3⟩, h0⟩ := mvOK_parts h
  have n42 : (42 : UInt8) ∉ l := dirAll_no hd (by decide)
  have n45 : l ≠ [45] := fun q => dirAll_no hd (c := 45) (by decide) (by rw [q]; simp)
  have key : mvPl (mvT l r) = ((l, r), true) := by
    by_cases hl : l = []
    · subst hl
      obtain rfl := h0 rfl
      rfl
    · have hst : stOK l = true := by
        unfold stOK
        rw [decide_eq_false hl, decide_eq_true h6, hd]; rfl
      have hr : r = 1 ∨ r = 2 ∨ r = 3 := by omega
      rcases hr with rfl | rfl | rfl
      · rw [mvT_one hl, mvPl_one n42, if_neg n45, hst]; rfl
      · have e : mvT l 2 = l ++ 42 :: [50] := by unfold mvT; rw [if_neg hl, if_neg (by decide)]; rfl
        rw [e, mvPl_two n42 (by decide), hst]; rfl
      · have e : mvT l 3 = l ++ 42 :: [51] := by unfold mvT; rw [if_neg hl, if_neg (by decide)]; rfl
        rw [e, mvPl_two n42 (by decide), hst]; rfl
  show ((ba (mvPl (mvT l r)).1.1, (mvPl (mvT l r)).1.2), (mvPl (mvT l r)).2) = _
  rw [key]
end Go.Proofs.YtklfnbckoaphpaaGreatDoor
/- Texts of hands and signs are read back, and what is read has this text: plain laws. No conditions beyond those that are named. -/
set_option linter.unusedVariables false
set_option linter.unusedSimpArgs false
namespace Go.Proofs.YtklfnbckoaphpaaGreatDoor
open Go

/-! ### What separates is in no part -/
theorem sh_no {s : Shape} (h : shOK s = true) {c : UInt8} (hc : c = 47 ∨ c = 43 ∨ c = 61 ∨ c = 10) : c ∉ shText s := by
  obtain ⟨t, a, b, e, d, sp⟩ := s
  obtain ⟨h1, h2, h3, h4, h5, _⟩ := shOK_parts h
  have k1 := (dig_nat' h1).2
  have k2 := (dig_nat' h2).2
  have k3 := (dig_nat' h3).2
  have k4 := (dig_nat' h4).2
  have k5 := (dig_nat' h5).2
  simp only at k1 k2 k3 k4 k5
  have hd : ∀ x : UInt8, (x = 48 ∨ x = 49 ∨ x = 50) → c ≠ x := by
    intro x hx q
    subst q
    rcases hc with rfl | rfl | rfl | rfl <;> revert hx <;> decide
  have h115 : c ≠ 115 := by rcases hc with rfl | rfl | rfl | rfl <;> decide
  intro hm
  unfold shText at hm
  cases sp with
  | false =>
    simp only [cond_false, List.append_nil, List.mem_cons, List.not_mem_nil, or_false] at hm
    rcases hm with q | q | q | q | q
    · exact hd _ k1 q
    · exact hd _ k2 q
    · exact hd _ k3 q
    · exact hd _ k4 q
    · exact hd _ k5 q
  | true =>
    simp only [cond_true, List.cons_append, List.nil_append, List.mem_cons, List.not_mem_nil, or_false] at hm
    rcases hm with q | q | q | q | q | q
    · exact hd _ k1 q
    · exact hd _ k2 q
    · exact hd _ k3 q
    · exact hd _ k4 q
    · exact hd _ k5 q
    · exact h115 q
theorem dirB_in {n : Int} (h : in05 n = true) : dirB n ∈ dirL := by
  rcases in05_cases h with rfl | rfl | rfl | rfl | rfl | rfl <;> decide
theorem dirL_no {c : UInt8} (hc : c = 47 ∨ c = 43 ∨ c = 61 ∨ c = 10) : c ∉ dirL := by
  rcases hc with rfl | rfl | rfl | rfl <;> decide
theorem or_no {o : Orient} (h : orOK o = true) {c : UInt8} (hc : c = 47 ∨ c = 43 ∨ c = 61 ∨ c = 10) : c ∉ orT o := by
  obtain ⟨h1, h2⟩ := orOK_parts h
  intro hm
  simp only [orT, List.mem_cons, List.not_mem_nil, or_false] at hm
  rcases hm with q | q
  · exact dirL_no hc (q ▸ dirB_in h1)
  · exact dirL_no hc (q ▸ dirB_in h2)
theorem plL_no : ∀ p ∈ plL, (47 : UInt8) ∉ plT p ∧ (43 : UInt8) ∉ plT p ∧ (61 : UInt8) ∉ plT p ∧ (10 : UInt8) ∉ plT p ∧ (plT p).length ≤ 7 := by decide +kernel
theorem pl_no {p : Place} (h : plOK p = true) {c : UInt8} (hc : c = 47 ∨ c = 43 ∨ c = 61 ∨ c = 10) : c ∉ plT p := by
  obtain ⟨q1, q2, q3, q4, _⟩ := plL_no p (plL_mem h)
  rcases hc with rfl | rfl | rfl | rfl <;> assumption
theorem mv_no {l : List UInt8} {r : Int} (h : mvOK l r = true) {c : UInt8} (hc : c = 47 ∨ c = 43 ∨ c = 61 ∨ c = 10) : c ∉ mvT l r := by
  obtain ⟨_, hd, ⟨h1, h3⟩, _⟩ := mvOK_parts h
  have hl : c ∉ l := dirAll_no hd (dirL_no hc)
  unfold mvT
  have hne : c ≠ 45 ∧ c ≠ 42 ∧ c ≠ 50 ∧ c ≠ 51 := by rcases hc with rfl | rfl | rfl | rfl <;> decide
  split
  · intro q
    exact hne.1 (List.mem_singleton.1 q)
  · split
    · exact hl
    · intro q
      rcases List.mem_append.1 q with q | q
      · exact hl q
      · have hr : r = 2 ∨ r = 3 := by omega
        simp only [List.mem_cons, List.not_mem_nil, or_false] at q
        rcases q with q | q
        · exact hne.2.1 q
        · rcases hr with rfl | rfl
          · exact hne.2.2.1 q
          · exact hne.2.2.2 q

/-! ### Hands -/
def hdOK (h : Hand) : Bool := shOK h.1 && (orOK h.2.1 && (plOK h.2.2.1 && mvOK h.2.2.2.1.data.toList h.2.2.2.2))
def mvTx (m : Move) : List UInt8 := mvT m.1.data.toList m.2
def hdT (h : Hand) : List UInt8 := shText h.1 ++ 47 :: (orT h.2.1 ++ 47 :: (plT h.2.2.1 ++ 47 :: mvTx h.2.2.2))
theorem hdOK_parts {h : Hand} (k : hdOK h = true) : shOK h.1 = true ∧ orOK h.2.1 = true ∧ plOK h.2.2.1 = true ∧ mvOK h.2.2.2.1.data.toList h.2.2.2.2 = true := by
  simp only [hdOK, Bool.and_eq_true] at k
  exact k
theorem hdT_spl {h : Hand} (k : hdOK h = true) : spl 47 (hdT h) = [shText h.1, orT h.2.1, plT h.2.2.1, mvTx h.2.2.2] := by
  obtain ⟨k1, k2, k3, k4⟩ := hdOK_parts k
  unfold hdT
  rw [spl_cons 47 _ _ (sh_no k1 (.inl rfl)), spl_cons 47 _ _ (or_no k2 (.inl rfl)), spl_cons 47 _ _ (pl_no k3 (.inl rfl)), spl_none 47 (mvTx h.2.2.2) (mv_no k4 (.inl rfl))]
theorem mvP_rt {m : Move} (h : mvOK m.1.data.toList m.2 = true) : mvP (ba (mvTx m)) = (m, true) := by
  have := mv_rt h
  rw [← eq_ba m.1] at this
  exact this
theorem hd_rt {h : Hand} (k : hdOK h = true) : hdP (ba (hdT h)) = (h, 0, 0) := by
  obtain ⟨k1, k2, k3, k4⟩ := hdOK_parts k
  rw [hdP_four (hdT_spl k), sh_rt k1, or_rt k2, pl_rt k3, mvP_rt k4]
  rfl
/-! ### Signs -/
instance decOPM : DecidableEq (Orient × (Place × Move)) := instDecidableEqProd
instance decHand : DecidableEq Hand := instDecidableEqProd (α := Shape) (β := Orient × (Place × Move))
instance decSign : DecidableEq Sign := instDecidableEqProd (α := Hand) (β := Bool × Hand)
def sgOK (s : Sign) : Bool := hdOK s.1 && bif s.2.1 then hdOK s.2.2 && keep s.1 s.2.2 else decide (s.2.2 = hdZ)
end Go.Proofs.YtklfnbckoaphpaaGreatDoor
/- Texts of hands and signs, long and short: what the program writes. No conditions beyond those that are named. -/
set_option linter.unusedVariables false
set_option linter.unusedSimpArgs false
namespace Go.Proofs.YtklfnbckoaphpaaGreatDoor
open Go

theorem Num_dig {n : Int} (h : in02 n = true) : F_spec_l1Num n = some (ba [dig n]) := by
  have k0 : Lib.itoa 0 = [dig 0] := by decide +kernel
  have k1 : Lib.itoa 1 = [dig 1] := by decide +kernel
  rcases in02_cases h with rfl | rfl | rfl
  · rw [F_spec_l1Num_is, k0]; rfl
  · rw [F_spec_l1Num_is, k1]; rfl
  · rw [F_spec_l1Num_is, itoa2]; rfl
theorem shText_spec {s : Shape} (h : shOK s = true) : F_spec_shText s = some (ba (shText s)) := by
  obtain ⟨t, a, b, c, d, sp⟩ := s
  obtain ⟨h1, h2, h3, h4, h5, _⟩ := shOK_parts h
  have e1 := Num_dig h1
  have e2 := Num_dig h2
  have e3 := Num_dig h3
  have e4 := Num_dig h4
  have e5 := Num_dig h5
  simp only at e1 e2 e3 e4 e5
  have s0 : step_spec_shText_0 (ba [dig t], 4, 0, [a, b, c, d], t, a, b, c, d, sp) = some (.inl (ba [dig t, dig a], 4, 1, [a, b, c, d], t, a, b, c, d, sp)) := by
    have e : step_spec_shText_0 (ba [dig t], 4, 0, [a, b, c, d], t, a, b, c, d, sp) = match F_spec_l1Num a with | none => none | some y5 => bif decide ((ba [dig t]).size + y5.size ≤ 9223372036854775807) then some (.inl (ba [dig t] ++ y5, 4, 1, [a, b, c, d], t, a, b, c, d, sp)) else none := rfl
    rw [e, e2]; simp only [ba_app]; rfl
  have s1 : step_spec_shText_0 (ba [dig t, dig a], 4, 1, [a, b, c, d], t, a, b, c, d, sp) = some (.inl (ba [dig t, dig a, dig b], 4, 2, [a, b, c, d], t, a, b, c, d, sp)) := by
    have e : step_spec_shText_0 (ba [dig t, dig a], 4, 1, [a, b, c, d], t, a, b, c, d, sp) = match F_spec_l1Num b with | none => none | some y5 => bif decide ((ba [dig t, dig a]).size + y5.size ≤ 9223372036854775807) then some (.inl (ba [dig t, dig a] ++ y5, 4, 2, [a, b, c, d], t, a, b, c, d, sp)) else none := rfl
    rw [e, e3]; simp only [ba_app]; rfl
  have s2 : step_spec_shText_0 (ba [dig t, dig a, dig b], 4, 2, [a, b, c, d], t, a, b, c, d, sp) = some (.inl (ba [dig t, dig a, dig b, dig c], 4, 3, [a, b, c, d], t, a, b, c, d, sp)) := by
    have e : step_spec_shText_0 (ba [dig t, dig a, dig b], 4, 2, [a, b, c, d], t, a, b, c, d, sp) = match F_spec_l1Num c with | none => none | some y5 => bif decide ((ba [dig t, dig a, dig b]).size + y5.size ≤ 9223372036854775807) then some (.inl (ba [dig t, dig a, dig b] ++ y5, 4, 3, [a, b, c, d], t, a, b, c, d, sp)) else none := rfl
    rw [e, e4]; simp only [ba_app]; rfl
  have s3 : step_spec_shText_0 (ba [dig t, dig a, dig b, dig c], 4, 3, [a, b, c, d], t, a, b, c, d, sp) = some (.inl (ba [dig t, dig a, dig b, dig c, dig d], 4, 4, [a, b, c, d], t, a, b, c, d, sp)) := by
    have e : step_spec_shText_0 (ba [dig t, dig a, dig b, dig c], 4, 3, [a, b, c, d], t, a, b, c, d, sp) = match F_spec_l1Num d with | none => none | some y5 => bif decide ((ba [dig t, dig a, dig b, dig c]).size + y5.size ≤ 9223372036854775807) then some (.inl (ba [dig t, dig a, dig b, dig c] ++ y5, 4, 4, [a, b, c, d], t, a, b, c, d, sp)) else none := rfl
    rw [e, e5]; simp only [ba_app]; rfl
  have s4 : step_spec_shText_0 (ba [dig t, dig a, dig b, dig c, dig d], 4, 4, [a, b, c, d], t, a, b, c, d, sp) = some (.inr (ba [dig t, dig a, dig b, dig c, dig d], t, a, b, c, d, sp)) := rfl
  have l4 : (([a, b, c, d].length : Nat) : Int) = 4 := rfl
  have r : runL step_spec_shText_0 (ba [dig t], 4, 0, [a, b, c, d], t, a, b, c, d, sp) = some (ba [dig t, dig a, dig b, dig c, dig d], t, a, b, c, d, sp) := by
    rw [runL_eq, s0]; simp only []
    rw [runL_eq, s1]; simp only []
    rw [runL_eq, s2]; simp only []
    rw [runL_eq, s3]; simp only []
    rw [runL_eq, s4]
  simp only [F_spec_shText, F_spec_shFingers, e1, l4, r, shText]
  cases sp with
  | false => simp only [cond_false, List.append_nil]
  | true =>
    have g : decide ((ba [dig t, dig a, dig b, dig c, dig d]).size + (⟨#[115]⟩ : ByteArray).size ≤ 9223372036854775807) = true := rfl
    simp only [cond_true, g]
    exact congrArg some (ba_app _ [115])


theorem cat_ok {β : Type} (a b : List UInt8) (K : Option β) (h : a.length + b.length ≤ 1000000000) : (bif decide ((ba a).size + (ba b).size ≤ 9223372036854775807) then K else none) = K := by
  rw [ba_size, ba_size, decide_eq_true (by omega)]; rfl
theorem cat_g {β : Type} (a b : ByteArray) (K : Option β) (h : a.size + b.size ≤ 1000000000) : (bif decide (a.size + b.size ≤ 9223372036854775807) then K else none) = K := by
  rw [decide_eq_true (by omega)]; rfl
theorem z47 : (⟨#[47]⟩ : ByteArray).size = 1 := rfl
theorem z43 : (⟨#[43]⟩ : ByteArray).size = 1 := rfl
theorem z61 : (⟨#[61]⟩ : ByteArray).size = 1 := rfl
theorem c47 : (⟨#[47]⟩ : ByteArray) = ba [47] := rfl
theorem ext_dir {n : Int} (h : in05 n = true) : (⟨#[117, 100, 108, 114, 102, 98]⟩ : ByteArray).extract n.toNat (IntKind.i64.wrap (n + 1)).toNat = ba [dirB n] := by
  have e : (⟨#[117, 100, 108, 114, 102, 98]⟩ : ByteArray) = ba dirL := rfl
  rw [e, ba_extract]
  rcases in05_cases h with rfl | rfl | rfl | rfl | rfl | rfl <;> exact congrArg ba (by decide)
theorem dir_g {n : Int} (h : in05 n = true) : (decide (0 ≤ n) && decide (n ≤ IntKind.i64.wrap (n + 1)) && decide (IntKind.i64.wrap (n + 1) ≤ ((⟨#[117, 100, 108, 114, 102, 98]⟩ : ByteArray).size : Int))) = true := by
  rcases in05_cases h with rfl | rfl | rfl | rfl | rfl | rfl <;> decide
theorem orText_spec {o : Orient} (h : orOK o = true) : F_spec_orText o = some (ba (orT o)) := by
  obtain ⟨h1, h2⟩ := orOK_parts h
  simp only [F_spec_orText, dir_g h1, dir_g h2, cond_true, ext_dir h1, ext_dir h2]
  rw [cat_ok [dirB o.1] [dirB o.2] _ (show 2 ≤ 1000000000 by decide), ba_app]; rfl
theorem orText_impl {o : Orient} (h : orOK o = true) : F_impl_Orient_text o = some (ba (orT o)) := by
  obtain ⟨h1, h2⟩ := orOK_parts h
  simp only [F_impl_Orient_text, dir_g h1, dir_g h2, cond_true, ext_dir h1, ext_dir h2]
  rw [cat_ok [dirB o.1] [dirB o.2] _ (show 2 ≤ 1000000000 by decide), ba_app]; rfl
theorem mvText_spec {m : Move} (h : mvOK m.1.data.toList m.2 = true) : F_spec_mvText m = some (ba (mvTx m)) := by
  have := mvText_is h
  rw [← eq_ba m.1] at this
  exact this
theorem mvText_impl {m : Move} (h : mvOK m.1.data.toList m.2 = true) : F_impl_Move_text m = some (ba (mvTx m)) := by
  have := Move_text_is h
  rw [← eq_ba m.1] at this
  exact this
/-! ### Lengths -/
theorem sh_len (s : Shape) : (shText s).length ≤ 6 := by
  obtain ⟨t, a, b, c, d, sp⟩ := s
  cases sp
  · exact (by decide : 5 ≤ 6)
  · exact Nat.le_refl 6
theorem or_len (o : Orient) : (orT o).length = 2 := rfl
theorem pl_len {p : Place} (h : plOK p = true) : (plT p).length ≤ 7 := (plL_no p (plL_mem h)).2.2.2.2
theorem mv_len {m : Move} (h : mvOK m.1.data.toList m.2 = true) : (mvTx m).length ≤ 8 := by
  obtain ⟨h6, _⟩ := mvOK_parts h
  show (mvT m.1.data.toList m.2).length ≤ 8
  generalize m.1.data.toList = l at h6 ⊢
  unfold mvT
  split
  · simp
  · split
    · omega
    · simp only [List.length_append, List.length_cons, List.length_nil]; omega
/-! ### Hands -/
theorem Join4 (a b c d : List UInt8) (hl : a.length + b.length + c.length + d.length ≤ 10000000) : F_strings_Join ([ba a, ba b, ba c, ba d], (⟨#[47]⟩ : ByteArray)) = some (ba (a ++ 47 :: (b ++ 47 :: (c ++ 47 :: d)))) := by
  have e : Lib.join [a, b, c, d] [47] = a ++ 47 :: (b ++ 47 :: (c ++ 47 :: d)) := by
    simp [Lib.join_cons, Lib.joinTail]
  have e2 : Lib.join ([ba a, ba b, ba c, ba d].map (·.data.toList)) (⟨#[47]⟩ : ByteArray).data.toList = a ++ 47 :: (b ++ 47 :: (c ++ 47 :: d)) := e
  rw [F_strings_Join_is]
  simp only [e2]
  rw [decide_eq_true (by simp), decide_eq_true (by simp; omega)]
  rfl
theorem hdText_impl {h : Hand} (k : hdOK h = true) : F_impl_Hand_text h = some (ba (hdT h)) := by
  obtain ⟨k1, k2, k3, k4⟩ := hdOK_parts k
  have l1 := sh_len h.1
  have l2 := or_len h.2.1
  have l3 := pl_len k3
  have l4 := mv_len k4
  simp only [F_impl_Hand_text, Shape_text_is k1, orText_impl k2, Place_text_is k3, mvText_impl k4]
  rw [Join4 _ _ _ _ (by omega)]; rfl
theorem hdText_spec {h : Hand} (k : hdOK h = true) : F_spec_siText h = some (ba (hdT h)) := by
  obtain ⟨k1, k2, k3, k4⟩ := hdOK_parts k
  have l1 := sh_len h.1
  have l2 := or_len h.2.1
  have l3 := pl_len k3
  have l4 := mv_len k4
  simp only [F_spec_siText, shText_spec k1, orText_spec k2, plText_is k3, mvText_spec k4]
  rw [cat_g _ _ _ (by simp only [ByteArray.size_append, ba_size, z47, z43, z61]; omega), cat_g _ _ _ (by simp only [ByteArray.size_append, ba_size, z47, z43, z61]; omega), cat_g _ _ _ (by simp only [ByteArray.size_append, ba_size, z47, z43, z61]; omega), cat_g _ _ _ (by simp only [ByteArray.size_append, ba_size, z47, z43, z61]; omega), cat_g _ _ _ (by simp only [ByteArray.size_append, ba_size, z47, z43, z61]; omega), cat_g _ _ _ (by simp only [ByteArray.size_append, ba_size, z47, z43, z61]; omega)]
  simp only [c47, ba_app, hdT, List.append_assoc, List.cons_append, List.nil_append]
theorem sgOK_parts {s : Sign} (k : sgOK s = true) : hdOK s.1 = true ∧ (s.2.1 = true → hdOK s.2.2 = true ∧ keep s.1 s.2.2 = true) ∧ (s.2.1 = false → s.2.2 = hdZ) := by
  obtain ⟨m, two, o⟩ := s
  simp only [sgOK, Bool.and_eq_true] at k
  obtain ⟨k1, k2⟩ := k
  cases two with
  | false => exact ⟨k1, fun h => (by cases h), fun _ => of_decide_eq_true k2⟩
  | true =>
    simp only [cond_true, Bool.and_eq_true] at k2
    exact ⟨k1, fun _ => k2, fun h => (by cases h)⟩
/-! ### Short texts -/
end Go.Proofs.YtklfnbckoaphpaaGreatDoor
/- Normal forms of movements, on both sides: plain laws. No conditions beyond the bounds that are named. -/
set_option linter.unusedVariables false
set_option linter.unusedSimpArgs false
namespace Go.Proofs.YtklfnbckoaphpaaGreatDoor
open Go
/-- the text is one of its beginnings, t times over -/
def rpt (l : List UInt8) (t : Nat) : Bool := decide (Lib.repeatL (l.take (l.length / t)) t = l)
def nfL (l : List UInt8) : List UInt8 × Int :=
  bif decide (l = []) then ([], 1) else bif rpt l 3 then (l.take (l.length / 3), 3) else bif rpt l 2 then (l.take (l.length / 2), 2) else (l, 1)
/-- the normal form of a movement -/
def mvN (m : Move) : Move := (ba (nfL (Lib.repeatL m.1.data.toList m.2.toNat)).1, (nfL (Lib.repeatL m.1.data.toList m.2.toNat)).2)
theorem rpt_one (l : List UInt8) : rpt l 1 = true := by
  unfold rpt
  rw [Nat.div_one, List.take_length, Lib.repeatL_one]
  exact decide_eq_true rfl
theorem rpt_len {l : List UInt8} {t : Nat} (h : rpt l t = true) : t * (l.length / t) = l.length := by
  have h := of_decide_eq_true h
  have h2 := congrArg List.length h
  rw [Lib.repeatL_length, List.length_take, Nat.min_eq_left (Nat.div_le_self _ _)] at h2
  exact h2
theorem rpt_of (l : List UInt8) (t : Nat) (ht : 0 < t) : rpt (Lib.repeatL l t) t = true := by
  unfold rpt
  rw [Lib.repeatL_length, Nat.mul_div_cancel_left _ ht]
  have h := Lib.repeatL_take l t 1 ht
  rw [Nat.one_mul, Lib.repeatL_one] at h
  rw [h]
  exact decide_eq_true rfl
/-- what all steps of a good movement are like -/
structure AllOf (l : List UInt8) : Prop where
  le : l.length ≤ 18
  two : rpt l 3 = false → l.length ≤ 12
  one : rpt l 3 = false → rpt l 2 = false → l.length ≤ 6
theorem allOf_rep {l : List UInt8} {r : Nat} (hl : l.length ≤ 6) (h1 : 1 ≤ r) (h3 : r ≤ 3) : AllOf (Lib.repeatL l r) := by
  have hz := Lib.repeatL_length l r
  have e : r = 1 ∨ r = 2 ∨ r = 3 := by omega
  rcases e with rfl | rfl | rfl
  · exact ⟨by omega, fun _ => by omega, fun _ _ => by omega⟩
  · exact ⟨by omega, fun _ => by omega, fun _ h => by rw [rpt_of l 2 (by omega)] at h; cases h⟩
  · exact ⟨by omega, fun h => (by rw [rpt_of l 3 (by omega)] at h; cases h), fun h => (by rw [rpt_of l 3 (by omega)] at h; cases h)⟩
theorem tt2 (a l : List UInt8) : ((ba a).toList == (ba l).toList) = decide (a = l) := by rw [ba_toList, ba_toList, beq_text]
theorem take_ext (l : List UInt8) (n : Nat) : (ba l).extract 0 n = ba (l.take n) := by
  rw [ba_extract]; simp
/-! ### The program's -/
theorem Repeat_is (l : List UInt8) (t : Nat) (hl : l.length ≤ 1048576) (ht : t ≤ 1024) : F_strings_Repeat (ba l, (t : Int)) = some (ba (Lib.repeatL l t)) := by
  have g : (decide (0 ≤ (t : Int)) && decide ((t : Int) ≤ 1024) && decide ((ba l).size ≤ 1048576)) = true := by
    rw [decide_eq_true (by omega), decide_eq_true (by omega), decide_eq_true (by rw [ba_size]; omega)]; rfl
  simp only [F_strings_Repeat_is, g, cond_true]
  rfl
theorem moveOf_step (l : List UInt8) (t : Nat) (h1 : 1 ≤ t) (h3 : t ≤ 3) (hl : l.length ≤ 18) (h6 : l.length / t ≤ 6) (e : ByteArray) (z : Int) :
    step_impl_moveOf_0 (ba l, ((t : Int), e, z)) = some (bif rpt l t then .inr (.inl (true, ba (l.take (l.length / t)), (t : Int))) else .inl (ba l, (((t : Int) - 1), e, z))) := by
  unfold rpt
  have hle := Nat.div_le_self l.length t
  generalize hq : l.length / t = q at h6 hle ⊢
  have g1 : decide ((t : Int) ≥ 1) = true := decide_eq_true (by omega)
  have g2 : (!decide ((t : Int) = 0)) = true := by rw [decide_eq_false (by omega)]; rfl
  have hd : IntKind.i64.wrap ((((ba l).size : Nat) : Int).tdiv (t : Int)) = (q : Int) := by
    rw [ba_size, ← Int.ofNat_tdiv, hq, wrap_id (by omega) (by omega)]
  have g3 : (decide (0 ≤ (0 : Int)) && decide ((0 : Int) ≤ (q : Int)) && decide ((q : Int) ≤ (((ba l).size : Nat) : Int))) = true := by
    rw [decide_eq_true (by omega), decide_eq_true (by omega), decide_eq_true (by rw [ba_size]; omega)]; rfl
  have ex : (ba l).extract ((0 : Int)).toNat ((q : Int)).toNat = ba (l.take q) := take_ext l _
  have g4 : decide ((((ba (l.take q)).size : Nat) : Int) ≤ 6) = true := decide_eq_true (by rw [ba_size, List.length_take]; omega)
  have hw : IntKind.i64.wrap ((t : Int) - 1) = (t : Int) - 1 := wrap_id (by omega) (by omega)
  have hr := Repeat_is (l.take q) t (by rw [List.length_take]; omega) (by omega)
  simp only [step_impl_moveOf_0, g1, g2, cond_true, hd, g3, ex, g4, hr, tt2, hw]
  cases decide (Lib.repeatL (l.take q) t = l) <;> rfl
theorem moveOf_is {l : List UInt8} (h : AllOf l) : F_impl_moveOf (ba l) = some ((ba (nfL l).1, (nfL l).2), true) := by
  have hl := h.le
  have e0 : ((ba l).toList == (⟨#[]⟩ : ByteArray).toList) = decide (l = []) := mt_nil l
  simp only [F_impl_moveOf, e0, nfL]
  cases hn : decide (l = []) with
  | true => rfl
  | false =>
    simp only [cond_false]
    have s3 : step_impl_moveOf_0 (ba l, ((3 : Int), ByteArray.empty, 0)) = some (bif rpt l 3 then .inr (.inl (true, ba (l.take (l.length / 3)), (3 : Int))) else .inl (ba l, ((2 : Int), ByteArray.empty, 0))) := moveOf_step l 3 (by omega) (by omega) hl (by omega) ByteArray.empty 0
    cases h3 : rpt l 3 with
    | true =>
      rw [h3] at s3
      rw [runL_end s3]
      rfl
    | false =>
      rw [h3] at s3
      have l2 := h.two h3
      have s2 : step_impl_moveOf_0 (ba l, ((2 : Int), ByteArray.empty, 0)) = some (bif rpt l 2 then .inr (.inl (true, ba (l.take (l.length / 2)), (2 : Int))) else .inl (ba l, ((1 : Int), ByteArray.empty, 0))) := moveOf_step l 2 (by omega) (by omega) hl (by omega) ByteArray.empty 0
      cases h2 : rpt l 2 with
      | true =>
        rw [h2] at s2
        rw [runL_step s3, runL_end s2]
        rfl
      | false =>
        rw [h2] at s2
        have l1 := h.one h3 h2
        have s1 : step_impl_moveOf_0 (ba l, ((1 : Int), ByteArray.empty, 0)) = some (bif rpt l 1 then .inr (.inl (true, ba (l.take (l.length / 1)), (1 : Int))) else .inl (ba l, ((0 : Int), ByteArray.empty, 0))) := moveOf_step l 1 (by omega) (by omega) hl (by omega) ByteArray.empty 0
        rw [rpt_one] at s1
        rw [runL_step s3, runL_step s2, runL_end s1]
        simp
theorem Move_normal_is {m : Move} (h : mvOK m.1.data.toList m.2 = true) : F_impl_Move_normal m = some (mvN m) := by
  obtain ⟨h6, _, ⟨h1, h3⟩, _⟩ := mvOK_parts h
  have e1 : F_impl_Move_all m = some (ba (Lib.repeatL m.1.data.toList m.2.toNat)) := Move_all_is m.1.data.toList m.2 h6 h1 h3
  have e2 := moveOf_is (allOf_rep (l := m.1.data.toList) (r := m.2.toNat) h6 (by omega) (by omega))
  simp only [F_impl_Move_normal, e1, e2, mvN]
/-! ### The specification's -/
theorem mvTimes_is (l : List UInt8) (t : Nat) (hl : l.length ≤ 6) (h1 : 1 ≤ t) (h3 : t ≤ 3) : F_spec_mvTimes (ba l, (t : Int)) = some (ba (Lib.repeatL l t)) := by
  have h := mvAll_is l (t : Int) hl (by omega) (by omega)
  unfold F_spec_mvAll at h
  cases e : F_spec_mvTimes (ba l, (t : Int)) with
  | none => rw [e] at h; cases h
  | some y => rw [e] at h; simpa using h
def hit (l : List UInt8) (n t : Nat) : Bool := decide (Lib.repeatL (l.take n) t = l)
theorem hit_len {l : List UInt8} {n t : Nat} (hn : n ≤ l.length) (h : hit l n t = true) : t * n = l.length := by
  have h := of_decide_eq_true h
  have h2 := congrArg List.length h
  rw [Lib.repeatL_length, List.length_take, Nat.min_eq_left hn] at h2
  exact h2
theorem mvOf_step0 (l : List UInt8) (n t : Nat) (hn : n ≤ l.length) (h6 : n ≤ 6) (h1 : 1 ≤ t) (h3 : t ≤ 3) (q : Int × ByteArray × Int × Bool × ByteArray × Int) :
    step_spec_mvOf_0 (ba l, ((n : Int), (t : Int), q)) = some (bif hit l n t then .inr (.inl (true, ba (l.take n), (t : Int))) else .inl (ba l, ((n : Int), ((t + 1 : Nat) : Int), q))) := by
  have g1 : decide ((t : Int) ≤ 3) = true := decide_eq_true (by omega)
  have g3 : (decide (0 ≤ (0 : Int)) && decide ((0 : Int) ≤ (n : Int)) && decide ((n : Int) ≤ (((ba l).size : Nat) : Int))) = true := by
    rw [decide_eq_true (by omega), decide_eq_true (by omega), decide_eq_true (by rw [ba_size]; omega)]; rfl
  have ex : (ba l).extract ((0 : Int)).toNat ((n : Int)).toNat = ba (l.take n) := take_ext l _
  have hr := mvTimes_is (l.take n) t (by rw [List.length_take]; omega) h1 h3
  have hw := wrap_succ (i := t) (by omega)
  simp only [step_spec_mvOf_0, g1, g3, cond_true, ex, hr, tt2, hw]
  unfold hit
  cases decide (Lib.repeatL (l.take n) t = l) <;> rfl
theorem mvOf_end0 (x : ByteArray) (n : Int) (q : Int × ByteArray × Int × Bool × ByteArray × Int) : step_spec_mvOf_0 (x, (n, (4 : Int), q)) = some (.inr (.inr (x, n, q))) := by
  have g1 : decide ((4 : Int) ≤ 3) = false := rfl
  simp only [step_spec_mvOf_0, g1, cond_false]
theorem mvOf_miss (l : List UInt8) (n : Nat) (hn : n ≤ l.length) (h6 : n ≤ 6) (h : hit l n 1 = false ∧ hit l n 2 = false ∧ hit l n 3 = false) (q : Int × ByteArray × Int × Bool × ByteArray × Int) :
    runL step_spec_mvOf_0 (ba l, ((n : Int), (1 : Int), q)) = some (.inr (ba l, ((n : Int), q))) := by
  have s1 := mvOf_step0 l n 1 hn h6 (by omega) (by omega) q
  have s2 := mvOf_step0 l n 2 hn h6 (by omega) (by omega) q
  have s3 := mvOf_step0 l n 3 hn h6 (by omega) (by omega) q
  rw [h.1] at s1; rw [h.2.1] at s2; rw [h.2.2] at s3
  exact (runL_step s1).trans ((runL_step s2).trans ((runL_step s3).trans (runL_end (mvOf_end0 _ _ q))))
theorem mvOf_hit (l : List UInt8) (n t : Nat) (h0 : 0 < n) (hn : n ≤ l.length) (h6 : n ≤ 6) (h1 : 1 ≤ t) (h3 : t ≤ 3) (h : hit l n t = true) (q : Int × ByteArray × Int × Bool × ByteArray × Int) :
    runL step_spec_mvOf_0 (ba l, ((n : Int), (1 : Int), q)) = some (.inl (true, ba (l.take n), (t : Int))) := by
  have hz := hit_len hn h
  have no : ∀ s, s ≠ t → hit l n s = false := fun s hs => by
    cases e : hit l n s with
    | false => rfl
    | true => exact absurd (Nat.eq_of_mul_eq_mul_right h0 ((hit_len hn e).trans hz.symm)) hs
  have s1 := mvOf_step0 l n 1 hn h6 (by omega) (by omega) q
  have s2 := mvOf_step0 l n 2 hn h6 (by omega) (by omega) q
  have s3 := mvOf_step0 l n 3 hn h6 (by omega) (by omega) q
  have e : t = 1 ∨ t = 2 ∨ t = 3 := by omega
  rcases e with rfl | rfl | rfl
  · rw [h] at s1
    exact runL_end s1
  · rw [no 1 (by omega)] at s1; rw [h] at s2
    exact (runL_step s1).trans (runL_end s2)
  · rw [no 1 (by omega)] at s1; rw [no 2 (by omega)] at s2; rw [h] at s3
    exact (runL_step s1).trans ((runL_step s2).trans (runL_end s3))
theorem mvOf_run (l : List UInt8) (N t : Nat) (h0 : 0 < N) (hN : N ≤ l.length) (h6 : N ≤ 6) (h1 : 1 ≤ t) (h3 : t ≤ 3) (h : hit l N t = true) (hl : ∀ n, 0 < n → n < N → hit l n 1 = false ∧ hit l n 2 = false ∧ hit l n 3 = false) :
    F_spec_mvOf (ba l) = some ((ba (l.take N), (t : Int)), true) := by
  have e0 : ((ba l).toList == (⟨#[]⟩ : ByteArray).toList) = decide (l = []) := mt_nil l
  have hne : decide (l = []) = false := decide_eq_false (fun e => by subst e; simp at hN; omega)
  have T := runL_traj (f := step_spec_mvOf_1) (fun i => (ba l, (((i + 1 : Nat) : Int), ByteArray.empty, (0 : Int)))) (.inl (true, ba (l.take N), (t : Int))) (N - 1) (fun i hi => by
    have g1 : decide (((i + 1 : Nat) : Int) ≤ 6) = true := decide_eq_true (by omega)
    have g2 : decide (((i + 1 : Nat) : Int) ≤ (((ba l).size : Nat) : Int)) = true := decide_eq_true (by rw [ba_size]; omega)
    have hm := mvOf_miss l (i + 1) (by omega) (by omega) (hl (i + 1) (by omega) (by omega)) (((i + 1 : Nat) : Int), ba l, (((ba l).size : Nat) : Int), true, ByteArray.empty, 0)
    have hw := wrap_succ (i := i + 1) (by omega)
    simp only [step_spec_mvOf_1, g1, g2, cond_true, hm, hw]) (by
    have g1 : decide (((N - 1 + 1 : Nat) : Int) ≤ 6) = true := decide_eq_true (by omega)
    have g2 : decide (((N - 1 + 1 : Nat) : Int) ≤ (((ba l).size : Nat) : Int)) = true := decide_eq_true (by rw [ba_size]; omega)
    have e : N - 1 + 1 = N := by omega
    have hm := mvOf_hit l N t h0 hN h6 h1 h3 h ((N : Int), ba l, (((ba l).size : Nat) : Int), true, ByteArray.empty, 0)
    rw [e] at g1 g2
    simp only [step_spec_mvOf_1, e, g1, g2, cond_true, hm])
  have T : runL step_spec_mvOf_1 (ba l, ((1 : Int), ByteArray.empty, (0 : Int))) = _ := T
  simp only [F_spec_mvOf, e0, hne, cond_false, T]
theorem rpt_hit {l : List UInt8} {t : Nat} (h : rpt l t = true) : hit l (l.length / t) t = true := h
theorem hit_rpt {l : List UInt8} {n t : Nat} (ht : 0 < t) (hn : n ≤ l.length) (h : hit l n t = true) : n = l.length / t ∧ rpt l t = true := by
  have e : n = l.length / t := by rw [← hit_len hn h, Nat.mul_div_cancel_left _ ht]
  subst e
  exact ⟨rfl, h⟩
theorem mvOf_is {l : List UInt8} (h : AllOf l) : F_spec_mvOf (ba l) = some ((ba (nfL l).1, (nfL l).2), true) := by
  have hl := h.le
  have miss : ∀ n t, 0 < t → n ≤ l.length → (n ≠ l.length / t ∨ rpt l t = false) → hit l n t = false := fun n t ht hn hor => by
    cases e : hit l n t with
    | false => rfl
    | true =>
      obtain ⟨e1, e2⟩ := hit_rpt ht hn e
      rcases hor with q | q
      · exact absurd e1 q
      · rw [e2] at q; cases q
  unfold nfL
  cases hn : decide (l = []) with
  | true =>
    have := of_decide_eq_true hn
    subst this
    have e0 : ((ba ([] : List UInt8)).toList == (⟨#[]⟩ : ByteArray).toList) = true := by rw [mt_nil]; rfl
    simp only [F_spec_mvOf, e0, cond_true]
    rfl
  | false =>
    have hne : l ≠ [] := of_decide_eq_false hn
    have hpos : 0 < l.length := List.length_pos_iff.2 hne
    simp only [cond_false]
    cases h3 : rpt l 3 with
    | true =>
      have hz := rpt_len h3
      exact mvOf_run l (l.length / 3) 3 (by omega) (by omega) (by omega) (by omega) (by omega) (rpt_hit h3) fun n n0 n1 => ⟨miss n 1 (by omega) (by omega) (.inl (by omega)), miss n 2 (by omega) (by omega) (.inl (by omega)), miss n 3 (by omega) (by omega) (.inl (by omega))⟩
    | false =>
      have l2 := h.two h3
      cases h2 : rpt l 2 with
      | true =>
        have hz := rpt_len h2
        exact mvOf_run l (l.length / 2) 2 (by omega) (by omega) (by omega) (by omega) (by omega) (rpt_hit h2) fun n n0 n1 => ⟨miss n 1 (by omega) (by omega) (.inl (by omega)), miss n 2 (by omega) (by omega) (.inl (by omega)), miss n 3 (by omega) (by omega) (.inr h3)⟩
      | false =>
        have l1 := h.one h3 h2
        have := mvOf_run l l.length 1 hpos (Nat.le_refl _) l1 (by omega) (by omega) (by have := rpt_hit (rpt_one l); rwa [Nat.div_one] at this) fun n n0 n1 => ⟨miss n 1 (by omega) (by omega) (.inl (by rw [Nat.div_one]; omega)), miss n 2 (by omega) (by omega) (.inr h2), miss n 3 (by omega) (by omega) (.inr h3)⟩
        rw [List.take_length] at this
        exact this
theorem mvNormal_is {m : Move} (h : mvOK m.1.data.toList m.2 = true) : F_spec_mvNormal m = some (mvN m) := by
  obtain ⟨h6, _, ⟨h1, h3⟩, _⟩ := mvOK_parts h
  have e1 : F_spec_mvAll m = some (ba (Lib.repeatL m.1.data.toList m.2.toNat)) := mvAll_is m.1.data.toList m.2 h6 h1 h3
  have e2 := mvOf_is (allOf_rep (l := m.1.data.toList) (r := m.2.toNat) h6 (by omega) (by omega))
  simp only [F_spec_mvNormal, e1, e2, mvN]
/-! ### A normal form is good -/
theorem repeatL_mem {l : List UInt8} : ∀ {n : Nat} {b : UInt8}, b ∈ Lib.repeatL l n → b ∈ l
  | 0, b, h => by cases h
  | n + 1, b, h => by
    rw [Lib.repeatL_add, Lib.repeatL_one] at h
    rcases List.mem_append.1 h with h | h
    · exact repeatL_mem h
    · exact h
theorem dirAll_sub {a b : List UInt8} (h : dirAll a = true) (hs : ∀ x ∈ b, x ∈ a) : dirAll b = true := by
  unfold dirAll at h ⊢
  rw [List.all_eq_true] at h ⊢
  exact fun x hx => h x (hs x hx)
theorem mvOK_of {l : List UInt8} {r : Int} (h6 : l.length ≤ 6) (hd : dirAll l = true) (h1 : 1 ≤ r) (h3 : r ≤ 3) (h0 : l = [] → r = 1) : mvOK l r = true := by
  unfold mvOK
  rw [decide_eq_true h6, hd, decide_eq_true h1, decide_eq_true h3]
  by_cases e : l = []
  · rw [decide_eq_true e, h0 e]; rfl
  · rw [decide_eq_false e]; rfl
theorem mvN_ok {m : Move} (h : mvOK m.1.data.toList m.2 = true) : mvOK (mvN m).1.data.toList (mvN m).2 = true := by
  obtain ⟨h6, hd, ⟨h1, h3⟩, _⟩ := mvOK_parts h
  have ha := allOf_rep (l := m.1.data.toList) (r := m.2.toNat) h6 (by omega) (by omega)
  have hda : dirAll (Lib.repeatL m.1.data.toList m.2.toNat) = true := dirAll_sub hd fun x hx => repeatL_mem hx
  show mvOK (nfL (Lib.repeatL m.1.data.toList m.2.toNat)).1 (nfL (Lib.repeatL m.1.data.toList m.2.toNat)).2 = true
  generalize Lib.repeatL m.1.data.toList m.2.toNat = l at ha hda
  have hl := ha.le
  unfold nfL
  cases hn : decide (l = []) with
  | true => exact (mvOK_of (l := []) (r := 1) (by decide) rfl (by decide) (by decide) fun _ => rfl)
  | false =>
    have hne : l ≠ [] := of_decide_eq_false hn
    have hpos : 0 < l.length := List.length_pos_iff.2 hne
    have nz : ∀ k, 0 < k → l.take k ≠ [] := fun k hk e => by
      have := congrArg List.length e
      rw [List.length_take, List.length_nil] at this; omega
    simp only [cond_false]
    cases h3' : rpt l 3 with
    | true =>
      have hz := rpt_len h3'
      exact mvOK_of (by rw [cond_true, List.length_take]; omega) (dirAll_sub hda fun x hx => List.mem_of_mem_take hx) (show (1 : Int) ≤ 3 by decide) (show (3 : Int) ≤ 3 by decide) fun e => absurd e (nz _ (by omega))
    | false =>
      have l2 := ha.two h3'
      cases h2 : rpt l 2 with
      | true =>
        have hz := rpt_len h2
        exact mvOK_of (by rw [cond_false, cond_true, List.length_take]; omega) (dirAll_sub hda fun x hx => List.mem_of_mem_take hx) (show (1 : Int) ≤ 2 by decide) (show (2 : Int) ≤ 3 by decide) fun e => absurd e (nz _ (by omega))
      | false =>
        have l1 := ha.one h3' h2
        exact mvOK_of l1 hda (show (1 : Int) ≤ 1 by decide) (show (1 : Int) ≤ 3 by decide) fun _ => rfl
/-- a hand in its normal form -/
def hdN (h : Hand) : Hand := (h.1, h.2.1, h.2.2.1, mvN h.2.2.2)
theorem noHand_is {h : Hand} (k : hdOK h = true) : F_spec_noHand h = some (hdN h) := by
  simp only [F_spec_noHand, mvNormal_is (hdOK_parts k).2.2.2, hdN]
theorem Hand_normal_is {h : Hand} (k : hdOK h = true) : F_impl_Hand_normal h = some (hdN h) := by
  simp only [F_impl_Hand_normal, Move_normal_is (hdOK_parts k).2.2.2, hdN]
theorem hdN_ok {h : Hand} (k : hdOK h = true) : hdOK (hdN h) = true := by
  obtain ⟨k1, k2, k3, k4⟩ := hdOK_parts k
  unfold hdOK hdN
  rw [k1, k2, k3, mvN_ok k4]; rfl
theorem notations_is {h : Hand} (k : hdOK h = true) : F_impl_Hand_notations h = some [h, hdN h] := by
  simp only [F_impl_Hand_notations, Hand_normal_is k]
end Go.Proofs.YtklfnbckoaphpaaGreatDoor
/- Signs in their order: how two stand, a list of them sorted, runs of the same, one more at its place. No conditions beyond the bounds that are named. -/
set_option linter.unusedVariables false
set_option linter.unusedSimpArgs false
namespace Go.Proofs.YtklfnbckoaphpaaGreatDoor
open Go Go.Sort
theorem cb_is : ∀ a b : List UInt8, (Lib.compareBytes a b < 0 ↔ a < b) ∧ (Lib.compareBytes a b = 0 ↔ a = b)
  | [], [] => ⟨⟨fun h => absurd h (by decide), fun h => absurd h (List.lt_irrefl _)⟩, ⟨fun _ => rfl, fun _ => rfl⟩⟩
  | [], b :: lb => ⟨⟨fun _ => List.nil_lt_cons _ _, fun _ => (by decide : (-1 : Int) < 0)⟩, ⟨fun h => absurd (show (-1 : Int) = 0 from h) (by decide), fun h => by cases h⟩⟩
  | a :: la, [] => ⟨⟨fun h => absurd (show (1 : Int) < 0 from h) (by decide), fun h => absurd h (List.not_lt_nil _)⟩, ⟨fun h => absurd (show (1 : Int) = 0 from h) (by decide), fun h => by cases h⟩⟩
  | a :: la, b :: lb => by
    obtain ⟨h1, h2⟩ := cb_is la lb
    unfold Lib.compareBytes
    rw [List.cons_lt_cons_iff]
    by_cases hab : a < b
    · rw [if_pos hab]
      have hne : a ≠ b := fun e => by subst e; exact absurd hab (UInt8.lt_irrefl _)
      exact ⟨⟨fun _ => .inl hab, fun _ => by decide⟩, ⟨fun h => absurd h (by decide), fun h => absurd (List.cons.inj h).1 hne⟩⟩
    · rw [if_neg hab]
      by_cases hba : b < a
      · rw [if_pos hba]
        have hne : a ≠ b := fun e => by subst e; exact absurd hba (UInt8.lt_irrefl _)
        exact ⟨⟨fun h => absurd h (by decide), fun h => by rcases h with h | ⟨h, _⟩; exact absurd h hab; exact absurd h hne⟩, ⟨fun h => absurd h (by decide), fun h => absurd (List.cons.inj h).1 hne⟩⟩
      · rw [if_neg hba]
        have he : a = b := UInt8.le_antisymm (UInt8.not_lt.1 hba) (UInt8.not_lt.1 hab)
        subst he
        refine ⟨⟨fun h => .inr ⟨rfl, h1.1 h⟩, fun h => by rcases h with h | ⟨_, h⟩; exact absurd h hab; exact h1.2 h⟩, ⟨fun h => by rw [h2.1 h], fun h => h2.2 (List.cons.inj h).2⟩⟩
theorem tri (a b : List UInt8) : a < b ∨ a = b ∨ b < a := by
  by_cases h : a < b
  · exact .inl h
  · by_cases k : b < a
    · exact .inr (.inr k)
    · exact .inr (.inl (List.le_antisymm (List.not_lt.1 k) (List.not_lt.1 h)))
theorem txt_beq (a b : ByteArray) : (a.toList == b.toList) = decide (a = b) := by
  rw [eq_ba a, eq_ba b, ba_toList, ba_toList]
  by_cases h : a.data.toList = b.data.toList
  · rw [h]; simp
  · rw [decide_eq_false (fun q => h (ba_inj.1 q)), beq_eq_false_iff_ne]; exact h
theorem sgq_is (x y : Sign) : ((((x.1.1.1 == y.1.1.1) && ((x.1.1.2.1 == y.1.1.2.1) && ((x.1.1.2.2.1 == y.1.1.2.2.1) && ((x.1.1.2.2.2.1 == y.1.1.2.2.2.1) && ((x.1.1.2.2.2.2.1 == y.1.1.2.2.2.2.1) && ((x.1.1.2.2.2.2.2 == y.1.1.2.2.2.2.2) && true)))))) && (((x.1.2.1.1 == y.1.2.1.1) && ((x.1.2.1.2 == y.1.2.1.2) && true)) && (((x.1.2.2.1.1 == y.1.2.2.1.1) && ((x.1.2.2.1.2.1 == y.1.2.2.1.2.1) && ((x.1.2.2.1.2.2 == y.1.2.2.1.2.2) && true))) && (((x.1.2.2.2.1.toList == y.1.2.2.2.1.toList) && ((x.1.2.2.2.2 == y.1.2.2.2.2) && true)) && true)))) && ((x.2.1 == y.2.1) && ((((x.2.2.1.1 == y.2.2.1.1) && ((x.2.2.1.2.1 == y.2.2.1.2.1) && ((x.2.2.1.2.2.1 == y.2.2.1.2.2.1) && ((x.2.2.1.2.2.2.1 == y.2.2.1.2.2.2.1) && ((x.2.2.1.2.2.2.2.1 == y.2.2.1.2.2.2.2.1) && ((x.2.2.1.2.2.2.2.2 == y.2.2.1.2.2.2.2.2) && true)))))) && (((x.2.2.2.1.1 == y.2.2.2.1.1) && ((x.2.2.2.1.2 == y.2.2.2.1.2) && true)) && (((x.2.2.2.2.1.1 == y.2.2.2.2.1.1) && ((x.2.2.2.2.1.2.1 == y.2.2.2.2.1.2.1) && ((x.2.2.2.2.1.2.2 == y.2.2.2.2.1.2.2) && true))) && (((x.2.2.2.2.2.1.toList == y.2.2.2.2.2.1.toList) && ((x.2.2.2.2.2.2 == y.2.2.2.2.2.2) && true)) && true)))) && true))) = decide (x = y) := by
  obtain ⟨⟨⟨x1, x2, x3, x4, x5, x6⟩, ⟨x7, x8⟩, ⟨x9, x10, x11⟩, ⟨x12, x13⟩⟩, x14, ⟨⟨x15, x16, x17, x18, x19, x20⟩, ⟨x21, x22⟩, ⟨x23, x24, x25⟩, ⟨x26, x27⟩⟩⟩ := x
  obtain ⟨⟨⟨y1, y2, y3, y4, y5, y6⟩, ⟨y7, y8⟩, ⟨y9, y10, y11⟩, ⟨y12, y13⟩⟩, y14, ⟨⟨y15, y16, y17, y18, y19, y20⟩, ⟨y21, y22⟩, ⟨y23, y24, y25⟩, ⟨y26, y27⟩⟩⟩ := y
  simp only [txt_beq]
  rw [Bool.eq_iff_iff]
  simp only [Bool.and_eq_true, beq_iff_eq, decide_eq_true_eq, Prod.mk.injEq, and_true]

/-! ### The order -/
def kS (s : Sign) : List UInt8 × List UInt8 := (hdT s.1, bif s.2.1 then hdT s.2.2 else [])
def pl (x y : List UInt8 × List UInt8) : Prop := x.1 < y.1 ∨ (x.1 = y.1 ∧ x.2 < y.2)
theorem pl_trans {x y z : List UInt8 × List UInt8} (h : pl x y) (k : pl y z) : pl x z := by
  rcases h with h | ⟨h, h'⟩ <;> rcases k with k | ⟨k, k'⟩
  · exact .inl (List.lt_trans h k)
  · exact .inl (by rw [← k]; exact h)
  · exact .inl (by rw [h]; exact k)
  · exact .inr ⟨h.trans k, List.lt_trans h' k'⟩
theorem pl_irrefl (x : List UInt8 × List UInt8) : ¬ pl x x := fun h => by
  rcases h with h | ⟨_, h⟩
  · exact List.lt_irrefl _ h
  · exact List.lt_irrefl _ h
theorem pl_tri (x y : List UInt8 × List UInt8) : pl x y ∨ x = y ∨ pl y x := by
  obtain ⟨a, b⟩ := x
  obtain ⟨c, d⟩ := y
  rcases tri a c with h | rfl | h
  · exact .inl (.inl h)
  · rcases tri b d with h | rfl | h
    · exact .inl (.inr ⟨rfl, h⟩)
    · exact .inr (.inl rfl)
    · exact .inr (.inr (.inr ⟨rfl, h⟩))
  · exact .inr (.inr (.inl h))
theorem pl_nt {x y z : List UInt8 × List UInt8} (h : ¬ pl x y) (k : ¬ pl y z) : ¬ pl x z := fun q => by
  rcases pl_tri x y with e | e | e
  · exact h e
  · rw [e] at q; exact k q
  · exact k (pl_trans e q)
def orI (a b : Int) : Int := bif a == 0 then b else a
theorem Or2_is (a b : Int) : F_cmp_Or_int [a, b] = some (orI a b) := by
  have e2 : ((2 : Nat) : Int) = 2 := rfl
  unfold F_cmp_Or_int
  rw [runL_eq]
  by_cases ha : a = 0
  · subst ha
    have s0 : step_cmp_Or_int_0 (0, ([0, b], (([0, b] : List Int).length : Int), 0)) = some (.inl (0, ([0, b], 2, 1))) := rfl
    simp only [s0]
    rw [runL_eq]
    by_cases hb : b = 0
    · subst hb
      have s1 : step_cmp_Or_int_0 (0, ([0, 0], 2, 1)) = some (.inl (0, ([0, 0], 2, 2))) := rfl
      simp only [s1]
      rw [runL_eq]
      have s2 : step_cmp_Or_int_0 (0, ([0, 0], 2, 2)) = some (.inr (.inr 0)) := rfl
      simp only [s2]
      rfl
    · have hb' : (b != 0) = true := bne_iff_ne.2 hb
      have s1 : step_cmp_Or_int_0 (0, ([0, b], 2, 1)) = some (.inr (.inl b)) := by simp [step_cmp_Or_int_0, hb']
      simp only [s1, orI, BEq.rfl, cond_true]
  · have ha' : (a != 0) = true := bne_iff_ne.2 ha
    have s0 : step_cmp_Or_int_0 (0, ([a, b], (([a, b] : List Int).length : Int), 0)) = some (.inr (.inl a)) := by simp [step_cmp_Or_int_0, ha']
    simp only [s0, orI, beq_eq_false_iff_ne.2 ha, cond_false]
def cmK (x y : List UInt8 × List UInt8) : Int := orI (Lib.compareBytes x.1 y.1) (Lib.compareBytes x.2 y.2)
def cmS (a b : Sign) : Int := cmK (kS a) (kS b)
theorem cmS_neg (a b : Sign) : cmS a b < 0 ↔ pl (kS a) (kS b) := by
  obtain ⟨h1, h2⟩ := cb_is (kS a).1 (kS b).1
  obtain ⟨k1, _⟩ := cb_is (kS a).2 (kS b).2
  unfold cmS cmK orI pl
  by_cases h0 : Lib.compareBytes (kS a).1 (kS b).1 = 0
  · have e := h2.1 h0
    rw [h0]
    simp only [BEq.rfl, cond_true, k1]
    exact ⟨fun h => .inr ⟨e, h⟩, fun h => by rcases h with h | ⟨_, h⟩; rw [e] at h; exact absurd h (List.lt_irrefl _); exact h⟩
  · rw [beq_eq_false_iff_ne.2 h0, cond_false, h1]
    exact ⟨.inl, fun h => by rcases h with h | ⟨h, _⟩; exact h; exact absurd (h2.2 h) h0⟩
theorem cmS_nt {x y z : Sign} (h : ¬ cmS x y < 0) (k : ¬ cmS y z < 0) : ¬ cmS x z < 0 := by
  rw [cmS_neg] at *
  exact pl_nt h k
theorem cmS_as {x y : Sign} (h : cmS x y < 0) : ¬ cmS y x < 0 := by
  rw [cmS_neg] at *
  exact fun k => pl_irrefl _ (pl_trans h k)
/-- signs whose hands are good, of one kind -/
structure WS (t : Bool) (s : Sign) : Prop where
  m : hdOK s.1 = true
  two : s.2.1 = t
  o : t = true → hdOK s.2.2 = true
  z : t = false → s.2.2 = hdZ
theorem hdT_inj {a b : Hand} (ha : hdOK a = true) (hb : hdOK b = true) (h : hdT a = hdT b) : a = b := by
  have e1 := hd_rt ha
  rw [h, hd_rt hb] at e1
  exact (congrArg Prod.fst e1).symm
theorem kS_inj {t : Bool} {a b : Sign} (ha : WS t a) (hb : WS t b) (h : kS a = kS b) : a = b := by
  obtain ⟨m, two, o⟩ := a
  obtain ⟨m', two', o'⟩ := b
  have h1 : m = m' := hdT_inj ha.m hb.m (congrArg Prod.fst h)
  have t1 : two = t := ha.two
  have t2 : two' = t := hb.two
  subst t1 h1
  subst t2
  have h2 := congrArg Prod.snd h
  cases two' with
  | true =>
    have : o = o' := hdT_inj (ha.o rfl) (hb.o rfl) h2
    rw [this]
  | false =>
    have e1 : o = hdZ := ha.z rfl
    have e2 : o' = hdZ := hb.z rfl
    rw [e1, e2]
theorem compareSigns_is {t : Bool} {a b : Sign} (ha : WS t a) (hb : WS t b) : F_impl_compareSigns (a, b) = some (cmS a b) := by
  obtain ⟨m, two, o⟩ := a
  obtain ⟨m', two', o'⟩ := b
  have t1 : two = t := ha.two
  have t2 : two' = t := hb.two
  subst t1
  subst t2
  have e1 := hdText_impl ha.m
  have e2 := hdText_impl hb.m
  simp only at e1 e2
  cases two' with
  | false =>
    simp only [F_impl_compareSigns, BEq.rfl, Bool.not_true, Bool.not_false, cond_false, cond_true, e1, e2, F_strings_Compare, ba_data, cmS, cmK, kS, orI]
    have hz : Lib.compareBytes ([] : List UInt8) [] = 0 := rfl
    rw [hz]
    by_cases h0 : Lib.compareBytes (hdT m) (hdT m') = 0
    · rw [h0]; rfl
    · rw [bne_iff_ne.2 h0, beq_eq_false_iff_ne.2 h0]; rfl
  | true =>
    have e3 := hdText_impl (ha.o rfl)
    have e4 := hdText_impl (hb.o rfl)
    simp only at e3 e4
    simp only [F_impl_compareSigns, BEq.rfl, Bool.not_true, cond_false, e1, e2, e3, e4, F_strings_Compare, ba_data, Or2_is, cmS, cmK, kS, cond_true]
theorem noBefore_is {t : Bool} {a b : Sign} (ha : WS t a) (hb : WS t b) : ∃ v, F_spec_noBefore (a, b) = some v ∧ (v = true ↔ pl (kS a) (kS b)) := by
  obtain ⟨m, two, o⟩ := a
  obtain ⟨m', two', o'⟩ := b
  have t1 : two = t := ha.two
  have t2 : two' = t := hb.two
  subst t1
  subst t2
  have e1 := hdText_spec ha.m
  have e2 := hdText_spec hb.m
  simp only at e1 e2
  simp only [F_spec_noBefore, e1, e2, ba_toList, beq_text, bytesLess_eq, pl, kS]
  by_cases h : hdT m = hdT m'
  · rw [decide_eq_true h]
    simp only [Bool.not_true, cond_false]
    have hi : ¬ hdT m < hdT m' := by rw [h]; exact List.lt_irrefl _
    cases two' with
    | false =>
      refine ⟨false, rfl, ⟨fun q => (by cases q), fun q => ?_⟩⟩
      rcases q with q | ⟨_, q⟩
      · exact absurd q hi
      · exact absurd q (List.lt_irrefl _)
    | true =>
      have e3 := hdText_spec (ha.o rfl)
      have e4 := hdText_spec (hb.o rfl)
      simp only at e3 e4
      refine ⟨decide (hdT o < hdT o'), ?_, ?_⟩
      · simp only [cond_true, e3, e4, ba_toList, bytesLess_eq]
      · simp only [decide_eq_true_eq, cond_true]
        exact ⟨fun q => .inr ⟨h, q⟩, fun q => q.elim (fun q => absurd q hi) fun q => q.2⟩
  · rw [decide_eq_false h]
    refine ⟨decide (hdT m < hdT m'), by simp only [Bool.not_false, cond_true], ?_⟩
    rw [decide_eq_true_eq]
    exact ⟨.inl, fun q => q.elim id fun q => absurd q.1 h⟩
/-! ### A list sorted -/
theorem at_y {α : Type} (T D : List α) (x y d : α) : (T ++ y :: x :: D).getD T.length d = y := by simp [List.getD]
theorem at_x {α : Type} (T D : List α) (x y d : α) : (T ++ y :: x :: D).getD (T.length + 1) d = x := by
  rw [List.getD, List.getElem?_append_right (by omega)]
  simp
theorem swap_yx {α : Type} (T D : List α) (x y : α) : ((T ++ y :: x :: D).set (T.length + 1) y).set T.length x = T ++ x :: y :: D := by
  have h1 : (T ++ y :: x :: D).set (T.length + 1) y = T ++ y :: y :: D := by
    rw [List.set_append, if_neg (by omega)]
    simp
  rw [h1, List.set_append, if_neg (by omega)]
  simp
theorem ins_inner (φ : Sign × Sign → Option Int) (c : Sign → Sign → Int) (P : List Sign) (x : Sign) (R : List Sign) (b : Int) (hφ : ∀ y ∈ P, φ (x, y) = some (c x y)) (hl : P.length ≤ 100000) :
    ∃ k, k ≤ P.length ∧ (∀ j, k ≤ j → j < P.length → c x (P.getD j dz27) < 0) ∧ (0 < k → ¬ c x (P.getD (k - 1) dz27) < 0) ∧
      runL step_slices_insertionSortCmpFunc_impl_Sign_0 ((0 : Int), (b, (φ, ((P.length : Int), ((P.length : Int), P ++ x :: R))))) = some ((0 : Int), (b, (φ, ((P.length : Int), P.take k ++ x :: (P.drop k ++ R))))) := by
  obtain ⟨o, ho, k, hk, h1, h2, e⟩ := runL_inv (f := step_slices_insertionSortCmpFunc_impl_Sign_0) (fun s => ∃ j : Nat, s = ((0 : Int), (b, (φ, ((P.length : Int), ((j : Int), P.take j ++ x :: (P.drop j ++ R)))))) ∧ j ≤ P.length ∧ ∀ i, j ≤ i → i < P.length → c x (P.getD i dz27) < 0)
    (fun o => ∃ k, k ≤ P.length ∧ (∀ j, k ≤ j → j < P.length → c x (P.getD j dz27) < 0) ∧ (0 < k → ¬ c x (P.getD (k - 1) dz27) < 0) ∧ o = ((0 : Int), (b, (φ, ((P.length : Int), P.take k ++ x :: (P.drop k ++ R)))))) (fun s => s.2.2.2.2.1.toNat) (by
    rintro s ⟨j, rfl, hj, hlt⟩
    match j, hj, hlt with
    | 0, hj, hlt =>
      left
      refine ⟨_, ?_, 0, hj, hlt, fun h => absurd h (Nat.lt_irrefl 0), rfl⟩
      have g : decide (((0 : Nat) : Int) > 0) = false := rfl
      simp only [step_slices_insertionSortCmpFunc_impl_Sign_0, g, cond_false]
    | n + 1, hj, hlt =>
      have hn : n < P.length := by omega
      have hT : (P.take n).length = n := by rw [List.length_take]; omega
      have e1 : P.take (n + 1) ++ x :: (P.drop (n + 1) ++ R) = P.take n ++ P.getD n dz27 :: x :: (P.drop (n + 1) ++ R) := by
        rw [take_succ_getD hn dz27, List.append_assoc]; rfl
      have e2 : P.take n ++ x :: (P.drop n ++ R) = P.take n ++ x :: P.getD n dz27 :: (P.drop (n + 1) ++ R) := by
        have : P.getD n dz27 = P[n] := by simp [List.getD, hn]
        rw [List.drop_eq_getElem_cons hn, this]; rfl
      have gx := at_x (P.take n) (P.drop (n + 1) ++ R) x (P.getD n dz27) dz27
      have gy := at_y (P.take n) (P.drop (n + 1) ++ R) x (P.getD n dz27) dz27
      have sw := swap_yx (P.take n) (P.drop (n + 1) ++ R) x (P.getD n dz27)
      rw [hT] at gx gy sw
      have hlen : (P.take n ++ P.getD n dz27 :: x :: (P.drop (n + 1) ++ R)).length = P.length + 1 + R.length := by simp; omega
      rw [e1]
      generalize hD : P.take n ++ P.getD n dz27 :: x :: (P.drop (n + 1) ++ R) = D at gx gy sw hlen
      have hp := hφ (P.getD n dz27) (getD_mem hn dz27)
      have g0 : decide (((n + 1 : Nat) : Int) > 0) = true := decide_eq_true (by omega)
      have w1 := wrap_pred (i := n + 1) (by omega) (by omega)
      rw [Nat.add_sub_cancel] at w1
      have l1 : n + 1 < D.length := by omega
      have l2 : n < D.length := by omega
      by_cases hc : c x (P.getD n dz27) < 0
      · right
        refine ⟨((0 : Int), (b, (φ, ((P.length : Int), ((n : Int), P.take n ++ x :: (P.drop n ++ R)))))), ?_, ⟨n, rfl, by omega, fun i hi hil => ?_⟩, by simp⟩
        · rw [e2, ← sw]
          simp only [step_slices_insertionSortCmpFunc_impl_Sign_0, g0, cond_true, lt_len l1, nonneg, Bool.and_self, w1, lt_len l2, Int.toNat_natCast, gx, gy, hp, decide_eq_true hc, List.length_set]
        · rcases Nat.lt_or_ge n i with q | q
          · exact hlt i (by omega) hil
          · have : i = n := by omega
            subst this; exact hc
      · left
        refine ⟨((0 : Int), (b, (φ, ((P.length : Int), D)))), ?_, n + 1, hj, hlt, fun _ => by rw [Nat.add_sub_cancel]; exact hc, by rw [e1, hD]⟩
        simp only [step_slices_insertionSortCmpFunc_impl_Sign_0, g0, cond_true, lt_len l1, nonneg, Bool.and_self, w1, lt_len l2, Int.toNat_natCast, gx, gy, hp, decide_eq_false hc, cond_false]) ((0 : Int), (b, (φ, ((P.length : Int), ((P.length : Int), P ++ x :: R))))) ⟨P.length, by simp, Nat.le_refl _, fun i h1 h2 => by omega⟩
  subst e
  exact ⟨k, hk, h1, h2, ho⟩
theorem put_weakG {c : Sign → Sign → Int} (nt : ∀ x y z, ¬ c x y < 0 → ¬ c y z < 0 → ¬ c x z < 0) (asy : ∀ x y, c x y < 0 → ¬ c y x < 0) {P : List Sign} {x : Sign} {k : Nat} (hk : k ≤ P.length) (hp : P.Pairwise (fun a b => ¬ c b a < 0))
    (h1 : ∀ j, k ≤ j → j < P.length → c x (P.getD j dz27) < 0) (h2 : 0 < k → ¬ c x (P.getD (k - 1) dz27) < 0) : (P.take k ++ x :: P.drop k).Pairwise (fun a b => ¬ c b a < 0) := by
  have hg : ∀ j (hj : j < P.length), P.getD j dz27 = P[j] := fun j hj => by simp [List.getD, hj]
  have hq := hp
  rw [← List.take_append_drop k P, List.pairwise_append] at hq
  obtain ⟨q1, q2, q3⟩ := hq
  have hx : ∀ a ∈ P.take k, ¬ c x a < 0 := fun a ha => by
    obtain ⟨j, hj, rfl⟩ := List.getElem_of_mem ha
    have hj' : j < k := by simp at hj; omega
    have h2' := h2 (by omega)
    rw [hg (k - 1) (by omega)] at h2'
    rw [List.getElem_take]
    by_cases e : j = k - 1
    · subst e; exact h2'
    · exact nt _ _ _ h2' (List.pairwise_iff_getElem.1 hp j (k - 1) (by omega) (by omega) (by omega))
  rw [List.pairwise_append]
  refine ⟨q1, List.pairwise_cons.2 ⟨fun d hd => ?_, q2⟩, fun a ha d hd => ?_⟩
  · obtain ⟨j, hj, rfl⟩ := List.getElem_of_mem hd
    have hj' : k + j < P.length := by simp at hj; omega
    have := h1 (k + j) (by omega) hj'
    rw [hg _ hj'] at this
    rw [List.getElem_drop]
    exact asy _ _ this
  · rcases List.mem_cons.1 hd with rfl | hd
    · exact hx a ha
    · exact q3 a ha d hd
theorem put_permG (P : List Sign) (x : Sign) (k : Nat) : (P.take k ++ x :: P.drop k).Perm (P ++ [x]) := by
  have h := List.perm_middle (a := x) (l₁ := P.take k) (l₂ := P.drop k)
  rw [List.take_append_drop] at h
  exact h.trans (List.perm_append_comm (l₁ := [x]) (l₂ := P))
theorem insertion_is (φ : Sign × Sign → Option Int) (c : Sign → Sign → Int) (nt : ∀ x y z, ¬ c x y < 0 → ¬ c y z < 0 → ¬ c x z < 0) (asy : ∀ x y, c x y < 0 → ¬ c y x < 0) (l : List Sign) (hφ : ∀ x ∈ l, ∀ y ∈ l, φ (x, y) = some (c x y)) (hl : l.length ≤ 100000) :
    ∃ r, F_slices_insertionSortCmpFunc_impl_Sign (l, (0 : Int), (l.length : Int), φ) = some r ∧ r.Perm l ∧ r.Pairwise (fun a b => ¬ c b a < 0) := by
  obtain ⟨o, ho, h1, h2⟩ := runL_inv (f := step_slices_insertionSortCmpFunc_impl_Sign_1) (fun s => ∃ (i : Nat) (P : List Sign), s = ((0 : Int), ((l.length : Int), (φ, ((i : Int), P ++ l.drop i)))) ∧ 1 ≤ i ∧ P.Perm (l.take i) ∧ P.Pairwise (fun a b => ¬ c b a < 0))
    (fun o => o.Perm l ∧ o.Pairwise (fun a b => ¬ c b a < 0)) (fun s => l.length - s.2.2.2.1.toNat) (by
    rintro s ⟨i, P, rfl, hi, hp, hw⟩
    rcases Nat.lt_or_ge i l.length with hlt | hge
    · right
      have hPl : P.length = i := by rw [hp.length_eq, List.length_take]; omega
      subst hPl
      have hd : l.drop P.length = l.getD P.length dz27 :: l.drop (P.length + 1) := by
        have : l.getD P.length dz27 = l[P.length] := by simp [List.getD, hlt]
        rw [List.drop_eq_getElem_cons hlt, this]
      have hx := getD_mem hlt dz27
      obtain ⟨k, hk, k1, k2, hr⟩ := ins_inner φ c P (l.getD P.length dz27) (l.drop (P.length + 1)) (l.length : Int) (fun y hy => hφ _ hx _ (List.mem_of_mem_take (hp.subset hy))) (by omega)
      have w1 := wrap_succ (i := P.length) (by omega)
      refine ⟨((0 : Int), ((l.length : Int), (φ, (((P.length + 1 : Nat) : Int), (P.take k ++ l.getD P.length dz27 :: P.drop k) ++ l.drop (P.length + 1))))), ?_, ⟨P.length + 1, _, rfl, by omega, ?_, put_weakG nt asy hk hw k1 k2⟩, by simp; omega⟩
      · rw [hd]
        have g : decide ((P.length : Int) < (l.length : Int)) = true := lt_len hlt
        simp only [step_slices_insertionSortCmpFunc_impl_Sign_1, g, cond_true, hr, w1, List.append_assoc, List.cons_append]
      · rw [take_succ_getD hlt dz27]
        exact (put_permG P _ k).trans (hp.append_right _)
    · left
      have g : decide ((i : Int) < (l.length : Int)) = false := decide_eq_false (by omega)
      refine ⟨P ++ l.drop i, by simp only [step_slices_insertionSortCmpFunc_impl_Sign_1, g, cond_false], ?_⟩
      rw [List.drop_eq_nil_of_le hge, List.append_nil]
      rw [List.take_of_length_le hge] at hp
      exact ⟨hp, hw⟩) ((0 : Int), ((l.length : Int), (φ, ((1 : Int), l)))) ⟨1, l.take 1, by rw [List.take_append_drop]; rfl, Nat.le_refl _, List.Perm.refl _, by
        match l with
        | [] => exact List.Pairwise.nil
        | a :: l => exact List.pairwise_cons.2 ⟨fun b hb => (by cases hb), List.Pairwise.nil⟩⟩
  have w0 : IntKind.i64.wrap ((0 : Int) + 1) = 1 := rfl
  exact ⟨o, by simp only [F_slices_insertionSortCmpFunc_impl_Sign, w0, ho], h1, h2⟩
theorem SortFunc_is (φ : Sign × Sign → Option Int) (c : Sign → Sign → Int) (nt : ∀ x y z, ¬ c x y < 0 → ¬ c y z < 0 → ¬ c x z < 0) (asy : ∀ x y, c x y < 0 → ¬ c y x < 0) (l : List Sign) (hφ : ∀ x ∈ l, ∀ y ∈ l, φ (x, y) = some (c x y)) (hl : l.length ≤ 12) :
    ∃ r, F_slices_SortFunc_impl_Sign_impl_Sign (l, φ) = some r ∧ r.Perm l ∧ r.Pairwise (fun a b => ¬ c b a < 0) := by
  obtain ⟨r, e, h1, h2⟩ := insertion_is φ c nt asy l hφ (by omega)
  have w0 : IntKind.u64.wrap (l.length : Int) = (l.length : Int) := by simp [IntKind.wrap, IntKind.bits, IntKind.signed]; omega
  have w1 : IntKind.i64.wrap ((l.length : Int) - 0) = (l.length : Int) := by rw [Int.sub_zero]; exact wrap_id (by omega) (by omega)
  have g1 : (decide (0 ≤ (l.length : Int)) && decide ((l.length : Int) ≤ 18446744073709551615)) = true := by rw [decide_eq_true (by omega), decide_eq_true (by omega)]; rfl
  have g2 : decide ((l.length : Int) ≤ 12) = true := decide_eq_true (by omega)
  have s : ∀ q, step_slices_pdqsortCmpFunc_impl_Sign_0 ((0 : Int), ((l.length : Int), (q, (φ, (true, (true, l)))))) = some (.inr r) := fun q => by
    simp only [step_slices_pdqsortCmpFunc_impl_Sign_0, w1, g2, cond_true, e]
  refine ⟨r, ?_, h1, h2⟩
  simp only [F_slices_SortFunc_impl_Sign_impl_Sign, w0, F_bits_Len, g1, cond_true, F_slices_pdqsortCmpFunc_impl_Sign, runL_end (s _)]
/-! ### Runs of the same -/
/-- runs of the same become one -/
def cpt : List Sign → List Sign
  | [] => []
  | [a] => [a]
  | a :: b :: l => if a = b then cpt (b :: l) else a :: cpt (b :: l)
theorem cpt_snoc (x : Sign) : ∀ l : List Sign, cpt (l ++ [x]) = if l.getLast? = some x then cpt l else cpt l ++ [x]
  | [] => rfl
  | [a] => by
    show (if a = x then [x] else a :: [x]) = _
    by_cases h : a = x
    · subst h; simp [cpt]
    · simp [cpt, h]
  | a :: b :: l => by
    have ih := cpt_snoc x (b :: l)
    show (if a = b then cpt (b :: l ++ [x]) else a :: cpt (b :: l ++ [x])) = _
    rw [ih, List.getLast?_cons_cons]
    by_cases h : a = b
    · simp [cpt, h]
    · by_cases hx : (b :: l).getLast? = some x
      · simp [cpt, h, hx]
      · simp [cpt, h, hx]
theorem cpt_mem : ∀ (l : List Sign) (x : Sign), x ∈ cpt l ↔ x ∈ l
  | [], _ => Iff.rfl
  | [_], _ => Iff.rfl
  | a :: b :: l, x => by
    have ih := cpt_mem (b :: l) x
    unfold cpt
    split
    · rename_i h
      rw [ih, h]
      simp
    · simp only [List.mem_cons] at ih ⊢
      rw [ih]
theorem take_last {l : List Sign} {i : Nat} (h0 : 0 < i) (h : i ≤ l.length) : (l.take i).getLast? = some (l.getD (i - 1) dz27) := by
  have e : l.take i = l.take (i - 1) ++ [l.getD (i - 1) dz27] := by
    have := take_succ_getD (l := l) (i := i - 1) (by omega) dz27
    rwa [show i - 1 + 1 = i by omega] at this
  rw [e, List.getLast?_append]
  simp
theorem cpt_next {l : List Sign} {i : Nat} (h0 : 0 < i) (h : i < l.length) : cpt (l.take (i + 1)) = if l.getD (i - 1) dz27 = l.getD i dz27 then cpt (l.take i) else cpt (l.take i) ++ [l.getD i dz27] := by
  rw [take_succ_getD h dz27, cpt_snoc, take_last h0 (by omega)]
  simp

theorem compact_inner (x : List Sign) (i : Nat) (hx : x.length ≤ 1048576000) (h0 : 0 < i) (hi : i < x.length) (hp : cpt (x.take i) = x.take i) (he : x.getD (i - 1) dz27 = x.getD i dz27) :
    ∃ o, runL step_slices_Compact_impl_Sign_impl_Sign_0 ((i : Int), (i : Int), (((x.length - i : Nat) : Int), 1, x)) = some o ∧ ∃ (k : Nat) (cur : List Sign), o = ((k : Int), cur) ∧ k ≤ x.length ∧ cur.length = x.length ∧ cur.take k = cpt x := by
  refine runL_inv (f := step_slices_Compact_impl_Sign_impl_Sign_0) (fun s => ∃ (k j : Nat) (cur : List Sign), s = ((k : Int), (i : Int), (((x.length - i : Nat) : Int), (j : Int), cur)) ∧ 1 ≤ j ∧ j ≤ x.length - i ∧ k < i + j ∧ cur.length = x.length ∧ cur.take k = cpt (x.take (i + j)) ∧ ∀ t, i + j ≤ t + 1 → t < x.length → cur.getD t dz27 = x.getD t dz27)
    (fun o => ∃ (k : Nat) (cur : List Sign), o = ((k : Int), cur) ∧ k ≤ x.length ∧ cur.length = x.length ∧ cur.take k = cpt x) (fun s => x.length - s.2.2.2.1.toNat) ?_ _
    ⟨i, 1, x, rfl, Nat.le_refl _, by omega, by omega, rfl, by rw [cpt_next h0 hi, if_pos he, hp], fun t _ _ => rfl⟩
  rintro s ⟨k, j, cur, rfl, hj1, hj2, hk, hcl, hct, hsame⟩
  rcases Nat.lt_or_ge j (x.length - i) with hlt | hge
  · right
    have w1 := wrap_pred (i := j) (by omega) (by omega)
    have w2 := wrap_succ (i := k) (by omega)
    have w3 := wrap_succ (i := j) (by omega)
    have g1 : cur.getD (i + j) dz27 = x.getD (i + j) dz27 := hsame _ (by omega) (by omega)
    have g2 : cur.getD (i + (j - 1)) dz27 = x.getD (i + j - 1) dz27 := by rw [show i + (j - 1) = i + j - 1 by omega]; exact hsame _ (by omega) (by omega)
    have hn := cpt_next (l := x) (i := i + j) (by omega) (by omega)
    have hkl : k < cur.length := by omega
    by_cases hq : x.getD (i + j) dz27 = x.getD (i + j - 1) dz27
    · have hb := decide_eq_true hq
      refine ⟨((k : Int), (i : Int), (((x.length - i : Nat) : Int), ((j + 1 : Nat) : Int), cur)), ?_, ⟨k, j + 1, cur, rfl, by omega, by omega, by omega, hcl, ?_, fun t ht htl => hsame t (by omega) htl⟩, by simp; omega⟩
      · simp only [step_slices_Compact_impl_Sign_impl_Sign_0, Int.toNat_natCast, lt_len hlt, nonneg, Bool.and_self, cond_true, w1, lt_len (show j - 1 < x.length - i by omega), g1, g2, sgq_is, hb, Bool.not_true, cond_false, w3]
      · rw [show i + (j + 1) = i + j + 1 by omega, hn, if_pos hq.symm]; exact hct
    · have hb := decide_eq_false hq
      refine ⟨(((k + 1 : Nat) : Int), (i : Int), (((x.length - i : Nat) : Int), ((j + 1 : Nat) : Int), cur.set k (x.getD (i + j) dz27))), ?_, ⟨k + 1, j + 1, _, rfl, by omega, by omega, by omega, by simp [hcl], ?_, fun t ht htl => ?_⟩, by simp; omega⟩
      · simp only [step_slices_Compact_impl_Sign_impl_Sign_0, Int.toNat_natCast, lt_len hlt, nonneg, Bool.and_self, cond_true, w1, lt_len (show j - 1 < x.length - i by omega), g1, g2, sgq_is, hb, Bool.not_false, lt_len hkl, w2, w3]
      · rw [show i + (j + 1) = i + j + 1 by omega, hn, if_neg (fun e => hq e.symm), ← hct]
        rw [take_succ_getD (by simpa using hkl) dz27, List.take_set, List.set_eq_of_length_le (by simp; omega)]
        simp [List.getD, hkl]
      · have hne : k ≠ t := by omega
        have := hsame t (by omega) htl
        simpa [List.getD, List.getElem?_set, hne] using this
  · left
    have hj : j = x.length - i := by omega
    subst hj
    refine ⟨((k : Int), cur), by simp only [step_slices_Compact_impl_Sign_impl_Sign_0, Int.toNat_natCast, not_lt_len, cond_false], k, cur, rfl, by omega, hcl, ?_⟩
    rw [hct, show i + (x.length - i) = x.length by omega, List.take_length]

theorem compact_is (x : List Sign) (hx : x.length ≤ 1048576000) : F_slices_Compact_impl_Sign_impl_Sign x = some (cpt x) := by
  unfold F_slices_Compact_impl_Sign_impl_Sign
  by_cases h2 : (x.length : Int) < 2
  · rw [decide_eq_true h2]
    match x, h2 with
    | [], _ => rfl
    | [a], _ => rfl
    | a :: b :: l, h2 => simp at h2; omega
  · rw [decide_eq_false h2]
    obtain ⟨o, ho, hq⟩ := runL_inv (f := step_slices_Compact_impl_Sign_impl_Sign_1) (fun s => ∃ i : Nat, s = ((i : Int), x) ∧ 1 ≤ i ∧ i ≤ x.length ∧ cpt (x.take i) = x.take i)
      (fun o => (o = .inr x ∧ cpt x = x) ∨ ∃ (k : Nat) (c : List Sign), o = .inl (0, ((k : Int), c)) ∧ c.take k = cpt x) (fun s => x.length - s.1.toNat) (by
      rintro s ⟨i, rfl, hi1, hi2, hp⟩
      rcases Nat.lt_or_ge i x.length with hlt | hge
      · have w1 := wrap_pred (i := i) (by omega) hi1
        have w2 := wrap_succ (i := i) (by omega)
        by_cases hq : x.getD i dz27 = x.getD (i - 1) dz27
        · left
          have hb := decide_eq_true hq
          obtain ⟨o, ho, k, cur, rfl, hk, hcl, hct⟩ := compact_inner x i hx hi1 hlt hp hq.symm
          have g1 : decide ((i : Int) ≤ (x.length : Int)) = true := decide_eq_true (by omega)
          have g2 : decide ((x.length : Int) ≤ (x.length : Int)) = true := decide_eq_true (Int.le_refl _)
          have g3 : decide ((k : Int) ≤ (cur.length : Int)) = true := decide_eq_true (by omega)
          have g4 : decide ((cur.length : Int) ≤ (cur.length : Int)) = true := decide_eq_true (Int.le_refl _)
          have g5 : decide (k + (cur.length - k) ≤ cur.length) = true := decide_eq_true (by omega)
          have g6 : decide ((k : Int) ≤ (((cur.take k ++ List.replicate (cur.length - k) ((((0, (0, 0, (0, 0, false))), (0, 0), ((0, 0, false), ByteArray.empty, 0)), false, ((0, (0, 0, (0, 0, false))), (0, 0), ((0, 0, false), ByteArray.empty, 0))) : Sign) ++ cur.drop (k + (cur.length - k))).length : Nat) : Int)) = true := decide_eq_true (by simp; omega)
          have g0 : decide (0 ≤ (0 : Int)) = true := rfl
          have z0 : ((0 : Int).toNat) = 0 := rfl
          refine ⟨.inl (0, ((k : Int), cur.take k ++ List.replicate (cur.length - k) ((((0, (0, 0, (0, 0, false))), (0, 0), ((0, 0, false), ByteArray.empty, 0)), false, ((0, (0, 0, (0, 0, false))), (0, 0), ((0, 0, false), ByteArray.empty, 0))) : Sign) ++ cur.drop (k + (cur.length - k)))), ?_, .inr ⟨k, _, rfl, ?_⟩⟩
          · simp only [step_slices_Compact_impl_Sign_impl_Sign_1, lt_len hlt, nonneg, Bool.and_self, cond_true, w1, lt_len (show i - 1 < x.length by omega), Int.toNat_natCast, sgq_is, hb, g1, g2, ho, g3, g4, g5, g6, g0, z0, Nat.sub_zero, Int.ofNat_zero]
          · rw [List.append_assoc, List.take_append_of_le_length (by simp; omega), List.take_take, Nat.min_self, hct]
        · right
          have hb := decide_eq_false hq
          refine ⟨(((i + 1 : Nat) : Int), x), ?_, ⟨i + 1, rfl, by omega, by omega, ?_⟩, by simp; omega⟩
          · simp only [step_slices_Compact_impl_Sign_impl_Sign_1, lt_len hlt, nonneg, Bool.and_self, cond_true, w1, lt_len (show i - 1 < x.length by omega), Int.toNat_natCast, sgq_is, hb, cond_false, w2]
          · rw [cpt_next hi1 hlt, if_neg (fun e => hq e.symm), hp, take_succ_getD hlt dz27]
      · left
        have : i = x.length := by omega
        subst this
        refine ⟨.inr x, by simp only [step_slices_Compact_impl_Sign_impl_Sign_1, not_lt_len, cond_false], .inl ⟨rfl, ?_⟩⟩
        rwa [List.take_length] at hp) (1, x) ⟨1, rfl, Nat.le_refl _, by omega, by
        match x, h2 with
        | a :: l, _ => rfl⟩
    simp only [ho, cond_false]
    rcases hq with ⟨rfl, e⟩ | ⟨k, c, rfl, e⟩
    · simp only [e]
    · have h0 : ((0 : Int).toNat) = 0 := rfl
      simp [e]


def SL (a b : Sign) : Prop := pl (kS a) (kS b)
theorem cpt_riseS {t : Bool} : ∀ {l : List Sign}, (∀ s ∈ l, WS t s) → l.Pairwise (fun a b => ¬ cmS b a < 0) → (cpt l).Pairwise SL
  | [], _, _ => List.Pairwise.nil
  | [a], _, _ => by simp [cpt]
  | a :: b :: l, hw, h => by
    obtain ⟨h1, h2⟩ := List.pairwise_cons.1 h
    have ih := cpt_riseS (fun s hs => hw s (List.mem_cons_of_mem _ hs)) h2
    unfold cpt
    split
    · exact ih
    · rename_i hne
      refine List.pairwise_cons.2 ⟨fun x hx => ?_, ih⟩
      have hx := (cpt_mem _ x).1 hx
      have wa := hw a (by simp)
      have wb := hw b (by simp)
      have hab : pl (kS a) (kS b) := by
        rcases pl_tri (kS a) (kS b) with e | e | e
        · exact e
        · exact absurd (kS_inj wa wb e) hne
        · exact absurd ((cmS_neg b a).2 e) (h1 b (by simp))
      rcases List.mem_cons.1 hx with rfl | hx'
      · exact hab
      · have hbx : ¬ pl (kS x) (kS b) := fun q => (List.pairwise_cons.1 h2).1 x hx' ((cmS_neg x b).2 q)
        rcases pl_tri (kS a) (kS x) with e | e | e
        · exact e
        · exfalso; rw [← e] at hbx; exact hbx hab
        · exfalso; exact hbx (pl_trans e hab)
/-- two strictly rising lists with the same signs are one -/
theorem rise_eqS : ∀ {p q : List Sign}, p.Pairwise SL → q.Pairwise SL → (∀ x, x ∈ p ↔ x ∈ q) → p = q
  | [], [], _, _, _ => rfl
  | [], b :: q, _, _, h => absurd ((h b).2 (by simp)) (by simp)
  | a :: p, [], _, _, h => absurd ((h a).1 (by simp)) (by simp)
  | a :: p, b :: q, hp, hq, h => by
    obtain ⟨p1, p2⟩ := List.pairwise_cons.1 hp
    obtain ⟨q1, q2⟩ := List.pairwise_cons.1 hq
    have hab : a = b := by
      rcases List.mem_cons.1 ((h a).1 (by simp)) with e | e
      · exact e
      · rcases List.mem_cons.1 ((h b).2 (by simp)) with e2 | e2
        · exact e2.symm
        · exact absurd (pl_trans (p1 b e2) (q1 a e)) (pl_irrefl _)
    subst hab
    rw [rise_eqS p2 q2 fun x => ⟨fun hx => ?_, fun hx => ?_⟩]
    · rcases List.mem_cons.1 ((h x).1 (List.mem_cons_of_mem _ hx)) with e | e
      · subst e; exact absurd (p1 x hx) (pl_irrefl _)
      · exact e
    · rcases List.mem_cons.1 ((h x).2 (List.mem_cons_of_mem _ hx)) with e | e
      · subst e; exact absurd (q1 x hx) (pl_irrefl _)
      · exact e
/-! ### One more at its place -/
def flH {β : Type} (h : Hand) (r : β) := (h.1.1, h.1.2.1, h.1.2.2.1, h.1.2.2.2.1, h.1.2.2.2.2.1, h.1.2.2.2.2.2, h.2.1.1, h.2.1.2, h.2.2.1.1, h.2.2.1.2.1, h.2.2.1.2.2, h.2.2.2.1, h.2.2.2.2, r)
def flS0 (s : Sign) := flH s.1 (s.2.1, s.2.2.1.1, s.2.2.1.2.1, s.2.2.1.2.2.1, s.2.2.1.2.2.2.1, s.2.2.1.2.2.2.2.1, s.2.2.1.2.2.2.2.2, s.2.2.2.1.1, s.2.2.2.1.2, s.2.2.2.2.1.1, s.2.2.2.2.1.2.1, s.2.2.2.2.1.2.2, s.2.2.2.2.2.1, s.2.2.2.2.2.2)
theorem noFind_is (l : List Sign) (s : Sign) (hl : l.length ≤ 1048576) : F_spec_noFind (l, s) = some (firstN (fun i => decide (l.getD i dz27 = s)) l.length) := by
  have t := runL_find (f := step_spec_noFind_0) (fun i => decide (l.getD i dz27 = s)) (fun i => (l, ((l.length : Int), ((i : Int), flS0 s)))) (fun n => bif decide (n < 0) then .inr () else .inl n) l.length (fun i hi => by
    have hw := wrap_succ (i := i) (by omega)
    have hq := sgq_is (l.getD i dz27) s
    generalize decide (l.getD i dz27 = s) = c at hq
    obtain ⟨⟨⟨a1, a2, a3, a4, a5, a6⟩, ⟨b1, b2⟩, ⟨c1, c2, c3⟩, ⟨d1, d2⟩⟩, tw, ⟨⟨f1, f2, f3, f4, f5, f6⟩, ⟨g1, g2⟩, ⟨i1, i2, i3⟩, ⟨j1, j2⟩⟩⟩ := s
    dsimp only [step_spec_noFind_0, flS0, flH] at hq ⊢
    simp only [lt_len hi, nonneg, Bool.and_self, cond_true, Int.toNat_natCast, hw, decide_eq_false (show ¬ (i : Int) < 0 by omega), cond_false, hq]
    cases c <;> rfl) (by
    dsimp only [step_spec_noFind_0, flS0, flH]
    simp)
  have t' : runL step_spec_noFind_0 (l, ((l.length : Int), ((0 : Int), flS0 s))) = _ := t
  have u : F_spec_noFind (l, s) = match runL step_spec_noFind_0 (l, ((l.length : Int), ((0 : Int), flS0 s))) with | none => none | some (.inl o) => some o | some (.inr _) => some (-1) := rfl
  rw [u, t']
  rcases firstN_cases (fun i => decide (l.getD i dz27 = s)) l.length with ⟨h, _⟩ | ⟨i, _, h, _⟩
  · rw [h]; rfl
  · rw [h, decide_eq_false (show ¬ (i : Int) < 0 by omega)]; rfl
theorem noPut_is {t : Bool} (l : List Sign) (s : Sign) (hl : l.length ≤ 1000) (hw : ∀ x ∈ l, WS t x) (hs : WS t s) (hp : l.Pairwise SL) :
    ∃ q, F_spec_noPut (l, s) = some q ∧ (∀ x, x ∈ q ↔ x ∈ l ∨ x = s) ∧ q.Pairwise SL ∧ q.length ≤ l.length + 1 := by
  have hf := noFind_is l s (by omega)
  rcases firstN_cases (fun i => decide (l.getD i dz27 = s)) l.length with ⟨h, hn⟩ | ⟨i, hi, h, hq, _⟩
  · rw [h] at hf
    have hno : s ∉ l := fun hm => by
      obtain ⟨j, hj, e⟩ := List.getElem_of_mem hm
      have := hn j hj
      simp only [List.getD, List.getElem?_eq_getElem hj, Option.getD_some, e, decide_true] at this
      cases this
    have hg : ∀ j (hj : j < l.length), l.getD j dz27 = l[j] := fun j hj => by simp [List.getD, hj]
    obtain ⟨o, ho, k, hk, k1, k2, e⟩ := runL_inv (f := step_spec_noPut_0) (fun st => ∃ j : Nat, st = (l, ((j : Int), flS0 s)) ∧ j ≤ l.length ∧ ∀ i, i < j → pl (kS (l.getD i dz27)) (kS s))
      (fun o => ∃ k, k ≤ l.length ∧ (∀ i, i < k → pl (kS (l.getD i dz27)) (kS s)) ∧ (k < l.length → ¬ pl (kS (l.getD k dz27)) (kS s)) ∧ o = (l, ((k : Int), flS0 s))) (fun st => l.length - st.2.1.toNat) (by
      rintro st ⟨j, rfl, hj, hlt⟩
      rcases Nat.lt_or_ge j l.length with q | q
      · obtain ⟨v, hv, hv2⟩ := noBefore_is (hw _ (getD_mem q dz27)) hs
        have hw1 := wrap_succ (i := j) (by omega)
        have key : step_spec_noPut_0 (l, ((j : Int), flS0 s)) = some (bif v then .inl (l, (((j + 1 : Nat) : Int), flS0 s)) else .inr (l, ((j : Int), flS0 s))) := by
          obtain ⟨⟨⟨a1, a2, a3, a4, a5, a6⟩, ⟨b1, b2⟩, ⟨c1, c2, c3⟩, ⟨d1, d2⟩⟩, tw, ⟨⟨f1, f2, f3, f4, f5, f6⟩, ⟨g1, g2⟩, ⟨i1, i2, i3⟩, ⟨j1, j2⟩⟩⟩ := s
          dsimp only [step_spec_noPut_0, flS0, flH]
          simp only [lt_len q, nonneg, Bool.and_self, cond_true, Int.toNat_natCast, hv, hw1]
          cases v <;> rfl
        cases v with
        | true =>
          right
          refine ⟨_, key, ⟨j + 1, rfl, by omega, fun i hi => ?_⟩, by simp; omega⟩
          rcases Nat.lt_or_ge i j with r | r
          · exact hlt i r
          · have : i = j := by omega
            subst this; exact hv2.1 rfl
        | false =>
          left
          exact ⟨_, key, j, hj, hlt, fun _ r => (by have := hv2.2 r; cases this), rfl⟩
      · left
        have : j = l.length := by omega
        subst this
        refine ⟨(l, ((l.length : Int), flS0 s)), ?_, l.length, Nat.le_refl _, hlt, fun r => absurd r (Nat.lt_irrefl _), rfl⟩
        dsimp only [step_spec_noPut_0, flS0, flH]
        simp only [not_lt_len, cond_false]) (l, ((0 : Int), flS0 s)) ⟨0, rfl, Nat.zero_le _, fun i hi => absurd hi (Nat.not_lt_zero _)⟩
    subst e
    have u : F_spec_noPut (l, s) = some (l.take k ++ [s] ++ l.drop k) := by
      have m1 : decide ((-1 : Int) ≥ 0) = false := rfl
      have ho' : runL step_spec_noPut_0 (l, ((0 : Int), flS0 s)) = some (l, ((k : Int), flS0 s)) := ho
      obtain ⟨⟨⟨a1, a2, a3, a4, a5, a6⟩, ⟨b1, b2⟩, ⟨c1, c2, c3⟩, ⟨d1, d2⟩⟩, tw, ⟨⟨f1, f2, f3, f4, f5, f6⟩, ⟨g1, g2⟩, ⟨i1, i2, i3⟩, ⟨j1, j2⟩⟩⟩ := s
      dsimp only [flS0, flH] at ho'
      have g1 : decide ((k : Int) ≤ (l.length : Int)) = true := decide_eq_true (by omega)
      have g2 : decide ((l.length : Int) ≤ (l.length : Int)) = true := decide_eq_true (Int.le_refl _)
      have z0 : (0 : Int).toNat = 0 := rfl
      have z1 : decide ((0 : Int) ≤ 0) = true := rfl
      have t1 : (l.drop k).take (l.length - k) = l.drop k := List.take_of_length_le (by simp)
      have t2 : (l.take k).length = k := by rw [List.length_take]; omega
      have g3 : decide ((l.take k).length * 232 ≤ 140737488355328) = true := decide_eq_true (by omega)
      have g4 : ∀ z : Sign, decide (((l.take k).length + [z].length) * 232 ≤ 140737488355328) = true := fun z => decide_eq_true (by simp; omega)
      have g5 : ∀ z : Sign, decide (((l.take k ++ [z]).length + (l.drop k).length) * 232 ≤ 140737488355328) = true := fun z => decide_eq_true (by simp; omega)
      simp only [F_spec_noPut, hf, m1, cond_false, ho', z0, z1, nonneg, g1, g2, Bool.and_self, cond_true, Int.toNat_natCast, List.drop_zero, Nat.sub_zero, t1, g3, g4, g5]
    refine ⟨_, u, fun x => ?_, ?_, ?_⟩
    · simp only [List.mem_append, List.mem_singleton]
      constructor
      · rintro ((h | h) | h)
        · exact .inl (List.mem_of_mem_take h)
        · exact .inr h
        · exact .inl (List.mem_of_mem_drop h)
      · rintro (h | h)
        · rw [← List.take_append_drop k l] at h
          rcases List.mem_append.1 h with h | h
          · exact .inl (.inl h)
          · exact .inr h
        · exact .inl (.inr h)
    · have hq := hp
      rw [← List.take_append_drop k l, List.pairwise_append] at hq
      obtain ⟨q1, q2, q3⟩ := hq
      have ta : ∀ a ∈ l.take k, SL a s := fun a ha => by
        obtain ⟨j, hj, rfl⟩ := List.getElem_of_mem ha
        have hj' : j < k := by simp at hj; omega
        have := k1 j hj'
        rw [hg j (by omega)] at this
        rw [List.getElem_take]; exact this
      have td : ∀ d ∈ l.drop k, SL s d := fun d hd => by
        obtain ⟨j, hj, rfl⟩ := List.getElem_of_mem hd
        have hj' : k + j < l.length := by simp at hj; omega
        have h2 := k2 (by omega)
        rw [hg k (by omega)] at h2
        rw [List.getElem_drop]
        have hne : l[k + j] ≠ s := fun e => hno (by rw [← e]; exact List.getElem_mem hj')
        have n1 : ¬ pl (kS l[k + j]) (kS s) := by
          by_cases e : j = 0
          · subst e; exact h2
          · have := List.pairwise_iff_getElem.1 hp k (k + j) (by omega) hj' (by omega)
            exact fun r => h2 (pl_trans this r)
        rcases pl_tri (kS l[k + j]) (kS s) with r | r | r
        · exact absurd r n1
        · exact absurd (kS_inj (hw _ (List.getElem_mem hj')) hs r) hne
        · exact r
      rw [List.pairwise_append, List.pairwise_append]
      refine ⟨⟨q1, by simp, fun a ha b hb => ?_⟩, q2, fun a ha d hd => ?_⟩
      · rw [List.mem_singleton] at hb; subst hb; exact ta a ha
      · rcases List.mem_append.1 ha with ha | ha
        · exact q3 a ha d hd
        · rw [List.mem_singleton] at ha; subst ha; exact td d hd
    · simp; omega
  · rw [h] at hf
    have hm : s ∈ l := by
      have := of_decide_eq_true hq
      rw [← this]; exact getD_mem hi dz27
    refine ⟨l, ?_, fun x => ⟨.inl, fun r => r.elim id fun e => e ▸ hm⟩, hp, by omega⟩
    have g : decide ((i : Int) ≥ 0) = true := decide_eq_true (by omega)
    simp only [F_spec_noPut, hf, g, cond_true]
end Go.Proofs.YtklfnbckoaphpaaGreatDoor
/- What good hands and signs are, on both sides. No conditions. -/
set_option linter.unusedVariables false
set_option linter.unusedSimpArgs false
namespace Go.Proofs.YtklfnbckoaphpaaGreatDoor
open Go
theorem mvGood' (m : Move) : F_spec_mvGood m = some (mvOK m.1.data.toList m.2) := mvGood_is m.1.data.toList m.2
theorem IsMove' (m : Move) : F_impl_IsMove m = some (mvOK m.1.data.toList m.2) := IsMove_is m.1.data.toList m.2
theorem siHand_is (h : Hand) : F_spec_siHand h = some (hdOK h) := by
  simp only [F_spec_siHand, shGood_is, orGood_is, plGood_is, mvGood', hdOK]
  cases shOK h.1 <;> cases orOK h.2.1 <;> cases plOK h.2.2.1 <;> rfl
theorem IsHand_is (h : Hand) : F_impl_IsHand h = some (hdOK h) := by
  simp only [F_impl_IsHand, IsShape_is, IsOrient_is, IsPlace_is, IsMove', hdOK]
  cases shOK h.1 <;> cases orOK h.2.1 <;> cases plOK h.2.2.1 <;> rfl
theorem mvOK_w {l : List UInt8} {r : Int} (h : mvOK l r = true) : l.length ≤ 6 ∧ 1 ≤ r ∧ r ≤ 3 := by
  simp only [mvOK, Bool.and_eq_true, decide_eq_true_eq] at h
  exact ⟨h.1.1.1, h.1.2⟩
theorem hdOK_w {h : Hand} (k : hdOK h = true) : mvW h.2.2.2 := mvOK_w (hdOK_parts k).2.2.2
theorem hz_is (h : Hand) : ((((h.1.1 == 0) && ((h.1.2.1 == 0) && ((h.1.2.2.1 == 0) && ((h.1.2.2.2.1 == 0) && ((h.1.2.2.2.2.1 == 0) && ((h.1.2.2.2.2.2 == false) && true)))))) && (((h.2.1.1 == 0) && ((h.2.1.2 == 0) && true)) && (((h.2.2.1.1 == 0) && ((h.2.2.1.2.1 == 0) && ((h.2.2.1.2.2 == false) && true))) && (((h.2.2.2.1.toList == ByteArray.empty.toList) && ((h.2.2.2.2 == 0) && true)) && true))))) = decide (h = hdZ) := by
  obtain ⟨⟨a, b, c, d, e, f⟩, ⟨g, i⟩, ⟨j, k, l⟩, ⟨m, n⟩⟩ := h
  have ht : (m.toList == ByteArray.empty.toList) = decide (m = ByteArray.empty) := by
    rw [eq_ba m, ba_toList, show ByteArray.empty.toList = [] from ba_toList []]
    have e0 : ByteArray.empty = ba [] := rfl
    rw [e0]
    by_cases h : m.data.toList = []
    · rw [h]; simp
    · rw [decide_eq_false (fun q => h (ba_inj.1 q)), beq_eq_false_iff_ne]; exact h
  simp only [ht]
  rw [Bool.eq_iff_iff]
  simp only [Bool.and_eq_true, beq_iff_eq, decide_eq_true_eq, hdZ, shZ, mvZ, Prod.mk.injEq, and_true]
theorem siGood_is (s : Sign) : F_spec_siGood s = some (sgOK s) := by
  obtain ⟨m, two, o⟩ := s
  simp only [F_spec_siGood, siHand_is, sgOK]
  cases hm : hdOK m with
  | false => simp
  | true =>
    cases two with
    | false => simp only [Bool.not_true, cond_false, Bool.not_false, cond_true, hz_is, Bool.true_and]
    | true =>
      simp only [Bool.not_true, cond_false, cond_true, Bool.true_and]
      cases ho : hdOK o with
      | false => rfl
      | true =>
        obtain ⟨n, e, hn⟩ := keep_spec m o (hdOK_w hm) (hdOK_w ho)
        simp only [cond_true, e, Bool.true_and]
        have : (n == 0) = !(n != 0) := by simp [bne]
        rw [this, hn, Bool.not_not]
theorem IsSign_is (s : Sign) : F_impl_IsSign s = some (sgOK s) := by
  obtain ⟨m, two, o⟩ := s
  simp only [F_impl_IsSign, IsHand_is, sgOK]
  cases hm : hdOK m with
  | false => simp
  | true =>
    cases two with
    | false => simp only [Bool.not_true, cond_false, Bool.not_false, cond_true, hz_is, Bool.true_and]
    | true =>
      simp only [Bool.not_true, cond_false, cond_true, Bool.true_and]
      cases ho : hdOK o with
      | false => rfl
      | true => simp only [cond_true, keep_impl m o (hdOK_w hm) (hdOK_w ho), Bool.true_and]
end Go.Proofs.YtklfnbckoaphpaaGreatDoor
/- Rows of signs: a row is equal to itself, sizes are counted, marks that are written are read. No conditions beyond the bounds that are named. -/
set_option linter.unusedVariables false
set_option linter.unusedSimpArgs false
namespace Go.Proofs.YtklfnbckoaphpaaGreatDoor
open Go
theorem toHand_is (h : Hand) : F_laws_toHand h = some h := by simp [F_laws_toHand, F_laws_toShape, F_laws_toOrient, F_laws_toPlace, F_laws_toMove]
theorem toSign_is (s : Sign) : F_laws_toSign s = some s := by simp [F_laws_toSign, toHand_is]
theorem eqSignS_is (l : List Sign) (h : l.length ≤ 9223372036854775807) : F_laws_eqSignS (l, l) = some true := by
  have t := runL_traj (f := step_laws_eqSignS_0) (fun i => (l, l, (i : Int))) (.inr ()) l.length (fun i hi => by
    have hw := wrap_succ (i := i) (by omega)
    simp only [step_laws_eqSignS_0, lt_len hi, nonneg, Bool.and_self, cond_true, Int.toNat_natCast, hw, eqSign_refl, Bool.not_true, cond_false]) (by simp [step_laws_eqSignS_0])
  have t' : runL step_laws_eqSignS_0 (l, l, (0 : Int)) = some (.inr ()) := t
  simp [F_laws_eqSignS, t']
theorem szHand_is (h : Hand) (left : Int) (h0 : 0 ≤ left) (h1 : left ≤ 1048576) (hg : h.2.2.2.1.size ≤ 9223372036854775807) : ∃ o, F_laws_szHand (h, left) = some o ∧ (o < 0 ∨ (0 ≤ o ∧ o ≤ 1048576)) := by
  have hw : IntKind.i64.wrap (left - (h.2.2.2.1.size : Int)) = left - (h.2.2.2.1.size : Int) := wrap_id (by omega) (by omega)
  by_cases hn : left - (h.2.2.2.1.size : Int) < 0
  · exact ⟨-1, by simp [F_laws_szHand, F_laws_szMove, hw, hn], .inl (by omega)⟩
  · exact ⟨left - (h.2.2.2.1.size : Int), by simp [F_laws_szHand, F_laws_szMove, hw, hn], .inr ⟨by omega, by omega⟩⟩
theorem szSign_is (s : Sign) (left : Int) (h0 : 0 ≤ left) (h1 : left ≤ 1048576) (hb : s.1.2.2.2.1.size ≤ 9223372036854775807) (hc : s.2.2.2.2.2.1.size ≤ 9223372036854775807) : ∃ o, F_laws_szSign (s, left) = some o ∧ (o < 0 ∨ (0 ≤ o ∧ o ≤ 1048576)) := by
  obtain ⟨o, e, hq⟩ := szHand_is s.1 left h0 h1 hb
  rcases hq with hn | ⟨q0, q1⟩
  · exact ⟨-1, by simp only [F_laws_szSign, e, decide_eq_true hn, cond_true], .inl (by omega)⟩
  · obtain ⟨o2, e2, hq2⟩ := szHand_is s.2.2 o q0 q1 hc
    rcases hq2 with hn | ⟨r0, r1⟩
    · exact ⟨-1, by simp only [F_laws_szSign, e, decide_eq_false (show ¬ o < 0 by omega), cond_false, e2, decide_eq_true hn, cond_true], .inl (by omega)⟩
    · exact ⟨o2, by simp only [F_laws_szSign, e, decide_eq_false (show ¬ o < 0 by omega), cond_false, e2, decide_eq_false (show ¬ o2 < 0 by omega)], .inr ⟨r0, r1⟩⟩

/-! ### Marks -/
def marksE {α : Type} (f : Nat → α) (n : Nat) : List α := (List.range n).map f
theorem marksE_len {α : Type} (f : Nat → α) (n : Nat) : (marksE f n).length = n := by simp [marksE]
theorem marksE_get {α : Type} (f : Nat → α) {n i : Nat} (h : i < n) (d : α) : (marksE f n).getD i d = f i := by simp [marksE, List.getD, h]
theorem marksE_set {α : Type} (f : Nat → α) (l : List α) {i : Nat} (h : i < l.length) : (marksE f i ++ l.drop i).set i (f i) = marksE f (i + 1) ++ l.drop (i + 1) := by
  rw [List.set_append, if_neg (by simp [marksE_len]), marksE_len, Nat.sub_self, List.drop_eq_getElem_cons h, List.set_cons_zero]
  simp [marksE, List.range_succ]
theorem marksE_lenD {α : Type} (f : Nat → α) (l : List α) {i : Nat} (h : i ≤ l.length) : (marksE f i ++ l.drop i).length = l.length := by simp [marksE_len]; omega
theorem getD_setE {α : Type} (l : List α) {i : Nat} (h : i < l.length) (a d : α) : (l.set i a).getD i d = a := by simp [List.getD, h]
/-- the text of a mark -/
theorem bytesE_one (n : Int) : (bytesStr [n]).size = 1 := rfl
theorem tdivE {n : Int} (h : 0 < n) : 0 ≤ n.tdiv 10 ∧ n.tdiv 10 ≤ n - 1 := by
  have h1 : n.tdiv 10 = n / 10 := Int.tdiv_eq_ediv_of_nonneg (by omega)
  omega
theorem markE_some (k : Int) (h : k ≤ 4611686018427387904) : ∃ t, F_laws_markText k = some t := by
  by_cases h0 : k ≤ 0
  · exact ⟨_, by simp [F_laws_markText, h0]; rfl⟩
  · obtain ⟨o, ho, hq⟩ := runL_inv (f := step_laws_markText_0) (fun s => 0 ≤ s.1 ∧ (s.2.size : Int) + s.1 ≤ 4611686018427387904) (fun o => (o.size : Int) ≤ 4611686018427387904) (fun s => s.1.toNat) (by
      rintro ⟨n, s⟩ ⟨h1, h2⟩
      simp only at h1 h2
      by_cases hn : n > 0
      · right
        obtain ⟨d1, d2⟩ := tdivE hn
        have hw : IntKind.i64.wrap (n.tdiv 10) = n.tdiv 10 := wrap_id (by omega) (by omega)
        have hm : IntKind.i64.max = 9223372036854775807 := by decide
        refine ⟨(n.tdiv 10, bytesStr [IntKind.u8.wrap (IntKind.i64.wrap (48 + n.tmod 10))] ++ s), ?_, ⟨d1, ?_⟩, by simp; omega⟩
        · have hg : decide ((bytesStr [IntKind.u8.wrap (IntKind.i64.wrap (48 + n.tmod 10))]).size + s.size ≤ 9223372036854775807) = true := by
            rw [bytesE_one]; exact decide_eq_true (by omega)
          simp only [step_laws_markText_0, decide_eq_true hn, cond_true, hm, hg, hw]
          rfl
        · simp only [ByteArray.size_append, bytesE_one]
          omega
      · left
        refine ⟨s, ?_, by omega⟩
        simp only [step_laws_markText_0, decide_eq_false hn, cond_false]) (k, ⟨#[]⟩) ⟨by omega, by have hz : (⟨#[]⟩ : ByteArray).size = 0 := rfl; simp only [hz]; omega⟩
    have hm : IntKind.i64.max = 9223372036854775807 := by decide
    have hz : ((⟨#[109]⟩ : ByteArray).size) = 1 := rfl
    have hg : decide ((⟨#[109]⟩ : ByteArray).size + o.size ≤ 9223372036854775807) = true := by rw [hz]; exact decide_eq_true (by omega)
    exact ⟨_, by simp only [F_laws_markText, decide_eq_false h0, cond_false, ho, hm, hg, cond_true]; rfl⟩
noncomputable def mtE (k : Int) : ByteArray := (F_laws_markText k).getD ByteArray.empty
theorem mtE_is {k : Int} (h : k ≤ 4611686018427387904) : F_laws_markText k = some (mtE k) := by
  obtain ⟨t, e⟩ := markE_some k h
  simp [mtE, e]



noncomputable def markSg (i : Nat) : Sign := ((((1 + 27 * (i : Int)), (2 + 27 * (i : Int)), (3 + 27 * (i : Int)), (4 + 27 * (i : Int)), (5 + 27 * (i : Int)), (((6 + 27 * (i : Int))).tmod 3 == 0)), ((7 + 27 * (i : Int)), (8 + 27 * (i : Int))), ((9 + 27 * (i : Int)), (10 + 27 * (i : Int)), (((11 + 27 * (i : Int))).tmod 3 == 0)), ((mtE (12 + 27 * (i : Int))), (13 + 27 * (i : Int)))), (((14 + 27 * (i : Int))).tmod 3 == 0), (((15 + 27 * (i : Int)), (16 + 27 * (i : Int)), (17 + 27 * (i : Int)), (18 + 27 * (i : Int)), (19 + 27 * (i : Int)), (((20 + 27 * (i : Int))).tmod 3 == 0)), ((21 + 27 * (i : Int)), (22 + 27 * (i : Int))), ((23 + 27 * (i : Int)), (24 + 27 * (i : Int)), (((25 + 27 * (i : Int))).tmod 3 == 0)), ((mtE (26 + 27 * (i : Int))), (27 + 27 * (i : Int)))))
set_option maxHeartbeats 4000000 in
theorem markSignS_is (l : List Sign) (h : l.length ≤ 1048576) : F_laws_markSignS (l, 1) = some (marksE markSg l.length, 1 + 27 * (l.length : Int)) := by
  have t := runL_traj (f := step_laws_markSignS_0) (fun i => (1 + 27 * (i : Int), (i : Int), marksE markSg i ++ l.drop i)) (1 + 27 * (l.length : Int), marksE markSg l.length) l.length (fun i hi => by
    have hw := wrap_succ (i := i) (by omega)
    have w1 : IntKind.i64.wrap (1 + 27 * (i : Int) + 1) = 2 + 27 * (i : Int) := by rw [wrap_id (by omega) (by omega)]; omega
    have w2 : IntKind.i64.wrap (2 + 27 * (i : Int) + 1) = 3 + 27 * (i : Int) := by rw [wrap_id (by omega) (by omega)]; omega
    have w3 : IntKind.i64.wrap (3 + 27 * (i : Int) + 1) = 4 + 27 * (i : Int) := by rw [wrap_id (by omega) (by omega)]; omega
    have w4 : IntKind.i64.wrap (4 + 27 * (i : Int) + 1) = 5 + 27 * (i : Int) := by rw [wrap_id (by omega) (by omega)]; omega
    have w5 : IntKind.i64.wrap (5 + 27 * (i : Int) + 1) = 6 + 27 * (i : Int) := by rw [wrap_id (by omega) (by omega)]; omega
    have w6 : IntKind.i64.wrap (6 + 27 * (i : Int) + 1) = 7 + 27 * (i : Int) := by rw [wrap_id (by omega) (by omega)]; omega
    have w7 : IntKind.i64.wrap (7 + 27 * (i : Int) + 1) = 8 + 27 * (i : Int) := by rw [wrap_id (by omega) (by omega)]; omega
    have w8 : IntKind.i64.wrap (8 + 27 * (i : Int) + 1) = 9 + 27 * (i : Int) := by rw [wrap_id (by omega) (by omega)]; omega
    have w9 : IntKind.i64.wrap (9 + 27 * (i : Int) + 1) = 10 + 27 * (i : Int) := by rw [wrap_id (by omega) (by omega)]; omega
    have w10 : IntKind.i64.wrap (10 + 27 * (i : Int) + 1) = 11 + 27 * (i : Int) := by rw [wrap_id (by omega) (by omega)]; omega
    have w11 : IntKind.i64.wrap (11 + 27 * (i : Int) + 1) = 12 + 27 * (i : Int) := by rw [wrap_id (by omega) (by omega)]; omega
    have w12 : IntKind.i64.wrap (12 + 27 * (i : Int) + 1) = 13 + 27 * (i : Int) := by rw [wrap_id (by omega) (by omega)]; omega
    have w13 : IntKind.i64.wrap (13 + 27 * (i : Int) + 1) = 14 + 27 * (i : Int) := by rw [wrap_id (by omega) (by omega)]; omega
    have w14 : IntKind.i64.wrap (14 + 27 * (i : Int) + 1) = 15 + 27 * (i : Int) := by rw [wrap_id (by omega) (by omega)]; omega
    have w15 : IntKind.i64.wrap (15 + 27 * (i : Int) + 1) = 16 + 27 * (i : Int) := by rw [wrap_id (by omega) (by omega)]; omega
    have w16 : IntKind.i64.wrap (16 + 27 * (i : Int) + 1) = 17 + 27 * (i : Int) := by rw [wrap_id (by omega) (by omega)]; omega
    have w17 : IntKind.i64.wrap (17 + 27 * (i : Int) + 1) = 18 + 27 * (i : Int) := by rw [wrap_id (by omega) (by omega)]; omega
    have w18 : IntKind.i64.wrap (18 + 27 * (i : Int) + 1) = 19 + 27 * (i : Int) := by rw [wrap_id (by omega) (by omega)]; omega
    have w19 : IntKind.i64.wrap (19 + 27 * (i : Int) + 1) = 20 + 27 * (i : Int) := by rw [wrap_id (by omega) (by omega)]; omega
    have w20 : IntKind.i64.wrap (20 + 27 * (i : Int) + 1) = 21 + 27 * (i : Int) := by rw [wrap_id (by omega) (by omega)]; omega
    have w21 : IntKind.i64.wrap (21 + 27 * (i : Int) + 1) = 22 + 27 * (i : Int) := by rw [wrap_id (by omega) (by omega)]; omega
    have w22 : IntKind.i64.wrap (22 + 27 * (i : Int) + 1) = 23 + 27 * (i : Int) := by rw [wrap_id (by omega) (by omega)]; omega
    have w23 : IntKind.i64.wrap (23 + 27 * (i : Int) + 1) = 24 + 27 * (i : Int) := by rw [wrap_id (by omega) (by omega)]; omega
    have w24 : IntKind.i64.wrap (24 + 27 * (i : Int) + 1) = 25 + 27 * (i : Int) := by rw [wrap_id (by omega) (by omega)]; omega
    have w25 : IntKind.i64.wrap (25 + 27 * (i : Int) + 1) = 26 + 27 * (i : Int) := by rw [wrap_id (by omega) (by omega)]; omega
    have w26 : IntKind.i64.wrap (26 + 27 * (i : Int) + 1) = 27 + 27 * (i : Int) := by rw [wrap_id (by omega) (by omega)]; omega
    have w27 : IntKind.i64.wrap (27 + 27 * (i : Int) + 1) = 1 + 27 * ((i + 1 : Nat) : Int) := by rw [wrap_id (by omega) (by omega)]; omega
    have hl := marksE_lenD markSg l (Nat.le_of_lt hi)
    have hl' : i < (marksE markSg i ++ l.drop i).length := by rw [hl]; exact hi
    have h3 : (!decide ((3 : Int) = 0)) = true := rfl
    have hs : ∀ a, ((marksE markSg i ++ l.drop i).set i a).getD i dz27 = a := fun a => getD_setE _ hl' _ _
    have hm : (marksE markSg i ++ l.drop i).set i ((((1 + 27 * (i : Int)), (2 + 27 * (i : Int)), (3 + 27 * (i : Int)), (4 + 27 * (i : Int)), (5 + 27 * (i : Int)), (((6 + 27 * (i : Int))).tmod 3 == 0)), ((7 + 27 * (i : Int)), (8 + 27 * (i : Int))), ((9 + 27 * (i : Int)), (10 + 27 * (i : Int)), (((11 + 27 * (i : Int))).tmod 3 == 0)), ((mtE (12 + 27 * (i : Int))), (13 + 27 * (i : Int)))), (((14 + 27 * (i : Int))).tmod 3 == 0), (((15 + 27 * (i : Int)), (16 + 27 * (i : Int)), (17 + 27 * (i : Int)), (18 + 27 * (i : Int)), (19 + 27 * (i : Int)), (((20 + 27 * (i : Int))).tmod 3 == 0)), ((21 + 27 * (i : Int)), (22 + 27 * (i : Int))), ((23 + 27 * (i : Int)), (24 + 27 * (i : Int)), (((25 + 27 * (i : Int))).tmod 3 == 0)), ((mtE (26 + 27 * (i : Int))), (27 + 27 * (i : Int))))) = marksE markSg (i + 1) ++ l.drop (i + 1) := marksE_set markSg l hi
    simp only [step_laws_markSignS_0, List.length_set, hl, lt_len hi, nonneg, Bool.and_self, cond_true, Int.toNat_natCast, hw, w1, w2, w3, w4, w5, w6, w7, w8, w9, w10, w11, w12, w13, w14, w15, w16, w17, w18, w19, w20, w21, w22, w23, w24, w25, w26, w27, mtE_is (show 12 + 27 * (i : Int) ≤ 4611686018427387904 by omega), mtE_is (show 26 + 27 * (i : Int) ≤ 4611686018427387904 by omega), h3, List.set_set, hs, hm]
    rfl) (by
    simp [step_laws_markSignS_0, marksE_len])
  have t' : runL step_laws_markSignS_0 (1, (0 : Int), l) = some (1 + 27 * (l.length : Int), marksE markSg l.length) := t
  simp only [F_laws_markSignS, t']
set_option maxHeartbeats 4000000 in
theorem heldSignS_is (n : Nat) (h : n ≤ 1048576) : F_laws_heldSignS (marksE markSg n, 1) = some (1 + 27 * (n : Int)) := by
  have t := runL_traj (f := step_laws_heldSignS_0) (fun i => (marksE markSg n, 1 + 27 * (i : Int), (i : Int))) (.inr (1 + 27 * (n : Int))) n (fun i hi => by
    have hw := wrap_succ (i := i) (by omega)
    have w1 : IntKind.i64.wrap (1 + 27 * (i : Int) + 1) = 2 + 27 * (i : Int) := by rw [wrap_id (by omega) (by omega)]; omega
    have w2 : IntKind.i64.wrap (2 + 27 * (i : Int) + 1) = 3 + 27 * (i : Int) := by rw [wrap_id (by omega) (by omega)]; omega
    have w3 : IntKind.i64.wrap (3 + 27 * (i : Int) + 1) = 4 + 27 * (i : Int) := by rw [wrap_id (by omega) (by omega)]; omega
    have w4 : IntKind.i64.wrap (4 + 27 * (i : Int) + 1) = 5 + 27 * (i : Int) := by rw [wrap_id (by omega) (by omega)]; omega
    have w5 : IntKind.i64.wrap (5 + 27 * (i : Int) + 1) = 6 + 27 * (i : Int) := by rw [wrap_id (by omega) (by omega)]; omega
    have w6 : IntKind.i64.wrap (6 + 27 * (i : Int) + 1) = 7 + 27 * (i : Int) := by rw [wrap_id (by omega) (by omega)]; omega
    have w7 : IntKind.i64.wrap (7 + 27 * (i : Int) + 1) = 8 + 27 * (i : Int) := by rw [wrap_id (by omega) (by omega)]; omega
    have w8 : IntKind.i64.wrap (8 + 27 * (i : Int) + 1) = 9 + 27 * (i : Int) := by rw [wrap_id (by omega) (by omega)]; omega
    have w9 : IntKind.i64.wrap (9 + 27 * (i : Int) + 1) = 10 + 27 * (i : Int) := by rw [wrap_id (by omega) (by omega)]; omega
    have w10 : IntKind.i64.wrap (10 + 27 * (i : Int) + 1) = 11 + 27 * (i : Int) := by rw [wrap_id (by omega) (by omega)]; omega
    have w11 : IntKind.i64.wrap (11 + 27 * (i : Int) + 1) = 12 + 27 * (i : Int) := by rw [wrap_id (by omega) (by omega)]; omega
    have w12 : IntKind.i64.wrap (12 + 27 * (i : Int) + 1) = 13 + 27 * (i : Int) := by rw [wrap_id (by omega) (by omega)]; omega
    have w13 : IntKind.i64.wrap (13 + 27 * (i : Int) + 1) = 14 + 27 * (i : Int) := by rw [wrap_id (by omega) (by omega)]; omega
    have w14 : IntKind.i64.wrap (14 + 27 * (i : Int) + 1) = 15 + 27 * (i : Int) := by rw [wrap_id (by omega) (by omega)]; omega
    have w15 : IntKind.i64.wrap (15 + 27 * (i : Int) + 1) = 16 + 27 * (i : Int) := by rw [wrap_id (by omega) (by omega)]; omega
    have w16 : IntKind.i64.wrap (16 + 27 * (i : Int) + 1) = 17 + 27 * (i : Int) := by rw [wrap_id (by omega) (by omega)]; omega
    have w17 : IntKind.i64.wrap (17 + 27 * (i : Int) + 1) = 18 + 27 * (i : Int) := by rw [wrap_id (by omega) (by omega)]; omega
    have w18 : IntKind.i64.wrap (18 + 27 * (i : Int) + 1) = 19 + 27 * (i : Int) := by rw [wrap_id (by omega) (by omega)]; omega
    have w19 : IntKind.i64.wrap (19 + 27 * (i : Int) + 1) = 20 + 27 * (i : Int) := by rw [wrap_id (by omega) (by omega)]; omega
    have w20 : IntKind.i64.wrap (20 + 27 * (i : Int) + 1) = 21 + 27 * (i : Int) := by rw [wrap_id (by omega) (by omega)]; omega
    have w21 : IntKind.i64.wrap (21 + 27 * (i : Int) + 1) = 22 + 27 * (i : Int) := by rw [wrap_id (by omega) (by omega)]; omega
    have w22 : IntKind.i64.wrap (22 + 27 * (i : Int) + 1) = 23 + 27 * (i : Int) := by rw [wrap_id (by omega) (by omega)]; omega
    have w23 : IntKind.i64.wrap (23 + 27 * (i : Int) + 1) = 24 + 27 * (i : Int) := by rw [wrap_id (by omega) (by omega)]; omega
    have w24 : IntKind.i64.wrap (24 + 27 * (i : Int) + 1) = 25 + 27 * (i : Int) := by rw [wrap_id (by omega) (by omega)]; omega
    have w25 : IntKind.i64.wrap (25 + 27 * (i : Int) + 1) = 26 + 27 * (i : Int) := by rw [wrap_id (by omega) (by omega)]; omega
    have w26 : IntKind.i64.wrap (26 + 27 * (i : Int) + 1) = 27 + 27 * (i : Int) := by rw [wrap_id (by omega) (by omega)]; omega
    have w27 : IntKind.i64.wrap (27 + 27 * (i : Int) + 1) = 1 + 27 * ((i + 1 : Nat) : Int) := by rw [wrap_id (by omega) (by omega)]; omega
    have h3 : (!decide ((3 : Int) = 0)) = true := rfl
    have hg := marksE_get markSg hi dz27
    have hm : markSg i = ((((1 + 27 * (i : Int)), (2 + 27 * (i : Int)), (3 + 27 * (i : Int)), (4 + 27 * (i : Int)), (5 + 27 * (i : Int)), (((6 + 27 * (i : Int))).tmod 3 == 0)), ((7 + 27 * (i : Int)), (8 + 27 * (i : Int))), ((9 + 27 * (i : Int)), (10 + 27 * (i : Int)), (((11 + 27 * (i : Int))).tmod 3 == 0)), ((mtE (12 + 27 * (i : Int))), (13 + 27 * (i : Int)))), (((14 + 27 * (i : Int))).tmod 3 == 0), (((15 + 27 * (i : Int)), (16 + 27 * (i : Int)), (17 + 27 * (i : Int)), (18 + 27 * (i : Int)), (19 + 27 * (i : Int)), (((20 + 27 * (i : Int))).tmod 3 == 0)), ((21 + 27 * (i : Int)), (22 + 27 * (i : Int))), ((23 + 27 * (i : Int)), (24 + 27 * (i : Int)), (((25 + 27 * (i : Int))).tmod 3 == 0)), ((mtE (26 + 27 * (i : Int))), (27 + 27 * (i : Int))))) := rfl
    simp only [step_laws_heldSignS_0, marksE_len, lt_len hi, nonneg, Bool.and_self, cond_true, Int.toNat_natCast, hg, hm, bne_self_eq_false, cond_false, hw, w1, w2, w3, w4, w5, w6, w7, w8, w9, w10, w11, w12, w13, w14, w15, w16, w17, w18, w19, w20, w21, w22, w23, w24, w25, w26, w27, mtE_is (show 12 + 27 * (i : Int) ≤ 4611686018427387904 by omega), mtE_is (show 26 + 27 * (i : Int) ≤ 4611686018427387904 by omega), h3, BEq.rfl, Bool.not_true]
    rfl) (by simp [step_laws_heldSignS_0, marksE_len])
  have t' : runL step_laws_heldSignS_0 (marksE markSg n, 1, (0 : Int)) = some (.inr (1 + 27 * (n : Int))) := t
  simp only [F_laws_heldSignS, t']
end Go.Proofs.YtklfnbckoaphpaaGreatDoor
/- laws.FnExactNotationsOf answers yes. No conditions beyond the bounds of sizes. -/
set_option linter.unusedVariables false
set_option linter.unusedSimpArgs false
namespace Go.Proofs.YtklfnbckoaphpaaGreatDoor
open Go
theorem siKind_is (s : Sign) : ∃ k, F_spec_siKind s = some k ∧ F_impl_Sign_kind s = some k := by
  obtain ⟨m, two, o⟩ := s
  have e1 := shEqB_is m.1 o.1
  have e2 := shEqB_is o.1 m.1
  unfold shEqB at e1 e2
  simp only [F_spec_siKind, F_impl_Sign_kind, F_impl_Hand_moves, e1, e2, decide_comm' o.1 m.1]
  cases two with
  | false => exact ⟨0, rfl, rfl⟩
  | true =>
    cases (!(o.2.2.2.1.toList == (⟨#[]⟩ : ByteArray).toList)) with
    | true => exact ⟨1, rfl, rfl⟩
    | false =>
      cases decide (m.1 = o.1) with
      | true => exact ⟨2, rfl, rfl⟩
      | false => exact ⟨3, rfl, rfl⟩
/-- what is added for two hands -/
def two2 (b : Bool) (m o : Hand) : List Sign := (m, true, o) :: bif b then [(o, true, m)] else []
/-- all that are added -/
def allN2 (b : Bool) (s : Sign) : List Sign := bif s.2.1 then two2 b s.1 s.2.2 ++ (two2 b s.1 (hdN s.2.2) ++ (two2 b (hdN s.1) s.2.2 ++ two2 b (hdN s.1) (hdN s.2.2))) else [(s.1, false, hdZ), (hdN s.1, false, hdZ)]
theorem two2_len (b : Bool) (m o : Hand) : (two2 b m o).length ≤ 2 := by cases b <;> simp [two2]
theorem two2_ws {b : Bool} {m o : Hand} (hm : hdOK m = true) (ho : hdOK o = true) : ∀ x ∈ two2 b m o, WS true x := fun x hx => by
  have h : x = (m, true, o) ∨ x = (o, true, m) := by
    cases b <;> simp [two2] at hx <;> simp [hx]
  rcases h with rfl | rfl
  · exact ⟨hm, rfl, fun _ => ho, fun h => by cases h⟩
  · exact ⟨ho, rfl, fun _ => hm, fun h => by cases h⟩
/-! ### The program's -/
theorem im0_step (c1 c2 : Int) (os ms : List Hand) (m : Hand) (q : List Sign) (x : Sign) (i : Nat) (hi : i < os.length) (hos : os.length ≤ 100) (hq : q.length ≤ 1000) (k : Int) (hk : F_impl_Sign_kind x = some k) :
    step_impl_NotationsOf_0 (c1, (c2, ((os.length : Int), ((i : Int), (os, (ms, flH m (q, flS0 x))))))) = some (.inl (c1, (c2, ((os.length : Int), (((i + 1 : Nat) : Int), (os, (ms, flH m (q ++ two2 (k == 1) m (os.getD i dz13), flS0 x)))))))) := by
  have hw := wrap_succ (i := i) (by omega)
  have g : ∀ z : Sign, decide ((q.length + [z].length) * 232 ≤ 140737488355328) = true := fun z => decide_eq_true (by simp; omega)
  have g' : ∀ y z : Sign, decide (((q ++ [y]).length + [z].length) * 232 ≤ 140737488355328) = true := fun y z => decide_eq_true (by simp; omega)
  obtain ⟨⟨⟨a1, a2, a3, a4, a5, a6⟩, ⟨b1, b2⟩, ⟨c1, c2, c3⟩, ⟨d1, d2⟩⟩, tw, ⟨⟨f1, f2, f3, f4, f5, f6⟩, ⟨g1, g2⟩, ⟨i1, i2, i3⟩, ⟨j1, j2⟩⟩⟩ := x
  obtain ⟨⟨m1, m2, m3, m4, m5, m6⟩, ⟨m7, m8⟩, ⟨m9, m10, m11⟩, ⟨m12, m13⟩⟩ := m
  dsimp only [step_impl_NotationsOf_0, flS0, flH]
  simp only [lt_len hi, nonneg, Bool.and_self, cond_true, Int.toNat_natCast, hk, hw, g, g', two2]
  cases (k == 1) <;> simp only [cond_true, cond_false, List.append_assoc, List.cons_append, List.nil_append]
theorem im0_end (c1 c2 : Int) (os ms : List Hand) (m : Hand) (q : List Sign) (x : Sign) :
    step_impl_NotationsOf_0 (c1, (c2, ((os.length : Int), ((os.length : Int), (os, (ms, flH m (q, flS0 x))))))) = some (.inr (c1, (c2, (ms, (q, flS0 x))))) := by
  dsimp only [step_impl_NotationsOf_0, flS0, flH]
  simp only [not_lt_len, cond_false]
theorem im0_run (c1 c2 : Int) (o1 o2 : Hand) (ms : List Hand) (m : Hand) (q : List Sign) (x : Sign) (hq : q.length ≤ 100) (k : Int) (hk : F_impl_Sign_kind x = some k) :
    runL step_impl_NotationsOf_0 (c1, (c2, ((2 : Int), ((0 : Int), ([o1, o2], (ms, flH m (q, flS0 x))))))) = some (c1, (c2, (ms, ((q ++ two2 (k == 1) m o1) ++ two2 (k == 1) m o2, flS0 x)))) := by
  have s0 := im0_step c1 c2 [o1, o2] ms m q x 0 (by simp) (by simp) (by omega) k hk
  have l1 := two2_len (k == 1) m o1
  have s1 := im0_step c1 c2 [o1, o2] ms m (q ++ two2 (k == 1) m o1) x 1 (by simp) (by simp) (by simp; omega) k hk
  exact (runL_step s0).trans ((runL_step s1).trans (runL_end (im0_end c1 c2 [o1, o2] ms m _ x)))
def stI (i : Int) (ms : List Hand) (x : Sign) (q : List Sign) := ((2 : Int), (i, (ms, flH x.1 (x.2.1, flH x.2.2 q))))
theorem im1_one (ms : List Hand) (hm : ms.length = 2) (m o : Hand) (q : List Sign) (i : Nat) (hi : i < ms.length) (hq : q.length ≤ 100) :
    step_impl_NotationsOf_1 (stI i ms (m, false, o) q) = some (.inl (stI ((i + 1 : Nat) : Int) ms (m, false, o) (q ++ [(ms.getD i dz13, false, hdZ)]))) := by
  have hw := wrap_succ (i := i) (by omega)
  have g : ∀ {β : Type} (z : β), decide ((q.length + [z].length) * 232 ≤ 140737488355328) = true := fun z => decide_eq_true (by simp; omega)
  have g0 : decide ((i : Int) < 2) = true := decide_eq_true (by omega)
  dsimp only [step_impl_NotationsOf_1, stI, flH]
  simp only [g0, lt_len hi, nonneg, Bool.and_self, cond_true, Int.toNat_natCast, Bool.not_false, hw, g]
  rfl
theorem im1_two (ms : List Hand) (hm : ms.length = 2) (m o : Hand) (ho : hdOK o = true) (q : List Sign) (i : Nat) (hi : i < ms.length) (hq : q.length ≤ 100) (k : Int) (hk : F_impl_Sign_kind (m, true, o) = some k) :
    step_impl_NotationsOf_1 (stI i ms (m, true, o) q) = some (.inl (stI ((i + 1 : Nat) : Int) ms (m, true, o) ((q ++ two2 (k == 1) (ms.getD i dz13) o) ++ two2 (k == 1) (ms.getD i dz13) (hdN o)))) := by
  have hw := wrap_succ (i := i) (by omega)
  have g0 : decide ((i : Int) < 2) = true := decide_eq_true (by omega)
  have hn := notations_is ho
  have hr := im0_run 2 (i : Int) o (hdN o) ms (ms.getD i dz13) q (m, true, o) hq k hk
  have hz : (([o, hdN o].length : Nat) : Int) = 2 := rfl
  generalize hdN o = o' at hn hr hz
  obtain ⟨⟨a1, a2, a3, a4, a5, a6⟩, ⟨b1, b2⟩, ⟨c1, c2, c3⟩, ⟨d1, d2⟩⟩ := m
  obtain ⟨⟨f1, f2, f3, f4, f5, f6⟩, ⟨g1, g2⟩, ⟨i1, i2, i3⟩, ⟨j1, j2⟩⟩ := o
  dsimp only [step_impl_NotationsOf_1, stI, flH, flS0] at hr ⊢
  simp only [g0, lt_len hi, nonneg, Bool.and_self, cond_true, Int.toNat_natCast, Bool.not_true, cond_false, hn, hz, hr, hw]
theorem im1_end (ms : List Hand) (x : Sign) (q : List Sign) : step_impl_NotationsOf_1 (stI 2 ms x q) = some (.inr q) := by
  have g0 : decide ((2 : Int) < 2) = false := rfl
  dsimp only [step_impl_NotationsOf_1, stI, flH]
  simp only [g0, cond_false]
theorem im1_run (s : Sign) (hs : WS s.2.1 s) (k : Int) (hk : F_impl_Sign_kind s = some k) : runL step_impl_NotationsOf_1 (stI 0 [s.1, hdN s.1] s []) = some (allN2 (k == 1) s) := by
  obtain ⟨m, two, o⟩ := s
  cases two with
  | false =>
    have s0 := im1_one [m, hdN m] rfl m o [] 0 (by simp) (by simp)
    have s1 := im1_one [m, hdN m] rfl m o [(m, false, hdZ)] 1 (by simp) (by simp)
    exact (runL_step s0).trans ((runL_step s1).trans (runL_end (im1_end _ _ _)))
  | true =>
    have ho := hs.o rfl
    have s0 := im1_two [m, hdN m] rfl m o ho [] 0 (by simp) (by simp) k hk
    have l1 := two2_len (k == 1) m o
    have l2 := two2_len (k == 1) m (hdN o)
    have s1 := im1_two [m, hdN m] rfl m o ho (([] ++ two2 (k == 1) m o) ++ two2 (k == 1) m (hdN o)) 1 (by simp) (by simp; omega) k hk
    refine (runL_step s0).trans ((runL_step s1).trans ((runL_end (im1_end _ _ _)).trans ?_))
    simp only [allN2, cond_true, List.nil_append, List.append_assoc]
    rfl
theorem allN2_len (b : Bool) (s : Sign) : (allN2 b s).length ≤ 8 := by
  unfold allN2
  cases s.2.1 with
  | false => simp
  | true =>
    have l1 := two2_len b s.1 s.2.2
    have l2 := two2_len b s.1 (hdN s.2.2)
    have l3 := two2_len b (hdN s.1) s.2.2
    have l4 := two2_len b (hdN s.1) (hdN s.2.2)
    simp only [cond_true, List.length_append]
    omega
theorem hdZ_one {m : Hand} (hm : hdOK m = true) : WS false (m, false, hdZ) := ⟨hm, rfl, fun h => (by cases h), fun _ => rfl⟩
theorem allN2_ws {b : Bool} {s : Sign} (hs : WS s.2.1 s) : ∀ x ∈ allN2 b s, WS s.2.1 x := by
  obtain ⟨m, two, o⟩ := s
  have hm : hdOK m = true := hs.m
  cases two with
  | false =>
    intro x hx
    have hx : x ∈ [(m, false, hdZ), (hdN m, false, hdZ)] := hx
    rcases List.mem_cons.1 hx with rfl | hx
    · exact hdZ_one hm
    · rw [List.mem_singleton] at hx; subst hx; exact hdZ_one (hdN_ok hm)
  | true =>
    have ho : hdOK o = true := hs.o rfl
    intro x hx
    have hx : x ∈ two2 b m o ++ (two2 b m (hdN o) ++ (two2 b (hdN m) o ++ two2 b (hdN m) (hdN o))) := hx
    simp only [List.mem_append] at hx
    rcases hx with h | h | h | h
    · exact two2_ws hm ho x h
    · exact two2_ws hm (hdN_ok ho) x h
    · exact two2_ws (hdN_ok hm) ho x h
    · exact two2_ws (hdN_ok hm) (hdN_ok ho) x h
/-! ### The specification's -/
structure GoodN (t : Bool) (q L : List Sign) : Prop where
  mem : ∀ x, x ∈ q ↔ x ∈ L
  rise : q.Pairwise SL
  len : q.length ≤ L.length
  ws : ∀ x ∈ L, WS t x
theorem goodN_nil (t : Bool) : GoodN t [] [] := ⟨fun _ => Iff.rfl, List.Pairwise.nil, Nat.le_refl _, fun x h => by cases h⟩
theorem noPut_more {t : Bool} {q L : List Sign} (h : GoodN t q L) (hl : L.length ≤ 100) {s : Sign} (hs : WS t s) : ∃ q', F_spec_noPut (q, s) = some q' ∧ GoodN t q' (L ++ [s]) := by
  obtain ⟨q', e, h1, h2, h3⟩ := noPut_is q s (by have := h.len; omega) (fun x hx => h.ws x ((h.mem x).1 hx)) hs h.rise
  refine ⟨q', e, ⟨fun x => ?_, h2, by have := h.len; simp; omega, fun x hx => ?_⟩⟩
  · rw [h1, h.mem, List.mem_append, List.mem_singleton]
  · rcases List.mem_append.1 hx with hx | hx
    · exact h.ws x hx
    · rw [List.mem_singleton] at hx; subst hx; exact hs
theorem sp0_step (c1 c2 : Int) (os ms : List Hand) (m : Hand) (hm : hdOK m = true) (q L : List Sign) (hg : GoodN true q L) (hl : L.length ≤ 50) (x : Sign) (i : Nat) (hi : i < os.length) (hos : os.length ≤ 100) (ho : hdOK (os.getD i dz13) = true) (k : Int) (hk : F_spec_siKind x = some k) :
    ∃ q', step_spec_NotationsOf_0 (q, (c1, (c2, ((os.length : Int), ((i : Int), (os, (ms, flH m (flS0 x)))))))) = some (.inl (q', (c1, (c2, ((os.length : Int), (((i + 1 : Nat) : Int), (os, (ms, flH m (flS0 x))))))))) ∧ GoodN true q' (L ++ two2 (k == 1) m (os.getD i dz13)) := by
  have hw := wrap_succ (i := i) (by omega)
  obtain ⟨q1, e1, h1⟩ := noPut_more hg (by omega) (s := (m, true, os.getD i dz13)) ⟨hm, rfl, fun _ => ho, fun h => by cases h⟩
  obtain ⟨q2, e2, h2⟩ := noPut_more h1 (by simp; omega) (s := (os.getD i dz13, true, m)) ⟨ho, rfl, fun _ => hm, fun h => by cases h⟩
  cases hb : (k == 1) with
  | true =>
    refine ⟨q2, ?_, by rw [List.append_assoc] at h2; exact h2⟩
    obtain ⟨⟨⟨a1, a2, a3, a4, a5, a6⟩, ⟨b1, b2⟩, ⟨c1, c2, c3⟩, ⟨d1, d2⟩⟩, tw, ⟨⟨f1, f2, f3, f4, f5, f6⟩, ⟨g1, g2⟩, ⟨i1, i2, i3⟩, ⟨j1, j2⟩⟩⟩ := x
    obtain ⟨⟨m1, m2, m3, m4, m5, m6⟩, ⟨m7, m8⟩, ⟨m9, m10, m11⟩, ⟨m12, m13⟩⟩ := m
    dsimp only [step_spec_NotationsOf_0, flS0, flH]
    simp only [lt_len hi, nonneg, Bool.and_self, cond_true, Int.toNat_natCast, e1, hk, hb, e2, hw]
  | false =>
    refine ⟨q1, ?_, h1⟩
    obtain ⟨⟨⟨a1, a2, a3, a4, a5, a6⟩, ⟨b1, b2⟩, ⟨c1, c2, c3⟩, ⟨d1, d2⟩⟩, tw, ⟨⟨f1, f2, f3, f4, f5, f6⟩, ⟨g1, g2⟩, ⟨i1, i2, i3⟩, ⟨j1, j2⟩⟩⟩ := x
    obtain ⟨⟨m1, m2, m3, m4, m5, m6⟩, ⟨m7, m8⟩, ⟨m9, m10, m11⟩, ⟨m12, m13⟩⟩ := m
    dsimp only [step_spec_NotationsOf_0, flS0, flH]
    simp only [lt_len hi, nonneg, Bool.and_self, cond_true, Int.toNat_natCast, e1, hk, hb, cond_false, hw]
theorem sp0_end (c1 c2 : Int) (os ms : List Hand) (m : Hand) (q : List Sign) (x : Sign) :
    step_spec_NotationsOf_0 (q, (c1, (c2, ((os.length : Int), ((os.length : Int), (os, (ms, flH m (flS0 x)))))))) = some (.inr (q, (c1, (c2, (ms, flS0 x))))) := by
  dsimp only [step_spec_NotationsOf_0, flS0, flH]
  simp only [not_lt_len, cond_false]
theorem sp0_run (c1 c2 : Int) (o1 o2 : Hand) (ho1 : hdOK o1 = true) (ho2 : hdOK o2 = true) (ms : List Hand) (m : Hand) (hm : hdOK m = true) (q L : List Sign) (hg : GoodN true q L) (hl : L.length ≤ 20) (x : Sign) (k : Int) (hk : F_spec_siKind x = some k) :
    ∃ q', runL step_spec_NotationsOf_0 (q, (c1, (c2, ((2 : Int), ((0 : Int), ([o1, o2], (ms, flH m (flS0 x)))))))) = some (q', (c1, (c2, (ms, flS0 x)))) ∧ GoodN true q' ((L ++ two2 (k == 1) m o1) ++ two2 (k == 1) m o2) := by
  obtain ⟨q1, s0, h1⟩ := sp0_step c1 c2 [o1, o2] ms m hm q L hg (by omega) x 0 (by simp) (by simp) ho1 k hk
  have l1 := two2_len (k == 1) m o1
  obtain ⟨q2, s1, h2⟩ := sp0_step c1 c2 [o1, o2] ms m hm q1 _ h1 (by simp at l1 ⊢; omega) x 1 (by simp) (by simp) ho2 k hk
  exact ⟨q2, (runL_step s0).trans ((runL_step s1).trans (runL_end (sp0_end c1 c2 [o1, o2] ms m q2 x))), h2⟩
def stS (q : List Sign) (i : Int) (ms : List Hand) (x : Sign) := (q, ((2 : Int), (i, (ms, flS0 x))))
theorem sp1_one (ms : List Hand) (hm : ms.length = 2) (m o : Hand) (q L : List Sign) (hg : GoodN false q L) (hl : L.length ≤ 50) (i : Nat) (hi : i < ms.length) (hh : hdOK (ms.getD i dz13) = true) :
    ∃ q', step_spec_NotationsOf_1 (stS q i ms (m, false, o)) = some (.inl (stS q' ((i + 1 : Nat) : Int) ms (m, false, o))) ∧ GoodN false q' (L ++ [(ms.getD i dz13, false, hdZ)]) := by
  have hw := wrap_succ (i := i) (by omega)
  have g0 : decide ((i : Int) < 2) = true := decide_eq_true (by omega)
  obtain ⟨q1, e1, h1⟩ := noPut_more hg (by omega) (s := (ms.getD i dz13, false, hdZ)) (hdZ_one hh)
  have e1 : F_spec_noPut (q, (ms.getD i dz13, false, ((0, (0, 0, (0, 0, false))), (0, 0), ((0, 0, false), ByteArray.empty, 0)))) = some q1 := e1
  refine ⟨q1, ?_, h1⟩
  dsimp only [step_spec_NotationsOf_1, stS, flS0, flH]
  simp only [g0, lt_len hi, nonneg, Bool.and_self, cond_true, Int.toNat_natCast, Bool.not_false, e1, hw]
theorem sp1_two (ms : List Hand) (hm : ms.length = 2) (m o : Hand) (ho : hdOK o = true) (q L : List Sign) (hg : GoodN true q L) (hl : L.length ≤ 20) (i : Nat) (hi : i < ms.length) (hh : hdOK (ms.getD i dz13) = true) (k : Int) (hk : F_spec_siKind (m, true, o) = some k) :
    ∃ q', step_spec_NotationsOf_1 (stS q i ms (m, true, o)) = some (.inl (stS q' ((i + 1 : Nat) : Int) ms (m, true, o))) ∧ GoodN true q' ((L ++ two2 (k == 1) (ms.getD i dz13) o) ++ two2 (k == 1) (ms.getD i dz13) (hdN o)) := by
  have hw := wrap_succ (i := i) (by omega)
  have g0 : decide ((i : Int) < 2) = true := decide_eq_true (by omega)
  have hn := noHand_is ho
  obtain ⟨q1, hr, h1⟩ := sp0_run 2 (i : Int) o (hdN o) ho (hdN_ok ho) ms (ms.getD i dz13) hh q L hg hl (m, true, o) k hk
  have hz : (([o, hdN o].length : Nat) : Int) = 2 := rfl
  refine ⟨q1, ?_, h1⟩
  clear h1
  generalize hdN o = o' at hn hr hz
  obtain ⟨⟨a1, a2, a3, a4, a5, a6⟩, ⟨b1, b2⟩, ⟨c1, c2, c3⟩, ⟨d1, d2⟩⟩ := m
  obtain ⟨⟨f1, f2, f3, f4, f5, f6⟩, ⟨g1, g2⟩, ⟨i1, i2, i3⟩, ⟨j1, j2⟩⟩ := o
  dsimp only [step_spec_NotationsOf_1, stS, flH, flS0] at hr ⊢
  simp only [g0, lt_len hi, nonneg, Bool.and_self, cond_true, Int.toNat_natCast, Bool.not_true, cond_false, hn, hz, hr, hw]
theorem sp1_end (ms : List Hand) (x : Sign) (q : List Sign) : step_spec_NotationsOf_1 (stS q 2 ms x) = some (.inr q) := by
  have g0 : decide ((2 : Int) < 2) = false := rfl
  dsimp only [step_spec_NotationsOf_1, stS, flS0, flH]
  simp only [g0, cond_false]
theorem sp1_run (s : Sign) (hs : WS s.2.1 s) (k : Int) (hk : F_spec_siKind s = some k) : ∃ q, runL step_spec_NotationsOf_1 (stS [] 0 [s.1, hdN s.1] s) = some q ∧ GoodN s.2.1 q (allN2 (k == 1) s) := by
  obtain ⟨m, two, o⟩ := s
  have hm : hdOK m = true := hs.m
  cases two with
  | false =>
    obtain ⟨q1, s0, h1⟩ := sp1_one [m, hdN m] rfl m o [] [] (goodN_nil _) (by simp) 0 (by simp) hm
    obtain ⟨q2, s1, h2⟩ := sp1_one [m, hdN m] rfl m o q1 _ h1 (by simp) 1 (by simp) (hdN_ok hm)
    exact ⟨q2, (runL_step s0).trans ((runL_step s1).trans (runL_end (sp1_end _ _ _))), h2⟩
  | true =>
    have ho := hs.o rfl
    obtain ⟨q1, s0, h1⟩ := sp1_two [m, hdN m] rfl m o ho [] [] (goodN_nil _) (by simp) 0 (by simp) hm k hk
    have l1 := two2_len (k == 1) m o
    have l2 := two2_len (k == 1) m (hdN o)
    have g : ∀ i, ([m, hdN m].getD i dz13) = [m, hdN m].getD i dz13 := fun _ => rfl
    obtain ⟨q2, s1, h2⟩ := sp1_two [m, hdN m] rfl m o ho q1 _ h1 (by
      show ((([] : List Sign) ++ two2 (k == 1) m o) ++ two2 (k == 1) m (hdN o)).length ≤ 20
      simp; omega) 1 (by simp) (hdN_ok hm) k hk
    refine ⟨q2, (runL_step s0).trans ((runL_step s1).trans (runL_end (sp1_end _ _ _))), ?_⟩
    have e : allN2 (k == 1) (m, true, o) = (((([] : List Sign) ++ two2 (k == 1) m o) ++ two2 (k == 1) m (hdN o)) ++ two2 (k == 1) (hdN m) o) ++ two2 (k == 1) (hdN m) (hdN o) := by
      simp only [allN2, cond_true, List.nil_append, List.append_assoc]
    rw [e]; exact h2
theorem NotationsOf_same (s : Sign) : ∃ y : List Sign × Bool, F_spec_NotationsOf s = some y ∧ F_impl_NotationsOf s = some y ∧ y.1.length ≤ 8 := by
  have g1 := siGood_is s
  have g2 := IsSign_is s
  cases hS : sgOK s with
  | false =>
    rw [hS] at g1 g2
    exact ⟨([], false), by simp only [F_spec_NotationsOf, g1, Bool.not_false, cond_true], by simp only [F_impl_NotationsOf, g2, Bool.not_false, cond_true], by simp⟩
  | true =>
    rw [hS] at g1 g2
    obtain ⟨p1, p2, p3⟩ := sgOK_parts hS
    have hs : WS s.2.1 s := ⟨p1, rfl, fun h => (p2 h).1, p3⟩
    obtain ⟨k, k1, k2⟩ := siKind_is s
    have i1 := im1_run s hs k k2
    obtain ⟨q, s1, hq⟩ := sp1_run s hs k k1
    have hws := allN2_ws (b := (k == 1)) hs
    have hlen := allN2_len (k == 1) s
    obtain ⟨r, r1, r2, r3⟩ := SortFunc_is (K_impl_compareSigns ()) cmS (fun _ _ _ => cmS_nt) (fun _ _ => cmS_as) (allN2 (k == 1) s) (fun x hx y hy => compareSigns_is (hws x hx) (hws y hy)) (by omega)
    have rl : r.length ≤ 8 := by rw [r2.length_eq]; exact hlen
    have c1 := compact_is r (by omega)
    have e : cpt r = q := rise_eqS (cpt_riseS (fun x hx => hws x (r2.subset hx)) r3) hq.rise fun x => by
      rw [cpt_mem, hq.mem]
      exact r2.mem_iff
    rw [e] at c1
    refine ⟨(q, true), ?_, ?_, by have := hq.len; simp only; omega⟩
    · have n1 := noHand_is p1
      have s1' : runL step_spec_NotationsOf_1 (stS [] 0 [s.1, hdN s.1] s) = some q := s1
      obtain ⟨m, two, o⟩ := s
      have hz : (([m, hdN m].length : Nat) : Int) = 2 := rfl
      dsimp only [stS, flS0, flH] at s1'
      dsimp only at n1
      simp only [F_spec_NotationsOf, g1, Bool.not_true, cond_false, n1, hz, s1']
    · have n1 := notations_is p1
      have i1' : runL step_impl_NotationsOf_1 (stI 0 [s.1, hdN s.1] s []) = some (allN2 (k == 1) s) := i1
      obtain ⟨m, two, o⟩ := s
      have hz : (([m, hdN m].length : Nat) : Int) = 2 := rfl
      dsimp only [stI, flH] at i1'
      dsimp only at n1
      simp only [F_impl_NotationsOf, g2, Bool.not_true, cond_false, n1, hz, i1', r1, c1]
theorem law_NotationsOf (s : Sign) (hb : s.1.2.2.2.1.size ≤ 9223372036854775807) (hc : s.2.2.2.2.2.1.size ≤ 9223372036854775807) : F_laws_FnExactNotationsOf s = some true := by
  obtain ⟨o, eo, hq⟩ := szSign_is s 1048576 (by omega) (by omega) hb hc
  rcases hq with hn | ⟨o0, o1⟩
  · delta F_laws_FnExactNotationsOf
    simp only [eo, decide_eq_true hn, cond_true]
  · obtain ⟨y, y1, y2, y3⟩ := NotationsOf_same s
    have t1 := toSign_is s
    have e1 := eqSignS_is y.1 (by omega)
    have m2 := markSignS_is y.1 (by omega)
    have k2 := heldSignS_is y.1.length (by omega)
    have n2 : decide (1 + 27 * (y.1.length : Int) < 0) = false := decide_eq_false (by omega)
    delta F_laws_FnExactNotationsOf
    simp only [eo, decide_eq_false (show ¬ o < 0 by omega), cond_false, t1, y1, y2, e1, Bool.not_true, BEq.rfl, m2, k2, n2, bne_self_eq_false]
end Go.Proofs.YtklfnbckoaphpaaGreatDoor
