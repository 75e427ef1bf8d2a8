/- Words for pure laws: rounds of loops, bounds of numbers. No conditions. -/
import Derived.Test.YtbdnmfiaghhhiaaEvZk
set_option linter.unusedVariables false
namespace Go.Proofs.Ytbdnmfiaghhhiaa
open Go
theorem wrap_id {n : Int} (h0 : -9223372036854775808 ≤ n) (h1 : n ≤ 9223372036854775807) : IntKind.i64.wrap n = n := by
  simp [IntKind.wrap, IntKind.bits, IntKind.signed]
  omega
theorem wrap_succ {i : Nat} (h : i < 9223372036854775807) : IntKind.i64.wrap ((i : Int) + 1) = ((i + 1 : Nat) : Int) := by rw [wrap_id (by omega) (by omega)]; omega
theorem wrap_pred {i : Nat} (h : i < 9223372036854775807) (h0 : 0 < i) : IntKind.i64.wrap ((i : Int) - 1) = ((i - 1 : Nat) : Int) := by rw [wrap_id (by omega) (by omega)]; omega

/-- a loop that keeps R and comes to an end has Q behind it -/
theorem runL_inv {S O : Type} {f : S → Option (S ⊕ O)} (R : S → Prop) (Q : O → Prop) (μ : S → Nat)
    (h : ∀ s, R s → (∃ o, f s = some (.inr o) ∧ Q o) ∨ ∃ s', f s = some (.inl s') ∧ R s' ∧ μ s' < μ s) : ∀ s, R s → ∃ o, runL f s = some o ∧ Q o := by
  have go : ∀ n s, μ s ≤ n → R s → ∃ o, runL f s = some o ∧ Q o := by
    intro n
    induction n with
    | zero =>
      intro s hn hs
      rcases h s hs with ⟨o, e, q⟩ | ⟨s', e, r, l⟩
      · exact ⟨o, by rw [runL_eq, e], q⟩
      · omega
    | succ n ih =>
      intro s hn hs
      rcases h s hs with ⟨o, e, q⟩ | ⟨s', e, r, l⟩
      · exact ⟨o, by rw [runL_eq, e], q⟩
      · obtain ⟨o, e2, q⟩ := ih s' (by omega) r
        exact ⟨o, by rw [runL_eq, e]; exact e2, q⟩
  exact fun s hs => go _ s (Nat.le_refl _) hs

/-- two loops, round by round -/
theorem runL_sim {S T O P : Type} {f : S → Option (S ⊕ O)} {g : T → Option (T ⊕ P)} (R : S → T → Prop) (Q : O → P → Prop) (μ : S → Nat)
    (h : ∀ s t, R s t → (∃ o p, f s = some (.inr o) ∧ g t = some (.inr p) ∧ Q o p) ∨ ∃ s' t', f s = some (.inl s') ∧ g t = some (.inl t') ∧ R s' t' ∧ μ s' < μ s) :
    ∀ s t, R s t → ∃ o p, runL f s = some o ∧ runL g t = some p ∧ Q o p := by
  have go : ∀ n s t, μ s ≤ n → R s t → ∃ o p, runL f s = some o ∧ runL g t = some p ∧ Q o p := by
    intro n
    induction n with
    | zero =>
      intro s t hn hs
      rcases h s t hs with ⟨o, p, e, e2, q⟩ | ⟨s', t', e, e2, r, l⟩
      · exact ⟨o, p, by rw [runL_eq, e], by rw [runL_eq, e2], q⟩
      · omega
    | succ n ih =>
      intro s t hn hs
      rcases h s t hs with ⟨o, p, e, e2, q⟩ | ⟨s', t', e, e2, r, l⟩
      · exact ⟨o, p, by rw [runL_eq, e], by rw [runL_eq, e2], q⟩
      · obtain ⟨o, p, e3, e4, q⟩ := ih s' t' (by omega) r
        exact ⟨o, p, by rw [runL_eq, e]; exact e3, by rw [runL_eq, e2]; exact e4, q⟩
  exact fun s t hs => go _ s t (Nat.le_refl _) hs

/-- a loop over m rounds whose states are known -/
theorem runL_traj {S O : Type} {f : S → Option (S ⊕ O)} (s : Nat → S) (o : O) (m : Nat) (h : ∀ i, i < m → f (s i) = some (.inl (s (i + 1)))) (hend : f (s m) = some (.inr o)) : runL f (s 0) = some o := by
  have go : ∀ k i, m - i = k → i ≤ m → runL f (s i) = some o := by
    intro k
    induction k with
    | zero => intro i hk hi; rw [runL_eq, show i = m by omega, hend]
    | succ k ih => intro i hk hi; rw [runL_eq, h i (by omega)]; exact ih (i + 1) (by omega) (by omega)
  exact go m 0 (by omega) (by omega)

/-- a loop that goes on while p holds: the first place where it fails -/
theorem runL_first {S O : Type} {f : S → Option (S ⊕ O)} (p : Nat → Bool) (s : Nat → S) (no : Nat → O) (yes : O) (m : Nat)
    (h : ∀ i, i < m → f (s i) = some (bif p i then .inl (s (i + 1)) else .inr (no i))) (hend : f (s m) = some (.inr yes)) :
    (runL f (s 0) = some yes ∧ ∀ i, i < m → p i = true) ∨ ∃ i, i < m ∧ p i = false ∧ (∀ j, j < i → p j = true) ∧ runL f (s 0) = some (no i) := by
  have go : ∀ k i, m - i = k → i ≤ m → (∀ j, j < i → p j = true) → runL f (s 0) = runL f (s i) → (runL f (s 0) = some yes ∧ ∀ i, i < m → p i = true) ∨ ∃ i, i < m ∧ p i = false ∧ (∀ j, j < i → p j = true) ∧ runL f (s 0) = some (no i) := by
    intro k
    induction k with
    | zero =>
      intro i hk hi hp he
      have : i = m := by omega
      subst this
      exact .inl ⟨by rw [he, runL_eq, hend], hp⟩
    | succ k ih =>
      intro i hk hi hp he
      have hi' : i < m := by omega
      cases hpi : p i with
      | false => exact .inr ⟨i, hi', hpi, hp, by rw [he, runL_eq, h i hi', hpi]; rfl⟩
      | true =>
        refine ih (i + 1) (by omega) (by omega) (fun j hj => ?_) ?_
        · rcases Nat.lt_succ_iff_lt_or_eq.1 hj with hj | hj
          · exact hp j hj
          · exact hj ▸ hpi
        · rw [he, runL_eq f (s i), h i hi', hpi]; rfl
  exact go m 0 (by omega) (by omega) (fun j hj => by omega) rfl

/-- all of the first m places -/
def allN (p : Nat → Bool) (m : Nat) : Bool := (List.range m).all p
theorem allN_true {p : Nat → Bool} {m : Nat} : allN p m = true ↔ ∀ i, i < m → p i = true := by simp [allN]
theorem allN_false {p : Nat → Bool} {m : Nat} : allN p m = false ↔ ∃ i, i < m ∧ p i = false := by simp [allN]

theorem runL_all {S O : Type} {f : S → Option (S ⊕ O)} (p : Nat → Bool) (s : Nat → S) (no yes : O) (m : Nat)
    (h : ∀ i, i < m → f (s i) = some (bif p i then .inl (s (i + 1)) else .inr no)) (hend : f (s m) = some (.inr yes)) : runL f (s 0) = some (bif allN p m then yes else no) := by
  rcases runL_first p s (fun _ => no) yes m h hend with ⟨e, hp⟩ | ⟨i, hi, hp, _, e⟩
  · rw [e, allN_true.2 hp]; rfl
  · rw [e, allN_false.2 ⟨i, hi, hp⟩]; rfl

/-- the first of m places where p holds, or -1 -/
def firstN (p : Nat → Bool) (m : Nat) : Int := match (List.range m).find? p with | some i => (i : Int) | none => -1
theorem firstN_at {p : Nat → Bool} {m i : Nat} (hi : i < m) (hp : p i = true) (hj : ∀ j, j < i → p j = false) : firstN p m = (i : Int) := by
  unfold firstN
  have : (List.range m).find? p = some i := by
    rw [List.find?_range_eq_some]
    refine ⟨hp, by simpa using hi, fun j hj' => by simp [hj j hj']⟩
  rw [this]
theorem firstN_none {p : Nat → Bool} {m : Nat} (h : ∀ j, j < m → p j = false) : firstN p m = -1 := by
  unfold firstN
  have : (List.range m).find? p = none := by
    rw [List.find?_eq_none]
    intro x hx
    simp [h x (by simpa using hx)]
  rw [this]
theorem firstN_cases (p : Nat → Bool) (m : Nat) : (firstN p m = -1 ∧ ∀ j, j < m → p j = false) ∨ ∃ i, i < m ∧ firstN p m = (i : Int) ∧ p i = true ∧ ∀ j, j < i → p j = false := by
  cases h : (List.range m).find? p with
  | none =>
    have h' := List.find?_eq_none.1 h
    have : ∀ j, j < m → p j = false := fun j hj => by simpa using h' j (by simpa using hj)
    exact .inl ⟨firstN_none this, this⟩
  | some i =>
    obtain ⟨h1, h2, h3⟩ := List.find?_range_eq_some.1 h
    have h2' : i < m := by simpa using h2
    have h3' : ∀ j, j < i → p j = false := fun j hj => by simpa using h3 j hj
    exact .inr ⟨i, h2', firstN_at h2' h1 h3', h1, h3'⟩

/-- a loop that looks for the first place where p holds -/
theorem runL_find {S O : Type} {f : S → Option (S ⊕ O)} (p : Nat → Bool) (s : Nat → S) (o : Int → O) (m : Nat)
    (h : ∀ i, i < m → f (s i) = some (bif p i then .inr (o i) else .inl (s (i + 1)))) (hend : f (s m) = some (.inr (o (-1)))) : runL f (s 0) = some (o (firstN p m)) := by
  rcases runL_first (fun i => !p i) s (fun i => o i) (o (-1)) m (fun i hi => by rw [h i hi]; cases p i <;> rfl) hend with ⟨e, hp⟩ | ⟨i, hi, hp, hj, e⟩
  · rw [e, firstN_none (fun j hj => by simpa using hp j hj)]
  · rw [e, firstN_at hi (by simpa using hp) (fun j hj' => by simpa using hj j hj')]

theorem getD_mem {α : Type} {l : List α} {i : Nat} (h : i < l.length) (d : α) : l.getD i d ∈ l := by simp [List.getD, List.getElem?_eq_getElem h]
theorem take_succ_getD {α : Type} {l : List α} {i : Nat} (h : i < l.length) (d : α) : l.take (i + 1) = l.take i ++ [l.getD i d] := by
  rw [List.take_add_one, List.getD, List.getElem?_eq_getElem h]; rfl
theorem lt_len {i n : Nat} (h : i < n) : decide ((i : Int) < (n : Int)) = true := by simp; omega
theorem not_lt_len (n : Nat) : decide ((n : Int) < (n : Int)) = false := by simp
theorem nonneg (i : Nat) : decide (0 ≤ (i : Int)) = true := by simp

/-- a copy that is written place by place -/
theorem set_copy {α : Type} (l : List α) (d : α) {i : Nat} (h : i < l.length) : (l.take i ++ List.replicate (l.length - i) d).set i (l.getD i d) = l.take (i + 1) ++ List.replicate (l.length - (i + 1)) d := by
  have e : l.length - i = (l.length - (i + 1)) + 1 := by omega
  have hi : (l.take i).length = i := by simp; omega
  rw [take_succ_getD h d, e, List.replicate_succ, List.set_append, if_neg (by omega), hi, Nat.sub_self, List.set_cons_zero, List.append_assoc]
  rfl
theorem copy_len {α : Type} (l : List α) (d : α) {i : Nat} (h : i ≤ l.length) : (l.take i ++ List.replicate (l.length - i) d).length = l.length := by simp; omega
end Go.Proofs.Ytbdnmfiaghhhiaa
