/- Votes are counted alike on both sides: plain laws. No conditions beyond the bounds that are named. -/
import Derived.Test.YtbdnmfiaghhhiaaPo
set_option linter.unusedVariables false
set_option linter.unusedSimpArgs false
namespace Go.Proofs.Ytbdnmfiaghhhiaa
open Go

theorem votesOK_mem {l : List Int} (h : votesOK l = true) {x : Int} (hx : x ∈ l) : -1 ≤ x ∧ x ≤ 1 := by
  obtain ⟨i, hi, rfl⟩ := List.getElem_of_mem hx
  have := allN_true.1 h i hi
  simpa [List.getD, List.getElem?_eq_getElem hi] using this

theorem ofCount_is (p : Prop') (v : Int) (hv : p.2.2.2.length ≤ 1048576) : F_spec_ofCount (p, v) = some ((p.2.2.2.count v : Nat) : Int) := by
  have t := runL_traj (f := step_spec_ofCount_0) (fun i => (v, (((p.2.2.2.take i).count v : Nat) : Int), p.2.2.2, (p.2.2.2.length : Int), (i : Int))) ((p.2.2.2.count v : Nat) : Int) p.2.2.2.length (fun i hi => by
    have hw := wrap_succ (i := i) (by omega)
    have hc : (p.2.2.2.take i).count v ≤ i := Nat.le_trans List.count_le_length (by simp; omega)
    have hw2 := wrap_succ (i := (p.2.2.2.take i).count v) (by omega)
    have ht := take_succ_getD hi 0
    simp only [step_spec_ofCount_0, lt_len hi, nonneg, Bool.and_self, cond_true, Int.toNat_natCast, hw, hw2, ht, List.count_append, List.count_singleton]
    cases (p.2.2.2.getD i 0 == v) <;> rfl) (by simp [step_spec_ofCount_0])
  have t' : runL step_spec_ofCount_0 (v, 0, p.2.2.2, (p.2.2.2.length : Int), (0 : Int)) = _ := t
  simp only [F_spec_ofCount, t']

theorem those_int_is (l : List Int) (hl : l.length ≤ 1048576) (φ : Int → Option Bool) (p : Int → Bool) (hφ : ∀ x, φ x = some (p x)) : ∃ r, F_impl_those_int (l, φ) = some r ∧ r.length = l.countP p := by
  obtain ⟨r, e, hr⟩ := runL_inv (f := step_impl_those_int_0) (fun s => ∃ (i : Nat) (r : List Int), s = (φ, l, (l.length : Int), (i : Int), r) ∧ i ≤ l.length ∧ r.length = (l.take i).countP p) (fun r => r.length = l.countP p) (fun s => l.length - s.2.2.2.1.toNat) (by
    rintro s ⟨i, r, rfl, hi, hr⟩
    rcases Nat.lt_or_ge i l.length with hlt | hge
    · right
      have hw := wrap_succ (i := i) (by omega)
      have ht := take_succ_getD hlt 0
      have hc : (l.take i).countP p ≤ i := Nat.le_trans List.countP_le_length (by simp; omega)
      cases hp : p (l.getD i 0) with
      | true =>
        have hg : decide ((r.length + [(i : Int)].length) * 8 ≤ 140737488355328) = true := decide_eq_true (by simp only [List.length_singleton]; omega)
        refine ⟨(φ, l, (l.length : Int), ((i + 1 : Nat) : Int), r ++ [(i : Int)]), ?_, ⟨i + 1, _, rfl, by omega, ?_⟩, by simp; omega⟩
        · simp only [step_impl_those_int_0, lt_len hlt, nonneg, Bool.and_self, cond_true, Int.toNat_natCast, hφ, hp, hg, hw]
        · rw [ht, List.countP_append, List.countP_singleton, hp, List.length_append, hr]; rfl
      | false =>
        refine ⟨(φ, l, (l.length : Int), ((i + 1 : Nat) : Int), r), ?_, ⟨i + 1, _, rfl, by omega, ?_⟩, by simp; omega⟩
        · simp only [step_impl_those_int_0, lt_len hlt, nonneg, Bool.and_self, cond_true, Int.toNat_natCast, hφ, hp, cond_false, hw]
        · rw [ht, List.countP_append, List.countP_singleton, hp, hr]; simp
    · left
      have : i = l.length := by omega
      subst this
      exact ⟨r, by simp [step_impl_those_int_0], by simpa using hr⟩) (φ, l, (l.length : Int), 0, []) ⟨0, [], rfl, by omega, by simp⟩
  exact ⟨r, by simp [F_impl_those_int, e], hr⟩

theorem sum_bound : ∀ (l : List Int), (∀ x ∈ l, -1 ≤ x ∧ x ≤ 1) → -(l.length : Int) ≤ l.sum ∧ l.sum ≤ (l.length : Int)
  | [], _ => by simp
  | x :: l, h => by
    have h1 := h x (by simp)
    have h2 := sum_bound l (fun y hy => h y (by simp [hy]))
    simp only [List.sum_cons, List.length_cons]
    omega

theorem sumOf_is (l : List Int) (hl : l.length ≤ 1048576) (hv : ∀ x ∈ l, -1 ≤ x ∧ x ≤ 1) : F_impl_sumOf l = some l.sum := by
  have t := runL_traj (f := step_impl_sumOf_0) (fun i => ((l.take i).sum, l, (l.length : Int), (i : Int))) l.sum l.length (fun i hi => by
    have hw := wrap_succ (i := i) (by omega)
    have ht := take_succ_getD hi 0
    have hb := sum_bound (l.take (i + 1)) (fun x hx => hv x (List.mem_of_mem_take hx))
    have hs : (l.take (i + 1)).sum = (l.take i).sum + l.getD i 0 := by rw [ht, List.sum_append]; simp
    have hlen : ((l.take (i + 1)).length : Int) ≤ 1048576 := by simp; omega
    have hw2 : IntKind.i64.wrap ((l.take i).sum + l.getD i 0) = (l.take (i + 1)).sum := by rw [← hs]; exact wrap_id (by omega) (by omega)
    simp only [step_impl_sumOf_0, lt_len hi, nonneg, Bool.and_self, cond_true, Int.toNat_natCast, hw, hw2]) (by simp [step_impl_sumOf_0])
  have t' : runL step_impl_sumOf_0 (0, l, (l.length : Int), (0 : Int)) = _ := t
  simp only [F_impl_sumOf, t']

theorem votes_counts : ∀ (l : List Int), (∀ x ∈ l, -1 ≤ x ∧ x ≤ 1) → l.countP (fun x => x != 0) = l.count 1 + l.count (-1) ∧ l.sum = (l.count 1 : Int) - (l.count (-1) : Int)
  | [], _ => by simp
  | x :: l, h => by
    obtain ⟨h1, h2⟩ := votes_counts l (fun y hy => h y (by simp [hy]))
    have hx := h x (by simp)
    have : x = -1 ∨ x = 0 ∨ x = 1 := by omega
    rcases this with rfl | rfl | rfl
    · simp only [List.countP_cons, List.count_cons, List.sum_cons, h1, h2]
      refine ⟨?_, ?_⟩ <;> simp <;> omega
    · simp only [List.countP_cons, List.count_cons, List.sum_cons, h1, h2]
      refine ⟨?_, ?_⟩ <;> simp <;> omega
    · simp only [List.countP_cons, List.count_cons, List.sum_cons, h1, h2]
      refine ⟨?_, ?_⟩ <;> simp <;> omega

/-- passed, if so many more vote for it -/
def passes (l : List Int) (more : Int) : Bool := decide (2 * (more + (l.count 1 : Int) + (l.count (-1) : Int)) > (l.length : Int)) && decide ((l.count 1 : Int) + more > (l.count (-1) : Int))

theorem ofPassed_is (p : Prop') (more : Int) (hv : p.2.2.2.length ≤ 1048576) (h0 : 0 ≤ more) (h1 : more ≤ 1048576) : F_spec_ofPassed (p, more) = some (passes p.2.2.2 more) := by
  have c1 : p.2.2.2.count 1 ≤ p.2.2.2.length := List.count_le_length
  have c2 : p.2.2.2.count (-1) ≤ p.2.2.2.length := List.count_le_length
  have w1 : IntKind.i64.wrap (((p.2.2.2.count 1 : Nat) : Int) + more) = ((p.2.2.2.count 1 : Nat) : Int) + more := wrap_id (by omega) (by omega)
  have w2 : IntKind.i64.wrap (((p.2.2.2.count 1 : Nat) : Int) + more + ((p.2.2.2.count (-1) : Nat) : Int)) = more + ((p.2.2.2.count 1 : Nat) : Int) + ((p.2.2.2.count (-1) : Nat) : Int) := by rw [wrap_id (by omega) (by omega)]; omega
  have w3 : IntKind.i64.wrap (2 * (more + ((p.2.2.2.count 1 : Nat) : Int) + ((p.2.2.2.count (-1) : Nat) : Int))) = 2 * (more + ((p.2.2.2.count 1 : Nat) : Int) + ((p.2.2.2.count (-1) : Nat) : Int)) := wrap_id (by omega) (by omega)
  simp only [F_spec_ofPassed, ofCount_is p _ hv, w1, w2, w3, passes]
  cases decide (2 * (more + ((p.2.2.2.count 1 : Nat) : Int) + ((p.2.2.2.count (-1) : Nat) : Int)) > (p.2.2.2.length : Int)) <;> simp

theorem passed_is (p : Prop') (more : Int) (hv : p.2.2.2.length ≤ 1048576) (hok : votesOK p.2.2.2 = true) (h0 : 0 ≤ more) (h1 : more ≤ 1048576) : F_impl_Proposal_passed (p, more) = some (passes p.2.2.2 more) := by
  have c1 : p.2.2.2.count 1 ≤ p.2.2.2.length := List.count_le_length
  have c2 : p.2.2.2.count (-1) ≤ p.2.2.2.length := List.count_le_length
  have hm : ∀ x ∈ p.2.2.2, -1 ≤ x ∧ x ≤ 1 := fun x hx => votesOK_mem hok hx
  obtain ⟨r, e, hr⟩ := those_int_is p.2.2.2 hv (K_impl_Proposal_passed_1 ()) (fun x => x != 0) (fun x => rfl)
  obtain ⟨v1, v2⟩ := votes_counts p.2.2.2 hm
  have hs := sumOf_is p.2.2.2 hv hm
  have hb := sum_bound p.2.2.2 hm
  have hr' : (r.length : Int) = ((p.2.2.2.count 1 : Nat) : Int) + ((p.2.2.2.count (-1) : Nat) : Int) := by rw [hr, v1]; omega
  have w1 : IntKind.i64.wrap (more + (r.length : Int)) = more + ((p.2.2.2.count 1 : Nat) : Int) + ((p.2.2.2.count (-1) : Nat) : Int) := by rw [hr', wrap_id (by omega) (by omega)]; omega
  have w3 : IntKind.i64.wrap (2 * (more + ((p.2.2.2.count 1 : Nat) : Int) + ((p.2.2.2.count (-1) : Nat) : Int))) = 2 * (more + ((p.2.2.2.count 1 : Nat) : Int) + ((p.2.2.2.count (-1) : Nat) : Int)) := wrap_id (by omega) (by omega)
  have w4 : IntKind.i64.wrap (p.2.2.2.sum + more) = p.2.2.2.sum + more := wrap_id (by omega) (by omega)
  have hd : decide (p.2.2.2.sum + more > 0) = decide (((p.2.2.2.count 1 : Nat) : Int) + more > ((p.2.2.2.count (-1) : Nat) : Int)) := by
    rw [v2]
    by_cases hq : ((p.2.2.2.count 1 : Nat) : Int) + more > ((p.2.2.2.count (-1) : Nat) : Int)
    · rw [decide_eq_true hq, decide_eq_true (by omega)]
    · rw [decide_eq_false hq, decide_eq_false (by omega)]
  simp only [F_impl_Proposal_passed, e, w1, w3, hs, w4, hd, passes]
  cases decide (2 * (more + ((p.2.2.2.count 1 : Nat) : Int) + ((p.2.2.2.count (-1) : Nat) : Int)) > (p.2.2.2.length : Int)) <;> simp

/-- where a proposal with a number lies -/
def findP (l : List Prop') (n : Int) : Int := firstN (fun i => (l.getD i dP).1 == n) l.length
theorem ofFind_is (l : List Prop') (n : Int) (hl : l.length ≤ 1048576) : F_spec_ofFind (l, n) = some (findP l n) := by
  rcases runL_first (f := step_spec_ofFind_0) (fun i => !((l.getD i dP).1 == n)) (fun i => (n, l, (l.length : Int), (i : Int))) (fun i => .inl (i : Int)) (.inr ()) l.length (fun i hi => by
    have hw := wrap_succ (i := i) (by omega)
    simp only [step_spec_ofFind_0, lt_len hi, nonneg, Bool.and_self, cond_true, Int.toNat_natCast, hw]
    cases ((l.getD i dP).1 == n) <;> rfl) (by simp [step_spec_ofFind_0]) with ⟨t, hp⟩ | ⟨i, hi, hp, hj, t⟩
  · have t' : runL step_spec_ofFind_0 (n, l, (l.length : Int), (0 : Int)) = _ := t
    simp only [F_spec_ofFind, t', findP]
    rw [firstN_none (fun j hj => by simpa using hp j hj)]
  · have t' : runL step_spec_ofFind_0 (n, l, (l.length : Int), (0 : Int)) = _ := t
    simp only [F_spec_ofFind, t', findP]
    rw [firstN_at hi (by simpa using hp) (fun j hj' => by simpa using hj j hj')]

theorem IndexFunc_prop_is (l : List Prop') (hl : l.length ≤ 9223372036854775807) (φ : Prop' → Option Bool) (p : Nat → Bool) (hφ : ∀ i, i < l.length → φ (l.getD i dP) = some (p i)) :
    F_slices_IndexFunc_impl_Proposal_impl_Proposal (l, φ) = some (firstN p l.length) := by
  rcases runL_first (f := step_slices_IndexFunc_impl_Proposal_impl_Proposal_0) (fun i => !p i) (fun i => (l, φ, (l.length : Int), (i : Int))) (fun i => .inl (i : Int)) (.inr ()) l.length (fun i hi => by
    have hw := wrap_succ (i := i) (by omega)
    simp only [step_slices_IndexFunc_impl_Proposal_impl_Proposal_0, lt_len hi, nonneg, Bool.and_self, cond_true, Int.toNat_natCast, hw, hφ i hi]
    cases p i <;> rfl) (by simp [step_slices_IndexFunc_impl_Proposal_impl_Proposal_0]) with ⟨t, hp⟩ | ⟨i, hi, hp, hj, t⟩
  · have t' : runL step_slices_IndexFunc_impl_Proposal_impl_Proposal_0 (l, φ, (l.length : Int), (0 : Int)) = _ := t
    simp only [F_slices_IndexFunc_impl_Proposal_impl_Proposal, t']
    rw [firstN_none (fun j hj => by simpa using hp j hj)]
  · have t' : runL step_slices_IndexFunc_impl_Proposal_impl_Proposal_0 (l, φ, (l.length : Int), (0 : Int)) = _ := t
    simp only [F_slices_IndexFunc_impl_Proposal_impl_Proposal, t']
    rw [firstN_at hi (by simpa using hp) (fun j hj' => by simpa using hj j hj')]
theorem proposalAt_is (l : List Prop') (n : Int) (hl : l.length ≤ 1048576) : F_impl_proposalAt (l, n) = some (findP l n) := by
  have h := IndexFunc_prop_is l (by omega) (K_impl_proposalAt_1 n) (fun i => (l.getD i dP).1 == n) (fun i hi => rfl)
  simp only [F_impl_proposalAt, h, findP]

/-- a place that was found lies in the list -/
theorem findP_cases (l : List Prop') (n : Int) : (findP l n = -1) ∨ ∃ i : Nat, i < l.length ∧ findP l n = (i : Int) := by
  rcases firstN_cases (fun i => (l.getD i dP).1 == n) l.length with ⟨e, _⟩ | ⟨i, hi, e, _, _⟩
  · exact .inl e
  · exact .inr ⟨i, hi, e⟩

theorem good_votes {m : Int} {l : List Prop'} (h : good m l = true) {i : Nat} (hi : i < l.length) : votesOK (l.getD i dP).2.2.2 = true ∧ ((l.getD i dP).2.2.2.length : Int) = m := by
  simp only [good, Bool.and_eq_true] at h
  have := allN_true.1 h.1.1 i hi
  simp only [goodAt, Bool.and_eq_true, beq_iff_eq] at this
  exact ⟨this.1.2, this.1.1.2⟩
theorem good_m {m : Int} {l : List Prop'} (h : good m l = true) : 1 ≤ m ∧ m ≤ 7 ∧ l.length ≤ 12 := by
  simp only [good, Bool.and_eq_true, decide_eq_true_eq] at h
  omega
end Go.Proofs.Ytbdnmfiaghhhiaa
