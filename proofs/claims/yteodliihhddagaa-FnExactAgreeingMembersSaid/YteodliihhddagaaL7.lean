/- The law of AgreeingMembers, as plain Lean: it answers true. Lengths fit an int. -/
import Derived.Test.YteodliihhddagaaPv
set_option linter.unusedVariables false
set_option linter.unusedSimpArgs false
namespace Go.Proofs.Yteodliihhddagaa
open Go

def agreeP (i k : Nat) (p : Prop') : Bool := (p.2.2.2.getD i 0 != 0) && (p.2.2.2.getD i 0 == p.2.2.2.getD k 0)
/-- on how many two members agree -/
def agree (l : List Prop') (i k : Nat) : Nat := l.countP (agreeP i k)

theorem agree_spec (l : List Prop') (M i k : Nat) (a b mo : Int) (hl : l.length ≤ 12) (hM : ∀ e ∈ l, e.2.2.2.length = M) (hi : i < M) (hk : k < M) :
    runL step_spec_AgreeingMembers_0 (l, (M : Int), a, b, mo, (i : Int), (k : Int), 0, l, (l.length : Int), 0) = some (l, (M : Int), a, b, mo, (i : Int), (k : Int), ((agree l i k : Nat) : Int)) := by
  have t := runL_traj (f := step_spec_AgreeingMembers_0) (fun j => (l, (M : Int), a, b, mo, (i : Int), (k : Int), ((agree (l.take j) i k : Nat) : Int), l, (l.length : Int), (j : Int))) (l, (M : Int), a, b, mo, (i : Int), (k : Int), ((agree l i k : Nat) : Int)) l.length (fun j hj => by
    have hw := wrap_succ (i := j) (by omega)
    have hc : agree (l.take j) i k ≤ j := Nat.le_trans List.countP_le_length (by simp; omega)
    have hw2 := wrap_succ (i := agree (l.take j) i k) (by omega)
    have hlen := hM _ (getD_mem hj dP)
    have ht := take_succ_getD hj dP
    have g1 : decide ((i : Int) < ((l.getD j dP).2.2.2.length : Int)) = true := decide_eq_true (by omega)
    have g2 : decide ((k : Int) < ((l.getD j dP).2.2.2.length : Int)) = true := decide_eq_true (by omega)
    have ha : agree (l.take (j + 1)) i k = agree (l.take j) i k + (bif agreeP i k (l.getD j dP) then 1 else 0) := by
      rw [agree, ht, List.countP_append, List.countP_singleton, agree]
      cases agreeP i k (l.getD j dP) <;> rfl
    simp only [step_spec_AgreeingMembers_0, lt_len hj, g1, g2, nonneg, Bool.and_self, cond_true, Int.toNat_natCast, hw, hw2, ha, agreeP]
    cases ((l.getD j dP).2.2.2.getD i 0 != 0) <;> cases ((l.getD j dP).2.2.2.getD i 0 == (l.getD j dP).2.2.2.getD k 0) <;> rfl) (by simp [step_spec_AgreeingMembers_0])
  exact t

theorem those_prop_is (l : List Prop') (hl : l.length ≤ 1048576) (φ : Prop' → Option Bool) (p : Prop' → Bool) (hφ : ∀ x ∈ l, φ x = some (p x)) : ∃ r, F_impl_those_impl_Proposal (l, φ) = some r ∧ r.length = l.countP p := by
  obtain ⟨r, e, hr⟩ := runL_inv (f := step_impl_those_impl_Proposal_0) (fun s => ∃ (i : Nat) (r : List Int), s = (φ, l, (l.length : Int), (i : Int), r) ∧ i ≤ l.length ∧ r.length = (l.take i).countP p) (fun r => r.length = l.countP p) (fun s => l.length - s.2.2.2.1.toNat) (by
    rintro s ⟨i, r, rfl, hi, hr⟩
    rcases Nat.lt_or_ge i l.length with hlt | hge
    · right
      have hw := wrap_succ (i := i) (by omega)
      have ht := take_succ_getD hlt dP
      have hc : (l.take i).countP p ≤ i := Nat.le_trans List.countP_le_length (by simp; omega)
      have hφ' := hφ _ (getD_mem hlt dP)
      cases hp : p (l.getD i dP) with
      | true =>
        have hg : decide ((r.length + [(i : Int)].length) * 8 ≤ 140737488355328) = true := decide_eq_true (by simp only [List.length_singleton]; omega)
        refine ⟨(φ, l, (l.length : Int), ((i + 1 : Nat) : Int), r ++ [(i : Int)]), ?_, ⟨i + 1, _, rfl, by omega, ?_⟩, by simp; omega⟩
        · simp only [step_impl_those_impl_Proposal_0, lt_len hlt, nonneg, Bool.and_self, cond_true, Int.toNat_natCast, hφ', hp, hg, hw]
        · rw [ht, List.countP_append, List.countP_singleton, hp, List.length_append, hr]; rfl
      | false =>
        refine ⟨(φ, l, (l.length : Int), ((i + 1 : Nat) : Int), r), ?_, ⟨i + 1, _, rfl, by omega, ?_⟩, by simp; omega⟩
        · simp only [step_impl_those_impl_Proposal_0, lt_len hlt, nonneg, Bool.and_self, cond_true, Int.toNat_natCast, hφ', hp, cond_false, hw]
        · rw [ht, List.countP_append, List.countP_singleton, hp, hr]; simp
    · left
      have : i = l.length := by omega
      subst this
      exact ⟨r, by simp [step_impl_those_impl_Proposal_0], by simpa using hr⟩) (φ, l, (l.length : Int), 0, []) ⟨0, [], rfl, by omega, by simp⟩
  exact ⟨r, by simp [F_impl_those_impl_Proposal, e], hr⟩

theorem agree_impl (l : List Prop') (M i k : Nat) (hl : l.length ≤ 12) (hM : ∀ e ∈ l, e.2.2.2.length = M) (hi : i < M) (hk : k < M) :
    ∃ r, F_impl_those_impl_Proposal (l, K_impl_AgreeingMembers_1 ((i : Int), (k : Int))) = some r ∧ (r.length : Int) = ((agree l i k : Nat) : Int) := by
  obtain ⟨r, e, hr⟩ := those_prop_is l (by omega) (K_impl_AgreeingMembers_1 ((i : Int), (k : Int))) (agreeP i k) (fun x hx => by
    have hlen := hM x hx
    have g1 : decide ((i : Int) < (x.2.2.2.length : Int)) = true := decide_eq_true (by omega)
    have g2 : decide ((k : Int) < (x.2.2.2.length : Int)) = true := decide_eq_true (by omega)
    simp only [K_impl_AgreeingMembers_1, F_impl_AgreeingMembers_1, g1, g2, nonneg, Bool.and_self, cond_true, Int.toNat_natCast, agreeP]
    cases (x.2.2.2.getD i 0 != 0) <;> rfl)
  exact ⟨r, e, by rw [hr]; rfl⟩

/-- the best pair so far: alike on both sides, but ahead of the first pair -/
def pairs (a b mo f s mo' : Int) (first : Prop) : Prop := (a = f ∧ b = s ∧ mo = mo') ∨ (a = 0 ∧ b = 0 ∧ mo = -1 ∧ f = 0 ∧ s = 1 ∧ mo' = 0 ∧ first)

theorem members_inner (l : List Prop') (M i : Nat) (hl : l.length ≤ 12) (hM : ∀ e ∈ l, e.2.2.2.length = M) (h7 : M ≤ 7) (h2 : 2 ≤ M) (hi : i < M) (a b mo f sd mo' : Int) (hp : pairs a b mo f sd mo' (i = 0)) :
    ∃ x y z : Int, runL step_spec_AgreeingMembers_1 (l, (M : Int), a, b, mo, (i : Int), ((i + 1 : Nat) : Int)) = some (l, (M : Int), x, y, z, (i : Int)) ∧
      runL step_impl_AgreeingMembers_0 (l, (M : Int), f, sd, mo', (M : Int), (i : Int), ((i + 1 : Nat) : Int), (i : Int)) = some (l, (M : Int), x, y, z, (M : Int), (i : Int)) := by
  obtain ⟨o, p, e1, e2, x, y, z, rfl, rfl⟩ := runL_sim (f := step_spec_AgreeingMembers_1) (g := step_impl_AgreeingMembers_0)
    (fun s t => ∃ (k : Nat) (a b mo f sd mo' : Int), s = (l, (M : Int), a, b, mo, (i : Int), (k : Int)) ∧ t = (l, (M : Int), f, sd, mo', (M : Int), (i : Int), (k : Int), (i : Int)) ∧ i < k ∧ k ≤ M ∧ pairs a b mo f sd mo' (i = 0 ∧ k = 1))
    (fun o p => ∃ x y z : Int, o = (l, (M : Int), x, y, z, (i : Int)) ∧ p = (l, (M : Int), x, y, z, (M : Int), (i : Int))) (fun s => M - s.2.2.2.2.2.2.toNat) (by
    rintro s t ⟨k, a, b, mo, f, sd, mo', rfl, rfl, hik, hk, hp⟩
    rcases Nat.lt_or_ge k M with hlt | hge
    · right
      have hw := wrap_succ (i := k) (by omega)
      have e1 := agree_spec l M i k a b mo hl hM hi hlt
      obtain ⟨r, e2, e3⟩ := agree_impl l M i k hl hM hi hlt
      rcases hp with ⟨rfl, rfl, rfl⟩ | ⟨rfl, rfl, rfl, rfl, rfl, rfl, rfl, rfl⟩
      · by_cases hgt : ((agree l i k : Nat) : Int) > mo
        · refine ⟨(l, (M : Int), (i : Int), (k : Int), ((agree l i k : Nat) : Int), (i : Int), ((k + 1 : Nat) : Int)), (l, (M : Int), (i : Int), (k : Int), ((agree l i k : Nat) : Int), (M : Int), (i : Int), ((k + 1 : Nat) : Int), (i : Int)), ?_, ?_, ⟨k + 1, _, _, _, _, _, _, rfl, rfl, by omega, by omega, .inl ⟨rfl, rfl, rfl⟩⟩, by simp; omega⟩
          · simp only [step_spec_AgreeingMembers_1, lt_len hlt, cond_true, e1, decide_eq_true hgt, hw]
          · simp only [step_impl_AgreeingMembers_0, lt_len hlt, cond_true, e2, e3, decide_eq_true hgt, hw]
        · refine ⟨(l, (M : Int), a, b, mo, (i : Int), ((k + 1 : Nat) : Int)), (l, (M : Int), a, b, mo, (M : Int), (i : Int), ((k + 1 : Nat) : Int), (i : Int)), ?_, ?_, ⟨k + 1, _, _, _, _, _, _, rfl, rfl, by omega, by omega, .inl ⟨rfl, rfl, rfl⟩⟩, by simp; omega⟩
          · simp only [step_spec_AgreeingMembers_1, lt_len hlt, cond_true, e1, decide_eq_false hgt, cond_false, hw]
          · simp only [step_impl_AgreeingMembers_0, lt_len hlt, cond_true, e2, e3, decide_eq_false hgt, cond_false, hw]
      · have hg1 : decide (((agree l 0 1 : Nat) : Int) > -1) = true := decide_eq_true (by omega)
        refine ⟨(l, (M : Int), ((0 : Nat) : Int), ((1 : Nat) : Int), ((agree l 0 1 : Nat) : Int), ((0 : Nat) : Int), ((1 + 1 : Nat) : Int)), (l, (M : Int), ((0 : Nat) : Int), ((1 : Nat) : Int), ((agree l 0 1 : Nat) : Int), (M : Int), ((0 : Nat) : Int), ((1 + 1 : Nat) : Int), ((0 : Nat) : Int)), ?_, ?_, ⟨1 + 1, _, _, _, _, _, _, rfl, rfl, by omega, by omega, .inl ⟨rfl, rfl, rfl⟩⟩, by simp; omega⟩
        · simp only [step_spec_AgreeingMembers_1, lt_len hlt, cond_true, e1, hg1, hw]
        · by_cases hgt : ((agree l 0 1 : Nat) : Int) > 0
          · simp only [step_impl_AgreeingMembers_0, lt_len hlt, cond_true, e2, e3, decide_eq_true hgt, hw]
          · have h0 : ((agree l 0 1 : Nat) : Int) = 0 := by omega
            simp only [step_impl_AgreeingMembers_0, lt_len hlt, cond_true, e2, e3, decide_eq_false hgt, cond_false, hw, h0]
            rfl
    · left
      have : k = M := by omega
      subst this
      rcases hp with ⟨rfl, rfl, rfl⟩ | ⟨_, _, _, _, _, _, _, h1⟩
      · exact ⟨_, _, by simp only [step_spec_AgreeingMembers_1, not_lt_len, cond_false], by simp only [step_impl_AgreeingMembers_0, not_lt_len, cond_false], a, b, mo, rfl, rfl⟩
      · omega) (l, (M : Int), a, b, mo, (i : Int), ((i + 1 : Nat) : Int)) (l, (M : Int), f, sd, mo', (M : Int), (i : Int), ((i + 1 : Nat) : Int), (i : Int)) ⟨i + 1, a, b, mo, f, sd, mo', rfl, rfl, by omega, by omega, by
      rcases hp with h | ⟨h1, h2, h3, h4, h5, h6, h7⟩
      · exact .inl h
      · exact .inr ⟨h1, h2, h3, h4, h5, h6, h7, by omega⟩⟩
  exact ⟨x, y, z, e1, e2⟩

theorem members_outer (l : List Prop') (M : Nat) (hl : l.length ≤ 12) (hM : ∀ e ∈ l, e.2.2.2.length = M) (h7 : M ≤ 7) (h2 : 2 ≤ M) :
    ∃ o : Int × Int × Int, runL step_spec_AgreeingMembers_2 (l, (M : Int), 0, 0, -1, 0) = some o ∧ runL step_impl_AgreeingMembers_1 (l, (M : Int), 0, 1, 0, (M : Int), 0) = some o := by
  obtain ⟨o, p, e1, e2, rfl⟩ := runL_sim (f := step_spec_AgreeingMembers_2) (g := step_impl_AgreeingMembers_1)
    (fun s t => ∃ (i : Nat) (a b mo f sd mo' : Int), s = (l, (M : Int), a, b, mo, (i : Int)) ∧ t = (l, (M : Int), f, sd, mo', (M : Int), (i : Int)) ∧ i ≤ M ∧ pairs a b mo f sd mo' (i = 0))
    (fun o p => o = p) (fun s => M - s.2.2.2.2.2.toNat) (by
    rintro s t ⟨i, a, b, mo, f, sd, mo', rfl, rfl, hi, hp⟩
    rcases Nat.lt_or_ge i M with hlt | hge
    · right
      have hw := wrap_succ (i := i) (by omega)
      obtain ⟨x, y, z, e1, e2⟩ := members_inner l M i hl hM h7 h2 hlt a b mo f sd mo' hp
      refine ⟨(l, (M : Int), x, y, z, ((i + 1 : Nat) : Int)), (l, (M : Int), x, y, z, (M : Int), ((i + 1 : Nat) : Int)), ?_, ?_, ⟨i + 1, _, _, _, _, _, _, rfl, rfl, by omega, .inl ⟨rfl, rfl, rfl⟩⟩, by simp; omega⟩
      · simp only [step_spec_AgreeingMembers_2, lt_len hlt, cond_true, hw, e1]
      · simp only [step_impl_AgreeingMembers_1, lt_len hlt, cond_true, hw, e2]
    · left
      have : i = M := by omega
      subst this
      rcases hp with ⟨rfl, rfl, rfl⟩ | ⟨_, _, _, _, _, _, h1⟩
      · exact ⟨(a, b, mo), (a, b, mo), by simp only [step_spec_AgreeingMembers_2, not_lt_len, cond_false], by simp only [step_impl_AgreeingMembers_1, not_lt_len, cond_false], rfl⟩
      · omega) (l, (M : Int), 0, 0, -1, 0) (l, (M : Int), 0, 1, 0, (M : Int), 0) ⟨0, 0, 0, -1, 0, 1, 0, rfl, rfl, by omega, .inr ⟨rfl, rfl, rfl, rfl, rfl, rfl, rfl⟩⟩
  exact ⟨o, e1, e2⟩

theorem members_same (l : List Prop') (m : Int) (hf : Fits l) : ∃ o, F_spec_AgreeingMembers (l, m) = some o ∧ F_impl_AgreeingMembers (l, m) = some o := by
  have h3 := ofGood_is l m hf
  have h4 := AreProposals_is l m hf
  cases hg : good m l with
  | false => exact ⟨(0, 0, 0, false), by simp [F_spec_AgreeingMembers, h3, hg], by simp [F_impl_AgreeingMembers, h4, hg]⟩
  | true =>
    obtain ⟨m1, m7, ml⟩ := good_m hg
    by_cases h1 : m = 1
    · subst h1
      exact ⟨(0, 0, 0, false), by simp [F_spec_AgreeingMembers, h3, hg], by simp [F_impl_AgreeingMembers, h4, hg]⟩
    · obtain ⟨M, rfl⟩ : ∃ M : Nat, m = (M : Int) := ⟨m.toNat, by omega⟩
      obtain ⟨o, e1, e2⟩ := members_outer l M ml (fun e he => by
        obtain ⟨i, hi, rfl⟩ := List.getElem_of_mem he
        have := (good_votes hg hi).2
        simp only [List.getD, List.getElem?_eq_getElem hi, Option.getD_some] at this
        omega) (by omega) (by omega)
      have n1 : (((M : Int)) == 1) = false := by simpa using h1
      have n2 : decide ((M : Int) < 2) = false := decide_eq_false (by omega)
      exact ⟨(o.1, o.2.1, o.2.2, true), by simp only [F_spec_AgreeingMembers, h3, hg, Bool.not_true, cond_false, n1, e1], by simp only [F_impl_AgreeingMembers, h4, hg, Bool.not_true, cond_false, n2, e2]⟩
theorem law_AgreeingMembers (l : List Prop') (m : Int) (h : Wf l) : F_laws_FnExactAgreeingMembers (l, m) = some true := by
  obtain ⟨o, e, hq⟩ := h.cases
  rcases hq with hn | ⟨hn, hf, e1, e2⟩
  · simp [F_laws_FnExactAgreeingMembers, e, hn]
  · obtain ⟨r, s1, s2⟩ := members_same l m hf
    simp [F_laws_FnExactAgreeingMembers, e, hn, e1, e2, s1, s2]
end Go.Proofs.Yteodliihhddagaa
