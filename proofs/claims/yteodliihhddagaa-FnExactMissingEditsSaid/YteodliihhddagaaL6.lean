/- The law of MissingEdits, as plain Lean: it answers true. Lengths fit an int. -/
import Derived.Test.YteodliihhddagaaPj
import Derived.Test.YteodliihhddagaaPm
set_option linter.unusedVariables false
set_option linter.unusedSimpArgs false
namespace Go.Proofs.Yteodliihhddagaa
open Go

/-- the rounds of the specification behind 100 numbers add none -/
theorem missing_full (L : List Edit) (n i num : Int) (g : ByteArray) (b : Bool) (out : List Int) (ho : ¬ (out.length : Int) < 100) (hn : num ≤ 1000) : ∀ (k : Nat) (nx : Int), (num - nx).toNat = k → 0 ≤ nx →
    runL step_spec_MissingEdits_0 (nx, L, n, i, num, g, b, out) = some (L, n, i, num, g, b, out)
  | 0, nx, hk, h0 => by
    rw [runL_eq]
    have : ¬ nx < num := by omega
    simp [step_spec_MissingEdits_0, this]
  | k + 1, nx, hk, h0 => by
    rw [runL_eq]
    have h1 : nx < num := by omega
    have hw : IntKind.i64.wrap (nx + 1) = nx + 1 := wrap_id (by omega) (by omega)
    simp only [step_spec_MissingEdits_0, decide_eq_true h1, decide_eq_false ho, cond_true, cond_false, hw]
    exact missing_full L n i num g b out ho hn k (nx + 1) (by omega) (by omega)

theorem missing_inner (L : List Edit) (n i num : Int) (g : ByteArray) (b : Bool) (hn : num ≤ 1000) : ∀ (k : Nat) (nx : Int) (out : List Int), (num - nx).toNat = k → 0 ≤ nx → out.length ≤ 100 →
    ∃ out', runL step_spec_MissingEdits_0 (nx, L, n, i, num, g, b, out) = some (L, n, i, num, g, b, out') ∧ runL step_impl_MissingEdits_0 (nx, L, n, i, num, g, b, out) = some (L, n, i, out', num, g, b) ∧ out'.length ≤ 100
  | 0, nx, out, hk, h0, ho => by
    have h1 : ¬ nx < num := by omega
    exact ⟨out, by rw [runL_eq]; simp [step_spec_MissingEdits_0, h1], by rw [runL_eq]; simp [step_impl_MissingEdits_0, h1], ho⟩
  | k + 1, nx, out, hk, h0, ho => by
    have h1 : nx < num := by omega
    have hw : IntKind.i64.wrap (nx + 1) = nx + 1 := wrap_id (by omega) (by omega)
    by_cases h2 : (out.length : Int) < 100
    · obtain ⟨out', e1, e2, e3⟩ := missing_inner L n i num g b hn k (nx + 1) (out ++ [nx]) (by omega) (by omega) (by simp; omega)
      refine ⟨out', ?_, ?_, e3⟩
      · rw [runL_eq]
        have hg : decide ((out.length + [nx].length) * 8 ≤ 140737488355328) = true := decide_eq_true (by simp; omega)
        simp only [step_spec_MissingEdits_0, decide_eq_true h1, decide_eq_true h2, cond_true, hg, hw]
        exact e1
      · rw [runL_eq]
        have hg : decide ((out.length + [nx].length) * 8 ≤ 140737488355328) = true := decide_eq_true (by simp; omega)
        simp only [step_impl_MissingEdits_0, decide_eq_true h1, decide_eq_true h2, cond_true, hg, hw]
        exact e2
    · refine ⟨out, missing_full L n i num g b out h2 hn (k + 1) nx hk h0, ?_, ho⟩
      rw [runL_eq]
      simp only [step_impl_MissingEdits_0, decide_eq_true h1, decide_eq_false h2, cond_true, cond_false]

theorem missing_loop (l : List Edit) (hl : l.length ≤ 40) (hnum : ∀ i, i < l.length → 1 ≤ (l.getD i dE).1 ∧ (l.getD i dE).1 ≤ 999) : ∃ o, runL step_spec_MissingEdits_1 (1, l, (l.length : Int), 0, []) = some o ∧ runL step_impl_MissingEdits_1 (1, l, (l.length : Int), 0, []) = some o ∧ o.length ≤ 100 := by
  obtain ⟨o, p, e1, e2, rfl, e3⟩ := runL_sim (f := step_spec_MissingEdits_1) (g := step_impl_MissingEdits_1) (fun s t => s = t ∧ ∃ (nx : Int) (i : Nat) (out : List Int), s = (nx, l, (l.length : Int), (i : Int), out) ∧ 0 ≤ nx ∧ nx ≤ 1000 ∧ i ≤ l.length ∧ out.length ≤ 100) (fun o p => o = p ∧ o.length ≤ 100) (fun s => l.length - s.2.2.2.1.toNat) (by
    rintro s t ⟨rfl, nx, i, out, rfl, h0, h1, hi, ho⟩
    rcases Nat.lt_or_ge i l.length with hlt | hge
    · right
      obtain ⟨q1, q2⟩ := hnum i hlt
      obtain ⟨out', e1, e2, e3⟩ := missing_inner l (l.length : Int) (i : Int) (l.getD i dE).1 (l.getD i dE).2.1 (l.getD i dE).2.2 (by omega) _ nx out rfl h0 ho
      have hw := wrap_succ (i := i) (by omega)
      have hw2 : IntKind.i64.wrap ((l.getD i dE).1 + 1) = (l.getD i dE).1 + 1 := wrap_id (by omega) (by omega)
      refine ⟨((l.getD i dE).1 + 1, l, (l.length : Int), ((i + 1 : Nat) : Int), out'), _, ?_, ?_, ⟨rfl, _, _, _, rfl, by omega, by omega, by omega, e3⟩, by simp; omega⟩
      · simp only [step_spec_MissingEdits_1, lt_len hlt, nonneg, Bool.and_self, cond_true, Int.toNat_natCast, e1, hw, hw2]
      · simp only [step_impl_MissingEdits_1, lt_len hlt, nonneg, Bool.and_self, cond_true, Int.toNat_natCast, e2, hw, hw2]
    · left
      have : i = l.length := by omega
      subst this
      exact ⟨out, out, by simp [step_spec_MissingEdits_1], by simp [step_impl_MissingEdits_1], rfl, ho⟩) (1, l, (l.length : Int), 0, []) (1, l, (l.length : Int), 0, []) ⟨rfl, 1, 0, [], rfl, by omega, by omega, by omega, by simp⟩
  exact ⟨o, e1, e2, e3⟩

theorem missing_same (l : List Edit) (hf : FitsE l) : ∃ o, F_spec_MissingEdits l = some o ∧ F_impl_MissingEdits l = some o ∧ o.1.length ≤ 100 := by
  cases hg : goodE l with
  | false => exact ⟨([], false), by simp [F_spec_MissingEdits, joGood_is l hf, hg], by simp [F_impl_MissingEdits, AreEdits_is l hf, hg], by simp⟩
  | true =>
    obtain ⟨o, e1, e2, e3⟩ := missing_loop l (goodE_len hg) (fun i hi => goodE_num hg hi)
    exact ⟨(o, true), by simp [F_spec_MissingEdits, joGood_is l hf, hg, e1], by simp [F_impl_MissingEdits, AreEdits_is l hf, hg, e2], e3⟩

theorem law_MissingEdits (l : List Edit) (h : WfE l) : F_laws_FnExactMissingEdits l = some true := by
  obtain ⟨o, e, hq⟩ := h.cases
  rcases hq with hn | ⟨hn, hf, e1, e2⟩
  · simp [F_laws_FnExactMissingEdits, e, hn]
  · obtain ⟨⟨r, b⟩, s1, s2, s3⟩ := missing_same l hf
    simp only at s3
    have m1 := markLogEditS_is l hf.len
    have m2 := markIntS_is r (by omega)
    have m3 := heldIntS_is r.length (by omega)
    have n1 : ¬ (1 + 3 * (l.length : Int) < 0) := by omega
    have n2 : ¬ ((r.length : Int) + 1 < 0) := by omega
    simp [F_laws_FnExactMissingEdits, e, hn, e1, e2, s1, s2, eqIntS_is r (by omega), m1, m2, m3, n1, n2]
end Go.Proofs.Yteodliihhddagaa
