/- The law of ShortenEdits, as plain Lean: it answers true. Lengths fit an int. -/
import Derived.Test.YteodliihhddagaaPj
import Derived.Test.YteodliihhddagaaPm
set_option linter.unusedVariables false
set_option linter.unusedSimpArgs false
namespace Go.Proofs.Yteodliihhddagaa
open Go

/-- none of the rest has this gloss -/
def noneLater (r : List Edit) (g : ByteArray) : Bool := allN (fun j => !((r.getD j dE).2.1.toList == g.toList)) r.length

theorem IndexFunc_edit_is (l : List Edit) (hl : l.length ≤ 9223372036854775807) (φ : Edit → Option Bool) (p : Nat → Bool) (hφ : ∀ i, i < l.length → φ (l.getD i dE) = some (p i)) :
    F_slices_IndexFunc_impl_LogEdit_impl_LogEdit (l, φ) = some (firstN p l.length) := by
  rcases runL_first (f := step_slices_IndexFunc_impl_LogEdit_impl_LogEdit_0) (fun i => !p i) (fun i => (l, φ, (l.length : Int), (i : Int))) (fun i => .inl (i : Int)) (.inr ()) l.length (fun i hi => by
    have hw := wrap_succ (i := i) (by omega)
    simp only [step_slices_IndexFunc_impl_LogEdit_impl_LogEdit_0, lt_len hi, nonneg, Bool.and_self, cond_true, Int.toNat_natCast, hw, hφ i hi]
    cases p i <;> rfl) (by simp [step_slices_IndexFunc_impl_LogEdit_impl_LogEdit_0]) with ⟨t, hp⟩ | ⟨i, hi, hp, hj, t⟩
  · have t' : runL step_slices_IndexFunc_impl_LogEdit_impl_LogEdit_0 (l, φ, (l.length : Int), (0 : Int)) = _ := t
    simp only [F_slices_IndexFunc_impl_LogEdit_impl_LogEdit, t']
    rw [firstN_none (fun j hj => by simpa using hp j hj)]
  · have t' : runL step_slices_IndexFunc_impl_LogEdit_impl_LogEdit_0 (l, φ, (l.length : Int), (0 : Int)) = _ := t
    simp only [F_slices_IndexFunc_impl_LogEdit_impl_LogEdit, t']
    rw [firstN_at hi (by simpa using hp) (fun j hj' => by simpa using hj j hj')]

theorem contains_is (r : List Edit) (hl : r.length ≤ 9223372036854775807) (e : Edit) : F_slices_ContainsFunc_impl_LogEdit_impl_LogEdit (r, K_impl_ShortenEdits_1 e) = some (!noneLater r e.2.1) := by
  have h := IndexFunc_edit_is r hl (K_impl_ShortenEdits_1 e) (fun j => ((r.getD j dE).2.1.toList == e.2.1.toList)) (fun i hi => rfl)
  simp only [F_slices_ContainsFunc_impl_LogEdit_impl_LogEdit, h, firstN_ge, noneLater]

/-- the rounds of the specification over the rest -/
theorem later_is (L : List Edit) (M : List Edit) (n i : Int) (r : List Edit) (hr : r.length ≤ 1048576) (e : Edit) (out : List Edit) :
    runL step_spec_ShortenEdits_0 (L, true, M, n, i, r, (r.length : Int), 0, e.1, e.2.1, e.2.2, out) = some (L, noneLater r e.2.1, M, n, i, e.1, e.2.1, e.2.2, out) := by
  have key : ∀ k, k ≤ r.length → (allN (fun j => !((r.getD j dE).2.1.toList == e.2.1.toList)) (k + 1) = (bif allN (fun j => !((r.getD j dE).2.1.toList == e.2.1.toList)) k then !((r.getD k dE).2.1.toList == e.2.1.toList) else false)) := by
    intro k _
    simp only [allN, List.range_succ, List.all_append, List.all_cons, List.all_nil, Bool.and_true]
    cases (List.range k).all _ <;> rfl
  have t := runL_traj (f := step_spec_ShortenEdits_0) (fun k => (L, allN (fun j => !((r.getD j dE).2.1.toList == e.2.1.toList)) k, M, n, i, r, (r.length : Int), (k : Int), e.1, e.2.1, e.2.2, out)) (L, noneLater r e.2.1, M, n, i, e.1, e.2.1, e.2.2, out) r.length (fun k hk => by
    have hw := wrap_succ (i := k) (by omega)
    simp only [step_spec_ShortenEdits_0, lt_len hk, nonneg, Bool.and_self, cond_true, Int.toNat_natCast, hw, key k (by omega)]
    cases allN (fun j => !((r.getD j dE).2.1.toList == e.2.1.toList)) k <;> rfl) (by simp [step_spec_ShortenEdits_0, noneLater])
  exact t

theorem shorten_loop (l : List Edit) (hl : l.length ≤ 40) : ∃ o, runL step_spec_ShortenEdits_1 (l, l, (l.length : Int), 0, []) = some o ∧ runL step_impl_ShortenEdits_0 (l, l, (l.length : Int), 0, []) = some o ∧ o.length ≤ 40 := by
  obtain ⟨o, p, e1, e2, rfl, e3⟩ := runL_sim (f := step_spec_ShortenEdits_1) (g := step_impl_ShortenEdits_0) (fun s t => s = t ∧ ∃ (i : Nat) (out : List Edit), s = (l, l, (l.length : Int), (i : Int), out) ∧ i ≤ l.length ∧ out.length ≤ i) (fun o p => o = p ∧ o.length ≤ 40) (fun s => l.length - s.2.2.2.1.toNat) (by
    rintro s t ⟨rfl, i, out, rfl, hi, ho⟩
    rcases Nat.lt_or_ge i l.length with hlt | hge
    · right
      have hw := wrap_succ (i := i) (by omega)
      have hle : decide (((i + 1 : Nat) : Int) ≤ (l.length : Int)) = true := decide_eq_true (by omega)
      have hlr : ((l.drop (i + 1)).take (l.length - (i + 1))).length ≤ 1048576 := by simp; omega
      have e1 := later_is l l (l.length : Int) (i : Int) ((l.drop (i + 1)).take (l.length - (i + 1))) hlr (l.getD i dE) out
      have e2 := contains_is ((l.drop (i + 1)).take (l.length - (i + 1))) (by omega) (l.getD i dE)
      have hg : decide ((out.length + [l.getD i dE].length) * 32 ≤ 140737488355328) = true := decide_eq_true (by simp only [List.length_singleton]; omega)
      have hg' : decide ((out.length + [((l.getD i dE).1, (l.getD i dE).2.1, (l.getD i dE).2.2)].length) * 32 ≤ 140737488355328) = true := hg
      cases hn : noneLater ((l.drop (i + 1)).take (l.length - (i + 1))) (l.getD i dE).2.1 with
      | true =>
        refine ⟨(l, l, (l.length : Int), ((i + 1 : Nat) : Int), out ++ [l.getD i dE]), _, ?_, ?_, ⟨rfl, i + 1, _, rfl, by omega, by simp only [List.length_append, List.length_singleton]; omega⟩, by simp; omega⟩
        · simp only [step_spec_ShortenEdits_1, lt_len hlt, nonneg, Bool.and_self, cond_true, Int.toNat_natCast, hw, hle, Int.le_refl, decide_true, e1, hn, hg']
        · simp only [step_impl_ShortenEdits_0, lt_len hlt, nonneg, Bool.and_self, cond_true, Int.toNat_natCast, hw, hle, Int.le_refl, decide_true, e2, hn, Bool.not_true, Bool.not_false, hg]
      | false =>
        refine ⟨(l, l, (l.length : Int), ((i + 1 : Nat) : Int), out), _, ?_, ?_, ⟨rfl, i + 1, _, rfl, by omega, by omega⟩, by simp; omega⟩
        · simp only [step_spec_ShortenEdits_1, lt_len hlt, nonneg, Bool.and_self, cond_true, Int.toNat_natCast, hw, hle, Int.le_refl, decide_true, e1, hn, cond_false]
        · simp only [step_impl_ShortenEdits_0, lt_len hlt, nonneg, Bool.and_self, cond_true, Int.toNat_natCast, hw, hle, Int.le_refl, decide_true, e2, hn, Bool.not_true, Bool.not_false, cond_false]
    · left
      have : i = l.length := by omega
      subst this
      exact ⟨out, out, by simp [step_spec_ShortenEdits_1], by simp [step_impl_ShortenEdits_0], rfl, by omega⟩) (l, l, (l.length : Int), 0, []) (l, l, (l.length : Int), 0, []) ⟨rfl, 0, [], rfl, by omega, by simp⟩
  exact ⟨o, e1, e2, e3⟩

theorem shorten_same (l : List Edit) (hf : FitsE l) : ∃ o, F_spec_ShortenEdits l = some o ∧ F_impl_ShortenEdits l = some o ∧ o.1.length ≤ 40 := by
  cases hg : goodE l with
  | false => exact ⟨([], false), by simp [F_spec_ShortenEdits, joGood_is l hf, hg], by simp [F_impl_ShortenEdits, AreEdits_is l hf, hg], by simp⟩
  | true =>
    obtain ⟨o, e1, e2, e3⟩ := shorten_loop l (goodE_len hg)
    exact ⟨(o, true), by simp [F_spec_ShortenEdits, joGood_is l hf, hg, e1], by simp [F_impl_ShortenEdits, AreEdits_is l hf, hg, e2], e3⟩

theorem law_ShortenEdits (l : List Edit) (h : WfE l) : F_laws_FnExactShortenEdits l = some true := by
  obtain ⟨o, e, hq⟩ := h.cases
  rcases hq with hn | ⟨hn, hf, e1, e2⟩
  · simp [F_laws_FnExactShortenEdits, e, hn]
  · obtain ⟨⟨r, b⟩, s1, s2, s3⟩ := shorten_same l hf
    simp only at s3
    have m1 := markLogEditS_is l hf.len
    have m2 := markLogEditS_is r (by omega)
    have m3 := heldLogEditS_is r.length (by omega)
    have n1 : ¬ (1 + 3 * (l.length : Int) < 0) := by omega
    have n2 : ¬ (1 + 3 * (r.length : Int) < 0) := by omega
    simp [F_laws_FnExactShortenEdits, e, hn, e1, e2, s1, s2, eqLogEditS_is r (by omega), m1, m2, m3, n1, n2]
end Go.Proofs.Yteodliihhddagaa
