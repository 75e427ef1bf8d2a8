/- The law of WithdrawProposal, as plain Lean: it answers true. Lengths fit an int. -/
import Derived.Test.YtbdnmfiaghhhiaaPc
set_option linter.unusedVariables false
set_option linter.unusedSimpArgs false
namespace Go.Proofs.Ytbdnmfiaghhhiaa
open Go
theorem Fits.sub {l r : List Prop'} (hf : Fits l) (hl : r.length ≤ l.length) (hm : ∀ x ∈ r, x ∈ l) : Fits r :=
  ⟨by have := hf.len; omega, fun x hx => hf.gloss x (hm x hx), fun x hx => hf.votes x (hm x hx)⟩
theorem ContainsFunc_int_is (l : List Int) (hl : l.length ≤ 9223372036854775807) (φ : Int → Option Bool) (p : Int → Bool) (hφ : ∀ x, φ x = some (p x)) :
    F_slices_ContainsFunc_int_int (l, φ) = some (l.any p) := by
  rcases runL_first (f := step_slices_IndexFunc_int_int_0) (fun i => !p (l.getD i 0)) (fun i => (l, φ, (l.length : Int), (i : Int))) (fun i => .inl (i : Int)) (.inr ()) l.length (fun i hi => by
    have hw := wrap_succ (i := i) (by omega)
    simp only [step_slices_IndexFunc_int_int_0, lt_len hi, nonneg, Bool.and_self, cond_true, Int.toNat_natCast, hw, hφ]
    cases p (l.getD i 0) <;> rfl) (by simp [step_slices_IndexFunc_int_int_0]) with ⟨t, hp⟩ | ⟨i, hi, hp, hj, t⟩
  · have t' : runL step_slices_IndexFunc_int_int_0 (l, φ, (l.length : Int), (0 : Int)) = _ := t
    have : l.any p = false := by
      rw [List.any_eq_false]
      intro x hx
      obtain ⟨i, hi, rfl⟩ := List.getElem_of_mem hx
      have := hp i hi
      simpa [List.getD, List.getElem?_eq_getElem hi] using this
    simp only [F_slices_ContainsFunc_int_int, F_slices_IndexFunc_int_int, t', this]
    rfl
  · have t' : runL step_slices_IndexFunc_int_int_0 (l, φ, (l.length : Int), (0 : Int)) = _ := t
    have : l.any p = true := by
      rw [List.any_eq_true]
      refine ⟨l.getD i 0, getD_mem hi 0, by simpa using hp⟩
    simp only [F_slices_ContainsFunc_int_int, F_slices_IndexFunc_int_int, t', this]
    simp
theorem any_count (l : List Int) : l.any (fun x => x != 0) = decide (((l.count 0 : Nat) : Int) < (l.length : Int)) := by
  have h := List.count_le_length (a := (0 : Int)) (l := l)
  cases ha : l.any (fun x => x != 0) with
  | false =>
    rw [List.any_eq_false] at ha
    have : l.count 0 = l.length := List.count_eq_length.2 fun b hb => by have := ha b hb; simp at this; omega
    rw [this]; simp
  | true =>
    rw [List.any_eq_true] at ha
    obtain ⟨x, hx, hne⟩ := ha
    have : l.count 0 ≠ l.length := fun e => by
      have := List.count_eq_length.1 e x hx
      simp at hne; omega
    symm
    apply decide_eq_true
    omega
theorem WithdrawProposal_same (l : List Prop') (m n : Int) (hf : Fits l) : ∃ o, F_spec_WithdrawProposal (l, m, n) = some o ∧ F_impl_WithdrawProposal (l, m, n) = some o ∧ Fits o.1 := by
  have h1 := ofFind_is l n hf.len
  have h2 := proposalAt_is l n hf.len
  have h3 := ofGood_is l m hf
  have h4 := AreProposals_is l m hf
  have h5 := copyProposals_is l hf
  cases hg : good m l with
  | false => exact ⟨([], false), by simp [F_spec_WithdrawProposal, h1, h3, hg], by simp [F_impl_WithdrawProposal, h2, h4, hg], fits_nil⟩
  | true =>
    rcases findP_cases l n with e | ⟨i, hi, e⟩
    · exact ⟨([], false), by simp [F_spec_WithdrawProposal, h1, h3, hg, e], by simp [F_impl_WithdrawProposal, h2, h4, hg, e], fits_nil⟩
    · have hn : decide ((i : Int) < 0) = false := by simp
      obtain ⟨g1, g2⟩ := good_votes hg hi
      have g2 : ((l.getD i (0, (0, ByteArray.empty, []))).2.2.2.length : Int) = m := g2
      have hvl : (l.getD i (0, (0, ByteArray.empty, []))).2.2.2.length ≤ 1048576 := hf.votes _ (getD_mem hi dP)
      have hc := ofCount_is (l.getD i (0, (0, ByteArray.empty, []))) 0 hvl
      have hx := ContainsFunc_int_is (l.getD i (0, (0, ByteArray.empty, []))).2.2.2 (by omega) (K_impl_WithdrawProposal_1 ()) (fun x => x != 0) (fun x => rfl)
      rw [any_count, g2] at hx
      cases hb : decide ((((l.getD i (0, (0, ByteArray.empty, []))).2.2.2.count 0 : Nat) : Int) < m) with
      | true =>
        rw [hb] at hx
        exact ⟨([], false), by simp only [F_spec_WithdrawProposal, h1, h3, hg, e, hn, Bool.not_true, cond_false, nonneg, lt_len hi, Bool.and_self, cond_true, Int.toNat_natCast, hc, hb], by simp only [F_impl_WithdrawProposal, h2, h4, hg, e, hn, Bool.not_true, cond_false, nonneg, lt_len hi, Bool.and_self, cond_true, Int.toNat_natCast, hx], fits_nil⟩
      | false =>
        rw [hb] at hx
        have hlen := hf.len
        have hw : IntKind.i64.wrap ((i : Int) + 1) = ((i + 1 : Nat) : Int) := wrap_succ (by omega)
        have f1 : Fits (l.take i) := hf.sub (by rw [List.length_take]; exact Nat.min_le_right ..) (fun x hx => (List.take_sublist _ _).mem hx)
        have f2 : Fits (l.drop (i + 1)) := hf.sub (by simp) (fun x hx => (List.drop_sublist _ _).mem hx)
        have e1 : (l.drop ((0 : Int)).toNat).take (((i : Int)).toNat - ((0 : Int)).toNat) = l.take i := by simp
        have e2 : (l.drop (((i + 1 : Nat) : Int)).toNat).take (((l.length : Int)).toNat - (((i + 1 : Nat) : Int)).toNat) = l.drop (i + 1) := by
          rw [Int.toNat_natCast, Int.toNat_natCast]
          exact List.take_of_length_le (by simp)
        have q0 : decide (0 ≤ (0 : Int)) = true := rfl
        have q1 : decide ((i : Int) ≤ (l.length : Int)) = true := decide_eq_true (by omega)
        have q2 : decide (((i + 1 : Nat) : Int) ≤ (l.length : Int)) = true := decide_eq_true (by omega)
        have q3 : decide ((l.length : Int) ≤ (l.length : Int)) = true := decide_eq_true (Int.le_refl _)
        have d3 : decide (((l.take i).length + (l.drop (i + 1)).length) * 56 ≤ 140737488355328) = true := by
          exact decide_eq_true (by simp; omega)
        have d4 : F_slices_Delete_impl_Proposal_impl_Proposal (l, (i : Int), ((i + 1 : Nat) : Int)) = some (l.take i ++ l.drop (i + 1)) := by
          have h1 : decide (0 ≤ (i : Int)) = true := nonneg i
          have h2 : decide ((i : Int) ≤ ((i + 1 : Nat) : Int)) = true := decide_eq_true (by omega)
          have h3 : decide (((i + 1 : Nat) : Int) ≤ (l.length : Int)) = true := decide_eq_true (by omega)
          have h4 : decide (l.length ≤ 9223372036854775807) = true := decide_eq_true (by omega)
          simp only [F_slices_Delete_impl_Proposal_impl_Proposal, h1, h2, h3, h4, Bool.and_self, cond_true, Int.toNat_natCast]
        refine ⟨(l.take i ++ l.drop (i + 1), true), ?_, ?_, hf.sub (by simp; omega) (fun x hx => ?_)⟩
        · simp only [F_spec_WithdrawProposal, h1, h3, hg, e, hn, Bool.not_true, cond_false, nonneg, lt_len hi, Bool.and_self, cond_true, hw, e1, e2, q0, q1, q2, q3, ofOwn_is _ f1, ofOwn_is _ f2]
          rw [Int.toNat_natCast, hc]
          simp only [hb, cond_false, d3, Bool.and_true, cond_true]
        · simp only [F_impl_WithdrawProposal, h2, h4, hg, e, hn, Bool.not_true, cond_false, nonneg, lt_len hi, Bool.and_self, cond_true, hw, h5, d4]
          rw [Int.toNat_natCast, hx]
          simp only [cond_false]
        · rcases List.mem_append.1 hx with h | h
          · exact (List.take_sublist _ _).mem h
          · exact (List.drop_sublist _ _).mem h
theorem law_WithdrawProposal (l : List Prop') (m n : Int) (h : Wf l) : F_laws_FnExactWithdrawProposal (l, m, n) = some true := by
  obtain ⟨o, e, hq⟩ := h.cases
  rcases hq with hn | ⟨hn, hf, e1, e2⟩
  · have hn' : decide (o < 0) = true := decide_eq_true hn
    simp only [F_laws_FnExactWithdrawProposal, e, hn', cond_true]
  · obtain ⟨⟨r, b⟩, s1, s2, s3⟩ := WithdrawProposal_same l m n hf
    simp only at s3
    have m1 := markProposalS_is l hf.len hf.votes
    have m2 := markProposalS_is r s3.len s3.votes
    have m3 := heldProposalS_is r s3.len s3.votes
    obtain ⟨k0, k1⟩ := kAt_bound l hf.votes l.length (Nat.le_refl _)
    obtain ⟨k2, k3⟩ := kAt_bound r s3.votes r.length (Nat.le_refl _)
    have n1 : decide (kAt l l.length < 0) = false := decide_eq_false (by omega)
    have n2 : decide (kAt r r.length < 0) = false := decide_eq_false (by omega)
    have n3 : decide (o < 0) = false := decide_eq_false hn
    simp only [F_laws_FnExactWithdrawProposal, cond_false, e, n3, e1, e2, s1, s2, s3.eqP, m1, m2, m3, n1, n2, bne_self_eq_false, beq_self_eq_true, Bool.not_true]
end Go.Proofs.Ytbdnmfiaghhhiaa
