/- The law of PutProposal, as plain Lean: it answers true. Lengths fit an int. -/
import Derived.Test.YtbdnmfiaghhhiaaPc
set_option linter.unusedVariables false
set_option linter.unusedSimpArgs false
namespace Go.Proofs.Ytbdnmfiaghhhiaa
open Go
theorem Fits.snoc {l : List Prop'} (hf : Fits l) (hl : l.length ≤ 12) {e : Prop'} (h1 : e.2.2.1.size ≤ 9223372036854775807) (h2 : e.2.2.2.length ≤ 1048576) : Fits (l ++ [e]) := by
  refine ⟨by simp; omega, fun x hx => ?_, fun x hx => ?_⟩
  · rcases List.mem_append.1 hx with h | h
    · exact hf.gloss x h
    · obtain rfl : x = e := by simpa using h
      exact h1
  · rcases List.mem_append.1 hx with h | h
    · exact hf.votes x h
    · obtain rfl : x = e := by simpa using h
      exact h2
theorem good_snoc {l : List Prop'} {m : Int} {e : Prop'} (h : gl e.2.2.1 = false) : good m (l ++ [e]) = false := by
  unfold good
  have hg : (l ++ [e]).getD l.length dP = e := by simp [List.getD]
  have : allN (goodAt m (l ++ [e])) (l ++ [e]).length = false := allN_false.2 ⟨l.length, by simp, by simp [goodAt, hg, numOK, h]⟩
  rw [this]
  rfl
theorem PutProposal_same (l : List Prop') (m k : Int) (g : ByteArray) (hf : Fits l) (hg : g.size ≤ 9223372036854775807) : ∃ o, F_spec_PutProposal (l, m, k, g) = some o ∧ F_impl_PutProposal (l, m, k, g) = some o ∧ Fits o.1 := by
  have h3 := ofGood_is l m hf
  have h4 := AreProposals_is l m hf
  have h5 := copyProposals_is l hf
  have h6 := ofOwn_is l hf
  have h7 := IsGloss_is g hg
  cases hgd : good m l with
  | false => exact ⟨([], 0, false), by simp [F_spec_PutProposal, h3, hgd], by simp [F_impl_PutProposal, h4, hgd], fits_nil⟩
  | true =>
    obtain ⟨m1, m2, m3⟩ := good_m hgd
    have hl12 : l.length ≤ 12 := by
      unfold good at hgd
      simp only [Bool.and_eq_true, decide_eq_true_eq] at hgd
      omega
    have q0 : decide (0 ≤ m) = true := decide_eq_true (by omega)
    have q1 : decide (m ≤ m) = true := decide_eq_true (by omega)
    have q2 : decide (m * (8 : Int) ≤ 140737488355328) = true := decide_eq_true (by omega)
    have fit : ∀ n : Int, Fits (l ++ [(n, (k, g, List.replicate m.toNat (0 : Int)))]) := fun n => hf.snoc hl12 hg (by simp; omega)
    have q3 : ∀ n : Int, decide ((l.length + [(n, (k, g, List.replicate m.toNat (0 : Int)))].length) * 56 ≤ 140737488355328) = true := fun n => decide_eq_true (by simp; omega)
    have fin : ∀ n : Int, ∃ o : List Prop' × Int × Bool, (bif !good m (l ++ [(n, (k, g, List.replicate m.toNat (0 : Int)))]) then some ([], 0, false) else some (l ++ [(n, (k, g, List.replicate m.toNat (0 : Int)))], n, true)) = some o ∧ Fits o.1 := by
      intro n
      cases good m (l ++ [(n, (k, g, List.replicate m.toNat (0 : Int)))]) with
      | false => exact ⟨_, rfl, fits_nil⟩
      | true => exact ⟨_, rfl, fit n⟩
    have bad : gl g = false → ∀ n : Int, good m (l ++ [(n, (k, g, List.replicate m.toNat (0 : Int)))]) = false := fun h n => good_snoc h
    rcases Nat.eq_zero_or_pos l.length with hl0 | hlp
    · have h0 : decide ((l.length : Int) > 0) = false := decide_eq_false (by omega)
      obtain ⟨o, ho, hfo⟩ := fin 1
      have s1 : F_spec_PutProposal (l, m, k, g) = some o := by
        simp only [F_spec_PutProposal, h3, hgd, Bool.not_true, cond_false, h0, h6, q0, q1, q2, Bool.and_self, cond_true, q3 1, ofGood_is _ m (fit 1), Bool.and_true, ho]
      refine ⟨o, s1, ?_, hfo⟩
      cases hgl : gl g with
      | false =>
        rw [bad hgl 1] at ho
        simp only [Bool.not_false, cond_true] at ho
        simp only [F_impl_PutProposal, h4, hgd, Bool.not_true, cond_false, h7, hgl, Bool.not_false, cond_true, ho]
      | true =>
        simp only [F_impl_PutProposal, h4, hgd, Bool.not_true, cond_false, h7, hgl, h0, h5, q0, q1, q2, Bool.and_self, cond_true, q3 1, AreProposals_is _ m (fit 1), Bool.and_true, ho]
    · have h0 : decide ((l.length : Int) > 0) = true := decide_eq_true (by omega)
      have hw := wrap_pred (i := l.length) (by omega) hlp
      have hlt : decide (((l.length - 1 : Nat) : Int) < (l.length : Int)) = true := lt_len (by omega)
      obtain ⟨o, ho, hfo⟩ := fin (IntKind.i64.wrap ((l.getD (l.length - 1) (0, (0, ByteArray.empty, []))).1 + 1))
      have s1 : F_spec_PutProposal (l, m, k, g) = some o := by
        simp only [F_spec_PutProposal, h3, hgd, Bool.not_true, cond_false, h0, hw, hlt, nonneg, Int.toNat_natCast, h6, q0, q1, q2, Bool.and_self, cond_true, q3 _, ofGood_is _ m (fit _), Bool.and_true, ho]
      refine ⟨o, s1, ?_, hfo⟩
      cases hgl : gl g with
      | false =>
        rw [bad hgl _] at ho
        simp only [Bool.not_false, cond_true] at ho
        simp only [F_impl_PutProposal, h4, hgd, Bool.not_true, cond_false, h7, hgl, Bool.not_false, cond_true, ho]
      | true =>
        simp only [F_impl_PutProposal, h4, hgd, Bool.not_true, cond_false, h7, hgl, h0, hw, hlt, nonneg, Int.toNat_natCast, h5, q0, q1, q2, Bool.and_self, cond_true, q3 _, AreProposals_is _ m (fit _), Bool.and_true, ho]
theorem law_PutProposal (l : List Prop') (m k : Int) (g : ByteArray) (h : Wf l) (hg : g.size ≤ 9223372036854775807) : F_laws_FnExactPutProposal (l, m, k, g) = some true := by
  cases hbig : decide ((g.size : Int) > 1048576) with
  | true => simp only [F_laws_FnExactPutProposal, hbig, cond_true]
  | false =>
    obtain ⟨o, e, hq⟩ := h.cases
    rcases hq with hn | ⟨hn, hf, e1, e2⟩
    · have hn' : decide (o < 0) = true := decide_eq_true hn
      simp only [F_laws_FnExactPutProposal, hbig, cond_false, e, hn', cond_true]
    · obtain ⟨⟨r, n, b⟩, s1, s2, s3⟩ := PutProposal_same l m k g hf hg
      simp only at s3
      have m1 := markProposalS_is l hf.len hf.votes
      have m2 := markProposalS_is r s3.len s3.votes
      have m3 := heldProposalS_is r s3.len s3.votes
      obtain ⟨k0, k1⟩ := kAt_bound l hf.votes l.length (Nat.le_refl _)
      obtain ⟨k2, k3⟩ := kAt_bound r s3.votes r.length (Nat.le_refl _)
      have n1 : decide (kAt l l.length < 0) = false := decide_eq_false (by omega)
      have n2 : decide (kAt r r.length < 0) = false := decide_eq_false (by omega)
      have n3 : decide (o < 0) = false := decide_eq_false hn
      simp only [F_laws_FnExactPutProposal, hbig, cond_false, e, n3, e1, e2, s1, s2, s3.eqP, m1, m2, m3, n1, n2, bne_self_eq_false, beq_self_eq_true, Bool.not_true]
end Go.Proofs.Ytbdnmfiaghhhiaa
