/- Copies of proposals, and marks on them, as plain Lean. Lengths fit an int. -/
import Derived.Test.YtbdnmfiaghhhiaaPm
set_option linter.unusedVariables false
set_option linter.unusedSimpArgs false
namespace Go.Proofs.Ytbdnmfiaghhhiaa
open Go
theorem heldIntS_from (n : Nat) (k : Int) (h : n ≤ 1048576) (h0 : 0 ≤ k) (h1 : k ≤ 4611686018427387904) : F_laws_heldIntS (marksOf (markF k) n, k) = some (k + (n : Int)) := by
  have t := runL_traj (f := step_laws_heldIntS_0) (fun i => (marksOf (markF k) n, markF k i, (i : Int))) (.inr (markF k n)) n (fun i hi => by
    have hw := wrap_succ (i := i) (by omega)
    have hw2 : IntKind.i64.wrap (markF k i + 1) = markF k (i + 1) := by rw [wrap_id] <;> simp [markF] <;> omega
    simp only [step_laws_heldIntS_0, marksOf_len, lt_len hi, nonneg, Bool.and_self, cond_true, Int.toNat_natCast, marksOf_get (markF k) hi, bne_self_eq_false, cond_false, hw, hw2]) (by simp [step_laws_heldIntS_0, marksOf_len])
  have e0 : markF k 0 = k := by simp [markF]
  have t' : runL step_laws_heldIntS_0 (marksOf (markF k) n, k, (0 : Int)) = some (.inr (markF k n)) := by rw [← t]; simp [e0]
  simp only [F_laws_heldIntS, t']
  rfl
theorem heldProposalS_is (l : List Prop') (h : l.length ≤ 1048576) (hv : ∀ e ∈ l, e.2.2.2.length ≤ 1048576) : F_laws_heldProposalS (marksOf (markP l) l.length, 1) = some (kAt l l.length) := by
  have t := runL_traj (f := step_laws_heldProposalS_0) (fun i => (marksOf (markP l) l.length, kAt l i, (i : Int))) (.inr (kAt l l.length)) l.length (fun i hi => by
    have hw := wrap_succ (i := i) (by omega)
    obtain ⟨k0, k1⟩ := kAt_bound l hv i (by omega)
    have hvi := hv _ (getD_mem hi dP)
    have w1 : IntKind.i64.wrap (kAt l i + 1) = kAt l i + 1 := wrap_id (by omega) (by omega)
    have w2 : IntKind.i64.wrap (kAt l i + 1 + 1) = kAt l i + 2 := by rw [wrap_id (by omega) (by omega)]; omega
    have w3 : IntKind.i64.wrap (kAt l i + 2 + 1) = kAt l i + 3 := by rw [wrap_id (by omega) (by omega)]; omega
    have hg : (marksOf (markP l) l.length).getD i (0, (0, ByteArray.empty, [])) = markP l i := marksOf_get (markP l) hi _
    have hk : kAt l i + 3 + ((l.getD i dP).2.2.2.length : Int) = kAt l (i + 1) := rfl
    have hm := heldIntS_from (l.getD i dP).2.2.2.length (kAt l i + 3) hvi (by omega) (by omega)
    have hn : decide (kAt l (i + 1) < 0) = false := decide_eq_false (by rw [← hk]; omega)
    have p1 : (markP l i).1 = kAt l i := rfl
    have p2 : (markP l i).2.1 = kAt l i + 1 := rfl
    have p3 : (markP l i).2.2.1 = mt (kAt l i + 2) := rfl
    have p4 : (markP l i).2.2.2 = marksOf (markF (kAt l i + 3)) (l.getD i dP).2.2.2.length := rfl
    simp only [step_laws_heldProposalS_0, marksOf_len, lt_len hi, nonneg, Bool.and_self, cond_true, Int.toNat_natCast, hg, p1, p2, p3, p4, bne_self_eq_false, cond_false, w1, w2, w3, mt_is (show kAt l i + 2 ≤ 4611686018427387904 by omega), beq_self_eq_true, Bool.not_true, hm, hk, hn, hw]) (by
    simp [step_laws_heldProposalS_0, marksOf_len])
  have t' : runL step_laws_heldProposalS_0 (marksOf (markP l) l.length, 1, (0 : Int)) = some (.inr (kAt l l.length)) := t
  simp only [F_laws_heldProposalS, t']

theorem set_getD_self {α : Type} (l : List α) (i : Nat) (d : α) : l.set i (l.getD i d) = l := by
  apply List.ext_getElem?
  intro j
  rw [List.getElem?_set]
  split
  · rename_i h
    subst h
    split
    · rename_i h
      simp [List.getD, h]
    · rename_i h
      rw [List.getElem?_eq_none (by omega)]
  · rfl
theorem copyProposals_is (l : List Prop') (hf : Fits l) : F_impl_copyProposals l = some l := by
  have hlen := hf.len
  have h0 : F_slices_Clone_impl_Proposal_impl_Proposal l = some l := by
    have : decide (l.length * 56 ≤ 140737488355328) = true := decide_eq_true (by omega)
    simp only [F_slices_Clone_impl_Proposal_impl_Proposal, this, cond_true]
  have t := runL_traj (f := step_impl_copyProposals_0) (fun i => ((l.length : Int), ((i : Int), l, (i : Int)))) (l, (l.length : Int)) l.length (fun i hi => by
    have hw := wrap_succ (i := i) (by omega)
    have hv := hf.votes _ (getD_mem hi dP)
    have h1 : F_slices_Clone_int_int (l.getD i (0, (0, ByteArray.empty, []))).2.2.2 = some (l.getD i (0, (0, ByteArray.empty, []))).2.2.2 := by
      have : decide ((l.getD i (0, (0, ByteArray.empty, []))).2.2.2.length * 8 ≤ 140737488355328) = true := decide_eq_true (by have : (l.getD i (0, (0, ByteArray.empty, []))).2.2.2.length ≤ 1048576 := hv; omega)
      simp only [F_slices_Clone_int_int, this, cond_true]
    have hs : l.set i ((l.getD i (0, (0, ByteArray.empty, []))).1, ((l.getD i (0, (0, ByteArray.empty, []))).2.1, (l.getD i (0, (0, ByteArray.empty, []))).2.2.1, (l.getD i (0, (0, ByteArray.empty, []))).2.2.2)) = l := set_getD_self l i _
    have hle : decide (i ≤ i) = true := decide_eq_true (Nat.le_refl _)
    have heq : decide (i = i) = true := decide_eq_true rfl
    simp only [step_impl_copyProposals_0, lt_len hi, nonneg, Bool.and_self, cond_true, Int.toNat_natCast, hle, heq, decide_true, h1, hs, hw]) (by
    simp [step_impl_copyProposals_0])
  have t' : runL step_impl_copyProposals_0 ((l.length : Int), ((0 : Int), l, (0 : Int))) = some (l, (l.length : Int)) := t
  have heq : decide (l.length = l.length) = true := decide_eq_true rfl
  simp only [F_impl_copyProposals, h0, t', Int.toNat_natCast, heq, decide_true, cond_true]
theorem ofOwn_is (l : List Prop') (hf : Fits l) : F_spec_ofOwn l = some l := by
  have hlen := hf.len
  have t := runL_traj (f := step_spec_ofOwn_0) (fun i => (l, ((l.length : Int), (i : Int), l.take i))) l l.length (fun i hi => by
    have hw := wrap_succ (i := i) (by omega)
    have hv := hf.votes _ (getD_mem hi dP)
    have h1 : F_spec_l1Own (l.getD i (0, (0, ByteArray.empty, []))).2.2.2 = some (l.getD i (0, (0, ByteArray.empty, []))).2.2.2 := by
      have : decide ((([] : List Int).length + (l.getD i (0, (0, ByteArray.empty, []))).2.2.2.length) * 8 ≤ 140737488355328) = true := decide_eq_true (by have : (l.getD i (0, (0, ByteArray.empty, []))).2.2.2.length ≤ 1048576 := hv; simp only [List.length_nil]; omega)
      simp only [F_spec_l1Own, this, cond_true, List.nil_append]
    have hs : l.take i ++ [((l.getD i (0, (0, ByteArray.empty, []))).1, ((l.getD i (0, (0, ByteArray.empty, []))).2.1, (l.getD i (0, (0, ByteArray.empty, []))).2.2.1, (l.getD i (0, (0, ByteArray.empty, []))).2.2.2))] = l.take (i + 1) := (take_succ_getD hi _).symm
    have hg : decide (((l.take i).length + [((l.getD i (0, (0, ByteArray.empty, []))).1, ((l.getD i (0, (0, ByteArray.empty, []))).2.1, (l.getD i (0, (0, ByteArray.empty, []))).2.2.1, (l.getD i (0, (0, ByteArray.empty, []))).2.2.2))].length) * 56 ≤ 140737488355328) = true := decide_eq_true (by simp; omega)
    simp only [step_spec_ofOwn_0, lt_len hi, nonneg, Bool.and_self, cond_true, Int.toNat_natCast, h1, hg, hs, hw]) (by
    simp [step_spec_ofOwn_0])
  have t' : runL step_spec_ofOwn_0 (l, ((l.length : Int), (0 : Int), [])) = some l := t
  simp only [F_spec_ofOwn, t']

theorem Fits.set {l : List Prop'} (hf : Fits l) {i : Nat} (hi : i < l.length) {e : Prop'} (h1 : e.2.2.1.size ≤ 9223372036854775807) (h2 : e.2.2.2.length ≤ 1048576) : Fits (l.set i e) := by
  refine ⟨by rw [List.length_set]; exact hf.len, fun x hx => ?_, fun x hx => ?_⟩
  · rcases List.mem_or_eq_of_mem_set hx with h | rfl
    · exact hf.gloss x h
    · exact h1
  · rcases List.mem_or_eq_of_mem_set hx with h | rfl
    · exact hf.votes x h
    · exact h2
theorem fits_nil : Fits [] := ⟨by simp, by simp, by simp⟩
/-- what the law does with both results -/
theorem Fits.eqP {l : List Prop'} (hf : Fits l) : F_laws_eqProposalS (l, l) = some true := eqProposalS_is l (by have := hf.len; omega) (fun e he => by have := hf.votes e he; omega)
end Go.Proofs.Ytbdnmfiaghhhiaa
