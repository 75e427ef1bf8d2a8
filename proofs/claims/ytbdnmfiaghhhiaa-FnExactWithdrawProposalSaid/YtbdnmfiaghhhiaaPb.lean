/- Copies are what is copied, lists are equal to themselves, sizes are counted. No conditions beyond the bounds that are named. -/
import Derived.Test.YtbdnmfiaghhhiaaC0
import Derived.Test.YtbdnmfiaghhhiaaKit
set_option linter.unusedVariables false
set_option linter.unusedSimpArgs false
namespace Go.Proofs.Ytbdnmfiaghhhiaa
open Go
theorem toIntS_is (l : List Int) (h : l.length ≤ 1048576) : F_laws_toIntS l = some l := by
  have t := runL_traj (f := step_laws_toIntS_0) (fun i => (l, (i : Int), l.take i ++ List.replicate (l.length - i) 0)) l l.length (fun i hi => by
    have hw := wrap_succ (i := i) (by omega)
    simp only [step_laws_toIntS_0, lt_len hi, nonneg, Bool.and_self, cond_true, Int.toNat_natCast, copy_len l 0 (Nat.le_of_lt hi), set_copy l 0 hi, hw]) (by simp [step_laws_toIntS_0])
  have t' : runL step_laws_toIntS_0 (l, (0 : Int), List.replicate l.length 0) = some l := by simpa using t
  have h2 : decide ((l.length : Int) * 8 ≤ 140737488355328) = true := by simp; omega
  simp only [F_laws_toIntS, nonneg, h2, Int.le_refl, decide_true, Bool.and_true, cond_true, Int.toNat_natCast, t']
theorem eqIntS_is (l : List Int) (h : l.length ≤ 9223372036854775807) : F_laws_eqIntS (l, l) = some true := by
  have t := runL_traj (f := step_laws_eqIntS_0) (fun i => (l, l, (i : Int))) (.inr ()) l.length (fun i hi => by
    have hw := wrap_succ (i := i) (by omega)
    simp only [step_laws_eqIntS_0, lt_len hi, nonneg, Bool.and_self, cond_true, Int.toNat_natCast, hw, bne_self_eq_false, cond_false]) (by simp [step_laws_eqIntS_0])
  have t' : runL step_laws_eqIntS_0 (l, l, (0 : Int)) = some (.inr ()) := t
  simp [F_laws_eqIntS, t']
theorem toProposal_is (p : (Int × (Int × (ByteArray × List Int)))) (h : p.2.2.2.length ≤ 1048576) : F_laws_toProposal p = some p := by simp [F_laws_toProposal, toIntS_is p.2.2.2 h]
theorem eqProposal_is (p : (Int × (Int × (ByteArray × List Int)))) (h : p.2.2.2.length ≤ 9223372036854775807) : F_laws_eqProposal (p, p) = some true := by simp [F_laws_eqProposal, eqIntS_is p.2.2.2 h]
theorem toProposalS_is (l : List (Int × (Int × (ByteArray × List Int)))) (h : l.length ≤ 1048576) (hs : ∀ e ∈ l, e.2.2.2.length ≤ 1048576) : F_laws_toProposalS l = some l := by
  have t := runL_traj (f := step_laws_toProposalS_0) (fun i => (l, (i : Int), l.take i ++ List.replicate (l.length - i) (0, (0, ByteArray.empty, [])))) l l.length (fun i hi => by
    have hw := wrap_succ (i := i) (by omega)
    simp only [step_laws_toProposalS_0, lt_len hi, nonneg, Bool.and_self, cond_true, Int.toNat_natCast, copy_len l (0, (0, ByteArray.empty, [])) (Nat.le_of_lt hi), set_copy l (0, (0, ByteArray.empty, [])) hi, hw, toProposal_is _ (hs _ (getD_mem hi _))]) (by simp [step_laws_toProposalS_0])
  have t' : runL step_laws_toProposalS_0 (l, (0 : Int), List.replicate l.length (0, (0, ByteArray.empty, []))) = some l := by simpa using t
  have h2 : decide ((l.length : Int) * 56 ≤ 140737488355328) = true := by simp; omega
  simp only [F_laws_toProposalS, nonneg, h2, Int.le_refl, decide_true, Bool.and_true, cond_true, Int.toNat_natCast, t']
theorem eqProposalS_is (l : List (Int × (Int × (ByteArray × List Int)))) (h : l.length ≤ 9223372036854775807) (hs : ∀ e ∈ l, e.2.2.2.length ≤ 9223372036854775807) : F_laws_eqProposalS (l, l) = some true := by
  have t := runL_traj (f := step_laws_eqProposalS_0) (fun i => (l, l, (i : Int))) (.inr ()) l.length (fun i hi => by
    have hw := wrap_succ (i := i) (by omega)
    simp only [step_laws_eqProposalS_0, lt_len hi, nonneg, Bool.and_self, cond_true, Int.toNat_natCast, hw, eqProposal_is _ (hs _ (getD_mem hi _)), Bool.not_true, cond_false]) (by simp [step_laws_eqProposalS_0])
  have t' : runL step_laws_eqProposalS_0 (l, l, (0 : Int)) = some (.inr ()) := t
  simp [F_laws_eqProposalS, t']

theorem szProposal_is (p : (Int × (Int × (ByteArray × List Int)))) (left : Int) (h0 : 0 ≤ left) (h1 : left ≤ 1048576) (hg : p.2.2.1.size ≤ 9223372036854775807) (hv : p.2.2.2.length ≤ 9223372036854775807) :
    ∃ o, F_laws_szProposal (p, left) = some o ∧ (o < 0 ∨ (0 ≤ o ∧ o ≤ 1048576 ∧ p.2.2.2.length ≤ 1048576)) := by
  have hw : IntKind.i64.wrap (left - (p.2.2.1.size : Int)) = left - (p.2.2.1.size : Int) := wrap_id (by omega) (by omega)
  by_cases hn : left - (p.2.2.1.size : Int) < 0
  · exact ⟨-1, by simp [F_laws_szProposal, hw, hn], .inl (by omega)⟩
  · have hw2 : IntKind.i64.wrap (left - (p.2.2.1.size : Int) - (p.2.2.2.length : Int)) = left - (p.2.2.1.size : Int) - (p.2.2.2.length : Int) := wrap_id (by omega) (by omega)
    by_cases hn2 : left - (p.2.2.1.size : Int) - (p.2.2.2.length : Int) < 0
    · exact ⟨-1, by simp [F_laws_szProposal, F_laws_szIntS, hw, hn, hw2, hn2], .inl (by omega)⟩
    · exact ⟨left - (p.2.2.1.size : Int) - (p.2.2.2.length : Int), by simp [F_laws_szProposal, F_laws_szIntS, hw, hn, hw2, hn2], .inr ⟨by omega, by omega, by omega⟩⟩

theorem szProposalS_is (l : List (Int × (Int × (ByteArray × List Int)))) (hl : l.length ≤ 9223372036854775807) (hg : ∀ e ∈ l, e.2.2.1.size ≤ 9223372036854775807) (hv : ∀ e ∈ l, e.2.2.2.length ≤ 9223372036854775807) :
    ∃ o, F_laws_szProposalS (l, 1048576) = some o ∧ (o < 0 ∨ (l.length ≤ 1048576 ∧ ∀ e ∈ l, e.2.2.2.length ≤ 1048576)) := by
  have hw : IntKind.i64.wrap (1048576 - (l.length : Int)) = 1048576 - (l.length : Int) := wrap_id (by omega) (by omega)
  by_cases hn : 1048576 - (l.length : Int) < 0
  · exact ⟨-1, by simp [F_laws_szProposalS, hw, hn], .inl (by omega)⟩
  · obtain ⟨o, ho, hq⟩ := runL_inv (f := step_laws_szProposalS_0) (fun s => ∃ i : Nat, s.1 = l ∧ s.2.2 = (i : Int) ∧ i ≤ l.length ∧ 0 ≤ s.2.1 ∧ s.2.1 ≤ 1048576 ∧ ∀ j, j < i → (l.getD j (0, (0, ByteArray.empty, []))).2.2.2.length ≤ 1048576)
      (fun o => (∃ v, o = .inl v ∧ v < 0) ∨ ∃ v, o = .inr v ∧ ∀ j, j < l.length → (l.getD j (0, (0, ByteArray.empty, []))).2.2.2.length ≤ 1048576) (fun s => (l.length : Int).toNat - s.2.2.toNat) (by
      rintro ⟨s1, left, s3⟩ ⟨i, e1, e2, hi, h0, h1, hj⟩
      simp only at e1 e2 h0 h1 hi hj
      subst e1 e2
      rcases Nat.lt_or_ge i s1.length with hlt | hge
      · obtain ⟨o, e, hq⟩ := szProposal_is (s1.getD i (0, (0, ByteArray.empty, []))) left h0 h1 (hg _ (getD_mem hlt _)) (hv _ (getD_mem hlt _))
        have hws := wrap_succ (i := i) (by omega)
        rcases hq with hneg | ⟨q0, q1, q2⟩
        · left
          refine ⟨.inl (-1), ?_, .inl ⟨-1, rfl, by omega⟩⟩
          simp only [step_laws_szProposalS_0, lt_len hlt, nonneg, Bool.and_self, cond_true, Int.toNat_natCast, e, decide_eq_true hneg]
        · right
          refine ⟨(s1, o, ((i + 1 : Nat) : Int)), ?_, ⟨i + 1, rfl, rfl, by omega, q0, q1, fun j hj' => ?_⟩, by simp; omega⟩
          · simp only [step_laws_szProposalS_0, lt_len hlt, nonneg, Bool.and_self, cond_true, Int.toNat_natCast, e, decide_eq_false (show ¬ o < 0 by omega), cond_false, hws]
          · rcases Nat.lt_succ_iff_lt_or_eq.1 hj' with h' | h'
            · exact hj j h'
            · subst h'; exact q2
      · left
        have : i = s1.length := by omega
        subst this
        exact ⟨.inr left, by simp [step_laws_szProposalS_0], .inr ⟨left, rfl, hj⟩⟩) (l, 1048576 - (l.length : Int), 0) ⟨0, rfl, rfl, by omega, by simp; omega, by simp; omega, fun j hj => by omega⟩
    rcases hq with ⟨v, rfl, hv'⟩ | ⟨v, rfl, hv'⟩
    · exact ⟨v, by simp [F_laws_szProposalS, hw, hn, ho], .inl hv'⟩
    · refine ⟨v, by simp [F_laws_szProposalS, hw, hn, ho], .inr ⟨by omega, fun e he => ?_⟩⟩
      obtain ⟨j, hj, rfl⟩ := List.getElem_of_mem he
      have := hv' j hj
      simpa [List.getD, List.getElem?_eq_getElem hj] using this
end Go.Proofs.Ytbdnmfiaghhhiaa
