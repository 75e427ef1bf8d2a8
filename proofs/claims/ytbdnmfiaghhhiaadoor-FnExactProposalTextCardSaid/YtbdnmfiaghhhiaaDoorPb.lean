/- Copies are what is copied, lists are equal to themselves, sizes are counted. No conditions beyond the bounds that are named. -/
import Derived.Test.YtbdnmfiaghhhiaaDoorC0
import Derived.Test.YtbdnmfiaghhhiaaDoorKit
set_option linter.unusedVariables false
set_option linter.unusedSimpArgs false
namespace Go.Proofs.YtbdnmfiaghhhiaaDoor
open Go
theorem toIntS_is (l : List Int) (h : l.length ≤ 1048576) : F_laws_toIntS l = some l := by
  have t := runL_traj (f := step_laws_toIntS_0) (fun i => (l, (i : Int), l.take i ++ List.replicate (l.length - i) 0)) l l.length (fun i hi => by
    have hw := wrap_succ (i := i) (by omega)
    simp only [step_laws_toIntS_0, lt_len hi, nonneg, Bool.and_self, cond_true, Int.toNat_natCast, copy_len l 0 (Nat.le_of_lt hi), set_copy l 0 hi, hw]) (by simp [step_laws_toIntS_0])
  have t' : runL step_laws_toIntS_0 (l, (0 : Int), List.replicate l.length 0) = some l := by simpa using t
  have h2 : decide ((l.length : Int) * 8 ≤ 140737488355328) = true := by simp; omega
  simp only [F_laws_toIntS, nonneg, h2, Int.le_refl, decide_true, Bool.and_true, cond_true, Int.toNat_natCast, t']
theorem eqIntS_is (l : List Int) (h : l.length ≤ 9223372036854775807) : F_laws_eqIntS (l, l) = some true := by
  have t := runL_traj (f := step_laws_eqIntS_0) (fun i => (l, l, (i : Int))) (.inr ()) l.length (fun i hi => by
    have hw := wrap_succ (i := i) (by omega)
    simp only [step_laws_eqIntS_0, lt_len hi, nonneg, Bool.and_self, cond_true, Int.toNat_natCast, hw, bne_self_eq_false, cond_false]) (by simp [step_laws_eqIntS_0])
  have t' : runL step_laws_eqIntS_0 (l, l, (0 : Int)) = some (.inr ()) := t
  simp [F_laws_eqIntS, t']
theorem toProposal_is (p : (Int × (Int × (ByteArray × List Int)))) (h : p.2.2.2.length ≤ 1048576) : F_laws_toProposal p = some p := by simp [F_laws_toProposal, toIntS_is p.2.2.2 h]
theorem eqProposal_is (p : (Int × (Int × (ByteArray × List Int)))) (h : p.2.2.2.length ≤ 9223372036854775807) : F_laws_eqProposal (p, p) = some true := by simp [F_laws_eqProposal, eqIntS_is p.2.2.2 h]

theorem szProposal_is (p : (Int × (Int × (ByteArray × List Int)))) (left : Int) (h0 : 0 ≤ left) (h1 : left ≤ 1048576) (hg : p.2.2.1.size ≤ 9223372036854775807) (hv : p.2.2.2.length ≤ 9223372036854775807) :
    ∃ o, F_laws_szProposal (p, left) = some o ∧ (o < 0 ∨ (0 ≤ o ∧ o ≤ 1048576 ∧ p.2.2.2.length ≤ 1048576)) := by
  have hw : IntKind.i64.wrap (left - (p.2.2.1.size : Int)) = left - (p.2.2.1.size : Int) := wrap_id (by omega) (by omega)
  by_cases hn : left - (p.2.2.1.size : Int) < 0
  · exact ⟨-1, by simp [F_laws_szProposal, hw, hn], .inl (by omega)⟩
  · have hw2 : IntKind.i64.wrap (left - (p.2.2.1.size : Int) - (p.2.2.2.length : Int)) = left - (p.2.2.1.size : Int) - (p.2.2.2.length : Int) := wrap_id (by omega) (by omega)
    by_cases hn2 : left - (p.2.2.1.size : Int) - (p.2.2.2.length : Int) < 0
    · exact ⟨-1, by simp [F_laws_szProposal, F_laws_szIntS, hw, hn, hw2, hn2], .inl (by omega)⟩
    · exact ⟨left - (p.2.2.1.size : Int) - (p.2.2.2.length : Int), by simp [F_laws_szProposal, F_laws_szIntS, hw, hn, hw2, hn2], .inr ⟨by omega, by omega, by omega⟩⟩

end Go.Proofs.YtbdnmfiaghhhiaaDoor
