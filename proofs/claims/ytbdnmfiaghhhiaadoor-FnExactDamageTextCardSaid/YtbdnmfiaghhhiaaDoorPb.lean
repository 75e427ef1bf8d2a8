/- Copies are what is copied, lists are equal to themselves, sizes are counted. No conditions beyond the bounds that are named. -/
import Derived.Test.YtbdnmfiaghhhiaaDoorC0
import Derived.Test.YtbdnmfiaghhhiaaDoorKit
set_option linter.unusedVariables false
set_option linter.unusedSimpArgs false
namespace Go.Proofs.YtbdnmfiaghhhiaaDoor
open Go
theorem toLogEdit_is (p : (Int × (ByteArray × Bool))) : F_laws_toLogEdit p = some p := rfl
theorem eqLogEdit_is (p : (Int × (ByteArray × Bool))) : F_laws_eqLogEdit (p, p) = some true := by simp [F_laws_eqLogEdit]
theorem toLogEditS_is (l : List (Int × (ByteArray × Bool))) (h : l.length ≤ 1048576) : F_laws_toLogEditS l = some l := by
  have t := runL_traj (f := step_laws_toLogEditS_0) (fun i => (l, (i : Int), l.take i ++ List.replicate (l.length - i) (0, ByteArray.empty, false))) l l.length (fun i hi => by
    have hw := wrap_succ (i := i) (by omega)
    simp only [step_laws_toLogEditS_0, lt_len hi, nonneg, Bool.and_self, cond_true, Int.toNat_natCast, copy_len l (0, ByteArray.empty, false) (Nat.le_of_lt hi), set_copy l (0, ByteArray.empty, false) hi, hw, toLogEdit_is]) (by simp [step_laws_toLogEditS_0])
  have t' : runL step_laws_toLogEditS_0 (l, (0 : Int), List.replicate l.length (0, ByteArray.empty, false)) = some l := by simpa using t
  have h2 : decide ((l.length : Int) * 32 ≤ 140737488355328) = true := by simp; omega
  simp only [F_laws_toLogEditS, nonneg, h2, Int.le_refl, decide_true, Bool.and_true, cond_true, Int.toNat_natCast, t']
theorem eqLogEditS_is (l : List (Int × (ByteArray × Bool))) (h : l.length ≤ 9223372036854775807) : F_laws_eqLogEditS (l, l) = some true := by
  have t := runL_traj (f := step_laws_eqLogEditS_0) (fun i => (l, l, (i : Int))) (.inr ()) l.length (fun i hi => by
    have hw := wrap_succ (i := i) (by omega)
    simp only [step_laws_eqLogEditS_0, lt_len hi, nonneg, Bool.and_self, cond_true, Int.toNat_natCast, hw, eqLogEdit_is, Bool.not_true, cond_false]) (by simp [step_laws_eqLogEditS_0])
  have t' : runL step_laws_eqLogEditS_0 (l, l, (0 : Int)) = some (.inr ()) := t
  simp [F_laws_eqLogEditS, t']

theorem szLogEdit_is (p : (Int × (ByteArray × Bool))) (left : Int) (h0 : 0 ≤ left) (h1 : left ≤ 1048576) (hg : p.2.1.size ≤ 9223372036854775807) :
    ∃ o, F_laws_szLogEdit (p, left) = some o ∧ (o < 0 ∨ (0 ≤ o ∧ o ≤ 1048576)) := by
  have hw : IntKind.i64.wrap (left - (p.2.1.size : Int)) = left - (p.2.1.size : Int) := wrap_id (by omega) (by omega)
  by_cases hn : left - (p.2.1.size : Int) < 0
  · exact ⟨-1, by simp [F_laws_szLogEdit, hw, hn], .inl (by omega)⟩
  · exact ⟨left - (p.2.1.size : Int), by simp [F_laws_szLogEdit, hw, hn], .inr ⟨by omega, by omega⟩⟩

theorem szLogEditS_is (l : List (Int × (ByteArray × Bool))) (hl : l.length ≤ 9223372036854775807) (hg : ∀ e ∈ l, e.2.1.size ≤ 9223372036854775807) :
    ∃ o, F_laws_szLogEditS (l, 1048576) = some o ∧ (o < 0 ∨ l.length ≤ 1048576) := by
  have hw : IntKind.i64.wrap (1048576 - (l.length : Int)) = 1048576 - (l.length : Int) := wrap_id (by omega) (by omega)
  by_cases hn : 1048576 - (l.length : Int) < 0
  · exact ⟨-1, by simp [F_laws_szLogEditS, hw, hn], .inl (by omega)⟩
  · obtain ⟨o, ho, hq⟩ := runL_inv (f := step_laws_szLogEditS_0) (fun s => ∃ i : Nat, s.1 = l ∧ s.2.2 = (i : Int) ∧ i ≤ l.length ∧ 0 ≤ s.2.1 ∧ s.2.1 ≤ 1048576)
      (fun o => True) (fun s => (l.length : Int).toNat - s.2.2.toNat) (by
      rintro ⟨s1, left, s3⟩ ⟨i, e1, e2, hi, h0, h1⟩
      simp only at e1 e2 h0 h1 hi
      subst e1 e2
      rcases Nat.lt_or_ge i s1.length with hlt | hge
      · obtain ⟨o, e, hq⟩ := szLogEdit_is (s1.getD i (0, ByteArray.empty, false)) left h0 h1 (hg _ (getD_mem hlt _))
        have hws := wrap_succ (i := i) (by omega)
        rcases hq with hneg | ⟨q0, q1⟩
        · left
          refine ⟨.inl (-1), ?_, trivial⟩
          simp only [step_laws_szLogEditS_0, lt_len hlt, nonneg, Bool.and_self, cond_true, Int.toNat_natCast, e, decide_eq_true hneg]
        · right
          refine ⟨(s1, o, ((i + 1 : Nat) : Int)), ?_, ⟨i + 1, rfl, rfl, by omega, q0, q1⟩, by simp; omega⟩
          simp only [step_laws_szLogEditS_0, lt_len hlt, nonneg, Bool.and_self, cond_true, Int.toNat_natCast, e, decide_eq_false (show ¬ o < 0 by omega), cond_false, hws]
      · left
        have : i = s1.length := by omega
        subst this
        exact ⟨.inr left, by simp [step_laws_szLogEditS_0], trivial⟩) (l, 1048576 - (l.length : Int), 0) ⟨0, rfl, rfl, by omega, by simp; omega, by simp; omega⟩
    rcases o with v | v
    · exact ⟨v, by simp [F_laws_szLogEditS, hw, hn, ho], .inr (by omega)⟩
    · exact ⟨v, by simp [F_laws_szLogEditS, hw, hn, ho], .inr (by omega)⟩
end Go.Proofs.YtbdnmfiaghhhiaaDoor
