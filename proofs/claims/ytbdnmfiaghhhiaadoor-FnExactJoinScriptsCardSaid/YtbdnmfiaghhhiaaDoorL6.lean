/- The law of JoinScripts, as plain Lean: it answers true. No conditions. -/
import Derived.Test.YtbdnmfiaghhhiaaDoorC0
import Derived.Test.YtbdnmfiaghhhiaaDoorKit
set_option linter.unusedVariables false
set_option linter.unusedSimpArgs false
namespace Go.Proofs.YtbdnmfiaghhhiaaDoor
open Go

theorem byteAt_ten (x : ByteArray) (i : Nat) : (byteAt x i == 10) = (x.data.toList.getD i 0 == 10) := by
  unfold byteAt
  generalize x.data.toList.getD i 0 = b
  by_cases h : b = 10
  · subst h; rfl
  · have : ¬ ((b.toNat : Int) = 10) := fun e => h (by
      have e' : b.toNat = (10 : UInt8).toNat := by
        show b.toNat = 10
        omega
      exact UInt8.toNat_inj.1 e')
    rw [beq_eq_false_iff_ne.2 h]
    exact beq_eq_false_iff_ne.2 this

theorem split_len (x : ByteArray) (hx : x.size ≤ 4194304) : ∃ l, F_spec_l1Split (x, 10) = some l ∧ l.length = x.data.toList.count 10 + 1 := by
  have hsz : x.data.toList.length = x.size := Array.length_toList
  have hle : ∀ i, (x.data.toList.take i).count 10 ≤ i := fun i => Nat.le_trans List.count_le_length (by simp; omega)
  obtain ⟨o, e, fr, out, rfl, hf, ho⟩ := runL_inv (f := step_spec_l1Split_0) (fun s => ∃ (fr i : Nat) (out : List ByteArray), s = (x, 10, (fr : Int), (i : Int), out) ∧ fr ≤ i ∧ i ≤ x.size ∧ out.length = (x.data.toList.take i).count 10)
    (fun o => ∃ (fr : Nat) (out : List ByteArray), o = (x, (fr : Int), out) ∧ fr ≤ x.size ∧ out.length = x.data.toList.count 10) (fun s => x.size - s.2.2.2.1.toNat) (by
    rintro s ⟨fr, i, out, rfl, h1, h2, h3⟩
    rcases Nat.lt_or_ge i x.size with hlt | hge
    · right
      have hw := wrap_succ (i := i) (by omega)
      have ht : (x.data.toList.take (i + 1)).count 10 = (x.data.toList.take i).count 10 + (if x.data.toList.getD i 0 == 10 then 1 else 0) := by
        rw [take_succ_getD (by omega) 0, List.count_append, List.count_singleton]
      have hc := hle i
      cases hb : (x.data.toList.getD i 0 == 10) with
      | true =>
        have hb' : (byteAt x i == 10) = true := by rw [byteAt_ten, hb]
        refine ⟨(x, 10, ((i + 1 : Nat) : Int), ((i + 1 : Nat) : Int), out ++ [x.extract fr i]), ?_, ⟨i + 1, i + 1, _, rfl, by omega, by omega, ?_⟩, by simp; omega⟩
        · have g1 : decide ((fr : Int) ≤ (i : Int)) = true := decide_eq_true (by omega)
          have g2 : decide ((i : Int) ≤ (x.size : Int)) = true := decide_eq_true (by omega)
          have g3 : decide ((out.length + [x.extract fr i].length) * 16 ≤ 140737488355328) = true := decide_eq_true (by simp; omega)
          simp only [step_spec_l1Split_0, lt_len hlt, nonneg, Bool.and_self, cond_true, Int.toNat_natCast, hb', g1, g2, g3, hw]
        · rw [ht, hb]; simp [h3]
      | false =>
        have hb' : (byteAt x i == 10) = false := by rw [byteAt_ten, hb]
        refine ⟨(x, 10, (fr : Int), ((i + 1 : Nat) : Int), out), ?_, ⟨fr, i + 1, _, rfl, by omega, by omega, ?_⟩, by simp; omega⟩
        · simp only [step_spec_l1Split_0, lt_len hlt, nonneg, Bool.and_self, cond_true, cond_false, Int.toNat_natCast, hb', hw]
        · rw [ht, hb]; simp [h3]
    · left
      have : i = x.size := by omega
      subst this
      refine ⟨(x, (fr : Int), out), ?_, fr, out, rfl, h1, ?_⟩
      · simp only [step_spec_l1Split_0, not_lt_len, cond_false]
      · rw [h3, List.take_of_length_le (by omega)]) (x, 10, 0, 0, []) ⟨0, 0, [], rfl, Nat.le_refl _, Nat.zero_le _, rfl⟩
  have hc := hle x.size
  rw [List.take_of_length_le (by omega)] at hc
  refine ⟨out ++ [x.extract fr x.size], ?_, by simp [ho]⟩
  have g1 : decide ((fr : Int) ≤ (x.size : Int)) = true := decide_eq_true (by omega)
  have g2 : decide ((x.size : Int) ≤ (x.size : Int)) = true := decide_eq_true (Int.le_refl _)
  have g3 : decide ((out.length + [x.extract fr x.size].length) * 16 ≤ 140737488355328) = true := decide_eq_true (by simp; omega)
  simp only [F_spec_l1Split, e, nonneg, Bool.and_self, cond_true, Int.toNat_natCast, g1, g2, g3]

theorem suffix_last (x : ByteArray) (h : 0 < x.size) : Lib.hasSuffix x.data.toList [10] = (byteAt x (x.size - 1) == 10) := by
  have hsz : x.data.toList.length = x.size := Array.length_toList
  rw [byteAt_ten, ← hsz]
  rw [← hsz] at h
  generalize x.data.toList = l at h
  rcases List.eq_nil_or_concat l with rfl | ⟨m, a, rfl⟩
  · simp at h
  · unfold Lib.hasSuffix
    have e1 : (m ++ [a]).getD ((m ++ [a]).length - 1) 0 = a := by simp [List.getD]
    rw [List.concat_eq_append, e1]
    apply Bool.eq_iff_iff.2
    rw [List.isSuffixOf_iff_suffix, beq_iff_eq]
    constructor
    · rintro ⟨t, ht⟩
      have := List.append_inj_right' ht rfl
      exact (by simpa using this.symm)
    · rintro rfl
      exact ⟨m, rfl⟩

theorem scripts_same (x : ByteArray) (hx : x.size ≤ 4194304) : ∃ (L1 L2 : List ByteArray) (b : Bool), F_impl_scriptLines x = some (L1, b) ∧ F_spec_csLines x = some (L2, b) := by
  have hsz : x.data.toList.length = x.size := Array.length_toList
  obtain ⟨l2, s2, n2⟩ := split_len x hx
  have hcl : x.data.toList.count 10 ≤ x.size := by rw [← hsz]; exact List.count_le_length
  have hC : F_strings_Count (x, (⟨#[10]⟩ : ByteArray)) = some ((x.data.toList.count 10 : Nat) : Int) := by rw [F_strings_Count_is]; rfl
  have hcb : Lib.countB x (⟨#[10]⟩ : ByteArray) = x.data.toList.count 10 := Lib.count_one 10 x.data.toList
  obtain ⟨l1, s1, n1⟩ : ∃ l1, F_strings_Split (x, (⟨#[10]⟩ : ByteArray)) = some l1 ∧ l1.length = x.data.toList.count 10 + 1 := by
    refine ⟨Lib.splitB (⟨#[10]⟩ : ByteArray) 0 (Lib.countB x (⟨#[10]⟩ : ByteArray)) x, ?_, ?_⟩
    · rw [F_strings_Split_is, decide_eq_true (show x.size < 4294967281 by omega)]; rfl
    · rw [Lib.splitB_all (⟨#[10]⟩ : ByteArray) (Nat.le_refl 1) 0 _ x rfl, hcb]
  have hH : F_strings_HasSuffix (x, (⟨#[10]⟩ : ByteArray)) = some (Lib.hasSuffix x.data.toList [10]) := by
    rw [F_strings_HasSuffix_is, decide_eq_true (show x.size ≤ 9223372036854775807 by omega)]; rfl
  generalize x.data.toList.count 10 = c at *
  have w1 : IntKind.i64.wrap ((l2.length : Int) - 1) = (c : Int) := by rw [n2, wrap_id (by omega) (by omega)]; omega
  have z0 : decide (0 ≤ (0 : Int)) = true := rfl
  have g1 : decide ((c : Int) ≤ (l1.length : Int)) = true := decide_eq_true (by omega)
  have g2 : decide ((c : Int) ≤ (l2.length : Int)) = true := decide_eq_true (by omega)
  have e0 : (c : Int) - (((0 : Int).toNat : Nat) : Int) = (c : Int) := by simp
  cases h2 : decide ((x.size : Int) > 2000) with
  | true =>
    refine ⟨[], [], false, ?_, ?_⟩
    · simp only [F_impl_scriptLines, h2, cond_true]
    · simp only [F_spec_csLines, h2, cond_true]
  | false =>
    cases h40 : decide ((c : Int) > 40) <;> cases he : (x.toList == (⟨#[]⟩ : ByteArray).toList)
    · have hp : 0 < x.size := by
        rcases Nat.eq_zero_or_pos x.size with h0 | h0
        · have : x = (⟨#[]⟩ : ByteArray) := by
            obtain ⟨⟨l⟩⟩ := x
            simp [ByteArray.size] at h0
            subst h0; rfl
          rw [this] at he; simp at he
        · exact h0
      have w2 : IntKind.i64.wrap ((x.size : Int) - 1) = ((x.size - 1 : Nat) : Int) := wrap_pred (by omega) hp
      have g3 : decide (((x.size - 1 : Nat) : Int) < (x.size : Int)) = true := decide_eq_true (by omega)
      cases hb : (byteAt x (x.size - 1) == 10) with
      | true =>
        refine ⟨(l1.drop ((0 : Int)).toNat).take (((c : Int)).toNat - ((0 : Int)).toNat), (l2.drop ((0 : Int)).toNat).take (c - ((0 : Int)).toNat), true, ?_, ?_⟩
        · simp only [F_impl_scriptLines, h2, he, hH, suffix_last x hp, hb, hC, h40, s1, z0, nonneg, g1, cond_true, cond_false, Bool.not_true, Bool.not_false, Bool.and_self]
        · simp only [F_spec_csLines, h2, he, w2, nonneg, g3, Int.toNat_natCast, bne, hb, s2, w1, z0, g2, e0, h40, cond_true, cond_false, Bool.not_true, Bool.not_false, Bool.and_self]
      | false =>
        refine ⟨[], [], false, ?_, ?_⟩
        · simp only [F_impl_scriptLines, h2, he, hH, suffix_last x hp, hb, cond_true, cond_false, Bool.not_true, Bool.not_false]
        · simp only [F_spec_csLines, h2, he, w2, nonneg, g3, Int.toNat_natCast, bne, hb, cond_true, cond_false, Bool.not_true, Bool.not_false, Bool.and_self]
    · refine ⟨(l1.drop ((0 : Int)).toNat).take (((c : Int)).toNat - ((0 : Int)).toNat), (l2.drop ((0 : Int)).toNat).take (c - ((0 : Int)).toNat), true, ?_, ?_⟩
      · simp only [F_impl_scriptLines, h2, he, hC, h40, s1, z0, nonneg, g1, cond_true, cond_false, Bool.not_true, Bool.not_false, Bool.and_self]
      · simp only [F_spec_csLines, h2, he, s2, w1, z0, nonneg, g2, Int.toNat_natCast, e0, h40, cond_true, cond_false, Bool.not_true, Bool.not_false, Bool.and_self]
    · have hp : 0 < x.size := by
        rcases Nat.eq_zero_or_pos x.size with h0 | h0
        · have : x = (⟨#[]⟩ : ByteArray) := by
            obtain ⟨⟨l⟩⟩ := x
            simp [ByteArray.size] at h0
            subst h0; rfl
          rw [this] at he; simp at he
        · exact h0
      have w2 : IntKind.i64.wrap ((x.size : Int) - 1) = ((x.size - 1 : Nat) : Int) := wrap_pred (by omega) hp
      have g3 : decide (((x.size - 1 : Nat) : Int) < (x.size : Int)) = true := decide_eq_true (by omega)
      cases hb : (byteAt x (x.size - 1) == 10) with
      | true =>
        refine ⟨[], [], false, ?_, ?_⟩
        · simp only [F_impl_scriptLines, h2, he, hH, suffix_last x hp, hb, hC, h40, cond_true, cond_false, Bool.not_true, Bool.not_false]
        · simp only [F_spec_csLines, h2, he, w2, nonneg, g3, Int.toNat_natCast, bne, hb, s2, w1, z0, g2, e0, h40, cond_true, cond_false, Bool.not_true, Bool.not_false, Bool.and_self]
      | false =>
        refine ⟨[], [], false, ?_, ?_⟩
        · simp only [F_impl_scriptLines, h2, he, hH, suffix_last x hp, hb, cond_true, cond_false, Bool.not_true, Bool.not_false]
        · simp only [F_spec_csLines, h2, he, w2, nonneg, g3, Int.toNat_natCast, bne, hb, cond_true, cond_false, Bool.not_true, Bool.not_false, Bool.and_self]
    · refine ⟨[], [], false, ?_, ?_⟩
      · simp only [F_impl_scriptLines, h2, he, hC, h40, cond_true, cond_false, Bool.not_true, Bool.not_false]
      · simp only [F_spec_csLines, h2, he, s2, w1, z0, nonneg, g2, Int.toNat_natCast, e0, h40, cond_true, cond_false, Bool.not_true, Bool.not_false, Bool.and_self]

theorem join_same (a b : ByteArray) (ha : a.size ≤ 1048576) (hb : b.size ≤ 1048576) : ∃ o, F_spec_JoinScripts (a, b) = some o ∧ F_impl_JoinScripts (a, b) = some o := by
  obtain ⟨p1, q1, b1, e1, f1⟩ := scripts_same a (by omega)
  obtain ⟨p2, q2, b2, e2, f2⟩ := scripts_same b (by omega)
  obtain ⟨p3, q3, b3, e3, f3⟩ := scripts_same (a ++ b) (by rw [ByteArray.size_append]; omega)
  have g : decide (a.size + b.size ≤ 9223372036854775807) = true := decide_eq_true (by omega)
  refine ⟨bif b1 && b2 && b3 then (a ++ b, true) else ((⟨#[]⟩ : ByteArray), false), ?_, ?_⟩
  · cases b1 <;> cases b2 <;> cases b3 <;> simp only [F_spec_JoinScripts, f1, f2, f3, g, cond_true, cond_false, Bool.not_true, Bool.not_false, Bool.and_self, Bool.and_true, Bool.and_false, Bool.true_and, Bool.false_and]
  · cases b1 <;> cases b2 <;> cases b3 <;> simp only [F_impl_JoinScripts, e1, e2, e3, g, cond_true, cond_false, Bool.not_true, Bool.not_false, Bool.and_self, Bool.and_true, Bool.and_false, Bool.true_and, Bool.false_and]

theorem law_JoinScripts (x : ByteArray × ByteArray) : F_laws_FnExactJoinScripts x = some true := by
  obtain ⟨a, b⟩ := x
  cases ha : decide ((a.size : Int) > 1048576) with
  | true => simp only [F_laws_FnExactJoinScripts, ha, cond_true]
  | false =>
    cases hb : decide ((b.size : Int) > 1048576) with
    | true => simp only [F_laws_FnExactJoinScripts, ha, hb, cond_true, cond_false]
    | false =>
      have ha' := of_decide_eq_false ha
      have hb' := of_decide_eq_false hb
      obtain ⟨o, e1, e2⟩ := join_same a b (by omega) (by omega)
      have r1 : (o.1.toList == o.1.toList) = true := beq_self_eq_true _
      have r2 : (o.2 == o.2) = true := beq_self_eq_true _
      simp only [F_laws_FnExactJoinScripts, ha, hb, e1, e2, r1, r2, cond_true, cond_false, Bool.not_true]
end Go.Proofs.YtbdnmfiaghhhiaaDoor
