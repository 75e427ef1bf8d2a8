/- Lines of edits and their texts are the same on both sides: plain laws. No conditions beyond the bounds that are named. -/
import Derived.Test.YtbdnmfiaghhhiaaDoorPj
set_option linter.unusedVariables false
set_option linter.unusedSimpArgs false
namespace Go.Proofs.YtbdnmfiaghhhiaaDoor
open Go

/-- a decimal numeral -/
noncomputable def it (n : Int) : ByteArray := ⟨(Lib.itoa n).toArray⟩
theorem it_size {n : Int} (h0 : 0 ≤ n) (h1 : n ≤ 9999) : (it n).size ≤ 10000 := by
  obtain ⟨k, rfl⟩ : ∃ k : Nat, n = (k : Int) := ⟨n.toNat, by omega⟩
  have := decDigits_short k
  have e : (it (k : Int)).size = (Lib.decDigits k).length := by rw [it, Lib.itoa_nonneg]; show ((Lib.decDigits k).toArray).size = _; simp
  omega
theorem l1Num_is {n : Int} (h0 : 0 ≤ n) (h1 : n ≤ 9999) : F_spec_l1Num n = some (it n) := by
  rw [F_spec_l1Num_is, decide_eq_true h0, decide_eq_true (show n ≤ 9223372036854775807 by omega)]; rfl
theorem Itoa_is {n : Int} (h0 : 0 ≤ n) (h1 : n ≤ 9999) : F_strconv_Itoa n = some (it n) := by
  rw [F_strconv_Itoa_is, decide_eq_true (show -9223372036854775808 ≤ n by omega), decide_eq_true (show n ≤ 9223372036854775807 by omega)]; rfl

theorem cat_ok {a b : ByteArray} (h : a.size + b.size ≤ 9223372036854775807) : decide (a.size + b.size ≤ 9223372036854775807) = true := decide_eq_true h
theorem byteAt_le (s : ByteArray) (i : Nat) : 0 ≤ byteAt s i ∧ byteAt s i ≤ 255 := by
  obtain ⟨b, hb⟩ : ∃ b : UInt8, byteAt s i = (b.toNat : Int) := ⟨_, rfl⟩
  have := b.toNat_lt
  omega

theorem sum_loop (s : ByteArray) (hs : s.size ≤ 1000000) : ∃ m : Int, runL step_spec_joLine_0 (s, 3, 0) = some (s, m) ∧ runL step_impl_LogEdit_line_0 (s, 3, (s.size : Int), 0) = some (s, m) ∧ 0 ≤ m ∧ m ≤ 9972 := by
  obtain ⟨o, p, e1, e2, rfl, m, rfl, h0, h1⟩ := runL_sim (f := step_spec_joLine_0) (g := step_impl_LogEdit_line_0) (fun a b => ∃ (m : Int) (i : Nat), a = (s, m, (i : Int)) ∧ b = (s, m, (s.size : Int), (i : Int)) ∧ i ≤ s.size ∧ 0 ≤ m ∧ m ≤ 9972)
    (fun o p => o = p ∧ ∃ m : Int, o = (s, m) ∧ 0 ≤ m ∧ m ≤ 9972) (fun a => s.size - a.2.2.toNat) (by
    rintro a b ⟨m, i, rfl, rfl, hi, h0, h1⟩
    rcases Nat.lt_or_ge i s.size with hlt | hge
    · right
      obtain ⟨b0, b1⟩ := byteAt_le s i
      have hw := wrap_succ (i := i) (by omega)
      have w1 : IntKind.i64.wrap (7 * m) = 7 * m := wrap_id (by omega) (by omega)
      have w2 : IntKind.i64.wrap (byteAt s i) = byteAt s i := wrap_id (by omega) (by omega)
      have w3 : IntKind.i64.wrap (7 * m + byteAt s i) = 7 * m + byteAt s i := wrap_id (by omega) (by omega)
      have hm : (7 * m + byteAt s i).tmod 9973 = (7 * m + byteAt s i) % 9973 := Int.tmod_eq_emod_of_nonneg (by omega)
      have hz : (!decide ((9973 : Int) = 0)) = true := rfl
      refine ⟨(s, (7 * m + byteAt s i) % 9973, ((i + 1 : Nat) : Int)), (s, (7 * m + byteAt s i) % 9973, (s.size : Int), ((i + 1 : Nat) : Int)), ?_, ?_, ⟨_, i + 1, rfl, rfl, by omega, by omega, by omega⟩, by simp; omega⟩
      · simp only [step_spec_joLine_0, lt_len hlt, nonneg, Bool.and_self, cond_true, Int.toNat_natCast, w1, w2, w3, hm, hw]
        rfl
      · simp only [step_impl_LogEdit_line_0, lt_len hlt, nonneg, Bool.and_self, cond_true, Int.toNat_natCast, w1, w2, w3, hm, hw]
        rfl
    · left
      have : i = s.size := by omega
      subst this
      exact ⟨(s, m), (s, m), by simp only [step_spec_joLine_0, not_lt_len, cond_false], by simp only [step_impl_LogEdit_line_0, not_lt_len, cond_false], rfl, m, rfl, h0, h1⟩) (s, 3, 0) (s, 3, (s.size : Int), 0) ⟨3, 0, rfl, rfl, by omega, by omega, by omega⟩
  exact ⟨m, e1, e2, h0, h1⟩

theorem line_same (e : Edit) (hok : edOK e = true) : ∃ t, F_spec_joLine e = some t ∧ F_impl_LogEdit_line e = some t ∧ t.size ≤ 30000 := by
  obtain ⟨n, g, out⟩ := e
  simp only [edOK, gl, Bool.and_eq_true, decide_eq_true_eq] at hok
  obtain ⟨⟨n1, n2⟩, _, _, g2⟩ := hok
  have hy := it_size (n := n) (by omega) (by omega)
  have l1 := l1Num_is (n := n) (by omega) (by omega)
  have l2 := Itoa_is (n := n) (by omega) (by omega)
  have go : ∀ c : UInt8, ∃ t, (bif decide ((it n).size + (⟨#[c]⟩ : ByteArray).size ≤ 9223372036854775807) then true else false) = true ∧ decide ((it n ++ (⟨#[c]⟩ : ByteArray)).size + g.size ≤ 9223372036854775807) = true ∧
      ∃ m : Int, runL step_spec_joLine_0 ((it n ++ (⟨#[c]⟩ : ByteArray)) ++ g, 3, 0) = some ((it n ++ (⟨#[c]⟩ : ByteArray)) ++ g, m) ∧ runL step_impl_LogEdit_line_0 ((it n ++ (⟨#[c]⟩ : ByteArray)) ++ g, 3, (((it n ++ (⟨#[c]⟩ : ByteArray)) ++ g).size : Int), 0) = some ((it n ++ (⟨#[c]⟩ : ByteArray)) ++ g, m) ∧
      F_spec_l1Num m = some (it m) ∧ F_strconv_Itoa m = some (it m) ∧
      decide (((it n ++ (⟨#[c]⟩ : ByteArray)) ++ g).size + (⟨#[46]⟩ : ByteArray).size ≤ 9223372036854775807) = true ∧
      decide ((((it n ++ (⟨#[c]⟩ : ByteArray)) ++ g) ++ (⟨#[46]⟩ : ByteArray)).size + (it m).size ≤ 9223372036854775807) = true ∧
      decide (((((it n ++ (⟨#[c]⟩ : ByteArray)) ++ g) ++ (⟨#[46]⟩ : ByteArray)) ++ it m).size + (⟨#[10]⟩ : ByteArray).size ≤ 9223372036854775807) = true ∧
      t = ((((it n ++ (⟨#[c]⟩ : ByteArray)) ++ g) ++ (⟨#[46]⟩ : ByteArray)) ++ it m) ++ (⟨#[10]⟩ : ByteArray) ∧ t.size ≤ 30000 := by
    intro c
    have z1 : (⟨#[c]⟩ : ByteArray).size = 1 := rfl
    have z2 : (⟨#[46]⟩ : ByteArray).size = 1 := rfl
    have z3 : (⟨#[10]⟩ : ByteArray).size = 1 := rfl
    have hg : g.size ≤ 8 := by omega
    obtain ⟨m, e1, e2, m0, m1⟩ := sum_loop ((it n ++ (⟨#[c]⟩ : ByteArray)) ++ g) (by simp only [ByteArray.size_append, z1]; omega)
    have hz := it_size (n := m) (by omega) (by omega)
    refine ⟨_, ?_, ?_, m, e1, e2, l1Num_is (by omega) (by omega), Itoa_is (by omega) (by omega), ?_, ?_, ?_, rfl, ?_⟩
    · rw [decide_eq_true (show (it n).size + (⟨#[c]⟩ : ByteArray).size ≤ 9223372036854775807 by rw [z1]; omega)]; rfl
    · exact decide_eq_true (by simp only [ByteArray.size_append, z1]; omega)
    · exact decide_eq_true (by simp only [ByteArray.size_append, z1, z2]; omega)
    · exact decide_eq_true (by simp only [ByteArray.size_append, z1, z2]; omega)
    · exact decide_eq_true (by simp only [ByteArray.size_append, z1, z2, z3]; omega)
    · simp only [ByteArray.size_append, z1, z2, z3]; omega
  have un : ∀ b : Bool, (bif b then true else false) = true → b = true := by intro b; cases b <;> simp
  obtain ⟨tp, p1, p2, mp, p3, p4, p5, p6, p7, p8, p9, rfl, p10⟩ := go 43
  obtain ⟨tm, q1, q2, mm, q3, q4, q5, q6, q7, q8, q9, rfl, q10⟩ := go 45
  have p1 := un _ p1
  have q1 := un _ q1
  cases out with
  | false => exact ⟨_, by simp only [F_spec_joLine, l1, p1, p2, p3, p5, p7, p8, p9, cond_true, cond_false], by simp only [F_impl_LogEdit_line, l2, p1, p2, p4, p6, p7, p8, p9, cond_true, cond_false], p10⟩
  | true => exact ⟨_, by simp only [F_spec_joLine, l1, p1, p2, q1, q2, q3, q5, q7, q8, q9, cond_true, cond_false], by simp only [F_impl_LogEdit_line, l2, p1, p2, q1, q2, q4, q6, q7, q8, q9, cond_true, cond_false], q10⟩

theorem goodE_ok {l : List Edit} (h : goodE l = true) {i : Nat} (hi : i < l.length) : edOK (l.getD i dE) = true := by
  simp only [goodE, Bool.and_eq_true] at h
  have := allN_true.1 h.1 i hi
  simp only [goodEAt, Bool.and_eq_true] at this
  exact this.1

theorem text_same (l : List Edit) (hl : l.length ≤ 40) (hok : ∀ i, i < l.length → edOK (l.getD i dE) = true) : ∃ t, F_spec_joText l = some t ∧ F_impl_editsText l = some t ∧ t.size ≤ 1200000 := by
  obtain ⟨o, p, e1, e2, rfl, h⟩ := runL_sim (f := step_spec_joText_0) (g := step_impl_editsText_0) (fun a b => a = b ∧ ∃ (t : ByteArray) (i : Nat), a = (t, l, (l.length : Int), (i : Int)) ∧ i ≤ l.length ∧ t.size ≤ i * 30000)
    (fun o p => o = p ∧ o.size ≤ 1200000) (fun a => l.length - a.2.2.2.toNat) (by
    rintro a b ⟨rfl, t, i, rfl, hi, ht⟩
    rcases Nat.lt_or_ge i l.length with hlt | hge
    · right
      obtain ⟨y, y1, y2, y3⟩ := line_same (l.getD i dE) (hok i hlt)
      have hw := wrap_succ (i := i) (by omega)
      have hg : decide (t.size + y.size ≤ 9223372036854775807) = true := decide_eq_true (by omega)
      refine ⟨(t ++ y, l, (l.length : Int), ((i + 1 : Nat) : Int)), _, ?_, ?_, ⟨rfl, _, i + 1, rfl, by omega, by simp only [ByteArray.size_append]; omega⟩, by simp; omega⟩
      · simp only [step_spec_joText_0, lt_len hlt, nonneg, Bool.and_self, cond_true, Int.toNat_natCast, y1, hg, hw]
      · simp only [step_impl_editsText_0, lt_len hlt, nonneg, Bool.and_self, cond_true, Int.toNat_natCast, y2, hg, hw]
    · left
      have : i = l.length := by omega
      subst this
      exact ⟨t, t, by simp only [step_spec_joText_0, not_lt_len, cond_false], by simp only [step_impl_editsText_0, not_lt_len, cond_false], rfl, by omega⟩) (⟨#[]⟩, l, (l.length : Int), 0) (⟨#[]⟩, l, (l.length : Int), 0) ⟨rfl, _, 0, rfl, by omega, by have hz : (⟨#[]⟩ : ByteArray).size = 0 := rfl; omega⟩
  exact ⟨o, by simp only [F_spec_joText, e1], by simp only [F_impl_editsText, e2], h⟩

theorem law_EditLine (e : Edit) (hg : e.2.1.size ≤ 9223372036854775807) : F_laws_FnExactEditLine e = some true := by
  obtain ⟨o, e1, _⟩ := szLogEdit_is e 1048576 (by omega) (by omega) hg
  by_cases hn : o < 0
  · simp [F_laws_FnExactEditLine, e1, hn]
  · cases hok : edOK e with
    | false => simp [F_laws_FnExactEditLine, e1, hn, toLogEdit_is, F_spec_EditLine, F_impl_EditLine, joOne_is e hg, isLogEdit_is e hg, hok]
    | true =>
      obtain ⟨t, t1, t2, _⟩ := line_same e hok
      simp [F_laws_FnExactEditLine, e1, hn, toLogEdit_is, F_spec_EditLine, F_impl_EditLine, joOne_is e hg, isLogEdit_is e hg, hok, t1, t2]

theorem law_EditsText (l : List Edit) (h : WfE l) : F_laws_FnExactEditsText l = some true := by
  obtain ⟨o, e, hq⟩ := h.cases
  rcases hq with hn | ⟨hn, hf, e1, e2⟩
  · simp [F_laws_FnExactEditsText, e, hn]
  · cases hok : goodE l with
    | false => simp [F_laws_FnExactEditsText, e, hn, e1, e2, F_spec_EditsText, F_impl_EditsText, joGood_is l hf, AreEdits_is l hf, hok]
    | true =>
      obtain ⟨t, t1, t2, _⟩ := text_same l (goodE_len hok) (fun i hi => goodE_ok hok hi)
      simp [F_laws_FnExactEditsText, e, hn, e1, e2, F_spec_EditsText, F_impl_EditsText, joGood_is l hf, AreEdits_is l hf, hok, t1, t2]

theorem tear_same (l : List Edit) (k : Int) (hf : FitsE l) : ∃ o, F_spec_TearText (l, k) = some o ∧ F_impl_TearText (l, k) = some o := by
  cases hok : goodE l with
  | false => exact ⟨(⟨#[]⟩, false), by simp [F_spec_TearText, joGood_is l hf, hok], by simp [F_impl_TearText, AreEdits_is l hf, hok]⟩
  | true =>
    obtain ⟨t, t1, t2, _⟩ := text_same l (goodE_len hok) (fun i hi => goodE_ok hok hi)
    by_cases h0 : 0 ≤ k
    · by_cases h1 : k ≤ (t.size : Int)
      · exact ⟨(t.extract 0 k.toNat, true), by simp [F_spec_TearText, joGood_is l hf, hok, t1, l1In_is, h0, h1], by simp [F_impl_TearText, AreEdits_is l hf, hok, t2, within_is, h0, h1]⟩
      · exact ⟨(⟨#[]⟩, false), by simp [F_spec_TearText, joGood_is l hf, hok, t1, l1In_is, h0, h1], by simp [F_impl_TearText, AreEdits_is l hf, hok, t2, within_is, h0, h1]⟩
    · exact ⟨(⟨#[]⟩, false), by simp [F_spec_TearText, joGood_is l hf, hok, t1, l1In_is, h0], by simp [F_impl_TearText, AreEdits_is l hf, hok, t2, within_is, h0]⟩
theorem law_TearText (l : List Edit) (k : Int) (h : WfE l) : F_laws_FnExactTearText (l, k) = some true := by
  obtain ⟨o, e, hq⟩ := h.cases
  rcases hq with hn | ⟨hn, hf, e1, e2⟩
  · simp [F_laws_FnExactTearText, e, hn]
  · obtain ⟨r, s1, s2⟩ := tear_same l k hf
    simp [F_laws_FnExactTearText, e, hn, e1, e2, s1, s2]
end Go.Proofs.YtbdnmfiaghhhiaaDoor
