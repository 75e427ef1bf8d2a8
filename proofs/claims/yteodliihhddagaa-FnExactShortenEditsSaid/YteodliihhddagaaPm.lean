/- Marks that are written into a row are read there. No conditions beyond the bounds that are named. -/
import Derived.Test.YteodliihhddagaaPb
set_option linter.unusedVariables false
set_option linter.unusedSimpArgs false
namespace Go.Proofs.Yteodliihhddagaa
open Go

/-- the first n marks -/
def marksOf {α : Type} (f : Nat → α) (n : Nat) : List α := (List.range n).map f
theorem marksOf_len {α : Type} (f : Nat → α) (n : Nat) : (marksOf f n).length = n := by simp [marksOf]
theorem marksOf_get {α : Type} (f : Nat → α) {n i : Nat} (h : i < n) (d : α) : (marksOf f n).getD i d = f i := by simp [marksOf, List.getD, h]
theorem marksOf_set {α : Type} (f : Nat → α) (l : List α) {i : Nat} (h : i < l.length) : (marksOf f i ++ l.drop i).set i (f i) = marksOf f (i + 1) ++ l.drop (i + 1) := by
  rw [List.set_append, if_neg (by simp [marksOf_len]), marksOf_len, Nat.sub_self, List.drop_eq_getElem_cons h, List.set_cons_zero]
  simp [marksOf, List.range_succ]
theorem marks_len {α : Type} (f : Nat → α) (l : List α) {i : Nat} (h : i ≤ l.length) : (marksOf f i ++ l.drop i).length = l.length := by simp [marksOf_len]; omega

def markI (j : Nat) : Int := (j : Int) + 1
theorem markIntS_is (l : List Int) (h : l.length ≤ 1048576) : F_laws_markIntS (l, 1) = some (marksOf markI l.length, (l.length : Int) + 1) := by
  have t := runL_traj (f := step_laws_markIntS_0) (fun i => (markI i, (i : Int), marksOf markI i ++ l.drop i)) (markI l.length, marksOf markI l.length) l.length (fun i hi => by
    have hw := wrap_succ (i := i) (by omega)
    have hw2 : IntKind.i64.wrap (markI i + 1) = markI (i + 1) := by rw [wrap_id] <;> simp [markI] <;> omega
    have hl := marks_len markI l (Nat.le_of_lt hi)
    simp only [step_laws_markIntS_0, hl, lt_len hi, nonneg, Bool.and_self, cond_true, Int.toNat_natCast, marksOf_set markI l hi, hw, hw2]) (by
    simp [step_laws_markIntS_0, marksOf_len])
  have t' : runL step_laws_markIntS_0 (1, (0 : Int), l) = some (markI l.length, marksOf markI l.length) := t
  simp only [F_laws_markIntS, t']
  rfl
theorem heldIntS_is (n : Nat) (h : n ≤ 1048576) : F_laws_heldIntS (marksOf markI n, 1) = some ((n : Int) + 1) := by
  have t := runL_traj (f := step_laws_heldIntS_0) (fun i => (marksOf markI n, markI i, (i : Int))) (.inr (markI n)) n (fun i hi => by
    have hw := wrap_succ (i := i) (by omega)
    have hw2 : IntKind.i64.wrap (markI i + 1) = markI (i + 1) := by rw [wrap_id] <;> simp [markI] <;> omega
    simp only [step_laws_heldIntS_0, marksOf_len, lt_len hi, nonneg, Bool.and_self, cond_true, Int.toNat_natCast, marksOf_get markI hi, bne_self_eq_false, cond_false, hw, hw2]) (by simp [step_laws_heldIntS_0, marksOf_len])
  have t' : runL step_laws_heldIntS_0 (marksOf markI n, 1, (0 : Int)) = some (.inr (markI n)) := t
  simp only [F_laws_heldIntS, t']
  rfl

/-- the text of a mark -/
theorem bytesStr_one (n : Int) : (bytesStr [n]).size = 1 := rfl
theorem tdiv10 {n : Int} (h : 0 < n) : 0 ≤ n.tdiv 10 ∧ n.tdiv 10 ≤ n - 1 := by
  have h1 : n.tdiv 10 = n / 10 := Int.tdiv_eq_ediv_of_nonneg (by omega)
  omega
theorem markText_some (k : Int) (h : k ≤ 4611686018427387904) : ∃ t, F_laws_markText k = some t := by
  by_cases h0 : k ≤ 0
  · exact ⟨_, by simp [F_laws_markText, h0]; rfl⟩
  · obtain ⟨o, ho, hq⟩ := runL_inv (f := step_laws_markText_0) (fun s => 0 ≤ s.1 ∧ (s.2.size : Int) + s.1 ≤ 4611686018427387904) (fun o => (o.size : Int) ≤ 4611686018427387904) (fun s => s.1.toNat) (by
      rintro ⟨n, s⟩ ⟨h1, h2⟩
      simp only at h1 h2
      by_cases hn : n > 0
      · right
        obtain ⟨d1, d2⟩ := tdiv10 hn
        have hw : IntKind.i64.wrap (n.tdiv 10) = n.tdiv 10 := wrap_id (by omega) (by omega)
        have hm : IntKind.i64.max = 9223372036854775807 := by decide
        refine ⟨(n.tdiv 10, bytesStr [IntKind.u8.wrap (IntKind.i64.wrap (48 + n.tmod 10))] ++ s), ?_, ⟨d1, ?_⟩, by simp; omega⟩
        · have hg : decide ((((bytesStr [IntKind.u8.wrap (IntKind.i64.wrap (48 + n.tmod 10))]).size + s.size : Nat) : Int) ≤ 9223372036854775807) = true := by
            rw [bytesStr_one]; exact decide_eq_true (by omega)
          simp only [step_laws_markText_0, decide_eq_true hn, cond_true, hm, hg, hw]
          rfl
        · simp only [ByteArray.size_append, bytesStr_one]
          omega
      · left
        refine ⟨s, ?_, by omega⟩
        simp only [step_laws_markText_0, decide_eq_false hn, cond_false]) (k, ⟨#[]⟩) ⟨by omega, by have hz : (⟨#[]⟩ : ByteArray).size = 0 := rfl; simp only [hz]; omega⟩
    have hm : IntKind.i64.max = 9223372036854775807 := by decide
    have hz : ((⟨#[109]⟩ : ByteArray).size) = 1 := rfl
    have hg : decide ((((⟨#[109]⟩ : ByteArray).size + o.size : Nat) : Int) ≤ 9223372036854775807) = true := by rw [hz]; exact decide_eq_true (by omega)
    exact ⟨_, by simp only [F_laws_markText, decide_eq_false h0, cond_false, ho, hm, hg, cond_true]; rfl⟩
noncomputable def mt (k : Int) : ByteArray := (F_laws_markText k).getD ByteArray.empty
theorem mt_is {k : Int} (h : k ≤ 4611686018427387904) : F_laws_markText k = some (mt k) := by
  obtain ⟨t, e⟩ := markText_some k h
  simp [mt, e]

theorem getD_set_self {α : Type} (l : List α) {i : Nat} (h : i < l.length) (a d : α) : (l.set i a).getD i d = a := by simp [List.getD, h]
noncomputable def markE (j : Nat) : Int × (ByteArray × Bool) := (1 + 3 * (j : Int), (mt (2 + 3 * (j : Int)), ((3 + 3 * (j : Int)).tmod 3 == 0)))
theorem markLogEditS_is (l : List (Int × (ByteArray × Bool))) (h : l.length ≤ 1048576) : F_laws_markLogEditS (l, 1) = some (marksOf markE l.length, 1 + 3 * (l.length : Int)) := by
  have t := runL_traj (f := step_laws_markLogEditS_0) (fun i => (1 + 3 * (i : Int), (i : Int), marksOf markE i ++ l.drop i)) (1 + 3 * (l.length : Int), marksOf markE l.length) l.length (fun i hi => by
    have hw := wrap_succ (i := i) (by omega)
    have w1 : IntKind.i64.wrap (1 + 3 * (i : Int) + 1) = 2 + 3 * (i : Int) := by rw [wrap_id (by omega) (by omega)]; omega
    have w2 : IntKind.i64.wrap (2 + 3 * (i : Int) + 1) = 3 + 3 * (i : Int) := by rw [wrap_id (by omega) (by omega)]; omega
    have w3 : IntKind.i64.wrap (3 + 3 * (i : Int) + 1) = 1 + 3 * ((i + 1 : Nat) : Int) := by rw [wrap_id (by omega) (by omega)]; omega
    have hl := marks_len markE l (Nat.le_of_lt hi)
    have hl' : i < (marksOf markE i ++ l.drop i).length := by rw [hl]; exact hi
    have h3 : (!decide ((3 : Int) = 0)) = true := rfl
    have hs : ∀ a, ((marksOf markE i ++ l.drop i).set i a).getD i (0, ByteArray.empty, false) = a := fun a => getD_set_self _ hl' _ _
    have hm : (marksOf markE i ++ l.drop i).set i (1 + 3 * (i : Int), (mt (2 + 3 * (i : Int)), ((3 + 3 * (i : Int)).tmod 3 == 0))) = marksOf markE (i + 1) ++ l.drop (i + 1) := marksOf_set markE l hi
    simp only [step_laws_markLogEditS_0, List.length_set, hl, lt_len hi, nonneg, Bool.and_self, cond_true, Int.toNat_natCast, hw, w1, w2, w3, mt_is (show 2 + 3 * (i : Int) ≤ 4611686018427387904 by omega), h3, List.set_set, hs, hm]
    rfl) (by
    simp [step_laws_markLogEditS_0, marksOf_len])
  have t' : runL step_laws_markLogEditS_0 (1, (0 : Int), l) = some (1 + 3 * (l.length : Int), marksOf markE l.length) := t
  simp only [F_laws_markLogEditS, t']
theorem heldLogEditS_is (n : Nat) (h : n ≤ 1048576) : F_laws_heldLogEditS (marksOf markE n, 1) = some (1 + 3 * (n : Int)) := by
  have t := runL_traj (f := step_laws_heldLogEditS_0) (fun i => (marksOf markE n, 1 + 3 * (i : Int), (i : Int))) (.inr (1 + 3 * (n : Int))) n (fun i hi => by
    have hw := wrap_succ (i := i) (by omega)
    have w1 : IntKind.i64.wrap (1 + 3 * (i : Int) + 1) = 2 + 3 * (i : Int) := by rw [wrap_id (by omega) (by omega)]; omega
    have w2 : IntKind.i64.wrap (2 + 3 * (i : Int) + 1) = 3 + 3 * (i : Int) := by rw [wrap_id (by omega) (by omega)]; omega
    have w3 : IntKind.i64.wrap (3 + 3 * (i : Int) + 1) = 1 + 3 * ((i + 1 : Nat) : Int) := by rw [wrap_id (by omega) (by omega)]; omega
    have h3 : (!decide ((3 : Int) = 0)) = true := rfl
    have hg := marksOf_get markE hi (0, ByteArray.empty, false)
    have hm : markE i = (1 + 3 * (i : Int), (mt (2 + 3 * (i : Int)), ((3 + 3 * (i : Int)).tmod 3 == 0))) := rfl
    simp only [step_laws_heldLogEditS_0, marksOf_len, lt_len hi, nonneg, Bool.and_self, cond_true, Int.toNat_natCast, hg, hm, bne_self_eq_false, cond_false, hw, w1, w2, w3, mt_is (show 2 + 3 * (i : Int) ≤ 4611686018427387904 by omega), h3, BEq.rfl, Bool.not_true]
    rfl) (by simp [step_laws_heldLogEditS_0, marksOf_len])
  have t' : runL step_laws_heldLogEditS_0 (marksOf markE n, 1, (0 : Int)) = some (.inr (1 + 3 * (n : Int))) := t
  simp only [F_laws_heldLogEditS, t']
end Go.Proofs.Yteodliihhddagaa
