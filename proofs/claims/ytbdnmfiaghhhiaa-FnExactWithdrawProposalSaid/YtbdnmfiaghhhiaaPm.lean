/- Marks that are written into a row are read there. No conditions beyond the bounds that are named. -/
import Derived.Test.YtbdnmfiaghhhiaaPv
set_option linter.unusedVariables false
set_option linter.unusedSimpArgs false
namespace Go.Proofs.Ytbdnmfiaghhhiaa
open Go

/-- the first n marks -/
def marksOf {α : Type} (f : Nat → α) (n : Nat) : List α := (List.range n).map f
theorem marksOf_len {α : Type} (f : Nat → α) (n : Nat) : (marksOf f n).length = n := by simp [marksOf]
theorem marksOf_get {α : Type} (f : Nat → α) {n i : Nat} (h : i < n) (d : α) : (marksOf f n).getD i d = f i := by simp [marksOf, List.getD, h]
theorem marksOf_set {α : Type} (f : Nat → α) (l : List α) {i : Nat} (h : i < l.length) : (marksOf f i ++ l.drop i).set i (f i) = marksOf f (i + 1) ++ l.drop (i + 1) := by
  rw [List.set_append, if_neg (by simp [marksOf_len]), marksOf_len, Nat.sub_self, List.drop_eq_getElem_cons h, List.set_cons_zero]
  simp [marksOf, List.range_succ]
theorem marks_len {α : Type} (f : Nat → α) (l : List α) {i : Nat} (h : i ≤ l.length) : (marksOf f i ++ l.drop i).length = l.length := by simp [marksOf_len]; omega

def markI (j : Nat) : Int := (j : Int) + 1
theorem markIntS_is (l : List Int) (h : l.length ≤ 1048576) : F_laws_markIntS (l, 1) = some (marksOf markI l.length, (l.length : Int) + 1) := by
  have t := runL_traj (f := step_laws_markIntS_0) (fun i => (markI i, (i : Int), marksOf markI i ++ l.drop i)) (markI l.length, marksOf markI l.length) l.length (fun i hi => by
    have hw := wrap_succ (i := i) (by omega)
    have hw2 : IntKind.i64.wrap (markI i + 1) = markI (i + 1) := by rw [wrap_id] <;> simp [markI] <;> omega
    have hl := marks_len markI l (Nat.le_of_lt hi)
    simp only [step_laws_markIntS_0, hl, lt_len hi, nonneg, Bool.and_self, cond_true, Int.toNat_natCast, marksOf_set markI l hi, hw, hw2]) (by
    simp [step_laws_markIntS_0, marksOf_len])
  have t' : runL step_laws_markIntS_0 (1, (0 : Int), l) = some (markI l.length, marksOf markI l.length) := t
  simp only [F_laws_markIntS, t']
  rfl
theorem heldIntS_is (n : Nat) (h : n ≤ 1048576) : F_laws_heldIntS (marksOf markI n, 1) = some ((n : Int) + 1) := by
  have t := runL_traj (f := step_laws_heldIntS_0) (fun i => (marksOf markI n, markI i, (i : Int))) (.inr (markI n)) n (fun i hi => by
    have hw := wrap_succ (i := i) (by omega)
    have hw2 : IntKind.i64.wrap (markI i + 1) = markI (i + 1) := by rw [wrap_id] <;> simp [markI] <;> omega
    simp only [step_laws_heldIntS_0, marksOf_len, lt_len hi, nonneg, Bool.and_self, cond_true, Int.toNat_natCast, marksOf_get markI hi, bne_self_eq_false, cond_false, hw, hw2]) (by simp [step_laws_heldIntS_0, marksOf_len])
  have t' : runL step_laws_heldIntS_0 (marksOf markI n, 1, (0 : Int)) = some (.inr (markI n)) := t
  simp only [F_laws_heldIntS, t']
  rfl

/-- the text of a mark -/
theorem bytesStr_one (n : Int) : (bytesStr [n]).size = 1 := rfl
theorem tdiv10 {n : Int} (h : 0 < n) : 0 ≤ n.tdiv 10 ∧ n.tdiv 10 ≤ n - 1 := by
  have h1 : n.tdiv 10 = n / 10 := Int.tdiv_eq_ediv_of_nonneg (by omega)
  omega
theorem markText_some (k : Int) (h : k ≤ 4611686018427387904) : ∃ t, F_laws_markText k = some t := by
  by_cases h0 : k ≤ 0
  · exact ⟨_, by simp [F_laws_markText, h0]; rfl⟩
  · obtain ⟨o, ho, hq⟩ := runL_inv (f := step_laws_markText_0) (fun s => 0 ≤ s.1 ∧ (s.2.size : Int) + s.1 ≤ 4611686018427387904) (fun o => (o.size : Int) ≤ 4611686018427387904) (fun s => s.1.toNat) (by
      rintro ⟨n, s⟩ ⟨h1, h2⟩
      simp only at h1 h2
      by_cases hn : n > 0
      · right
        obtain ⟨d1, d2⟩ := tdiv10 hn
        have hw : IntKind.i64.wrap (n.tdiv 10) = n.tdiv 10 := wrap_id (by omega) (by omega)
        have hm : IntKind.i64.max = 9223372036854775807 := by decide
        refine ⟨(n.tdiv 10, bytesStr [IntKind.u8.wrap (IntKind.i64.wrap (48 + n.tmod 10))] ++ s), ?_, ⟨d1, ?_⟩, by simp; omega⟩
        · have hg : decide ((bytesStr [IntKind.u8.wrap (IntKind.i64.wrap (48 + n.tmod 10))]).size + s.size ≤ 9223372036854775807) = true := by
            rw [bytesStr_one]; exact decide_eq_true (by omega)
          simp only [step_laws_markText_0, decide_eq_true hn, cond_true, hm, hg, hw]
          rfl
        · simp only [ByteArray.size_append, bytesStr_one]
          omega
      · left
        refine ⟨s, ?_, by omega⟩
        simp only [step_laws_markText_0, decide_eq_false hn, cond_false]) (k, ⟨#[]⟩) ⟨by omega, by have hz : (⟨#[]⟩ : ByteArray).size = 0 := rfl; simp only [hz]; omega⟩
    have hm : IntKind.i64.max = 9223372036854775807 := by decide
    have hz : ((⟨#[109]⟩ : ByteArray).size) = 1 := rfl
    have hg : decide ((⟨#[109]⟩ : ByteArray).size + o.size ≤ 9223372036854775807) = true := by rw [hz]; exact decide_eq_true (by omega)
    exact ⟨_, by simp only [F_laws_markText, decide_eq_false h0, cond_false, ho, hm, hg, cond_true]; rfl⟩
noncomputable def mt (k : Int) : ByteArray := (F_laws_markText k).getD ByteArray.empty
theorem mt_is {k : Int} (h : k ≤ 4611686018427387904) : F_laws_markText k = some (mt k) := by
  obtain ⟨t, e⟩ := markText_some k h
  simp [mt, e]

theorem getD_set_self {α : Type} (l : List α) {i : Nat} (h : i < l.length) (a d : α) : (l.set i a).getD i d = a := by simp [List.getD, h]
theorem getD_marks {α : Type} (f : Nat → α) (l : List α) {i : Nat} (h : i < l.length) (d : α) : (marksOf f i ++ l.drop i).getD i d = l.getD i d := by
  simp [List.getD, List.getElem?_append_right, marksOf_len, List.getElem?_drop]
/-- marks from any number on -/
def markF (k : Int) (j : Nat) : Int := k + (j : Int)
theorem markIntS_from (l : List Int) (k : Int) (h : l.length ≤ 1048576) (h0 : 0 ≤ k) (h1 : k ≤ 4611686018427387904) : F_laws_markIntS (l, k) = some (marksOf (markF k) l.length, k + (l.length : Int)) := by
  have t := runL_traj (f := step_laws_markIntS_0) (fun i => (markF k i, (i : Int), marksOf (markF k) i ++ l.drop i)) (markF k l.length, marksOf (markF k) l.length) l.length (fun i hi => by
    have hw := wrap_succ (i := i) (by omega)
    have hw2 : IntKind.i64.wrap (markF k i + 1) = markF k (i + 1) := by rw [wrap_id] <;> simp [markF] <;> omega
    have hl := marks_len (markF k) l (Nat.le_of_lt hi)
    simp only [step_laws_markIntS_0, hl, lt_len hi, nonneg, Bool.and_self, cond_true, Int.toNat_natCast, marksOf_set (markF k) l hi, hw, hw2]) (by
    simp [step_laws_markIntS_0, marksOf_len])
  have e0 : markF k 0 = k := by simp [markF]
  have t' : runL step_laws_markIntS_0 (k, (0 : Int), l) = some (markF k l.length, marksOf (markF k) l.length) := by rw [← t]; simp [e0, marksOf]
  simp only [F_laws_markIntS, t']
  rfl

/-- the mark with which a list's element begins -/
def kAt (l : List Prop') : Nat → Int
  | 0 => 1
  | i + 1 => kAt l i + 3 + ((l.getD i dP).2.2.2.length : Int)
theorem kAt_bound (l : List Prop') (hv : ∀ e ∈ l, e.2.2.2.length ≤ 1048576) : ∀ i, i ≤ l.length → 1 ≤ kAt l i ∧ kAt l i ≤ 1 + (i : Int) * 1048579
  | 0, _ => by simp [kAt]
  | i + 1, hi => by
    have ih := kAt_bound l hv i (by omega)
    have := hv _ (getD_mem (show i < l.length by omega) dP)
    simp only [kAt]
    omega
noncomputable def markP (l : List Prop') (j : Nat) : Prop' := (kAt l j, (kAt l j + 1, (mt (kAt l j + 2), marksOf (markF (kAt l j + 3)) (l.getD j dP).2.2.2.length)))
theorem markProposalS_is (l : List Prop') (h : l.length ≤ 1048576) (hv : ∀ e ∈ l, e.2.2.2.length ≤ 1048576) : F_laws_markProposalS (l, 1) = some (marksOf (markP l) l.length, kAt l l.length) := by
  have t := runL_traj (f := step_laws_markProposalS_0) (fun i => (kAt l i, (i : Int), marksOf (markP l) i ++ l.drop i)) (kAt l l.length, marksOf (markP l) l.length) l.length (fun i hi => by
    have hw := wrap_succ (i := i) (by omega)
    obtain ⟨k0, k1⟩ := kAt_bound l hv i (by omega)
    have hvi := hv _ (getD_mem hi dP)
    have w1 : IntKind.i64.wrap (kAt l i + 1) = kAt l i + 1 := wrap_id (by omega) (by omega)
    have w2 : IntKind.i64.wrap (kAt l i + 1 + 1) = kAt l i + 2 := by rw [wrap_id (by omega) (by omega)]; omega
    have w3 : IntKind.i64.wrap (kAt l i + 2 + 1) = kAt l i + 3 := by rw [wrap_id (by omega) (by omega)]; omega
    have hl := marks_len (markP l) l (Nat.le_of_lt hi)
    have hl' : i < (marksOf (markP l) i ++ l.drop i).length := by rw [hl]; exact hi
    have hs : ∀ a, ((marksOf (markP l) i ++ l.drop i).set i a).getD i (0, (0, ByteArray.empty, [])) = a := fun a => getD_set_self _ hl' _ _
    have hg : (marksOf (markP l) i ++ l.drop i).getD i (0, (0, ByteArray.empty, [])) = l.getD i dP := getD_marks (markP l) l hi _
    have hm : (marksOf (markP l) i ++ l.drop i).set i (kAt l i, (kAt l i + 1, (mt (kAt l i + 2), marksOf (markF (kAt l i + 3)) (l.getD i dP).2.2.2.length))) = marksOf (markP l) (i + 1) ++ l.drop (i + 1) := marksOf_set (markP l) l hi
    have hk : kAt l (i + 1) = kAt l i + 3 + ((l.getD i dP).2.2.2.length : Int) := rfl
    have hmi := markIntS_from (l.getD i dP).2.2.2 (kAt l i + 3) hvi (by omega) (by omega)
    simp only [step_laws_markProposalS_0, List.length_set, hl, lt_len hi, nonneg, Bool.and_self, cond_true, Int.toNat_natCast, hw, w1, w2, w3, mt_is (show kAt l i + 2 ≤ 4611686018427387904 by omega), List.set_set, hs, hg, hmi, hm, hk]) (by
    simp [step_laws_markProposalS_0, marksOf_len])
  have t' : runL step_laws_markProposalS_0 (1, (0 : Int), l) = some (kAt l l.length, marksOf (markP l) l.length) := t
  simp only [F_laws_markProposalS, t']
end Go.Proofs.Ytbdnmfiaghhhiaa
