/- Plain laws for this claim, several texts in one. No conditions beyond the bounds that are named. -/
import Derived.Test.YtklfnbckoaphpaaGreatDoorEvZk
import Derived.Test.YtklfnbckoaphpaaGreatDoorC0
import Derived.Lib.IndexLaws
import Derived.Lib.IndexBytes
import Derived.Lib.SplitLaws
import Derived.Lib.CutLaws
import Derived.Lib.Repeat
/- Words for pure laws: rounds of loops, bounds of numbers. No conditions. -/
set_option linter.unusedVariables false
namespace Go.Proofs.YtklfnbckoaphpaaGreatDoor
open Go
theorem wrap_id {n : Int} (h0 : -9223372036854775808 ≤ n) (h1 : n ≤ 9223372036854775807) : IntKind.i64.wrap n = n := by
  simp [IntKind.wrap, IntKind.bits, IntKind.signed]
  omega
theorem wrap_succ {i : Nat} (h : i < 9223372036854775807) : IntKind.i64.wrap ((i : Int) + 1) = ((i + 1 : Nat) : Int) := by rw [wrap_id (by omega) (by omega)]; omega
/-- a loop that keeps R and comes to an end has Q behind it -/
theorem runL_inv {S O : Type} {f : S → Option (S ⊕ O)} (R : S → Prop) (Q : O → Prop) (μ : S → Nat)
    (h : ∀ s, R s → (∃ o, f s = some (.inr o) ∧ Q o) ∨ ∃ s', f s = some (.inl s') ∧ R s' ∧ μ s' < μ s) : ∀ s, R s → ∃ o, runL f s = some o ∧ Q o := by
  have go : ∀ n s, μ s ≤ n → R s → ∃ o, runL f s = some o ∧ Q o := by
    intro n
    induction n with
    | zero =>
      intro s hn hs
      rcases h s hs with ⟨o, e, q⟩ | ⟨s', e, r, l⟩
      · exact ⟨o, by rw [runL_eq, e], q⟩
      · omega
    | succ n ih =>
      intro s hn hs
      rcases h s hs with ⟨o, e, q⟩ | ⟨s', e, r, l⟩
      · exact ⟨o, by rw [runL_eq, e], q⟩
      · obtain ⟨o, e2, q⟩ := ih s' (by omega) r
        exact ⟨o, by rw [runL_eq, e]; exact e2, q⟩
  exact fun s hs => go _ s (Nat.le_refl _) hs

/-- a loop over m rounds whose states are known -/
theorem runL_traj {S O : Type} {f : S → Option (S ⊕ O)} (s : Nat → S) (o : O) (m : Nat) (h : ∀ i, i < m → f (s i) = some (.inl (s (i + 1)))) (hend : f (s m) = some (.inr o)) : runL f (s 0) = some o := by
  have go : ∀ k i, m - i = k → i ≤ m → runL f (s i) = some o := by
    intro k
    induction k with
    | zero => intro i hk hi; rw [runL_eq, show i = m by omega, hend]
    | succ k ih => intro i hk hi; rw [runL_eq, h i (by omega)]; exact ih (i + 1) (by omega) (by omega)
  exact go m 0 (by omega) (by omega)

/-- a loop that goes on while p holds: the first place where it fails -/
theorem runL_first {S O : Type} {f : S → Option (S ⊕ O)} (p : Nat → Bool) (s : Nat → S) (no : Nat → O) (yes : O) (m : Nat)
    (h : ∀ i, i < m → f (s i) = some (bif p i then .inl (s (i + 1)) else .inr (no i))) (hend : f (s m) = some (.inr yes)) :
    (runL f (s 0) = some yes ∧ ∀ i, i < m → p i = true) ∨ ∃ i, i < m ∧ p i = false ∧ (∀ j, j < i → p j = true) ∧ runL f (s 0) = some (no i) := by
  have go : ∀ k i, m - i = k → i ≤ m → (∀ j, j < i → p j = true) → runL f (s 0) = runL f (s i) → (runL f (s 0) = some yes ∧ ∀ i, i < m → p i = true) ∨ ∃ i, i < m ∧ p i = false ∧ (∀ j, j < i → p j = true) ∧ runL f (s 0) = some (no i) := by
    intro k
    induction k with
    | zero =>
      intro i hk hi hp he
      have : i = m := by omega
      subst this
      exact .inl ⟨by rw [he, runL_eq, hend], hp⟩
    | succ k ih =>
      intro i hk hi hp he
      have hi' : i < m := by omega
      cases hpi : p i with
      | false => exact .inr ⟨i, hi', hpi, hp, by rw [he, runL_eq, h i hi', hpi]; rfl⟩
      | true =>
        refine ih (i + 1) (by omega) (by omega) (fun j hj => ?_) ?_
        · rcases Nat.lt_succ_iff_lt_or_eq.1 hj with hj | hj
          · exact hp j hj
          · exact hj ▸ hpi
        · rw [he, runL_eq f (s i), h i hi', hpi]; rfl
  exact go m 0 (by omega) (by omega) (fun j hj => by omega) rfl

/-- all of the first m places -/
def allN (p : Nat → Bool) (m : Nat) : Bool := (List.range m).all p
theorem allN_true {p : Nat → Bool} {m : Nat} : allN p m = true ↔ ∀ i, i < m → p i = true := by simp [allN]
theorem allN_false {p : Nat → Bool} {m : Nat} : allN p m = false ↔ ∃ i, i < m ∧ p i = false := by simp [allN]

theorem runL_all {S O : Type} {f : S → Option (S ⊕ O)} (p : Nat → Bool) (s : Nat → S) (no yes : O) (m : Nat)
    (h : ∀ i, i < m → f (s i) = some (bif p i then .inl (s (i + 1)) else .inr no)) (hend : f (s m) = some (.inr yes)) : runL f (s 0) = some (bif allN p m then yes else no) := by
  rcases runL_first p s (fun _ => no) yes m h hend with ⟨e, hp⟩ | ⟨i, hi, hp, _, e⟩
  · rw [e, allN_true.2 hp]; rfl
  · rw [e, allN_false.2 ⟨i, hi, hp⟩]; rfl

/-- the first of m places where p holds, or -1 -/
def firstN (p : Nat → Bool) (m : Nat) : Int := match (List.range m).find? p with | some i => (i : Int) | none => -1
theorem firstN_at {p : Nat → Bool} {m i : Nat} (hi : i < m) (hp : p i = true) (hj : ∀ j, j < i → p j = false) : firstN p m = (i : Int) := by
  unfold firstN
  have : (List.range m).find? p = some i := by
    rw [List.find?_range_eq_some]
    refine ⟨hp, by simpa using hi, fun j hj' => by simp [hj j hj']⟩
  rw [this]
theorem firstN_none {p : Nat → Bool} {m : Nat} (h : ∀ j, j < m → p j = false) : firstN p m = -1 := by
  unfold firstN
  have : (List.range m).find? p = none := by
    rw [List.find?_eq_none]
    intro x hx
    simp [h x (by simpa using hx)]
  rw [this]
theorem getD_mem {α : Type} {l : List α} {i : Nat} (h : i < l.length) (d : α) : l.getD i d ∈ l := by simp [List.getD, List.getElem?_eq_getElem h]
theorem take_succ_getD {α : Type} {l : List α} {i : Nat} (h : i < l.length) (d : α) : l.take (i + 1) = l.take i ++ [l.getD i d] := by
  rw [List.take_add_one, List.getD, List.getElem?_eq_getElem h]; rfl
theorem lt_len {i n : Nat} (h : i < n) : decide ((i : Int) < (n : Int)) = true := by simp; omega
theorem not_lt_len (n : Nat) : decide ((n : Int) < (n : Int)) = false := by simp
theorem nonneg (i : Nat) : decide (0 ≤ (i : Int)) = true := by simp

end Go.Proofs.YtklfnbckoaphpaaGreatDoor
/- The words of the laws. No conditions beyond the bounds that are named. -/
set_option linter.unusedVariables false
set_option linter.unusedSimpArgs false
namespace Go.Proofs.YtklfnbckoaphpaaGreatDoor
open Go
end Go.Proofs.YtklfnbckoaphpaaGreatDoor
/- Bytes, and texts that are split at a byte, on both sides: plain laws. No conditions beyond the bounds that are named. -/
set_option linter.unusedVariables false
set_option linter.unusedSimpArgs false
namespace Go.Proofs.YtklfnbckoaphpaaGreatDoor
open Go

/-! ### Bytes -/
def ba (l : List UInt8) : ByteArray := ⟨l.toArray⟩
theorem ba_data (l : List UInt8) : (ba l).data.toList = l := rfl
theorem eq_ba (x : ByteArray) : x = ba x.data.toList := by
  rcases x with ⟨⟨l⟩⟩
  rfl
theorem ba_size (l : List UInt8) : (ba l).size = l.length := rfl
theorem ba_app (a b : List UInt8) : ba a ++ ba b = ba (a ++ b) := by
  have h : ∀ (x y : ByteArray), x.data.toList = y.data.toList → x = y := fun x y h => by rw [eq_ba x, eq_ba y, h]
  apply h
  simp [ba, ByteArray.data_append]
theorem ba_extract (l : List UInt8) (a b : Nat) : (ba l).extract a b = ba ((l.drop a).take (b - a)) := by
  have h : ∀ (x y : ByteArray), x.data.toList = y.data.toList → x = y := fun x y h => by rw [eq_ba x, eq_ba y, h]
  apply h
  rw [Lib.extract_data]
  rfl
theorem ba_byteAt (l : List UInt8) (i : Nat) : byteAt (ba l) i = ((l.getD i 0).toNat : Int) := rfl
theorem ba_toList (l : List UInt8) : (ba l).toList = l := by rw [Lib.toList_data]; rfl
theorem byte_beq (b c : UInt8) : (((b.toNat : Nat) : Int) == ((c.toNat : Nat) : Int)) = decide (b = c) := by
  by_cases h : b = c
  · subst h; simp
  · have : ¬ ((b.toNat : Int) = (c.toNat : Int)) := fun e => h (UInt8.toNat_inj.1 (by omega))
    rw [decide_eq_false h]; exact beq_eq_false_iff_ne.2 this
theorem l1In_is (a b c : Int) : F_spec_l1In (a, b, c) = some (decide (b ≤ a) && decide (a ≤ c)) := by
  unfold F_spec_l1In
  by_cases h : b ≤ a <;> simp [h]
theorem within_is (a b c : Int) : F_impl_within (a, b, c) = some (decide (b ≤ a) && decide (a ≤ c)) := by
  unfold F_impl_within
  by_cases h : b ≤ a <;> simp [h]
theorem lt_not {a b : Int} : decide (a < b) = !decide (b ≤ a) := by by_cases h : b ≤ a <;> simp [h] <;> omega
theorem gt_not {a b : Int} : decide (a > b) = !decide (a ≤ b) := by by_cases h : a ≤ b <;> simp [h] <;> omega

/-! ### Splitting -/
def spl (c : UInt8) : List UInt8 → List (List UInt8)
  | [] => [[]]
  | b :: r => if b = c then [] :: spl c r else (b :: (spl c r).headD []) :: (spl c r).tail
theorem spl_ne (c : UInt8) : ∀ l, spl c l ≠ []
  | [] => by simp [spl]
  | b :: r => by unfold spl; split <;> simp
theorem spl_none (c : UInt8) : ∀ a, c ∉ a → spl c a = [a]
  | [], _ => rfl
  | b :: r, h => by
    have hb : ¬ b = c := fun e => h (by simp [e])
    rw [spl, if_neg hb, spl_none c r (fun q => h (List.mem_cons_of_mem _ q))]
    rfl
theorem spl_cons (c : UInt8) : ∀ a r, c ∉ a → spl c (a ++ c :: r) = a :: spl c r
  | [], r, _ => by simp [spl]
  | b :: a, r, h => by
    have hb : ¬ b = c := fun e => h (by simp [e])
    rw [List.cons_append, spl, if_neg hb, spl_cons c a r (fun q => h (List.mem_cons_of_mem _ q))]
    rfl
theorem spl_cases (c : UInt8) : ∀ l, c ∉ l ∨ ∃ a r, l = a ++ c :: r ∧ c ∉ a
  | [] => .inl (by simp)
  | b :: l => by
    by_cases hb : b = c
    · exact .inr ⟨[], l, by simp [hb], by simp⟩
    · rcases spl_cases c l with h | ⟨a, r, rfl, h⟩
      · exact .inl (by simp [h]; exact fun e => hb e.symm)
      · exact .inr ⟨b :: a, r, rfl, by simp [h]; exact fun e => hb e.symm⟩
theorem spl_len (c : UInt8) : ∀ l, (spl c l).length = l.count c + 1
  | [] => rfl
  | b :: r => by
    unfold spl
    split
    · rename_i h
      subst h
      simp [spl_len b r]
    · rename_i h
      have := spl_len c r
      rw [List.count_cons_of_ne h]
      have hne := spl_ne c r
      cases hs : spl c r with
      | nil => exact absurd hs hne
      | cons x y => rw [hs] at this; simpa using this
theorem spl_sizes (c : UInt8) : ∀ (n : Nat) (l : List UInt8), l.length ≤ n → ∀ p ∈ spl c l, p.length ≤ l.length ∧ c ∉ p := by
  intro n
  induction n with
  | zero =>
    intro l hl p hp
    obtain rfl : l = [] := List.eq_nil_of_length_eq_zero (by omega)
    simp [spl] at hp
    subst hp; simp
  | succ n ih =>
    intro l hl p hp
    rcases spl_cases c l with h | ⟨a, r, rfl, h⟩
    · rw [spl_none c l h] at hp
      obtain rfl := List.mem_singleton.1 hp
      exact ⟨Nat.le_refl _, h⟩
    · rw [spl_cons c a r h] at hp
      simp only [List.length_append, List.length_cons] at hl ⊢
      rcases List.mem_cons.1 hp with rfl | hp
      · exact ⟨by omega, h⟩
      · have := ih r (by omega) p hp
        exact ⟨by omega, this.2⟩
theorem not_mem_piece {l : List UInt8} {c : UInt8} {fr i : Nat} (h : ∀ j, fr ≤ j → j < i → l.getD j 0 ≠ c) (hi : i ≤ l.length) : c ∉ (l.drop fr).take (i - fr) := by
  intro hm
  obtain ⟨j, hj, e⟩ := List.mem_iff_getElem.1 hm
  have hj' : j < i - fr := by simp at hj; omega
  have e' : l.getD (fr + j) 0 = c := by
    rw [List.getElem_take, List.getElem_drop] at e
    rw [List.getD, List.getElem?_eq_getElem (by omega)]
    exact e
  exact h (fr + j) (by omega) (by omega) e'
theorem drop_piece {l : List UInt8} {c : UInt8} {fr i : Nat} (h1 : fr ≤ i) (hi : i < l.length) (hc : l.getD i 0 = c) : l.drop fr = (l.drop fr).take (i - fr) ++ c :: l.drop (i + 1) := by
  have e : l.drop i = c :: l.drop (i + 1) := by
    rw [List.drop_eq_getElem_cons hi]
    congr 1
    rw [List.getD, List.getElem?_eq_getElem hi] at hc
    exact hc
  rw [← e]
  conv => lhs; rw [← List.take_append_drop (i - fr) (l.drop fr)]
  rw [List.drop_drop, show fr + (i - fr) = i by omega]
theorem l1Split_is (l : List UInt8) (c : UInt8) (hl : l.length ≤ 1048576) : F_spec_l1Split (ba l, (c.toNat : Int)) = some ((spl c l).map ba) := by
  obtain ⟨o, e, fr, out, rfl, hf, hno, hlo, ho⟩ := runL_inv (f := step_spec_l1Split_0) (fun s => ∃ (fr i : Nat) (out : List ByteArray), s = (ba l, (c.toNat : Int), (fr : Int), (i : Int), out) ∧ fr ≤ i ∧ i ≤ l.length ∧ (∀ j, fr ≤ j → j < i → l.getD j 0 ≠ c) ∧ out.length ≤ fr ∧ out ++ (spl c (l.drop fr)).map ba = (spl c l).map ba)
    (fun o => ∃ (fr : Nat) (out : List ByteArray), o = (ba l, (fr : Int), out) ∧ fr ≤ l.length ∧ (∀ j, fr ≤ j → j < l.length → l.getD j 0 ≠ c) ∧ out.length ≤ fr ∧ out ++ (spl c (l.drop fr)).map ba = (spl c l).map ba) (fun s => l.length - s.2.2.2.1.toNat) (by
    rintro s ⟨fr, i, out, rfl, h1, h2, h3, h4, h5⟩
    rcases Nat.lt_or_ge i l.length with hlt | hge
    · right
      have hw := wrap_succ (i := i) (by omega)
      have hb : (byteAt (ba l) i == (c.toNat : Int)) = decide (l.getD i 0 = c) := by rw [ba_byteAt]; exact byte_beq _ _
      have hs : decide ((i : Int) < ((ba l).size : Int)) = true := lt_len (by rw [ba_size]; exact hlt)
      by_cases hc : l.getD i 0 = c
      · rw [decide_eq_true hc] at hb
        have hd := drop_piece h1 hlt hc
        have hp := not_mem_piece h3 (Nat.le_of_lt hlt)
        refine ⟨(ba l, (c.toNat : Int), ((i + 1 : Nat) : Int), ((i + 1 : Nat) : Int), out ++ [(ba l).extract fr i]), ?_, ⟨i + 1, i + 1, _, rfl, Nat.le_refl _, by omega, fun j hj hj' => by omega, by simp; omega, ?_⟩, by simp; omega⟩
        · have g1 : decide ((fr : Int) ≤ (i : Int)) = true := decide_eq_true (by omega)
          have g2 : decide ((i : Int) ≤ ((ba l).size : Int)) = true := decide_eq_true (by rw [ba_size]; omega)
          have g3 : decide ((out.length + [(ba l).extract fr i].length) * 16 ≤ 140737488355328) = true := decide_eq_true (by simp; omega)
          simp only [step_spec_l1Split_0, hs, nonneg, Bool.and_self, cond_true, Int.toNat_natCast, hb, g1, g2, g3, hw]
        · rw [← h5, hd, spl_cons c _ _ hp, ba_extract]
          simp
      · rw [decide_eq_false hc] at hb
        refine ⟨(ba l, (c.toNat : Int), (fr : Int), ((i + 1 : Nat) : Int), out), ?_, ⟨fr, i + 1, _, rfl, by omega, by omega, fun j hj hj' => ?_, h4, h5⟩, by simp; omega⟩
        · simp only [step_spec_l1Split_0, hs, nonneg, Bool.and_self, cond_true, cond_false, Int.toNat_natCast, hb, hw]
        · rcases Nat.lt_or_eq_of_le (Nat.le_of_lt_succ hj') with hj' | rfl
          · exact h3 j hj hj'
          · exact hc
    · left
      have : i = l.length := by omega
      subst this
      refine ⟨(ba l, (fr : Int), out), ?_, fr, out, rfl, h1, h3, h4, h5⟩
      have hs : decide (((l.length : Nat) : Int) < ((ba l).size : Int)) = false := by rw [ba_size]; exact not_lt_len _
      simp only [step_spec_l1Split_0, hs, cond_false]) (ba l, (c.toNat : Int), 0, 0, []) ⟨0, 0, [], rfl, Nat.le_refl _, Nat.zero_le _, fun j _ h => by omega, Nat.le_refl _, by simp⟩
  have g1 : decide ((fr : Int) ≤ ((ba l).size : Int)) = true := decide_eq_true (by rw [ba_size]; omega)
  have g2 : decide (((ba l).size : Int) ≤ ((ba l).size : Int)) = true := decide_eq_true (Int.le_refl _)
  have g3 : decide ((out.length + [(ba l).extract fr (ba l).size].length) * 16 ≤ 140737488355328) = true := decide_eq_true (by simp; omega)
  simp only [F_spec_l1Split, e, nonneg, Bool.and_self, cond_true, Int.toNat_natCast, g1, g2, g3]
  have hp := not_mem_piece hno (Nat.le_refl _)
  have hd : (l.drop fr).take (l.length - fr) = l.drop fr := List.take_of_length_le (by simp)
  rw [hd] at hp
  rw [← ho, spl_none c _ hp, ba_size, ba_extract, hd]
  rfl
theorem idx_none {c : UInt8} {a : List UInt8} (h : c ∉ a) : Lib.indexByte a c = -1 := by
  rcases Int.lt_or_le (Lib.indexByte a c) 0 with hl | hl
  · have := Lib.indexByte_ge a c; omega
  · obtain ⟨o, ho⟩ : ∃ o : Nat, Lib.indexByte a c = o := ⟨(Lib.indexByte a c).toNat, by omega⟩
    exact absurd (List.mem_of_getElem? (Lib.indexByte_some ho).1) h
theorem idx_at {c : UInt8} {a r : List UInt8} (h : c ∉ a) : Lib.indexByte (a ++ c :: r) c = (a.length : Int) := by
  induction a with
  | nil => simp [Lib.indexByte]
  | cons b a ih =>
    have hb : ¬ b = c := fun e => h (by simp [e])
    have hi := ih (fun q => h (List.mem_cons_of_mem _ q))
    show Lib.indexByte (b :: (a ++ c :: r)) c = _
    unfold Lib.indexByte
    have hb' : (b == c) = false := beq_eq_false_iff_ne.2 hb
    have hm : (((a.length : Nat) : Int) == -1) = false := beq_eq_false_iff_ne.2 (by omega)
    rw [hi]
    simp only [hb', hm, List.length_cons]
    simp
theorem cut_none {c : UInt8} {l : List UInt8} (h : c ∉ l) : Lib.cut l [c] = (l, [], false) := by
  unfold Lib.cut
  rw [Lib.index_one, idx_none h, if_neg (by decide)]
theorem cut_at {c : UInt8} {a r : List UInt8} (h : c ∉ a) : Lib.cut (a ++ c :: r) [c] = (a, r, true) := by
  unfold Lib.cut
  rw [Lib.index_one, idx_at h, if_pos (by omega)]
  simp
theorem splitB_is (c : UInt8) : ∀ (n : Nat) (l : List UInt8), l.count c = n → Lib.splitB (ba [c]) 0 n (ba l) = (spl c l).map ba := by
  intro n
  induction n with
  | zero =>
    intro l h
    have hn : c ∉ l := List.count_eq_zero.1 h
    rw [spl_none c l hn]
    rfl
  | succ n ih =>
    intro l h
    rcases spl_cases c l with hn | ⟨a, r, rfl, ha⟩
    · rw [List.count_eq_zero.2 hn] at h; omega
    · have hi : Lib.indexB (ba (a ++ c :: r)) (ba [c]) = (a.length : Int) := by
        show Lib.index (a ++ c :: r) [c] = _
        rw [Lib.index_one, idx_at ha]
      have hcnt : r.count c = n := by
        rw [List.count_append, List.count_eq_zero.2 ha, List.count_cons_self] at h; omega
      rw [Lib.splitB_hit (ba [c]) 0 n _ a.length hi, spl_cons c a r ha, List.map_cons]
      congr 1
      · rw [ba_extract]; simp
      · rw [← ih r hcnt, ba_extract]
        have hsz : (ba [c]).size = 1 := rfl
        rw [hsz, ba_size]
        congr 2
        simp
        rw [List.take_of_length_le (by omega)]
theorem Split_is (l : List UInt8) (c : UInt8) (hl : l.length ≤ 1048576) : F_strings_Split (ba l, ba [c]) = some ((spl c l).map ba) := by
  rw [F_strings_Split_is]
  have h0 : decide ((ba l).size < 4294967281) = true := decide_eq_true (by rw [ba_size]; omega)
  have h1 : decide (1 ≤ (ba [c]).size) = true := rfl
  have hc : Lib.countB (ba l) (ba [c]) = l.count c := by
    show Lib.count l [c] = _
    exact Lib.count_one c l
  simp only [h0, h1, Bool.and_self, cond_true, hc, splitB_is c _ l rfl]
theorem Count_is (l : List UInt8) (c : UInt8) : F_strings_Count (ba l, ba [c]) = some ((l.count c : Nat) : Int) := by
  rw [F_strings_Count_is]; rfl
theorem Cut_none {l : List UInt8} {c : UInt8} (hl : l.length ≤ 1048576) (h : c ∉ l) : F_strings_Cut (ba l, ba [c]) = some (ba l, ba [], false) := by
  rw [F_strings_Cut_is, show (ba l, ba [c]).1 = ba l from rfl, decide_eq_true (show (ba l).size < 4294967281 by rw [ba_size]; omega), cond_true]
  show some (ba (Lib.cut l [c]).1, ba (Lib.cut l [c]).2.1, (Lib.cut l [c]).2.2) = _
  rw [cut_none h]
theorem Cut_at {a r : List UInt8} {c : UInt8} (hl : (a ++ c :: r).length ≤ 1048576) (h : c ∉ a) : F_strings_Cut (ba (a ++ c :: r), ba [c]) = some (ba a, ba r, true) := by
  rw [F_strings_Cut_is, show (ba (a ++ c :: r), ba [c]).1 = ba (a ++ c :: r) from rfl, decide_eq_true (show (ba (a ++ c :: r)).size < 4294967281 by rw [ba_size]; omega), cond_true]
  show some (ba (Lib.cut (a ++ c :: r) [c]).1, ba (Lib.cut (a ++ c :: r) [c]).2.1, (Lib.cut (a ++ c :: r) [c]).2.2) = _
  rw [cut_at h]
end Go.Proofs.YtklfnbckoaphpaaGreatDoor
/- Shapes and orientations, on both sides: plain laws. No conditions beyond the bounds that are named. -/
set_option linter.unusedVariables false
set_option linter.unusedSimpArgs false
namespace Go.Proofs.YtklfnbckoaphpaaGreatDoor
open Go
abbrev Shape := Int × (Int × (Int × (Int × (Int × Bool))))
abbrev Orient := Int × Int
def shAdj (s : Shape) : Bool := ((s.2.1 == 0) && (s.2.2.1 == 0)) || (((s.2.2.1 == 0) && (s.2.2.2.1 == 0)) || ((s.2.2.2.1 == 0) && (s.2.2.2.2.1 == 0)))
def in02 (n : Int) : Bool := decide (0 ≤ n) && decide (n ≤ 2)
def shOK (s : Shape) : Bool := in02 s.1 && (in02 s.2.1 && in02 s.2.2.1 && in02 s.2.2.2.1 && in02 s.2.2.2.2.1) && (!s.2.2.2.2.2 || shAdj s)
theorem allN_all {α : Type} (q : α → Bool) (d : α) (l : List α) : allN (fun i => q (l.getD i d)) l.length = l.all q := by
  rw [Bool.eq_iff_iff, allN_true, List.all_eq_true]
  constructor
  · intro h x hx
    obtain ⟨i, hi, rfl⟩ := List.mem_iff_getElem.1 hx
    have := h i hi
    rwa [List.getD, List.getElem?_eq_getElem hi] at this
  · intro h i hi
    rw [List.getD, List.getElem?_eq_getElem hi]
    exact h _ (List.getElem_mem hi)
theorem l1All_is (l : List Int) (a b : Int) (hl : l.length ≤ 9223372036854775806) : F_spec_l1All (l, a, b) = some (l.all fun v => decide (a ≤ v) && decide (v ≤ b)) := by
  have t := runL_all (f := step_spec_l1All_0) (fun i => decide (a ≤ l.getD i 0) && decide (l.getD i 0 ≤ b)) (fun i => (a, b, (l, (l.length : Int), (i : Int)))) (.inl false) (.inr ()) l.length (fun i hi => by
    have hw := wrap_succ (i := i) (by omega)
    simp only [step_spec_l1All_0, lt_len hi, nonneg, Bool.and_self, cond_true, Int.toNat_natCast, l1In_is, hw]
    cases decide (a ≤ l.getD i 0) && decide (l.getD i 0 ≤ b) <;> rfl) (by simp only [step_spec_l1All_0, not_lt_len, cond_false])
  have t' : runL step_spec_l1All_0 (a, b, (l, (l.length : Int), 0)) = _ := t
  simp only [F_spec_l1All, t', allN_all (fun v => decide (a ≤ v) && decide (v ≤ b)) 0 l]
  cases l.all _ <;> rfl
theorem shWide_is (s : Shape) : F_spec_shWide s = some (shAdj s) := by
  obtain ⟨t, a, b, c, d, sp⟩ := s
  have s1 : step_spec_shWide_0 (1, [a, b, c, d]) = some (bif (a == 0) && (b == 0) then .inr (.inl true) else .inl (2, [a, b, c, d])) := by
    have e : step_spec_shWide_0 (1, [a, b, c, d]) = bif (a == 0) then (bif (b == 0) then some (.inr (.inl true)) else some (.inl (2, [a, b, c, d]))) else some (.inl (2, [a, b, c, d])) := rfl
    rw [e]; cases (a == 0) <;> cases (b == 0) <;> rfl
  have s2 : step_spec_shWide_0 (2, [a, b, c, d]) = some (bif (b == 0) && (c == 0) then .inr (.inl true) else .inl (3, [a, b, c, d])) := by
    have e : step_spec_shWide_0 (2, [a, b, c, d]) = bif (b == 0) then (bif (c == 0) then some (.inr (.inl true)) else some (.inl (3, [a, b, c, d]))) else some (.inl (3, [a, b, c, d])) := rfl
    rw [e]; cases (b == 0) <;> cases (c == 0) <;> rfl
  have s3 : step_spec_shWide_0 (3, [a, b, c, d]) = some (bif (c == 0) && (d == 0) then .inr (.inl true) else .inl (4, [a, b, c, d])) := by
    have e : step_spec_shWide_0 (3, [a, b, c, d]) = bif (c == 0) then (bif (d == 0) then some (.inr (.inl true)) else some (.inl (4, [a, b, c, d]))) else some (.inl (4, [a, b, c, d])) := rfl
    rw [e]; cases (c == 0) <;> cases (d == 0) <;> rfl
  have s4 : step_spec_shWide_0 (4, [a, b, c, d]) = some (.inr (.inr ())) := rfl
  simp only [F_spec_shWide, F_spec_shFingers, shAdj]
  rw [runL_eq, s1]
  cases (a == 0) && (b == 0) with
  | true => rfl
  | false =>
    simp only [cond_false, Bool.false_or]
    rw [runL_eq, s2]
    cases (b == 0) && (c == 0) with
    | true => rfl
    | false =>
      simp only [cond_false, Bool.false_or]
      rw [runL_eq, s3]
      cases (c == 0) && (d == 0) with
      | true => rfl
      | false =>
        simp only [cond_false]
        rw [runL_eq, s4]
theorem shGood_is (s : Shape) : F_spec_shGood s = some (shOK s) := by
  obtain ⟨t, a, b, c, d, sp⟩ := s
  have h := l1All_is [a, b, c, d] 0 2 (by simp)
  have hw := shWide_is (t, a, b, c, d, sp)
  simp only [F_spec_shGood, F_spec_shFingers, l1In_is, h, hw, shOK, in02]
  simp only [List.all_cons, List.all_nil, Bool.and_true]
  generalize (decide (0 ≤ t) && decide (t ≤ 2)) = T
  generalize (decide (0 ≤ a) && decide (a ≤ 2)) = A
  generalize (decide (0 ≤ b) && decide (b ≤ 2)) = B
  generalize (decide (0 ≤ c) && decide (c ≤ 2)) = C
  generalize (decide (0 ≤ d) && decide (d ≤ 2)) = D
  cases T <;> cases A <;> cases B <;> cases C <;> cases D <;> cases sp <;> rfl
theorem maySpread_is (s : Shape) : F_impl_Shape_maySpread s = some (shAdj s) := by
  obtain ⟨t, a, b, c, d, sp⟩ := s
  simp only [F_impl_Shape_maySpread, shAdj]
  cases (a == 0) <;> cases (b == 0) <;> cases (c == 0) <;> cases (d == 0) <;> rfl
theorem IndexFunc_int_is (l : List Int) (hl : l.length ≤ 9223372036854775806) (φ : Int → Option Bool) (p : Int → Bool) (hφ : ∀ v ∈ l, φ v = some (p v)) : F_slices_ContainsFunc_int_int (l, φ) = some (l.any p) := by
  rcases runL_first (f := step_slices_IndexFunc_int_int_0) (fun i => !p (l.getD i 0)) (fun i => (l, φ, (l.length : Int), (i : Int))) (fun i => .inl (i : Int)) (.inr ()) l.length (fun i hi => by
    have hw := wrap_succ (i := i) (by omega)
    simp only [step_slices_IndexFunc_int_int_0, lt_len hi, nonneg, Bool.and_self, cond_true, Int.toNat_natCast, hw, hφ _ (getD_mem hi 0)]
    cases p (l.getD i 0) <;> rfl) (by simp only [step_slices_IndexFunc_int_int_0, not_lt_len, cond_false]) with ⟨t, hp⟩ | ⟨i, hi, hp, hj, t⟩
  · have t' : runL step_slices_IndexFunc_int_int_0 (l, φ, (l.length : Int), (0 : Int)) = _ := t
    simp only [F_slices_ContainsFunc_int_int, F_slices_IndexFunc_int_int, t']
    have : l.any p = false := by
      rw [List.any_eq_false]
      intro x hx
      obtain ⟨i, hi, rfl⟩ := List.mem_iff_getElem.1 hx
      have := hp i hi
      rw [List.getD, List.getElem?_eq_getElem hi] at this
      simpa using this
    rw [this]; rfl
  · have t' : runL step_slices_IndexFunc_int_int_0 (l, φ, (l.length : Int), (0 : Int)) = _ := t
    simp only [F_slices_ContainsFunc_int_int, F_slices_IndexFunc_int_int, t']
    have : l.any p = true := List.any_eq_true.2 ⟨_, getD_mem hi 0, by simpa using hp⟩
    rw [this, decide_eq_true (show (i : Int) ≥ 0 by omega)]
theorem allWithin_is (l : List Int) (a b : Int) (hl : l.length ≤ 9223372036854775806) : F_impl_allWithin (l, a, b) = some (l.all fun v => decide (a ≤ v) && decide (v ≤ b)) := by
  have h := IndexFunc_int_is l hl (K_impl_allWithin_1 (a, b)) (fun v => !(decide (a ≤ v) && decide (v ≤ b))) (fun v _ => by simp only [K_impl_allWithin_1, F_impl_allWithin_1, within_is])
  simp only [F_impl_allWithin, h]
  rw [List.any_eq_not_all_not]
  simp
theorem IsShape_is (s : Shape) : F_impl_IsShape s = some (shOK s) := by
  obtain ⟨t, a, b, c, d, sp⟩ := s
  have h := allWithin_is ([t] ++ [a, b, c, d]) 0 2 (by simp)
  have hm := maySpread_is (t, a, b, c, d, sp)
  have g : decide (([t].length + [a, b, c, d].length) * 8 ≤ 140737488355328) = true := rfl
  simp only [F_impl_IsShape, F_impl_Shape_bends, g, cond_true, h, hm, shOK, in02]
  simp only [List.cons_append, List.nil_append, List.all_cons, List.all_nil, Bool.and_true]
  generalize (decide (0 ≤ t) && decide (t ≤ 2)) = T
  generalize (decide (0 ≤ a) && decide (a ≤ 2)) = A
  generalize (decide (0 ≤ b) && decide (b ≤ 2)) = B
  generalize (decide (0 ≤ c) && decide (c ≤ 2)) = C
  generalize (decide (0 ≤ d) && decide (d ≤ 2)) = D
  cases T <;> cases A <;> cases B <;> cases C <;> cases D <;> cases sp <;> rfl
end Go.Proofs.YtklfnbckoaphpaaGreatDoor
/- Shapes are parsed alike on both sides: plain laws. No conditions beyond the bounds that are named. -/
set_option linter.unusedVariables false
set_option linter.unusedSimpArgs false
namespace Go.Proofs.YtklfnbckoaphpaaGreatDoor
open Go
def shZ : Shape := (0, (0, 0, (0, 0, false)))
def dig (n : Int) : UInt8 := UInt8.ofNat (48 + n.toNat)
theorem in02_cases {n : Int} (h : in02 n = true) : n = 0 ∨ n = 1 ∨ n = 2 := by
  simp only [in02, Bool.and_eq_true, decide_eq_true_eq] at h
  omega
theorem Itoa_dig {n : Int} (h : in02 n = true) : F_strconv_Itoa n = some (ba [dig n]) := by
  have k0 : Lib.itoa 0 = [dig 0] := by decide +kernel
  have k1 : Lib.itoa 1 = [dig 1] := by decide +kernel
  have k2 : Lib.itoa 2 = [dig 2] := by decide +kernel
  rcases in02_cases h with rfl | rfl | rfl
  · rw [F_strconv_Itoa_is, k0]; rfl
  · rw [F_strconv_Itoa_is, k1]; rfl
  · rw [F_strconv_Itoa_is, k2]; rfl
def shText (s : Shape) : List UInt8 := [dig s.1, dig s.2.1, dig s.2.2.1, dig s.2.2.2.1, dig s.2.2.2.2.1] ++ bif s.2.2.2.2.2 then [115] else []
theorem shOK_parts {s : Shape} (h : shOK s = true) : in02 s.1 = true ∧ in02 s.2.1 = true ∧ in02 s.2.2.1 = true ∧ in02 s.2.2.2.1 = true ∧ in02 s.2.2.2.2.1 = true ∧ (s.2.2.2.2.2 = true → shAdj s = true) := by
  simp only [shOK, Bool.and_eq_true, Bool.or_eq_true, Bool.not_eq_true'] at h
  obtain ⟨⟨h1, ⟨⟨h2, h3⟩, h4⟩, h5⟩, h6⟩ := h
  refine ⟨h1, h2, h3, h4, h5, fun e => ?_⟩
  rcases h6 with h6 | h6
  · rw [h6] at e; cases e
  · exact h6
theorem Shape_text_is {s : Shape} (h : shOK s = true) : F_impl_Shape_text s = some (ba (shText s)) := by
  obtain ⟨t, a, b, c, d, sp⟩ := s
  obtain ⟨h1, h2, h3, h4, h5, _⟩ := shOK_parts h
  have e1 := Itoa_dig h1
  have e2 := Itoa_dig h2
  have e3 := Itoa_dig h3
  have e4 := Itoa_dig h4
  have e5 := Itoa_dig h5
  simp only at e1 e2 e3 e4 e5
  have s0 : step_impl_Shape_text_0 (ba [dig t], 4, 0, [a, b, c, d], t, a, b, c, d, sp) = some (.inl (ba [dig t, dig a], 4, 1, [a, b, c, d], t, a, b, c, d, sp)) := by
    have e : step_impl_Shape_text_0 (ba [dig t], 4, 0, [a, b, c, d], t, a, b, c, d, sp) = match F_strconv_Itoa a with | none => none | some y5 => bif decide ((ba [dig t]).size + y5.size ≤ 9223372036854775807) then some (.inl (ba [dig t] ++ y5, 4, 1, [a, b, c, d], t, a, b, c, d, sp)) else none := rfl
    rw [e, e2]; simp only [ba_app]; rfl
  have s1 : step_impl_Shape_text_0 (ba [dig t, dig a], 4, 1, [a, b, c, d], t, a, b, c, d, sp) = some (.inl (ba [dig t, dig a, dig b], 4, 2, [a, b, c, d], t, a, b, c, d, sp)) := by
    have e : step_impl_Shape_text_0 (ba [dig t, dig a], 4, 1, [a, b, c, d], t, a, b, c, d, sp) = match F_strconv_Itoa b with | none => none | some y5 => bif decide ((ba [dig t, dig a]).size + y5.size ≤ 9223372036854775807) then some (.inl (ba [dig t, dig a] ++ y5, 4, 2, [a, b, c, d], t, a, b, c, d, sp)) else none := rfl
    rw [e, e3]; simp only [ba_app]; rfl
  have s2 : step_impl_Shape_text_0 (ba [dig t, dig a, dig b], 4, 2, [a, b, c, d], t, a, b, c, d, sp) = some (.inl (ba [dig t, dig a, dig b, dig c], 4, 3, [a, b, c, d], t, a, b, c, d, sp)) := by
    have e : step_impl_Shape_text_0 (ba [dig t, dig a, dig b], 4, 2, [a, b, c, d], t, a, b, c, d, sp) = match F_strconv_Itoa c with | none => none | some y5 => bif decide ((ba [dig t, dig a, dig b]).size + y5.size ≤ 9223372036854775807) then some (.inl (ba [dig t, dig a, dig b] ++ y5, 4, 3, [a, b, c, d], t, a, b, c, d, sp)) else none := rfl
    rw [e, e4]; simp only [ba_app]; rfl
  have s3 : step_impl_Shape_text_0 (ba [dig t, dig a, dig b, dig c], 4, 3, [a, b, c, d], t, a, b, c, d, sp) = some (.inl (ba [dig t, dig a, dig b, dig c, dig d], 4, 4, [a, b, c, d], t, a, b, c, d, sp)) := by
    have e : step_impl_Shape_text_0 (ba [dig t, dig a, dig b, dig c], 4, 3, [a, b, c, d], t, a, b, c, d, sp) = match F_strconv_Itoa d with | none => none | some y5 => bif decide ((ba [dig t, dig a, dig b, dig c]).size + y5.size ≤ 9223372036854775807) then some (.inl (ba [dig t, dig a, dig b, dig c] ++ y5, 4, 4, [a, b, c, d], t, a, b, c, d, sp)) else none := rfl
    rw [e, e5]; simp only [ba_app]; rfl
  have s4 : step_impl_Shape_text_0 (ba [dig t, dig a, dig b, dig c, dig d], 4, 4, [a, b, c, d], t, a, b, c, d, sp) = some (.inr (ba [dig t, dig a, dig b, dig c, dig d], t, a, b, c, d, sp)) := rfl
  have l4 : (([a, b, c, d].length : Nat) : Int) = 4 := rfl
  have r : runL step_impl_Shape_text_0 (ba [dig t], 4, 0, [a, b, c, d], t, a, b, c, d, sp) = some (ba [dig t, dig a, dig b, dig c, dig d], t, a, b, c, d, sp) := by
    rw [runL_eq, s0]; simp only []
    rw [runL_eq, s1]; simp only []
    rw [runL_eq, s2]; simp only []
    rw [runL_eq, s3]; simp only []
    rw [runL_eq, s4]
  simp only [F_impl_Shape_text, F_impl_Shape_bends, e1, l4, r, shText]
  cases sp with
  | false => simp only [cond_false, List.append_nil]
  | true =>
    have g : decide ((ba [dig t, dig a, dig b, dig c, dig d]).size + (⟨#[115]⟩ : ByteArray).size ≤ 9223372036854775807) = true := rfl
    simp only [cond_true, g]
    exact congrArg some (ba_app _ [115])

/-! ### Parsing -/
def shD (x : ByteArray) (sp : Bool) : Shape := (byteAt x 0 - 48, (byteAt x 1 - 48, byteAt x 2 - 48, (byteAt x 3 - 48, byteAt x 4 - 48, sp)))
def shP (x : ByteArray) : Shape × Bool :=
  bif decide (x.size = 5) && shOK (shD x false) then (shD x false, true)
  else bif decide (x.size = 6) && decide (byteAt x 5 = 115) && shOK (shD x true) then (shD x true, true) else (shZ, false)
theorem runL_step {S O : Type} {f : S → Option (S ⊕ O)} {s s' : S} (h : f s = some (.inl s')) : runL f s = runL f s' := by rw [runL_eq, h]
theorem runL_end {S O : Type} {f : S → Option (S ⊕ O)} {s : S} {o : O} (h : f s = some (.inr o)) : runL f s = some o := by rw [runL_eq, h]
theorem byteAt_le (s : ByteArray) (i : Nat) : 0 ≤ byteAt s i ∧ byteAt s i ≤ 255 := by
  obtain ⟨b, hb⟩ : ∃ b : UInt8, byteAt s i = (b.toNat : Int) := ⟨_, rfl⟩
  have := b.toNat_lt
  omega
theorem wrap_byte (s : ByteArray) (i : Nat) : IntKind.i64.wrap (byteAt s i) = byteAt s i := by
  have := byteAt_le s i
  exact wrap_id (by omega) (by omega)
theorem wrap_dig (s : ByteArray) (i : Nat) : IntKind.i64.wrap (byteAt s i - 48) = byteAt s i - 48 := by
  have := byteAt_le s i
  exact wrap_id (by omega) (by omega)
theorem spec_loop (x : ByteArray) (h5 : 5 ≤ x.size) (r1 r2 r3 r4 r5 : Int) (rb : Bool) : runL step_spec_shParse_0 (x, 0, (r1, r2, (r3, r4, (r5, rb, [])))) = some (x, ([byteAt x 0 - 48, byteAt x 1 - 48, byteAt x 2 - 48, byteAt x 3 - 48, byteAt x 4 - 48], r1, (r2, r3, (r4, r5, rb)))) := by
  have t := runL_traj (f := step_spec_shParse_0) (fun i => (x, (i : Int), (r1, r2, (r3, r4, (r5, rb, (List.range i).map fun j => byteAt x j - 48))))) (x, ((List.range 5).map fun j => byteAt x j - 48, r1, (r2, r3, (r4, r5, rb)))) 5 (fun i hi => by
    have hw := wrap_succ (i := i) (by omega)
    have g1 : decide ((i : Int) < 5) = true := decide_eq_true (by omega)
    have g2 : decide ((i : Int) < (x.size : Int)) = true := decide_eq_true (by omega)
    have g3 : decide (((List.map (fun j => byteAt x j - 48) (List.range i)).length + [byteAt x i - 48].length) * 8 ≤ 140737488355328) = true := decide_eq_true (by simp; omega)
    simp only [step_spec_shParse_0, g1, g2, nonneg, Bool.and_self, cond_true, Int.toNat_natCast, wrap_byte, wrap_dig, g3, hw, List.range_succ, List.map_append, List.map_cons, List.map_nil]) rfl
  exact t
theorem with_is (s : Shape) (hs : s.2.2.2.2.2 = false) (v : Int) : F_impl_Shape_with (s, 0, v) = some (v, s.2) ∧ F_impl_Shape_with (s, 1, v) = some (s.1, v, s.2.2) ∧ F_impl_Shape_with (s, 2, v) = some (s.1, s.2.1, v, s.2.2.2) ∧
    F_impl_Shape_with (s, 3, v) = some (s.1, s.2.1, s.2.2.1, v, s.2.2.2.2) ∧ F_impl_Shape_with (s, 4, v) = some (s.1, s.2.1, s.2.2.1, s.2.2.2.1, v, s.2.2.2.2.2) := by
  obtain ⟨t, a, b, c, d, sp⟩ := s
  simp only at hs
  subst hs
  exact ⟨rfl, rfl, rfl, rfl, rfl⟩
theorem impl_loop (x : ByteArray) (h5 : 5 ≤ x.size) (R : Shape) : runL step_impl_ParseShape_0 (x, (0, (0, 0, (0, 0, (0, false, R))))) = some (x, (byteAt x 0 - 48, (byteAt x 1 - 48, byteAt x 2 - 48, (byteAt x 3 - 48, byteAt x 4 - 48, (false, R))))) := by
  have hp : ∀ i : Nat, i < 5 → ∀ s : Shape, (decide ((i : Int) < 5) = true ∧ decide ((i : Int) < (x.size : Int)) = true) := fun i hi _ => ⟨decide_eq_true (by omega), decide_eq_true (by omega)⟩
  have st : ∀ (i : Nat) (s s' : Shape), i < 5 → F_impl_Shape_with (s, (i : Int), byteAt x i - 48) = some s' → step_impl_ParseShape_0 (x, ((i : Int), (s.1, s.2.1, (s.2.2.1, s.2.2.2.1, (s.2.2.2.2.1, s.2.2.2.2.2, R))))) = some (.inl (x, (((i + 1 : Nat) : Int), (s'.1, s'.2.1, (s'.2.2.1, s'.2.2.2.1, (s'.2.2.2.2.1, s'.2.2.2.2.2, R)))))) := by
    intro i s s' hi hw
    have hws := wrap_succ (i := i) (by omega)
    have g1 : decide ((i : Int) < 5) = true := decide_eq_true (by omega)
    have g2 : decide ((i : Int) < (x.size : Int)) = true := decide_eq_true (by omega)
    have hw' : F_impl_Shape_with ((s.1, s.2.1, s.2.2.1, s.2.2.2.1, s.2.2.2.2.1, s.2.2.2.2.2), (i : Int), byteAt x i - 48) = some s' := hw
    simp only [step_impl_ParseShape_0, g1, g2, nonneg, Bool.and_self, cond_true, Int.toNat_natCast, wrap_byte, wrap_dig, hws, hw']
  have a0 := st 0 shZ _ (by omega) (with_is shZ rfl _).1
  have a1 := st 1 _ _ (by omega) (with_is (byteAt x 0 - 48, shZ.2) rfl _).2.1
  have a2 := st 2 _ _ (by omega) (with_is (byteAt x 0 - 48, byteAt x 1 - 48, shZ.2.2) rfl _).2.2.1
  have a3 := st 3 _ _ (by omega) (with_is (byteAt x 0 - 48, byteAt x 1 - 48, byteAt x 2 - 48, shZ.2.2.2) rfl _).2.2.2.1
  have a4 := st 4 _ _ (by omega) (with_is (byteAt x 0 - 48, byteAt x 1 - 48, byteAt x 2 - 48, byteAt x 3 - 48, shZ.2.2.2.2) rfl _).2.2.2.2
  have a0' : step_impl_ParseShape_0 (x, (0, (0, 0, (0, 0, (0, false, R))))) = _ := a0
  exact (runL_step a0').trans ((runL_step a1).trans ((runL_step a2).trans ((runL_step a3).trans ((runL_step a4).trans (runL_end rfl)))))
/-! ### Both sides -/
theorem shP_spec (x : ByteArray) : F_spec_shParse x = some (shP x) := by
  have hb := byteAt_le x 5
  simp only [F_spec_shParse, l1In_is]
  by_cases h5 : x.size = 5
  · have g1 : (decide (5 ≤ (x.size : Int)) && decide ((x.size : Int) ≤ 6)) = true := by rw [h5]; rfl
    have g2 : ((x.size : Int) == 6) = false := by rw [h5]; rfl
    have lp := spec_loop x (by omega) 0 0 0 0 0 false
    have sg := shGood_is (shD x false)
    unfold shD at sg
    simp only [g1, g2, Bool.not_true, cond_false, lp]
    have e : shP x = bif shOK (shD x false) then (shD x false, true) else (shZ, false) := by
      unfold shP
      rw [decide_eq_true h5, decide_eq_false (show ¬ x.size = 6 by omega)]
      simp only [Bool.true_and, Bool.false_and, cond_false]
    rw [e]
    have e2 : F_spec_shGood ((([byteAt x 0 - 48, byteAt x 1 - 48, byteAt x 2 - 48, byteAt x 3 - 48, byteAt x 4 - 48].getD (0 : Int).toNat 0), (([byteAt x 0 - 48, byteAt x 1 - 48, byteAt x 2 - 48, byteAt x 3 - 48, byteAt x 4 - 48].getD (1 : Int).toNat 0), ([byteAt x 0 - 48, byteAt x 1 - 48, byteAt x 2 - 48, byteAt x 3 - 48, byteAt x 4 - 48].getD (2 : Int).toNat 0), (([byteAt x 0 - 48, byteAt x 1 - 48, byteAt x 2 - 48, byteAt x 3 - 48, byteAt x 4 - 48].getD (3 : Int).toNat 0), ([byteAt x 0 - 48, byteAt x 1 - 48, byteAt x 2 - 48, byteAt x 3 - 48, byteAt x 4 - 48].getD (4 : Int).toNat 0), false)))) = some (shOK (shD x false)) := sg
    rw [e2]
    cases shOK (shD x false) <;> rfl
  · by_cases h6 : x.size = 6
    · have g1 : (decide (5 ≤ (x.size : Int)) && decide ((x.size : Int) ≤ 6)) = true := by rw [h6]; rfl
      have g2 : ((x.size : Int) == 6) = true := by rw [h6]; rfl
      have g3 : (decide (0 ≤ 5) && decide ((5 : Int) < (x.size : Int))) = true := by rw [h6]; rfl
      have lp := spec_loop x (by omega) 0 0 0 0 0 false
      have sg := shGood_is (shD x true)
      unfold shD at sg
      have e : shP x = bif decide (byteAt x 5 = 115) && shOK (shD x true) then (shD x true, true) else (shZ, false) := by
        unfold shP
        rw [decide_eq_true h6, decide_eq_false h5]
        simp only [Bool.true_and, Bool.false_and, cond_false]
      rw [e]
      simp only [g1, g2, g3, Bool.not_true, cond_false, cond_true, lp]
      by_cases hs : byteAt x 5 = 115
      · have hs' : (byteAt x (5 : Int).toNat != 115) = false := by
          show (byteAt x 5 != 115) = false
          rw [hs]; rfl
        rw [hs', decide_eq_true hs, cond_false, Bool.true_and]
        have e2 : F_spec_shGood ((([byteAt x 0 - 48, byteAt x 1 - 48, byteAt x 2 - 48, byteAt x 3 - 48, byteAt x 4 - 48].getD (0 : Int).toNat 0), (([byteAt x 0 - 48, byteAt x 1 - 48, byteAt x 2 - 48, byteAt x 3 - 48, byteAt x 4 - 48].getD (1 : Int).toNat 0), ([byteAt x 0 - 48, byteAt x 1 - 48, byteAt x 2 - 48, byteAt x 3 - 48, byteAt x 4 - 48].getD (2 : Int).toNat 0), (([byteAt x 0 - 48, byteAt x 1 - 48, byteAt x 2 - 48, byteAt x 3 - 48, byteAt x 4 - 48].getD (3 : Int).toNat 0), ([byteAt x 0 - 48, byteAt x 1 - 48, byteAt x 2 - 48, byteAt x 3 - 48, byteAt x 4 - 48].getD (4 : Int).toNat 0), true)))) = some (shOK (shD x true)) := sg
        rw [e2]
        cases shOK (shD x true) <;> rfl
      · have hs' : (byteAt x (5 : Int).toNat != 115) = true := by
          show (byteAt x 5 != 115) = true
          rw [bne_iff_ne]; exact hs
        rw [hs', decide_eq_false hs, cond_true, Bool.false_and, cond_false]
        rfl
    · have g1 : (decide (5 ≤ (x.size : Int)) && decide ((x.size : Int) ≤ 6)) = false := by
        rw [Bool.and_eq_false_iff]
        by_cases hl : x.size < 5
        · exact .inl (decide_eq_false (by omega))
        · exact .inr (decide_eq_false (by omega))
      have e : shP x = (shZ, false) := by
        unfold shP
        rw [decide_eq_false h5, decide_eq_false h6]
        simp only [Bool.false_and, cond_false]
      rw [e, g1]
      rfl
theorem dig_byte {b : UInt8} (h : in02 ((b.toNat : Int) - 48) = true) : dig ((b.toNat : Int) - 48) = b := by
  apply UInt8.toNat_inj.1
  unfold dig
  rcases in02_cases h with e | e | e <;> rw [e] <;> simp <;> omega
theorem shP_mid (l : List UInt8) (sp : Bool) (h5 : 5 ≤ l.length) (hl : l.length ≤ 6) (h6 : (((l.length : Nat) : Int) == 6) = sp) : F_impl_ParseShape (ba l) = bif shOK (shD (ba l) sp) then (bif decide (shText (shD (ba l) sp) = l) then some (shD (ba l) sp, true) else some (shZ, false)) else some (shZ, false) := by
  have g1 : (decide (5 ≤ ((ba l).size : Int)) && decide (((ba l).size : Int) ≤ 6)) = true := by
    rw [ba_size, decide_eq_true (by omega), decide_eq_true (by omega)]; rfl
  have g2 : (((ba l).size : Int) == 6) = sp := by rw [ba_size]; exact h6
  have lp := impl_loop (ba l) (by rw [ba_size]; omega) shZ
  have lp' : runL step_impl_ParseShape_0 (ba l, (0, (0, 0, (0, 0, (0, (false, 0, (0, 0, (0, 0, false)))))))) = _ := lp
  have e1 : F_impl_IsShape (byteAt (ba l) 0 - 48, byteAt (ba l) 1 - 48, byteAt (ba l) 2 - 48, byteAt (ba l) 3 - 48, byteAt (ba l) 4 - 48, sp) = some (shOK (shD (ba l) sp)) := IsShape_is (shD (ba l) sp)
  simp only [F_impl_ParseShape, within_is, g1, Bool.not_true, cond_false, lp', g2, e1]
  cases hok : shOK (shD (ba l) sp) with
  | false => rfl
  | true =>
    have e2 : F_impl_Shape_text (byteAt (ba l) 0 - 48, byteAt (ba l) 1 - 48, byteAt (ba l) 2 - 48, byteAt (ba l) 3 - 48, byteAt (ba l) 4 - 48, sp) = some (ba (shText (shD (ba l) sp))) := Shape_text_is hok
    simp only [Bool.not_true, cond_false, e2, ba_toList, cond_true]
    by_cases h : shText (shD (ba l) sp) = l
    · rw [h, decide_eq_true rfl, beq_self_eq_true]; rfl
    · rw [decide_eq_false h, beq_eq_false_iff_ne.2 h]; rfl
theorem shP_impl (x : ByteArray) : F_impl_ParseShape x = some (shP x) := by
  obtain ⟨l, rfl⟩ : ∃ l, x = ba l := ⟨x.data.toList, eq_ba x⟩
  by_cases h5 : l.length = 5
  · rw [shP_mid l false (by omega) (by omega) (by rw [h5]; rfl)]
    unfold shP
    rw [ba_size, decide_eq_true h5, decide_eq_false (show ¬ l.length = 6 by omega)]
    simp only [Bool.true_and, Bool.false_and, cond_false]
    cases hok : shOK (shD (ba l) false) with
    | false => rfl
    | true =>
      have ht : shText (shD (ba l) false) = l := by
        match l, h5 with
        | [b0, b1, b2, b3, b4], _ =>
          obtain ⟨q1, q2, q3, q4, q5, _⟩ := shOK_parts hok
          have d1 : dig (shD (ba [b0, b1, b2, b3, b4]) false).1 = b0 := dig_byte q1
          have d2 : dig (shD (ba [b0, b1, b2, b3, b4]) false).2.1 = b1 := dig_byte q2
          have d3 : dig (shD (ba [b0, b1, b2, b3, b4]) false).2.2.1 = b2 := dig_byte q3
          have d4 : dig (shD (ba [b0, b1, b2, b3, b4]) false).2.2.2.1 = b3 := dig_byte q4
          have d5 : dig (shD (ba [b0, b1, b2, b3, b4]) false).2.2.2.2.1 = b4 := dig_byte q5
          unfold shText
          rw [d1, d2, d3, d4, d5]
          rfl
      rw [decide_eq_true ht]; rfl
  · by_cases h6 : l.length = 6
    · rw [shP_mid l true (by omega) (by omega) (by rw [h6]; rfl)]
      unfold shP
      rw [ba_size, decide_eq_true h6, decide_eq_false h5]
      simp only [Bool.true_and, Bool.false_and, cond_false]
      cases hok : shOK (shD (ba l) true) with
      | false => rw [Bool.and_false]; rfl
      | true =>
        have ht : decide (shText (shD (ba l) true) = l) = decide (byteAt (ba l) 5 = 115) := by
          match l, h6 with
          | [b0, b1, b2, b3, b4, b5], _ =>
            obtain ⟨q1, q2, q3, q4, q5, _⟩ := shOK_parts hok
            have d1 : dig (shD (ba [b0, b1, b2, b3, b4, b5]) true).1 = b0 := dig_byte q1
            have d2 : dig (shD (ba [b0, b1, b2, b3, b4, b5]) true).2.1 = b1 := dig_byte q2
            have d3 : dig (shD (ba [b0, b1, b2, b3, b4, b5]) true).2.2.1 = b2 := dig_byte q3
            have d4 : dig (shD (ba [b0, b1, b2, b3, b4, b5]) true).2.2.2.1 = b3 := dig_byte q4
            have d5 : dig (shD (ba [b0, b1, b2, b3, b4, b5]) true).2.2.2.2.1 = b4 := dig_byte q5
            unfold shText
            rw [d1, d2, d3, d4, d5]
            have e : byteAt (ba [b0, b1, b2, b3, b4, b5]) 5 = (b5.toNat : Int) := rfl
            rw [e]
            by_cases hb : b5 = 115
            · subst hb
              rw [decide_eq_true (show ((115 : UInt8).toNat : Int) = 115 from rfl)]
              exact decide_eq_true rfl
            · have h1 : ¬ ((b5.toNat : Int) = 115) := fun q => hb (UInt8.toNat_inj.1 (by have : (115 : UInt8).toNat = 115 := rfl; omega))
              rw [decide_eq_false h1]
              refine decide_eq_false fun q => hb ?_
              have q' : [b0, b1, b2, b3, b4] ++ [115] = [b0, b1, b2, b3, b4] ++ [b5] := q
              have := List.append_cancel_left q'
              exact (List.cons.inj this).1.symm
        rw [ht, Bool.and_true, cond_true]
        cases decide (byteAt (ba l) 5 = 115) <;> rfl
    · have g1 : (decide (5 ≤ ((ba l).size : Int)) && decide (((ba l).size : Int) ≤ 6)) = false := by
        rw [Bool.and_eq_false_iff, ba_size]
        by_cases hl : l.length < 5
        · exact .inl (decide_eq_false (by omega))
        · exact .inr (decide_eq_false (by omega))
      have e : shP (ba l) = (shZ, false) := by
        unfold shP
        rw [ba_size, decide_eq_false h5, decide_eq_false h6]
        simp only [Bool.false_and, cond_false]
      simp only [F_impl_ParseShape, within_is, g1, Bool.not_false, cond_true, e]
      rfl
end Go.Proofs.YtklfnbckoaphpaaGreatDoor
/- Directions, orientations and movements, on both sides: plain laws. No conditions beyond the bounds that are named. -/
set_option linter.unusedVariables false
set_option linter.unusedSimpArgs false
namespace Go.Proofs.YtklfnbckoaphpaaGreatDoor
open Go

/-! ### Directions -/
def dirL : List UInt8 := [117, 100, 108, 114, 102, 98]
def dirI (n : Int) : Int := firstN (fun i => byteAt (ba dirL) i == n) 6
theorem mvIndex_is (n : Int) : F_spec_mvIndex n = some (dirI n) := by
  have t := runL_first (f := step_spec_mvIndex_0) (fun i => !(byteAt (ba dirL) i == n)) (fun i => (n, (i : Int))) (fun i => .inl (i : Int)) (.inr ()) 6 (fun i hi => by
    have hw := wrap_succ (i := i) (by omega)
    have g1 : decide ((i : Int) < (((⟨#[117, 100, 108, 114, 102, 98]⟩ : ByteArray).size : Nat) : Int)) = true := decide_eq_true (by show (i : Int) < 6; omega)
    have e : byteAt (⟨#[117, 100, 108, 114, 102, 98]⟩ : ByteArray) i = byteAt (ba dirL) i := rfl
    simp only [step_spec_mvIndex_0, F_spec_mvLetters, g1, nonneg, Bool.and_self, cond_true, Int.toNat_natCast, hw, e]
    cases (byteAt (ba dirL) i == n) <;> rfl) rfl
  rcases t with ⟨t, hp⟩ | ⟨i, hi, hp, hj, t⟩
  · have t' : runL step_spec_mvIndex_0 (n, 0) = _ := t
    simp only [F_spec_mvIndex, t']
    unfold dirI
    rw [firstN_none (fun j hj => by simpa using hp j hj)]
  · have t' : runL step_spec_mvIndex_0 (n, 0) = _ := t
    simp only [F_spec_mvIndex, t']
    unfold dirI
    rw [firstN_at hi (by simpa using hp) (fun j hj' => by simpa using hj j hj')]
theorem orLetter_is (n : Int) : F_spec_orLetter n = some (dirI n) := by
  have t := runL_first (f := step_spec_orLetter_0) (fun i => !(byteAt (ba dirL) i == n)) (fun i => (n, (i : Int))) (fun i => .inl (i : Int)) (.inr ()) 6 (fun i hi => by
    have hw := wrap_succ (i := i) (by omega)
    have g0 : decide ((i : Int) < 6) = true := decide_eq_true (by omega)
    have g1 : decide ((i : Int) < (((⟨#[117, 100, 108, 114, 102, 98]⟩ : ByteArray).size : Nat) : Int)) = true := decide_eq_true (by show (i : Int) < 6; omega)
    have e : byteAt (⟨#[117, 100, 108, 114, 102, 98]⟩ : ByteArray) i = byteAt (ba dirL) i := rfl
    simp only [step_spec_orLetter_0, g0, g1, nonneg, Bool.and_self, cond_true, Int.toNat_natCast, hw, e]
    cases (byteAt (ba dirL) i == n) <;> rfl) rfl
  rcases t with ⟨t, hp⟩ | ⟨i, hi, hp, hj, t⟩
  · have t' : runL step_spec_orLetter_0 (n, 0) = _ := t
    simp only [F_spec_orLetter, t']
    unfold dirI
    rw [firstN_none (fun j hj => by simpa using hp j hj)]
  · have t' : runL step_spec_orLetter_0 (n, 0) = _ := t
    simp only [F_spec_orLetter, t']
    unfold dirI
    rw [firstN_at hi (by simpa using hp) (fun j hj' => by simpa using hj j hj')]
theorem dirI_bytes : ∀ b : Fin 256, Lib.indexByte dirL (UInt8.ofNat b.val) = dirI (b.val : Int) := by decide +kernel
theorem dirI_byte (b : UInt8) : Lib.indexByte dirL b = dirI (b.toNat : Int) := by
  have := dirI_bytes ⟨b.toNat, b.toNat_lt⟩
  simpa using this
theorem IndexByte_dir (x : ByteArray) (i : Nat) : F_strings_IndexByte ((⟨#[117, 100, 108, 114, 102, 98]⟩ : ByteArray), byteAt x i) = some (dirI (byteAt x i)) := by
  obtain ⟨b, hb⟩ : ∃ b : UInt8, byteAt x i = (b.toNat : Int) := ⟨_, rfl⟩
  rw [hb, ← dirI_byte]
  unfold F_strings_IndexByte
  congr 2
  simp [Nat.toUInt8]

/-! ### Orientations -/
def in05 (n : Int) : Bool := decide (0 ≤ n) && decide (n ≤ 5)
def orOpp (n : Int) : Int := bif n.tmod 2 == 0 then n + 1 else n - 1
def orOK (o : Orient) : Bool := in05 o.1 && in05 o.2 && (o.1 != o.2) && (o.1 != orOpp o.2)
theorem in05_cases {n : Int} (h : in05 n = true) : n = 0 ∨ n = 1 ∨ n = 2 ∨ n = 3 ∨ n = 4 ∨ n = 5 := by
  simp only [in05, Bool.and_eq_true, decide_eq_true_eq] at h
  omega
theorem orOpp_is (n : Int) (h : in05 n = true) : F_spec_orOpposite n = some (orOpp n) := by
  rcases in05_cases h with rfl | rfl | rfl | rfl | rfl | rfl <;> rfl
theorem orGood_is (o : Orient) : F_spec_orGood o = some (orOK o) := by
  obtain ⟨a, b⟩ := o
  have e : ∀ n, F_spec_orDir n = some (in05 n) := fun n => by simp only [F_spec_orDir, l1In_is, in05]
  simp only [F_spec_orGood, e, orOK]
  cases ha : in05 a with
  | false => simp only [cond_false, Bool.false_and]
  | true =>
    cases hb : in05 b with
    | false => simp only [cond_true, cond_false, Bool.false_and, Bool.and_false]
    | true =>
      simp only [cond_true, Bool.true_and, orOpp_is b hb]
      cases (a != b) <;> rfl
theorem IsOrient_is (o : Orient) : F_impl_IsOrient o = some (orOK o) := by
  obtain ⟨a, b⟩ := o
  simp only [F_impl_IsOrient, within_is, orOK]
  show (bif in05 a then _ else _) = _
  cases ha : in05 a with
  | false => simp only [cond_false, Bool.false_and]
  | true =>
    simp only [cond_true]
    show (bif in05 b then _ else _) = _
    cases hb : in05 b with
    | false => simp only [cond_false, Bool.false_and, Bool.and_false]
    | true =>
      rcases in05_cases ha with rfl | rfl | rfl | rfl | rfl | rfl <;> rcases in05_cases hb with rfl | rfl | rfl | rfl | rfl | rfl <;> rfl
def orP (x : ByteArray) : Orient × Bool := bif decide (x.size = 2) && orOK (dirI (byteAt x 0), dirI (byteAt x 1)) then ((dirI (byteAt x 0), dirI (byteAt x 1)), true) else ((0, 0), false)
theorem orP_spec (x : ByteArray) : F_spec_orParse x = some (orP x) := by
  simp only [F_spec_orParse, orP]
  by_cases h : x.size = 2
  · have g : (((x.size : Nat) : Int) != 2) = false := by rw [h]; rfl
    have g0 : (decide (0 ≤ 0) && decide ((0 : Int) < (x.size : Int))) = true := by rw [h]; rfl
    have g1 : (decide (0 ≤ 1) && decide ((1 : Int) < (x.size : Int))) = true := by rw [h]; rfl
    have e0 : F_spec_orLetter (byteAt x (0 : Int).toNat) = some (dirI (byteAt x 0)) := orLetter_is _
    have e1 : F_spec_orLetter (byteAt x (1 : Int).toNat) = some (dirI (byteAt x 1)) := orLetter_is _
    simp only [g, g0, g1, cond_false, cond_true, e0, e1, orGood_is, decide_eq_true h, Bool.true_and]
    cases orOK _ <;> rfl
  · have g : (((x.size : Nat) : Int) != 2) = true := by rw [bne_iff_ne]; omega
    simp only [g, cond_true, decide_eq_false h, Bool.false_and, cond_false]
theorem orP_impl (x : ByteArray) : F_impl_ParseOrient x = some (orP x) := by
  simp only [F_impl_ParseOrient, orP]
  by_cases h : x.size = 2
  · have g : (((x.size : Nat) : Int) != 2) = false := by rw [h]; rfl
    have g0 : (decide (0 ≤ 0) && decide ((0 : Int) < (x.size : Int))) = true := by rw [h]; rfl
    have g1 : (decide (0 ≤ 1) && decide ((1 : Int) < (x.size : Int))) = true := by rw [h]; rfl
    have e0 : F_strings_IndexByte ((⟨#[117, 100, 108, 114, 102, 98]⟩ : ByteArray), byteAt x (0 : Int).toNat) = some (dirI (byteAt x 0)) := IndexByte_dir x 0
    have e1 : F_strings_IndexByte ((⟨#[117, 100, 108, 114, 102, 98]⟩ : ByteArray), byteAt x (1 : Int).toNat) = some (dirI (byteAt x 1)) := IndexByte_dir x 1
    simp only [g, g0, g1, cond_false, cond_true, e0, e1, IsOrient_is, decide_eq_true h, Bool.true_and]
    cases orOK _ <;> rfl
  · have g : (((x.size : Nat) : Int) != 2) = true := by rw [bne_iff_ne]; omega
    simp only [g, cond_true, decide_eq_false h, Bool.false_and, cond_false]
def orSw (n : Int) : Int := bif n == 2 then 3 else bif n == 3 then 2 else n
theorem orSwap_is (n : Int) : F_spec_orSwap n = some (orSw n) := by
  simp only [F_spec_orSwap, orSw]
  by_cases h2 : n = 2
  · subst h2; rfl
  · by_cases h3 : n = 3
    · subst h3; rfl
    · rw [beq_eq_false_iff_ne.2 h2, beq_eq_false_iff_ne.2 h3]; rfl
theorem mirrored1_is (n : Int) : F_impl_Orient_mirrored_1 n = some (orSw n) := by
  simp only [F_impl_Orient_mirrored_1, orSw]
  by_cases h2 : n = 2
  · subst h2; rfl
  · by_cases h3 : n = 3
    · subst h3; rfl
    · rw [beq_eq_false_iff_ne.2 h2, beq_eq_false_iff_ne.2 h3]; rfl
def orMir (o : Orient) : Orient := (orSw o.1, orSw o.2)
theorem orMirror_is (o : Orient) : F_spec_orMirror o = some (orMir o) := by simp only [F_spec_orMirror, orSwap_is, orMir]
theorem Orient_mirrored_is (o : Orient) : F_impl_Orient_mirrored o = some (orMir o) := by simp only [F_impl_Orient_mirrored, mirrored1_is, orMir]
theorem orSw_sw (n : Int) : orSw (orSw n) = n := by
  unfold orSw
  by_cases h2 : n = 2
  · subst h2; rfl
  · by_cases h3 : n = 3
    · subst h3; rfl
    · rw [beq_eq_false_iff_ne.2 h2, beq_eq_false_iff_ne.2 h3]
      simp only [cond_false]
      rw [beq_eq_false_iff_ne.2 h2, beq_eq_false_iff_ne.2 h3]; rfl
theorem orMir_mir (o : Orient) : orMir (orMir o) = o := by
  obtain ⟨a, b⟩ := o
  simp only [orMir, orSw_sw]
end Go.Proofs.YtklfnbckoaphpaaGreatDoor
/- Places, on both sides: plain laws. No conditions beyond the bounds that are named. -/
set_option linter.unusedVariables false
set_option linter.unusedSimpArgs false
namespace Go.Proofs.YtklfnbckoaphpaaGreatDoor
open Go
abbrev Place := Int × (Int × Bool)
def plOK (p : Place) : Bool := (decide (0 ≤ p.1) && decide (p.1 ≤ 9)) && (decide (-1 ≤ p.2.1) && decide (p.2.1 ≤ 1)) && !(p.2.2 && (p.1 == 0))
def plCd (c : Nat) : Place := (((c / 6 : Nat) : Int), (((c % 6) / 2 : Nat) : Int) - 1, (c % 2 == 1))
def plL : List Place := ((List.range 60).map plCd).filter plOK
def plNm : List (List UInt8) := [[115, 112, 97, 99, 101], [104, 101, 97, 100], [101, 121, 101], [99, 104, 101, 101, 107], [109, 111, 117, 116, 104], [99, 104, 105, 110], [110, 101, 99, 107], [99, 104, 101, 115, 116], [119, 97, 105, 115, 116], [104, 105, 112]]
def plT (p : Place) : List UInt8 := (plNm.getD p.1.toNat [] ++ (bif p.2.1 == -1 then [60] else bif p.2.1 == 1 then [62] else [])) ++ (bif p.2.2 then [42] else [])
theorem plGood_is (p : Place) : F_spec_plGood p = some (plOK p) := by
  obtain ⟨b, s, t⟩ := p
  simp only [F_spec_plGood, l1In_is, plOK]
  cases hb : decide (0 ≤ b) && decide (b ≤ 9) with
  | false => rfl
  | true =>
    cases hs : decide (-1 ≤ s) && decide (s ≤ 1) with
    | false => rfl
    | true =>
      simp only [Bool.and_eq_true, decide_eq_true_eq] at hb
      by_cases h0 : b = 0
      · subst h0; cases t <;> rfl
      · rw [decide_eq_true (show b > 0 by omega), beq_eq_false_iff_ne.2 h0]; cases t <;> rfl
theorem IsPlace_is (p : Place) : F_impl_IsPlace p = some (plOK p) := by
  obtain ⟨b, s, t⟩ := p
  simp only [F_impl_IsPlace, within_is, plOK]
  cases decide (0 ≤ b) && decide (b ≤ 9) with
  | false => rfl
  | true =>
    cases decide (-1 ≤ s) && decide (s ≤ 1) with
    | false => rfl
    | true => cases t <;> cases (b == 0) <;> rfl
theorem plOK_parts {p : Place} (h : plOK p = true) : (0 ≤ p.1 ∧ p.1 ≤ 9) ∧ (-1 ≤ p.2.1 ∧ p.2.1 ≤ 1) := by
  simp only [plOK, Bool.and_eq_true, decide_eq_true_eq] at h
  exact ⟨h.1.1, h.1.2⟩

/-! ### Texts -/
theorem plText_is {p : Place} (h : plOK p = true) : F_spec_plText p = some (ba (plT p)) := by
  obtain ⟨⟨b0, b9⟩, s0, s1⟩ := plOK_parts h
  obtain ⟨b, s, t⟩ := p
  simp only at b0 b9 s0 s1
  clear h
  have hs : s = -1 ∨ s = 0 ∨ s = 1 := by omega
  have hb : b = 0 ∨ b = 1 ∨ b = 2 ∨ b = 3 ∨ b = 4 ∨ b = 5 ∨ b = 6 ∨ b = 7 ∨ b = 8 ∨ b = 9 := by omega
  rcases hb with rfl | rfl | rfl | rfl | rfl | rfl | rfl | rfl | rfl | rfl <;> rcases hs with rfl | rfl | rfl <;> cases t <;> rfl
theorem Place_text_is {p : Place} (h : plOK p = true) : F_impl_Place_text p = some (ba (plT p)) := by
  obtain ⟨⟨b0, b9⟩, s0, s1⟩ := plOK_parts h
  obtain ⟨b, s, t⟩ := p
  simp only at b0 b9 s0 s1
  clear h
  have hs : s = -1 ∨ s = 0 ∨ s = 1 := by omega
  have hb : b = 0 ∨ b = 1 ∨ b = 2 ∨ b = 3 ∨ b = 4 ∨ b = 5 ∨ b = 6 ∨ b = 7 ∨ b = 8 ∨ b = 9 := by omega
  rcases hb with rfl | rfl | rfl | rfl | rfl | rfl | rfl | rfl | rfl | rfl <;> rcases hs with rfl | rfl | rfl <;> cases t <;> rfl

/-! ### All places -/
def plIn (b s : Int) : List Place := ([false, true].map fun t => (b, s, t)).filter plOK
theorem plIn_le (b s : Int) : (plIn b s).length ≤ 2 := by
  unfold plIn
  exact Nat.le_trans (List.length_filter_le _ _) (by simp)
theorem plAll0_is (b s : Int) (out : List Place) (ho : out.length ≤ 1000) : runL step_spec_plAll_0 (b, (s, 2, (0, [false, true], out))) = some (b, s, out ++ plIn b s) := by
  have st : ∀ (i : Nat) (t : Bool) (o : List Place), i < 2 → o.length ≤ 1002 → [false, true].getD i false = t → step_spec_plAll_0 (b, (s, 2, ((i : Int), [false, true], o))) = some (.inl (b, (s, 2, (((i + 1 : Nat) : Int), [false, true], o ++ ([(b, s, t)].filter plOK))))) := by
    intro i t o hi ho' ht
    have hw := wrap_succ (i := i) (by omega)
    have g1 : decide ((i : Int) < 2) = true := decide_eq_true (by omega)
    have g2 : decide ((i : Int) < (([false, true].length : Nat) : Int)) = true := decide_eq_true (by simp; omega)
    have g3 : decide ((o.length + [(b, s, t)].length) * 24 ≤ 140737488355328) = true := decide_eq_true (by simp; omega)
    simp only [step_spec_plAll_0, g1, g2, nonneg, Bool.and_self, cond_true, Int.toNat_natCast, ht, plGood_is, g3, hw]
    cases hp : plOK (b, s, t) with
    | true => simp [List.filter, hp]
    | false => simp [List.filter, hp]
  have a0 := st 0 false out (by omega) (by omega) rfl
  have a1 := st 1 true (out ++ [(b, s, false)].filter plOK) (by omega) (by have := List.length_filter_le plOK [(b, s, false)]; simp only [List.length_append, List.length_singleton] at *; omega) rfl
  refine (runL_step a0).trans ((runL_step a1).trans ((runL_end rfl).trans ?_))
  have e : plIn b s = [(b, s, false)].filter plOK ++ [(b, s, true)].filter plOK := by
    unfold plIn
    rw [← List.filter_append]; rfl
  rw [e, List.append_assoc]
def plMd (b : Int) : List Place := plIn b (-1) ++ (plIn b 0 ++ plIn b 1)
theorem plMd_le (b : Int) : (plMd b).length ≤ 6 := by
  have h1 := plIn_le b (-1)
  have h2 := plIn_le b 0
  have h3 := plIn_le b 1
  unfold plMd
  simp only [List.length_append]
  omega
theorem plAll1_is (b : Int) (out : List Place) (ho : out.length ≤ 900) : runL step_spec_plAll_1 (b, -1, out) = some (b, out ++ plMd b) := by
  have st : ∀ (s : Int) (o : List Place), -1 ≤ s → s ≤ 1 → o.length ≤ 1000 → step_spec_plAll_1 (b, s, o) = some (.inl (b, s + 1, o ++ plIn b s)) := by
    intro s o h1 h2 ho'
    have hw : IntKind.i64.wrap (s + 1) = s + 1 := wrap_id (by omega) (by omega)
    have hr := plAll0_is b s o ho'
    have hr' : runL step_spec_plAll_0 (b, (s, (([false, true].length : Nat) : Int), (0, [false, true], o))) = _ := hr
    simp only [step_spec_plAll_1, decide_eq_true h2, cond_true, hr', hw]
  have l1 := plIn_le b (-1)
  have l2 := plIn_le b 0
  have a0 := st (-1) out (by omega) (by omega) (by omega)
  have a1 := st 0 (out ++ plIn b (-1)) (by omega) (by omega) (by rw [List.length_append]; omega)
  have a2 := st 1 (out ++ plIn b (-1) ++ plIn b 0) (by omega) (by omega) (by rw [List.length_append, List.length_append]; omega)
  refine (runL_step a0).trans ((runL_step a1).trans ((runL_step a2).trans ((runL_end rfl).trans ?_)))
  rw [plMd, List.append_assoc, List.append_assoc]
theorem plAll_list : ((List.range 10).flatMap fun i : Nat => plMd (i : Int)) = plL := by decide +kernel
theorem plAll_is : F_spec_plAll () = some plL := by
  have hlen : ∀ n : Nat, ((List.range n).flatMap fun i : Nat => plMd (i : Int)).length ≤ 6 * n := by
    intro n
    induction n with
    | zero => simp
    | succ n ih =>
      rw [List.range_succ, List.flatMap_append, List.length_append]
      have := plMd_le (n : Int)
      simp only [List.flatMap_cons, List.flatMap_nil, List.append_nil]
      omega
  have t := runL_traj (f := step_spec_plAll_2) (fun n => ((n : Int), (List.range n).flatMap fun i : Nat => plMd (i : Int))) ((List.range 10).flatMap fun i : Nat => plMd (i : Int)) 10 (fun n hn => by
    have hw := wrap_succ (i := n) (by omega)
    have g : decide ((n : Int) < 10) = true := decide_eq_true (by omega)
    have hr := plAll1_is (n : Int) ((List.range n).flatMap fun i : Nat => plMd (i : Int)) (by have := hlen n; omega)
    simp only [step_spec_plAll_2, g, cond_true, hr, hw, List.range_succ, List.flatMap_append, List.flatMap_cons, List.flatMap_nil, List.append_nil]) rfl
  have t' : runL step_spec_plAll_2 (0, []) = _ := t
  simp only [F_spec_plAll, t', plAll_list]

/-! ### Parsing -/
def plP (x : ByteArray) : Place × Bool := match plL.find? (fun p => decide (plT p = x.data.toList)) with | some p => (p, true) | none => ((0, 0, false), false)
theorem plP_some {l : List UInt8} {p : Place} (h : plL.find? (fun p => decide (plT p = l)) = some p) : plP (ba l) = (p, true) := by
  show (match plL.find? (fun p => decide (plT p = l)) with | some p => (p, true) | none => ((0, 0, false), false)) = _
  rw [h]
theorem plP_none {l : List UInt8} (h : plL.find? (fun p => decide (plT p = l)) = none) : plP (ba l) = ((0, 0, false), false) := by
  show (match plL.find? (fun p => decide (plT p = l)) with | some p => (p, true) | none => ((0, 0, false), false)) = _
  rw [h]
theorem find_first {α : Type} {p : α → Bool} : ∀ {l : List α} {i : Nat} (d : α), i < l.length → p (l.getD i d) = true → (∀ j, j < i → p (l.getD j d) = false) → l.find? p = some (l.getD i d)
  | a :: l, 0, d, _, hp, _ => by
    have hp' : p a = true := hp
    rw [List.find?_cons, hp']; rfl
  | a :: l, i + 1, d, hi, hp, hj => by
    have h0 : p a = false := hj 0 (by omega)
    rw [List.find?_cons, h0]
    exact find_first d (by simpa using hi) hp (fun j hj' => hj (j + 1) (by omega))
theorem find_none {α : Type} {p : α → Bool} {l : List α} (d : α) (h : ∀ j, j < l.length → p (l.getD j d) = false) : l.find? p = none := by
  rw [List.find?_eq_none]
  intro x hx
  obtain ⟨i, hi, rfl⟩ := List.mem_iff_getElem.1 hx
  have := h i hi
  rw [List.getD, List.getElem?_eq_getElem hi] at this
  simpa using this
theorem plL_ok : ∀ p ∈ plL, plOK p = true := fun p hp => (List.mem_filter.1 hp).2
theorem plL_len : plL.length ≤ 60 := Nat.le_trans (List.length_filter_le _ _) (by simp)
theorem beq_text (a b : List UInt8) : (a == b) = decide (a = b) := by
  by_cases h : a = b
  · subst h; simp
  · rw [decide_eq_false h, beq_eq_false_iff_ne.2 h]
theorem plP_spec (x : ByteArray) : F_spec_plParse x = some (plP x) := by
  obtain ⟨l, rfl⟩ : ∃ l, x = ba l := ⟨x.data.toList, eq_ba x⟩
  have hl := plL_len
  rcases runL_first (f := step_spec_plParse_0) (fun i => !decide (plT (plL.getD i (0, 0, false)) = l)) (fun i => (ba l, (plL.length : Int), ((i : Int), plL, (0, 0, false)))) (fun i => .inl (true, plL.getD i (0, 0, false))) (.inr (0, 0, false)) plL.length (fun i hi => by
    have hw := wrap_succ (i := i) (by omega)
    have ht := plText_is (plL_ok _ (getD_mem hi (0, 0, false)))
    simp only [step_spec_plParse_0, lt_len hi, nonneg, Bool.and_self, cond_true, Int.toNat_natCast, ht, ba_toList, beq_text, hw]
    cases decide (plT (plL.getD i (0, 0, false)) = l) <;> rfl) (by simp only [step_spec_plParse_0, not_lt_len, cond_false]) with ⟨t, hp⟩ | ⟨i, hi, hp, hj, t⟩
  · have t' : runL step_spec_plParse_0 (ba l, (plL.length : Int), (0, plL, (0, 0, false))) = _ := t
    have hf : plL.find? (fun p => decide (plT p = l)) = none := find_none (0, 0, false) fun j hj => by simpa using hp j hj
    simp only [F_spec_plParse, plAll_is, t', plP_none hf]
  · have t' : runL step_spec_plParse_0 (ba l, (plL.length : Int), (0, plL, (0, 0, false))) = _ := t
    have hf : plL.find? (fun p => decide (plT p = l)) = some (plL.getD i (0, 0, false)) := find_first (0, 0, false) hi (by simpa using hp) fun j hj' => by simpa using hj j hj'
    simp only [F_spec_plParse, plAll_is, t', plP_some hf]
theorem PlaceOfCode_all : ∀ c : Fin 60, F_impl_PlaceOfCode (c.val : Int) = some (bif plOK (plCd c.val) then (plCd c.val, true) else ((0, 0, false), false)) := by
  intro c
  have h0 := c.isLt
  have g : (decide (0 ≤ (c.val : Int)) && decide ((c.val : Int) ≤ 59)) = true := by rw [decide_eq_true (by omega), decide_eq_true (by omega)]; rfl
  have e1 : IntKind.i64.wrap ((c.val : Int).tdiv 6) = ((c.val / 6 : Nat) : Int) := by
    have : (c.val : Int).tdiv 6 = ((c.val / 6 : Nat) : Int) := rfl
    rw [this]; exact wrap_id (by omega) (by omega)
  have e2 : (c.val : Int).tmod 6 = ((c.val % 6 : Nat) : Int) := rfl
  have e3 : IntKind.i64.wrap ((((c.val % 6 : Nat) : Int)).tdiv 2) = (((c.val % 6) / 2 : Nat) : Int) := by
    have : (((c.val % 6 : Nat) : Int)).tdiv 2 = (((c.val % 6) / 2 : Nat) : Int) := rfl
    rw [this]; exact wrap_id (by omega) (by omega)
  have e4 : IntKind.i64.wrap ((((c.val % 6) / 2 : Nat) : Int) - 1) = (((c.val % 6) / 2 : Nat) : Int) - 1 := wrap_id (by omega) (by omega)
  have e5 : ((c.val : Int).tmod 2 == 1) = (c.val % 2 == 1) := by
    have : (c.val : Int).tmod 2 = ((c.val % 2 : Nat) : Int) := rfl
    rw [this]
    by_cases h : c.val % 2 = 1
    · rw [h]; rfl
    · rw [beq_eq_false_iff_ne.2 h]; exact beq_eq_false_iff_ne.2 (by omega)
  have z6 : (!decide (6 = 0)) = true := rfl
  have z2 : (!decide (2 = 0)) = true := rfl
  have hp := IsPlace_is (plCd c.val)
  unfold plCd at hp
  simp only [F_impl_PlaceOfCode, within_is, g, Bool.not_true, cond_false, z6, z2, cond_true, e1, e2, e3, e4, e5, hp]
  show (bif !(plOK (plCd c.val)) then _ else _) = _
  cases plOK (plCd c.val) <;> rfl
theorem plP_impl (x : ByteArray) : F_impl_ParsePlace x = some (plP x) := by
  obtain ⟨l, rfl⟩ : ∃ l, x = ba l := ⟨x.data.toList, eq_ba x⟩
  have hfd : plL.find? (fun p => decide (plT p = l)) = ((List.range 60).map plCd).find? (fun p => plOK p && decide (plT p = l)) := by
    unfold plL
    rw [List.find?_filter]
    refine congrArg (fun q => List.find? q _) (funext fun a => ?_)
    cases plOK a <;> simp
  have hml : ((List.range 60).map plCd).length = 60 := by simp
  have hat : ∀ i, i < 60 → ((List.range 60).map plCd).getD i (0, 0, false) = plCd i := fun i hi => by
    rw [List.getD, List.getElem?_eq_getElem (by rw [hml]; exact hi)]
    simp
  rcases runL_first (f := step_impl_ParsePlace_0) (fun i => !(plOK (plCd i) && decide (plT (plCd i) = l))) (fun i => (ba l, ((i : Int), (0, 0, false)))) (fun i => .inl (true, plCd i)) (.inr (0, 0, false)) 60 (fun i hi => by
    have hw := wrap_succ (i := i) (by omega)
    have g : decide ((i : Int) < 60) = true := decide_eq_true (by omega)
    have hc : F_impl_PlaceOfCode ((i : Nat) : Int) = _ := PlaceOfCode_all ⟨i, hi⟩
    simp only [step_impl_ParsePlace_0, g, cond_true, hc, hw]
    cases hok : plOK (plCd i) with
    | false => rfl
    | true =>
      simp only [cond_true, Place_text_is hok, ba_toList, beq_text, Bool.true_and]
      cases decide (plT (plCd i) = l) <;> rfl) rfl with ⟨t, hp⟩ | ⟨i, hi, hp, hj, t⟩
  · have t' : runL step_impl_ParsePlace_0 (ba l, (0, (0, 0, false))) = _ := t
    have hf : plL.find? (fun p => decide (plT p = l)) = none := by
      rw [hfd]
      exact find_none (0, 0, false) fun j hj => by rw [hat j (by omega)]; have q := hp j (by omega); rw [Bool.not_eq_true'] at q; exact q
    simp only [F_impl_ParsePlace, t', plP_none hf]
  · have t' : runL step_impl_ParsePlace_0 (ba l, (0, (0, 0, false))) = _ := t
    have hf : plL.find? (fun p => decide (plT p = l)) = some (plCd i) := by
      rw [hfd, ← hat i hi]
      exact find_first (0, 0, false) (by omega) (by rw [hat i hi]; rw [Bool.not_eq_false'] at hp; exact hp) fun j hj' => by rw [hat j (by omega)]; have q := hj j hj'; rw [Bool.not_eq_true'] at q; exact q
    simp only [F_impl_ParsePlace, t', plP_some hf]
end Go.Proofs.YtklfnbckoaphpaaGreatDoor
/- Movements, on both sides: plain laws. No conditions beyond the bounds that are named. -/
set_option linter.unusedVariables false
set_option linter.unusedSimpArgs false
namespace Go.Proofs.YtklfnbckoaphpaaGreatDoor
open Go
abbrev Move := ByteArray × Int
def dirAll (l : List UInt8) : Bool := l.all fun b => decide (0 ≤ dirI (b.toNat : Int))
theorem dirAll_N (l : List UInt8) : allN (fun i => decide (0 ≤ dirI (byteAt (ba l) i))) l.length = dirAll l := allN_all (fun b : UInt8 => decide (0 ≤ dirI (b.toNat : Int))) 0 l
theorem mvSteps_is (l : List UInt8) (hl : l.length ≤ 9223372036854775806) : F_spec_mvSteps (ba l) = some (dirAll l) := by
  have t := runL_all (f := step_spec_mvSteps_0) (fun i => decide (0 ≤ dirI (byteAt (ba l) i))) (fun i => (ba l, (i : Int))) (.inl false) (.inr ()) l.length (fun i hi => by
    have hw := wrap_succ (i := i) (by omega)
    have g : decide ((i : Int) < ((ba l).size : Int)) = true := lt_len (by rw [ba_size]; exact hi)
    simp only [step_spec_mvSteps_0, g, nonneg, Bool.and_self, cond_true, Int.toNat_natCast, mvIndex_is, hw, lt_not]
    cases decide (0 ≤ dirI (byteAt (ba l) i)) <;> rfl) (by
      have g : decide (((l.length : Nat) : Int) < ((ba l).size : Int)) = false := by rw [ba_size]; exact not_lt_len _
      simp only [step_spec_mvSteps_0, g, cond_false])
  have t' : runL step_spec_mvSteps_0 (ba l, 0) = _ := t
  simp only [F_spec_mvSteps, t', dirAll_N]
  cases dirAll l <;> rfl
theorem hasOnly_dir (l : List UInt8) (hl : l.length ≤ 9223372036854775806) : F_impl_hasOnly (ba l, (⟨#[117, 100, 108, 114, 102, 98]⟩ : ByteArray)) = some (dirAll l) := by
  have t := runL_all (f := step_impl_hasOnly_0) (fun i => decide (0 ≤ dirI (byteAt (ba l) i))) (fun i => (ba l, ((⟨#[117, 100, 108, 114, 102, 98]⟩ : ByteArray), ((l.length : Nat) : Int), (i : Int)))) (.inl false) (.inr ()) l.length (fun i hi => by
    have hw := wrap_succ (i := i) (by omega)
    have g : decide ((i : Int) < ((ba l).size : Int)) = true := lt_len (by rw [ba_size]; exact hi)
    simp only [step_impl_hasOnly_0, lt_len hi, g, nonneg, Bool.and_self, cond_true, Int.toNat_natCast, IndexByte_dir, hw, lt_not]
    cases decide (0 ≤ dirI (byteAt (ba l) i)) <;> rfl) (by simp only [step_impl_hasOnly_0, not_lt_len, cond_false])
  have t' : runL step_impl_hasOnly_0 (ba l, ((⟨#[117, 100, 108, 114, 102, 98]⟩ : ByteArray), (((ba l).size : Nat) : Int), 0)) = _ := t
  simp only [F_impl_hasOnly, t', dirAll_N]
  cases dirAll l <;> rfl
def mvOK (l : List UInt8) (r : Int) : Bool := decide (l.length ≤ 6) && dirAll l && (decide (1 ≤ r) && decide (r ≤ 3)) && (!decide (l = []) || (r == 1))
theorem mt_nil (l : List UInt8) : ((ba l).toList == (⟨#[]⟩ : ByteArray).toList) = decide (l = []) := by
  have e : (⟨#[]⟩ : ByteArray).toList = [] := ba_toList []
  rw [ba_toList, e, beq_text]
theorem mvGood_is (l : List UInt8) (r : Int) : F_spec_mvGood (ba l, r) = some (mvOK l r) := by
  simp only [F_spec_mvGood, mvOK]
  by_cases h : l.length ≤ 6
  · have g : decide (((ba l).size : Int) ≤ 6) = true := decide_eq_true (by rw [ba_size]; omega)
    simp only [g, cond_true, mvSteps_is l (by omega), l1In_is, mt_nil, decide_eq_true h, Bool.true_and]
    cases dirAll l <;> cases decide (1 ≤ r) && decide (r ≤ 3) <;> cases decide (l = []) <;> rfl
  · have g : decide (((ba l).size : Int) ≤ 6) = false := decide_eq_false (by rw [ba_size]; omega)
    simp only [g, cond_false, decide_eq_false h, Bool.false_and]
theorem IsMove_is (l : List UInt8) (r : Int) : F_impl_IsMove (ba l, r) = some (mvOK l r) := by
  simp only [F_impl_IsMove, mvOK]
  by_cases h : l.length ≤ 6
  · have g : decide (((ba l).size : Int) ≤ 6) = true := decide_eq_true (by rw [ba_size]; omega)
    simp only [g, cond_true, hasOnly_dir l (by omega), within_is, mt_nil, decide_eq_true h, Bool.true_and]
    cases dirAll l <;> cases decide (1 ≤ r) && decide (r ≤ 3) <;> cases decide (l = []) <;> rfl
  · have g : decide (((ba l).size : Int) ≤ 6) = false := decide_eq_false (by rw [ba_size]; omega)
    simp only [g, cond_false, decide_eq_false h, Bool.false_and]
theorem mvOK_parts {l : List UInt8} {r : Int} (h : mvOK l r = true) : l.length ≤ 6 ∧ dirAll l = true ∧ (1 ≤ r ∧ r ≤ 3) ∧ (l = [] → r = 1) := by
  simp only [mvOK, Bool.and_eq_true, Bool.or_eq_true, decide_eq_true_eq, Bool.not_eq_true', decide_eq_false_iff_not, beq_iff_eq] at h
  obtain ⟨⟨⟨h1, h2⟩, h3⟩, h4⟩ := h
  exact ⟨h1, h2, h3, fun e => h4.elim (fun q => absurd e q) id⟩

/-! ### Texts -/
def mvT (l : List UInt8) (r : Int) : List UInt8 := if l = [] then [45] else if r = 1 then l else l ++ [42, dig r]
theorem itoa2 : Lib.itoa 2 = [dig 2] := by decide +kernel
theorem itoa3 : Lib.itoa 3 = [dig 3] := by decide +kernel
theorem mvText_is {l : List UInt8} {r : Int} (h : mvOK l r = true) : F_spec_mvText (ba l, r) = some (ba (mvT l r)) := by
  obtain ⟨h6, _, ⟨h1, h3⟩, h0⟩ := mvOK_parts h
  simp only [F_spec_mvText, mvT, mt_nil]
  by_cases hl : l = []
  · rw [decide_eq_true hl, if_pos hl]; rfl
  · rw [decide_eq_false hl, if_neg hl, cond_false]
    have hr : r = 1 ∨ r = 2 ∨ r = 3 := by omega
    have g1 : decide ((ba l).size + (⟨#[42]⟩ : ByteArray).size ≤ 9223372036854775807) = true := decide_eq_true (by rw [ba_size]; show l.length + 1 ≤ _; omega)
    have e42 : ba l ++ (⟨#[42]⟩ : ByteArray) = ba (l ++ [42]) := ba_app l [42]
    have k2 : F_spec_l1Num 2 = some (ba [dig 2]) := by rw [F_spec_l1Num_is, itoa2]; rfl
    have k3 : F_spec_l1Num 3 = some (ba [dig 3]) := by rw [F_spec_l1Num_is, itoa3]; rfl
    have g2 : ∀ n, decide ((ba (l ++ [42])).size + (ba [dig n]).size ≤ 9223372036854775807) = true := fun n => decide_eq_true (by rw [ba_size, ba_size]; simp; omega)
    rcases hr with rfl | rfl | rfl
    · rfl
    · simp only [g1, cond_true, e42, k2, g2, ba_app, List.append_assoc]; rfl
    · simp only [g1, cond_true, e42, k3, g2, ba_app, List.append_assoc]; rfl
theorem Move_text_is {l : List UInt8} {r : Int} (h : mvOK l r = true) : F_impl_Move_text (ba l, r) = some (ba (mvT l r)) := by
  obtain ⟨h6, _, ⟨h1, h3⟩, h0⟩ := mvOK_parts h
  simp only [F_impl_Move_text, mvT, mt_nil]
  by_cases hl : l = []
  · rw [decide_eq_true hl, if_pos hl]; rfl
  · rw [decide_eq_false hl, if_neg hl, cond_false]
    have hr : r = 1 ∨ r = 2 ∨ r = 3 := by omega
    have g1 : decide ((ba l).size + (⟨#[42]⟩ : ByteArray).size ≤ 9223372036854775807) = true := decide_eq_true (by rw [ba_size]; show l.length + 1 ≤ _; omega)
    have e42 : ba l ++ (⟨#[42]⟩ : ByteArray) = ba (l ++ [42]) := ba_app l [42]
    have k2 : F_strconv_Itoa 2 = some (ba [dig 2]) := by rw [F_strconv_Itoa_is, itoa2]; rfl
    have k3 : F_strconv_Itoa 3 = some (ba [dig 3]) := by rw [F_strconv_Itoa_is, itoa3]; rfl
    have g2 : ∀ n, decide ((ba (l ++ [42])).size + (ba [dig n]).size ≤ 9223372036854775807) = true := fun n => decide_eq_true (by rw [ba_size, ba_size]; simp; omega)
    rcases hr with rfl | rfl | rfl
    · rfl
    · simp only [g1, cond_true, e42, k2, g2, ba_app, List.append_assoc]; rfl
    · simp only [g1, cond_true, e42, k3, g2, ba_app, List.append_assoc]; rfl

/-! ### Parsing -/
theorem read_total (x : ByteArray) : ∃ n, F_spec_l1Read x = some n := by
  have loop : x.size ≤ 6 → ∃ o, runL step_spec_l1Read_0 (x, 0, 0) = some o := fun hx => by
    obtain ⟨o, e, _⟩ := runL_inv (f := step_spec_l1Read_0) (fun s => ∃ (v : Int) (i : Nat), s = (x, v, (i : Int)) ∧ i ≤ x.size) (fun _ => True) (fun s => x.size - s.2.2.toNat) (by
      rintro s ⟨v, i, rfl, hi⟩
      rcases Nat.lt_or_ge i x.size with hlt | hge
      · have hw := wrap_succ (i := i) (by omega)
        simp only [step_spec_l1Read_0, lt_len hlt, nonneg, Bool.and_self, cond_true, Int.toNat_natCast, hw]
        cases decide (byteAt x i < 48)
        · cases decide (byteAt x i > 57)
          · exact .inr ⟨_, rfl, ⟨_, i + 1, rfl, by omega⟩, by simp; omega⟩
          · exact .inl ⟨_, rfl, trivial⟩
        · exact .inl ⟨_, rfl, trivial⟩
      · have : i = x.size := by omega
        subst this
        exact .inl ⟨.inr v, by simp only [step_spec_l1Read_0, not_lt_len, cond_false], trivial⟩) (x, 0, 0) ⟨0, 0, rfl, by omega⟩
    exact ⟨o, e⟩
  unfold F_spec_l1Read
  rw [l1In_is]
  by_cases h6 : (x.size : Int) ≤ 6
  · by_cases h1 : 1 ≤ (x.size : Int)
    · obtain ⟨o, e⟩ := loop (by omega)
      have h0 : decide (0 < (x.size : Int)) = true := decide_eq_true (by omega)
      simp only [decide_eq_true h1, decide_eq_true h6, h0, Bool.and_self, Bool.not_true, cond_false, e, decide_true, Int.le_refl, cond_true]
      cases byteAt x (0 : Int).toNat == 48
      · cases o <;> exact ⟨_, rfl⟩
      · cases decide ((x.size : Int) > 1)
        · cases o <;> exact ⟨_, rfl⟩
        · exact ⟨_, rfl⟩
    · simp only [decide_eq_false h1, Bool.false_and, Bool.not_false, cond_true]
      exact ⟨_, rfl⟩
  · simp only [decide_eq_false h6, Bool.and_false, Bool.not_false, cond_true]
    exact ⟨_, rfl⟩
theorem read2 : F_spec_l1Read (ba [50]) = some 2 := by
  have r : runL step_spec_l1Read_0 (ba [50], 0, 0) = some (.inr 2) := (runL_step (s' := (ba [50], 2, 1)) rfl).trans (runL_end rfl)
  have g : F_spec_l1Read (ba [50]) = match runL step_spec_l1Read_0 (ba [50], 0, 0) with | none => none | some (.inl o23) => some o23 | some (.inr o23) => some o23 := rfl
  rw [g, r]
theorem read3 : F_spec_l1Read (ba [51]) = some 3 := by
  have r : runL step_spec_l1Read_0 (ba [51], 0, 0) = some (.inr 3) := (runL_step (s' := (ba [51], 3, 1)) rfl).trans (runL_end rfl)
  have g : F_spec_l1Read (ba [51]) = match runL step_spec_l1Read_0 (ba [51], 0, 0) with | none => none | some (.inl o23) => some o23 | some (.inr o23) => some o23 := rfl
  rw [g, r]
theorem decimal_total (s : ByteArray) (hs : s.size ≤ 281474976710656) : F_impl_decimal s = some (decOf s) := by
  rw [F_impl_decimal_is, decide_eq_true hs]; rfl
theorem dec2 : (decOf (ba [50])).1 = 2 := by
  have h : Lib.atoiAll [50] = .ok 2 := by decide +kernel
  unfold decOf
  rw [ba_data, h]
  have e : (⟨(Lib.itoa 2).toArray⟩ : ByteArray) = ba [50] := by rw [itoa2]; rfl
  simp only [decide_eq_true e, cond_true]
theorem dec3 : (decOf (ba [51])).1 = 3 := by
  have h : Lib.atoiAll [51] = .ok 3 := by decide +kernel
  unfold decOf
  rw [ba_data, h]
  have e : (⟨(Lib.itoa 3).toArray⟩ : ByteArray) = ba [51] := by rw [itoa3]; rfl
  simp only [decide_eq_true e, cond_true]
/-- steps that stand in a text -/
def stOK (a : List UInt8) : Bool := !decide (a = []) && decide (a.length ≤ 6) && dirAll a
def mvPl (l : List UInt8) : (List UInt8 × Int) × Bool := match spl 42 l with
  | [a] => if l = [45] then (([], 1), true) else bif stOK a then ((a, 1), true) else (([], 0), false)
  | [a, t] => bif stOK a && decide (t = [50]) then ((a, 2), true) else bif stOK a && decide (t = [51]) then ((a, 3), true) else (([], 0), false)
  | _ => (([], 0), false)
def mvP (x : ByteArray) : Move × Bool := ((ba (mvPl x.data.toList).1.1, (mvPl x.data.toList).1.2), (mvPl x.data.toList).2)
theorem mv_chk (a r : List UInt8) (n : Int) : (mvOK a n && decide (mvT a n = a ++ 42 :: r)) = (stOK a && ((n == 2) && decide (r = [50]) || (n == 3) && decide (r = [51]))) := by
  have d2 : dig 2 = 50 := rfl
  have d3 : dig 3 = 51 := rfl
  by_cases ha : a = []
  · subst ha
    have e : stOK [] = false := rfl
    rw [e, Bool.false_and]
    have : mvT [] n ≠ [] ++ 42 :: r := by
      intro h
      have h' : [45] = (42 : UInt8) :: r := h
      have := (List.cons.inj h').1
      revert this; decide
    rw [decide_eq_false this, Bool.and_false]
  · have es : stOK a = (decide (a.length ≤ 6) && dirAll a) := by unfold stOK; rw [decide_eq_false ha]; rfl
    have em : mvOK a n = ((decide (a.length ≤ 6) && dirAll a) && (decide (1 ≤ n) && decide (n ≤ 3))) := by unfold mvOK; rw [decide_eq_false ha]; simp
    rw [es, em, Bool.and_assoc]
    cases decide (a.length ≤ 6) && dirAll a with
    | false => rfl
    | true =>
      rw [Bool.true_and, Bool.true_and]
      by_cases h2 : n = 2
      · subst h2
        have : decide (mvT a 2 = a ++ 42 :: r) = decide (r = [50]) := by
          unfold mvT
          rw [if_neg ha, if_neg (by decide), d2]
          by_cases h : r = [50]
          · subst h; rw [decide_eq_true (show a ++ [42, 50] = a ++ 42 :: [50] from rfl)]; exact (decide_eq_true rfl).symm
          · rw [decide_eq_false h]
            exact decide_eq_false fun q => h ((List.cons.inj (List.append_cancel_left q)).2.symm)
        rw [this]
        cases decide (r = [50]) <;> rfl
      · by_cases h3 : n = 3
        · subst h3
          have : decide (mvT a 3 = a ++ 42 :: r) = decide (r = [51]) := by
            unfold mvT
            rw [if_neg ha, if_neg (by decide), d3]
            by_cases h : r = [51]
            · subst h; rw [decide_eq_true (show a ++ [42, 51] = a ++ 42 :: [51] from rfl)]; exact (decide_eq_true rfl).symm
            · rw [decide_eq_false h]
              exact decide_eq_false fun q => h ((List.cons.inj (List.append_cancel_left q)).2.symm)
          rw [this]
          cases decide (r = [51]) <;> rfl
        · rw [beq_eq_false_iff_ne.2 h2, beq_eq_false_iff_ne.2 h3, Bool.false_and, Bool.false_and, Bool.or_self]
          by_cases h1 : n = 1
          · subst h1
            have : mvT a 1 ≠ a ++ 42 :: r := by
              unfold mvT
              rw [if_neg ha, if_pos rfl]
              intro q
              have := congrArg List.length q
              simp at this
            rw [decide_eq_false this, Bool.and_false]
          · have : (decide (1 ≤ n) && decide (n ≤ 3)) = false := by
              rw [Bool.and_eq_false_iff]
              by_cases h : 1 ≤ n
              · exact .inr (decide_eq_false (by omega))
              · exact .inl (decide_eq_false h)
            rw [this, Bool.false_and]
end Go.Proofs.YtklfnbckoaphpaaGreatDoor
/- Movements are parsed alike on both sides: plain laws. No conditions beyond the bounds that are named. -/
set_option linter.unusedVariables false
set_option linter.unusedSimpArgs false
namespace Go.Proofs.YtklfnbckoaphpaaGreatDoor
open Go
theorem t45 (l : List UInt8) : ((ba l).toList == (⟨#[45]⟩ : ByteArray).toList) = decide (l = [45]) := by
  have e : (⟨#[45]⟩ : ByteArray).toList = [45] := ba_toList [45]
  rw [ba_toList, e, beq_text]
theorem tt (a l : List UInt8) : ((ba a).toList == (ba l).toList) = decide (a = l) := by rw [ba_toList, ba_toList, beq_text]
theorem mvPl_one {l : List UInt8} (h : 42 ∉ l) : mvPl l = if l = [45] then (([], 1), true) else bif stOK l then ((l, 1), true) else (([], 0), false) := by
  unfold mvPl; rw [spl_none 42 l h]
theorem mvPl_two {a r : List UInt8} (ha : 42 ∉ a) (hr : 42 ∉ r) : mvPl (a ++ 42 :: r) = bif stOK a && decide (r = [50]) then ((a, 2), true) else bif stOK a && decide (r = [51]) then ((a, 3), true) else (([], 0), false) := by
  unfold mvPl; rw [spl_cons 42 a r ha, spl_none 42 r hr]
theorem mvPl_more {a b c : List UInt8} (ha : 42 ∉ a) (hb : 42 ∉ b) : mvPl (a ++ 42 :: (b ++ 42 :: c)) = (([], 0), false) := by
  unfold mvPl; rw [spl_cons 42 a _ ha, spl_cons 42 b c hb]
  have := spl_ne 42 c
  cases hs : spl 42 c with
  | nil => exact absurd hs this
  | cons x y => rfl
theorem ok_one (l : List UInt8) : mvOK l 1 = (decide (l.length ≤ 6) && dirAll l) := by unfold mvOK; simp
theorem mvT_one {l : List UInt8} (h : l ≠ []) : mvT l 1 = l := by unfold mvT; rw [if_neg h, if_pos rfl]
theorem one_chk {l : List UInt8} (h45 : l ≠ [45]) : (mvOK l 1 && decide (mvT l 1 = l)) = stOK l := by
  rw [ok_one]
  by_cases hl : l = []
  · subst hl; rfl
  · rw [mvT_one hl, decide_eq_true rfl, Bool.and_true]
    unfold stOK
    rw [decide_eq_false hl]; rfl
theorem step_bifs (F : ByteArray × Int → Option ByteArray) (a l : List UInt8) (n : Int) (hF : mvOK a n = true → F (ba a, n) = some (ba (mvT a n))) :
    (bif (!(mvOK a n)) then some (((ByteArray.empty, (0 : Int)), false)) else match F (ba a, n) with | none => none | some y => bif (!(y.toList == (ba l).toList)) then some (((ByteArray.empty, 0), false)) else some (((ba a, n), true))) =
    some (bif mvOK a n && decide (mvT a n = l) then ((ba a, n), true) else ((ByteArray.empty, 0), false)) := by
  cases h : mvOK a n with
  | false => rfl
  | true =>
    rw [hF h]
    simp only [Bool.not_true, cond_false, Bool.true_and, tt]
    cases decide (mvT a n = l) <;> rfl
theorem mvP_spec (x : ByteArray) (hx : x.size ≤ 1048576) : F_spec_mvParse x = some (mvP x) := by
  obtain ⟨l, rfl⟩ : ∃ l, x = ba l := ⟨x.data.toList, eq_ba x⟩
  have hl : l.length ≤ 1048576 := hx
  have hsp : F_spec_l1Split (ba l, 42) = some ((spl 42 l).map ba) := l1Split_is l 42 hl
  have hmp : mvP (ba l) = ((ba (mvPl l).1.1, (mvPl l).1.2), (mvPl l).2) := rfl
  rw [hmp]
  have eE : (⟨#[]⟩ : ByteArray) = ba [] := rfl
  simp only [F_spec_mvParse, hsp, t45, eE]
  rcases spl_cases 42 l with h | ⟨a, r, rfl, ha⟩
  · rw [spl_none 42 l h, mvPl_one h]
    have g0 : (decide (0 ≤ 0) && decide ((0 : Int) < ((([l].map ba).length : Nat) : Int))) = true := rfl
    have g1 : (((([l].map ba).length : Nat) : Int) == 2) = false := rfl
    have g2 : decide (((([l].map ba).length : Nat) : Int) > 2) = false := rfl
    have gd : ([l].map ba).getD (0 : Int).toNat ByteArray.empty = ba l := rfl
    simp only [g0, g1, g2, gd, cond_true, cond_false]
    by_cases h45 : l = [45]
    · subst h45
      simp only [decide_true, cond_true, mvGood_is]
      exact (step_bifs F_spec_mvText [] [45] 1 mvText_is).trans rfl
    · rw [decide_eq_false h45, if_neg h45]
      simp only [cond_false, mvGood_is]
      refine (step_bifs F_spec_mvText l l 1 mvText_is).trans ?_
      rw [one_chk h45]
      cases stOK l <;> rfl
  · have h45 : a ++ 42 :: r ≠ [45] := by
      intro q
      have : (42 : UInt8) ∈ ([45] : List UInt8) := by rw [← q]; simp
      revert this; decide
    rw [decide_eq_false h45]
    rcases spl_cases 42 r with hr | ⟨b, c, rfl, hb⟩
    · rw [spl_cons 42 a r ha, spl_none 42 r hr, mvPl_two ha hr]
      have g0 : (decide (0 ≤ 0) && decide ((0 : Int) < ((([a, r].map ba).length : Nat) : Int))) = true := rfl
      have g1 : (((([a, r].map ba).length : Nat) : Int) == 2) = true := rfl
      have g2 : decide (((([a, r].map ba).length : Nat) : Int) > 2) = false := rfl
      have g3 : (decide (0 ≤ 1) && decide ((1 : Int) < ((([a, r].map ba).length : Nat) : Int))) = true := rfl
      have gd : ([a, r].map ba).getD (0 : Int).toNat ByteArray.empty = ba a := rfl
      have ge : ([a, r].map ba).getD (1 : Int).toNat ByteArray.empty = ba r := rfl
      obtain ⟨n, hn⟩ := read_total (ba r)
      simp only [g0, g1, g2, g3, gd, ge, cond_true, cond_false, hn, mvGood_is]
      refine (step_bifs F_spec_mvText a (a ++ 42 :: r) n mvText_is).trans ?_
      rw [mv_chk]
      by_cases h2 : r = [50]
      · subst h2
        rw [read2] at hn
        obtain rfl := (Option.some.inj hn).symm
        cases stOK a <;> rfl
      · by_cases h3 : r = [51]
        · subst h3
          rw [read3] at hn
          obtain rfl := (Option.some.inj hn).symm
          cases stOK a <;> rfl
        · simp only [decide_eq_false h2, decide_eq_false h3, Bool.and_false, Bool.or_self, cond_false]
          rfl
    · rw [spl_cons 42 a _ ha, spl_cons 42 b c hb, mvPl_more ha hb]
      have hlen := spl_len 42 c
      have g0 : (decide (0 ≤ 0) && decide ((0 : Int) < ((((a :: b :: spl 42 c).map ba).length : Nat) : Int))) = true := by
        rw [List.length_map]; simp; omega
      have g1 : (((((a :: b :: spl 42 c).map ba).length : Nat) : Int) == 2) = false := by
        rw [List.length_map]; simp; omega
      have g2 : decide (((((a :: b :: spl 42 c).map ba).length : Nat) : Int) > 2) = true := by
        rw [List.length_map]; simp; omega
      simp only [g0, g1, g2, cond_true, cond_false]
      rfl
theorem mvP_impl (x : ByteArray) (hx : x.size ≤ 1048576) : F_impl_ParseMove x = some (mvP x) := by
  obtain ⟨l, rfl⟩ : ∃ l, x = ba l := ⟨x.data.toList, eq_ba x⟩
  have hl : l.length ≤ 1048576 := hx
  have hmp : mvP (ba l) = ((ba (mvPl l).1.1, (mvPl l).1.2), (mvPl l).2) := rfl
  rw [hmp]
  have eE : (⟨#[]⟩ : ByteArray) = ba [] := rfl
  rcases spl_cases 42 l with h | ⟨a, r, rfl, ha⟩
  · have hc : F_strings_Cut (ba l, (⟨#[42]⟩ : ByteArray)) = some (ba l, ba [], false) := Cut_none hl h
    rw [mvPl_one h]
    simp only [F_impl_ParseMove, hc, t45, cond_false, eE]
    by_cases h45 : l = [45]
    · subst h45
      simp only [decide_true, cond_true, IsMove_is]
      exact (step_bifs F_impl_Move_text [] [45] 1 Move_text_is).trans rfl
    · rw [decide_eq_false h45, if_neg h45]
      simp only [cond_false, IsMove_is]
      refine (step_bifs F_impl_Move_text l l 1 Move_text_is).trans ?_
      rw [one_chk h45]
      cases stOK l <;> rfl
  · have h45 : a ++ 42 :: r ≠ [45] := by
      intro q
      have : (42 : UInt8) ∈ ([45] : List UInt8) := by rw [← q]; simp
      revert this; decide
    have hc : F_strings_Cut (ba (a ++ 42 :: r), (⟨#[42]⟩ : ByteArray)) = some (ba a, ba r, true) := Cut_at hl ha
    have hd := decimal_total (ba r) (by rw [ba_size]; simp only [List.length_append, List.length_cons] at hl; omega)
    simp only [F_impl_ParseMove, hc, t45, decide_eq_false h45, cond_true, cond_false, hd, IsMove_is]
    refine (step_bifs F_impl_Move_text a (a ++ 42 :: r) (decOf (ba r)).1 Move_text_is).trans ?_
    rw [mv_chk]
    rcases spl_cases 42 r with hr | ⟨b, c, rfl, hb⟩
    · rw [mvPl_two ha hr]
      by_cases h2 : r = [50]
      · subst h2
        rw [dec2]
        cases stOK a <;> rfl
      · by_cases h3 : r = [51]
        · subst h3
          rw [dec3]
          cases stOK a <;> rfl
        · simp only [decide_eq_false h2, decide_eq_false h3, Bool.and_false, Bool.or_self, cond_false]
          rfl
    · rw [mvPl_more ha hb]
      have h2 : b ++ 42 :: c ≠ [50] := fun q => by
        have : (42 : UInt8) ∈ ([50] : List UInt8) := by rw [← q]; simp
        revert this; decide
      have h3 : b ++ 42 :: c ≠ [51] := fun q => by
        have : (42 : UInt8) ∈ ([51] : List UInt8) := by rw [← q]; simp
        revert this; decide
      simp only [decide_eq_false h2, decide_eq_false h3, Bool.and_false, Bool.or_self, cond_false]
      rfl
theorem mvP_ok (x : ByteArray) : (mvP x).2 = true → mvOK (mvP x).1.1.data.toList (mvP x).1.2 = true := by
  show (mvPl x.data.toList).2 = true → mvOK (mvPl x.data.toList).1.1 (mvPl x.data.toList).1.2 = true
  generalize x.data.toList = l
  have hst : ∀ a n, stOK a = true → (decide (1 ≤ n) && decide (n ≤ 3)) = true → mvOK a n = true := fun a n hs hn => by
    unfold stOK at hs
    unfold mvOK
    simp only [Bool.and_eq_true] at hs hn ⊢
    obtain ⟨⟨h1, h2⟩, h3⟩ := hs
    exact ⟨⟨⟨h2, h3⟩, hn⟩, by rw [h1]; rfl⟩
  unfold mvPl
  split
  · split
    · intro _; rfl
    · rename_i a _ _
      cases h : stOK a with
      | false => intro q; cases q
      | true => intro _; exact hst a 1 h rfl
  · rename_i a t _
    cases h2 : stOK a && decide (t = [50]) with
    | true => intro _; exact hst a 2 (by rw [Bool.and_eq_true] at h2; exact h2.1) rfl
    | false =>
      cases h3 : stOK a && decide (t = [51]) with
      | true => intro _; exact hst a 3 (by rw [Bool.and_eq_true] at h3; exact h3.1) rfl
      | false => intro q; cases q
  · intro q; cases q
end Go.Proofs.YtklfnbckoaphpaaGreatDoor
/- Hands are read alike on both sides: plain laws. No conditions beyond the bounds that are named. -/
set_option linter.unusedVariables false
set_option linter.unusedSimpArgs false
namespace Go.Proofs.YtklfnbckoaphpaaGreatDoor
open Go
abbrev Hand := Shape × (Orient × (Place × Move))
def mvZ : Move := (ByteArray.empty, 0)
def hdZ : Hand := (shZ, (0, 0), (0, 0, false), mvZ)
/-- a hand, what is wrong in its text, and where that begins -/
def hdP (x : ByteArray) : Hand × Int × Int := match spl 47 x.data.toList with
  | [a, b, c, d] =>
    bif !(shP (ba a)).2 then (hdZ, 3, 0) else bif !(orP (ba b)).2 then (hdZ, 4, (a.length : Int) + 1)
    else bif !(plP (ba c)).2 then (hdZ, 5, (a.length : Int) + 1 + ((b.length : Int) + 1)) else bif !(mvP (ba d)).2 then (hdZ, 6, (a.length : Int) + 1 + ((b.length : Int) + 1) + ((c.length : Int) + 1))
    else (((shP (ba a)).1, (orP (ba b)).1, (plP (ba c)).1, (mvP (ba d)).1), 0, 0)
  | _ => (hdZ, 2, 0)
theorem four {α : Type} (l : List α) : (∃ a b c d, l = [a, b, c, d]) ∨ l.length ≠ 4 := by
  match l with
  | [] => exact .inr (by simp)
  | [_] => exact .inr (by simp)
  | [_, _] => exact .inr (by simp)
  | [_, _, _] => exact .inr (by simp)
  | [a, b, c, d] => exact .inl ⟨a, b, c, d, rfl⟩
  | _ :: _ :: _ :: _ :: _ :: r => exact .inr (by simp)
theorem hdP_four {l a b c d : List UInt8} (h : spl 47 l = [a, b, c, d]) : hdP (ba l) = bif !(shP (ba a)).2 then (hdZ, 3, 0) else bif !(orP (ba b)).2 then (hdZ, 4, (a.length : Int) + 1)
    else bif !(plP (ba c)).2 then (hdZ, 5, (a.length : Int) + 1 + ((b.length : Int) + 1)) else bif !(mvP (ba d)).2 then (hdZ, 6, (a.length : Int) + 1 + ((b.length : Int) + 1) + ((c.length : Int) + 1))
    else (((shP (ba a)).1, (orP (ba b)).1, (plP (ba c)).1, (mvP (ba d)).1), 0, 0) := by
  unfold hdP
  rw [ba_data, h]
theorem hdP_no {l : List UInt8} (h : (spl 47 l).length ≠ 4) : hdP (ba l) = (hdZ, 2, 0) := by
  unfold hdP
  rw [ba_data]
  split
  · rename_i e; rw [e] at h; exact absurd rfl h
  · rfl
theorem hdP_spec (x : ByteArray) (hx : x.size ≤ 1048576) : F_spec_paHand x = some (hdP x) := by
  obtain ⟨l, rfl⟩ : ∃ l, x = ba l := ⟨x.data.toList, eq_ba x⟩
  have hl : l.length ≤ 1048576 := hx
  have hsp : F_spec_l1Split (ba l, 47) = some ((spl 47 l).map ba) := l1Split_is l 47 hl
  simp only [F_spec_paHand, hsp]
  rcases four (spl 47 l) with ⟨a, b, c, d, e⟩ | hn
  · rw [hdP_four e, e]
    have hsz := spl_sizes 47 l.length l (Nat.le_refl _)
    rw [e] at hsz
    have za := (hsz a (by simp)).1
    have zb := (hsz b (by simp)).1
    have zc := (hsz c (by simp)).1
    have zd := (hsz d (by simp)).1
    have g : (((([a, b, c, d].map ba).length : Nat) : Int) != 4) = false := rfl
    have g0 : (decide (0 ≤ 0) && decide ((0 : Int) < ((([a, b, c, d].map ba).length : Nat) : Int))) = true := rfl
    have g1 : (decide (0 ≤ 1) && decide ((1 : Int) < ((([a, b, c, d].map ba).length : Nat) : Int))) = true := rfl
    have g2 : (decide (0 ≤ 2) && decide ((2 : Int) < ((([a, b, c, d].map ba).length : Nat) : Int))) = true := rfl
    have g3 : (decide (0 ≤ 3) && decide ((3 : Int) < ((([a, b, c, d].map ba).length : Nat) : Int))) = true := rfl
    have d0 : ([a, b, c, d].map ba).getD (0 : Int).toNat ByteArray.empty = ba a := rfl
    have d1 : ([a, b, c, d].map ba).getD (1 : Int).toNat ByteArray.empty = ba b := rfl
    have d2 : ([a, b, c, d].map ba).getD (2 : Int).toNat ByteArray.empty = ba c := rfl
    have d3 : ([a, b, c, d].map ba).getD (3 : Int).toNat ByteArray.empty = ba d := rfl
    have m := mvP_spec (ba d) (by rw [ba_size]; omega)
    have w1 : IntKind.i64.wrap (((ba a).size : Int) + 1) = (a.length : Int) + 1 := wrap_id (by rw [ba_size]; omega) (by rw [ba_size]; omega)
    have w2 : IntKind.i64.wrap (0 + ((a.length : Int) + 1)) = (a.length : Int) + 1 := by rw [Int.zero_add]; exact wrap_id (by omega) (by omega)
    have w3 : IntKind.i64.wrap (((ba b).size : Int) + 1) = (b.length : Int) + 1 := wrap_id (by rw [ba_size]; omega) (by rw [ba_size]; omega)
    have w4 : IntKind.i64.wrap ((a.length : Int) + 1 + ((b.length : Int) + 1)) = (a.length : Int) + 1 + ((b.length : Int) + 1) := wrap_id (by omega) (by omega)
    have w5 : IntKind.i64.wrap (((ba c).size : Int) + 1) = (c.length : Int) + 1 := wrap_id (by rw [ba_size]; omega) (by rw [ba_size]; omega)
    have w6 : IntKind.i64.wrap ((a.length : Int) + 1 + ((b.length : Int) + 1) + ((c.length : Int) + 1)) = (a.length : Int) + 1 + ((b.length : Int) + 1) + ((c.length : Int) + 1) := wrap_id (by omega) (by omega)
    simp only [g, g0, g1, g2, g3, d0, d1, d2, d3, cond_true, cond_false, shP_spec, orP_spec, plP_spec, m, w1, w2, w3, w4, w5, w6]
    cases (shP (ba a)).2 <;> cases (orP (ba b)).2 <;> cases (plP (ba c)).2 <;> cases (mvP (ba d)).2 <;> rfl
  · rw [hdP_no hn]
    have g : (((((spl 47 l).map ba).length : Nat) : Int) != 4) = true := by rw [List.length_map, bne_iff_ne]; omega
    simp only [g, cond_true]
    rfl
abbrev RhR := Int × Int × Int × Int × Int × Bool × Int × Int × Int × Int × Bool × ByteArray × Int
theorem rh_loop (a b c d : List UInt8) (ha : a.length ≤ 1048576) (hb : b.length ≤ 1048576) (hc : c.length ≤ 1048576) (hd : d.length ≤ 1048576) (s o p k : Bool)
    (r1 r2 r3 r4 r5 : Int) (r6 : Bool) (r7 r8 r9 r10 : Int) (r11 : Bool) (r12 : ByteArray) (r13 : Int) (Z : RhR) :
    runL step_impl_readHand_0 ([ba a, ba b, ba c, ba d], (0, (s, (o, p, k)), (0, r1, (r2, r3, (r4, r5, (r6, r7, (r8, r9, (r10, r11, (r12, r13, Z))))))))) =
    some (bif !s then .inl (3, 0, (0, 0, (0, 0, (0, false, (0, 0, (0, 0, (false, ByteArray.empty, 0)))))))
      else bif !o then .inl (4, (a.length : Int) + 1, (0, 0, (0, 0, (0, false, (0, 0, (0, 0, (false, ByteArray.empty, 0)))))))
      else bif !p then .inl (5, (a.length : Int) + 1 + ((b.length : Int) + 1), (0, 0, (0, 0, (0, false, (0, 0, (0, 0, (false, ByteArray.empty, 0)))))))
      else bif !k then .inl (6, (a.length : Int) + 1 + ((b.length : Int) + 1) + ((c.length : Int) + 1), (0, 0, (0, 0, (0, false, (0, 0, (0, 0, (false, ByteArray.empty, 0)))))))
      else .inr (r1, (r2, r3, (r4, r5, (r6, r7, (r8, r9, (r10, r11, (r12, r13, Z)))))))) := by
  have w1 : IntKind.i64.wrap (((ba a).size : Int) + 1) = (a.length : Int) + 1 := wrap_id (by rw [ba_size]; omega) (by rw [ba_size]; omega)
  have w2 : IntKind.i64.wrap (0 + ((a.length : Int) + 1)) = (a.length : Int) + 1 := by rw [Int.zero_add]; exact wrap_id (by omega) (by omega)
  have w3 : IntKind.i64.wrap (((ba b).size : Int) + 1) = (b.length : Int) + 1 := wrap_id (by rw [ba_size]; omega) (by rw [ba_size]; omega)
  have w4 : IntKind.i64.wrap ((a.length : Int) + 1 + ((b.length : Int) + 1)) = (a.length : Int) + 1 + ((b.length : Int) + 1) := wrap_id (by omega) (by omega)
  have w5 : IntKind.i64.wrap (((ba c).size : Int) + 1) = (c.length : Int) + 1 := wrap_id (by rw [ba_size]; omega) (by rw [ba_size]; omega)
  have w6 : IntKind.i64.wrap ((a.length : Int) + 1 + ((b.length : Int) + 1) + ((c.length : Int) + 1)) = (a.length : Int) + 1 + ((b.length : Int) + 1) + ((c.length : Int) + 1) := wrap_id (by omega) (by omega)
  have w7 : IntKind.i64.wrap (((ba d).size : Int) + 1) = (d.length : Int) + 1 := wrap_id (by rw [ba_size]; omega) (by rw [ba_size]; omega)
  generalize hR : (r1, (r2, r3, (r4, r5, (r6, r7, (r8, r9, (r10, r11, (r12, r13, Z))))))) = R
  clear hR
  have e0 : step_impl_readHand_0 ([ba a, ba b, ba c, ba d], (0, (s, (o, p, k)), (0, R))) = bif !s then some (.inr (.inl (3, 0, (0, 0, (0, 0, (0, false, (0, 0, (0, 0, (false, ByteArray.empty, 0))))))))) else some (.inl ([ba a, ba b, ba c, ba d], (IntKind.i64.wrap (0 + IntKind.i64.wrap (((ba a).size : Int) + 1)), (s, (o, p, k)), (1, R)))) := rfl
  have e1 : ∀ at_ : Int, step_impl_readHand_0 ([ba a, ba b, ba c, ba d], (at_, (s, (o, p, k)), (1, R))) = bif !o then some (.inr (.inl (4, at_, (0, 0, (0, 0, (0, false, (0, 0, (0, 0, (false, ByteArray.empty, 0))))))))) else some (.inl ([ba a, ba b, ba c, ba d], (IntKind.i64.wrap (at_ + IntKind.i64.wrap (((ba b).size : Int) + 1)), (s, (o, p, k)), (2, R)))) := fun _ => rfl
  have e2 : ∀ at_ : Int, step_impl_readHand_0 ([ba a, ba b, ba c, ba d], (at_, (s, (o, p, k)), (2, R))) = bif !p then some (.inr (.inl (5, at_, (0, 0, (0, 0, (0, false, (0, 0, (0, 0, (false, ByteArray.empty, 0))))))))) else some (.inl ([ba a, ba b, ba c, ba d], (IntKind.i64.wrap (at_ + IntKind.i64.wrap (((ba c).size : Int) + 1)), (s, (o, p, k)), (3, R)))) := fun _ => rfl
  have e3 : ∀ at_ : Int, step_impl_readHand_0 ([ba a, ba b, ba c, ba d], (at_, (s, (o, p, k)), (3, R))) = bif !k then some (.inr (.inl (6, at_, (0, 0, (0, 0, (0, false, (0, 0, (0, 0, (false, ByteArray.empty, 0))))))))) else some (.inl ([ba a, ba b, ba c, ba d], (IntKind.i64.wrap (at_ + IntKind.i64.wrap (((ba d).size : Int) + 1)), (s, (o, p, k)), (4, R)))) := fun _ => rfl
  have e4 : ∀ at_ : Int, step_impl_readHand_0 ([ba a, ba b, ba c, ba d], (at_, (s, (o, p, k)), (4, R))) = some (.inr (.inr R)) := fun _ => rfl
  rw [w1, w2] at e0
  rw [runL_eq, e0]
  cases s with
  | false => rfl
  | true =>
    have f1 := e1 ((a.length : Int) + 1)
    rw [w3, w4] at f1
    show runL _ _ = _
    rw [runL_eq, f1]
    cases o with
    | false => rfl
    | true =>
      have f2 := e2 ((a.length : Int) + 1 + ((b.length : Int) + 1))
      rw [w5, w6] at f2
      show runL _ _ = _
      rw [runL_eq, f2]
      cases p with
      | false => rfl
      | true =>
        have f3 := e3 ((a.length : Int) + 1 + ((b.length : Int) + 1) + ((c.length : Int) + 1))
        show runL _ _ = _
        rw [runL_eq, f3]
        cases k with
        | false => rfl
        | true =>
          show runL _ _ = _
          rw [runL_eq, e4]
          rfl
theorem hdP_impl (x : ByteArray) (hx : x.size ≤ 1048576) : F_impl_readHand x = some (hdP x) := by
  obtain ⟨l, rfl⟩ : ∃ l, x = ba l := ⟨x.data.toList, eq_ba x⟩
  have hl : l.length ≤ 1048576 := hx
  have hsp : F_strings_Split (ba l, (⟨#[47]⟩ : ByteArray)) = some ((spl 47 l).map ba) := Split_is l 47 hl
  simp only [F_impl_readHand, hsp]
  rcases four (spl 47 l) with ⟨a, b, c, d, e⟩ | hn
  · rw [hdP_four e, e]
    have hsz := spl_sizes 47 l.length l (Nat.le_refl _)
    rw [e] at hsz
    have za := (hsz a (by simp)).1
    have zb := (hsz b (by simp)).1
    have zc := (hsz c (by simp)).1
    have zd := (hsz d (by simp)).1
    have g : (((([a, b, c, d].map ba).length : Nat) : Int) != 4) = false := rfl
    have g0 : (decide (0 ≤ 0) && decide ((0 : Int) < ((([a, b, c, d].map ba).length : Nat) : Int))) = true := rfl
    have g1 : (decide (0 ≤ 1) && decide ((1 : Int) < ((([a, b, c, d].map ba).length : Nat) : Int))) = true := rfl
    have g2 : (decide (0 ≤ 2) && decide ((2 : Int) < ((([a, b, c, d].map ba).length : Nat) : Int))) = true := rfl
    have g3 : (decide (0 ≤ 3) && decide ((3 : Int) < ((([a, b, c, d].map ba).length : Nat) : Int))) = true := rfl
    have d0 : ([a, b, c, d].map ba).getD (0 : Int).toNat ByteArray.empty = ba a := rfl
    have d1 : ([a, b, c, d].map ba).getD (1 : Int).toNat ByteArray.empty = ba b := rfl
    have d2 : ([a, b, c, d].map ba).getD (2 : Int).toNat ByteArray.empty = ba c := rfl
    have d3 : ([a, b, c, d].map ba).getD (3 : Int).toNat ByteArray.empty = ba d := rfl
    have m := mvP_impl (ba d) (by rw [ba_size]; omega)
    simp only [g, g0, g1, g2, g3, d0, d1, d2, d3, cond_true, cond_false, shP_impl, orP_impl, plP_impl, m]
    generalize shP (ba a) = S
    generalize orP (ba b) = O
    generalize plP (ba c) = P
    generalize mvP (ba d) = M
    obtain ⟨⟨t, f1, f2, f3, f4, sp⟩, s⟩ := S
    obtain ⟨⟨o1, o2⟩, o⟩ := O
    obtain ⟨⟨p1, p2, p3⟩, p⟩ := P
    obtain ⟨⟨m1, m2⟩, k⟩ := M
    simp only
    simp only [List.map_cons, List.map_nil]
    rw [rh_loop a b c d (by omega) (by omega) (by omega) (by omega)]
    cases s <;> cases o <;> cases p <;> cases k <;> rfl
  · rw [hdP_no hn]
    have g : (((((spl 47 l).map ba).length : Nat) : Int) != 4) = true := by rw [List.length_map, bne_iff_ne]; omega
    simp only [g, cond_true]
    rfl
end Go.Proofs.YtklfnbckoaphpaaGreatDoor
/- The rules for two hands, on both sides: plain laws. No conditions beyond the bounds that are named. -/
set_option linter.unusedVariables false
set_option linter.unusedSimpArgs false
namespace Go.Proofs.YtklfnbckoaphpaaGreatDoor
open Go
def shEqB (s t : Shape) : Bool := (s.1 == t.1) && ((s.2.1 == t.2.1) && ((s.2.2.1 == t.2.2.1) && ((s.2.2.2.1 == t.2.2.2.1) && ((s.2.2.2.2.1 == t.2.2.2.2.1) && ((s.2.2.2.2.2 == t.2.2.2.2.2) && true)))))
theorem shEqB_is (s t : Shape) : shEqB s t = decide (s = t) := by
  obtain ⟨a, b, c, d, e, f⟩ := s
  obtain ⟨a', b', c', d', e', f'⟩ := t
  rw [Bool.eq_iff_iff]
  simp only [shEqB, Bool.and_true, Bool.and_eq_true, beq_iff_eq, decide_eq_true_eq, Prod.mk.injEq]
def orEqB (s t : Orient) : Bool := (s.1 == t.1) && ((s.2 == t.2) && true)
theorem orEqB_is (s t : Orient) : orEqB s t = decide (s = t) := by
  obtain ⟨a, b⟩ := s
  obtain ⟨a', b'⟩ := t
  rw [Bool.eq_iff_iff]
  simp only [orEqB, Bool.and_true, Bool.and_eq_true, beq_iff_eq, decide_eq_true_eq, Prod.mk.injEq]

/-! ### Plain shapes -/
def plainT : List ByteArray := [(⟨#[48, 48, 48, 48, 48]⟩ : ByteArray), (⟨#[48, 48, 48, 48, 48, 115]⟩ : ByteArray), (⟨#[50, 50, 50, 50, 50]⟩ : ByteArray), (⟨#[49, 48, 48, 48, 48]⟩ : ByteArray), (⟨#[49, 48, 50, 50, 50]⟩ : ByteArray), (⟨#[48, 48, 50, 50, 50]⟩ : ByteArray)]
def plainL : List Shape := plainT.map fun t => (shP t).1
theorem siPlain_is : F_spec_siPlain () = some plainL := by
  have t := runL_traj (f := step_spec_siPlain_0) (fun i => ((plainT.length : Int), ((i : Int), plainT, (plainT.take i).map fun t => (shP t).1))) plainL plainT.length (fun i hi => by
    have hw := wrap_succ (i := i) (by have : plainT.length = 6 := rfl; omega)
    have g : decide ((((plainT.take i).map fun t => (shP t).1).length + [(shP (plainT.getD i ByteArray.empty)).1].length) * 48 ≤ 140737488355328) = true := decide_eq_true (by have : plainT.length = 6 := rfl; simp; omega)
    simp only [step_spec_siPlain_0, lt_len hi, nonneg, Bool.and_self, cond_true, Int.toNat_natCast, shP_spec, g, hw, take_succ_getD hi ByteArray.empty, List.map_append, List.map_cons, List.map_nil]) (by simp only [step_spec_siPlain_0, not_lt_len, cond_false, List.take_length]; rfl)
  have t' : runL step_spec_siPlain_0 ((plainT.length : Int), (0, plainT, [])) = some plainL := t
  exact congrArg (fun z => match z with | none => none | some o9 => some o9) t'
theorem PlainShapes_is : F_impl_PlainShapes () = some plainL := by
  have t := runL_traj (f := step_impl_PlainShapes_0) (fun i => ((plainT.length : Int), ((i : Int), plainT, (plainT.take i).map fun t => (shP t).1))) plainL plainT.length (fun i hi => by
    have hw := wrap_succ (i := i) (by have : plainT.length = 6 := rfl; omega)
    have g : decide ((((plainT.take i).map fun t => (shP t).1).length + [(shP (plainT.getD i ByteArray.empty)).1].length) * 48 ≤ 140737488355328) = true := decide_eq_true (by have : plainT.length = 6 := rfl; simp; omega)
    simp only [step_impl_PlainShapes_0, lt_len hi, nonneg, Bool.and_self, cond_true, Int.toNat_natCast, shP_impl, g, hw, take_succ_getD hi ByteArray.empty, List.map_append, List.map_cons, List.map_nil]) (by simp only [step_impl_PlainShapes_0, not_lt_len, cond_false, List.take_length]; rfl)
  have t' : runL step_impl_PlainShapes_0 ((plainT.length : Int), (0, plainT, [])) = some plainL := t
  exact congrArg (fun z => match z with | none => none | some o9 => some o9) t'
def plainHas (o : Shape) : Bool := plainL.any fun s => decide (s = o)
theorem broken_loop (l : List Shape) (hl : l.length ≤ 1000) (o : Shape) (r1 r2 r3 r4 : Int) (r5 : Bool) (r6 : ByteArray) (r7 : Int) :
    runL step_spec_siBroken_0 ((l.length : Int), 0, (l, o.1, (o.2.1, o.2.2.1, (o.2.2.2.1, o.2.2.2.2.1, (o.2.2.2.2.2, r1, (r2, r3, (r4, r5, (r6, r7)))))))) = some (bif l.any (fun s => decide (s = o)) then .inl 0 else .inr ()) := by
  have t := runL_all (f := step_spec_siBroken_0) (fun i => !decide (l.getD i shZ = o)) (fun i => ((l.length : Int), (i : Int), (l, o.1, (o.2.1, o.2.2.1, (o.2.2.2.1, o.2.2.2.2.1, (o.2.2.2.2.2, r1, (r2, r3, (r4, r5, (r6, r7))))))))) (.inl 0) (.inr ()) l.length (fun i hi => by
    have hw := wrap_succ (i := i) (by omega)
    have he := shEqB_is (l.getD i (0, (0, 0, (0, 0, false)))) o
    unfold shEqB at he
    simp only [step_spec_siBroken_0, lt_len hi, nonneg, Bool.and_self, cond_true, Int.toNat_natCast, hw, he]
    show (bif decide (l.getD i shZ = o) then _ else _) = _
    cases decide (l.getD i shZ = o) <;> rfl) (by simp only [step_spec_siBroken_0, not_lt_len, cond_false])
  have t' : runL step_spec_siBroken_0 ((l.length : Int), 0, (l, o.1, (o.2.1, o.2.2.1, (o.2.2.2.1, o.2.2.2.2.1, (o.2.2.2.2.2, r1, (r2, r3, (r4, r5, (r6, r7)))))))) = _ := t
  rw [t', allN_all (fun s : Shape => !decide (s = o)) shZ l, List.any_eq_not_all_not]
  cases l.all _ <;> rfl
theorem Contains_is (l : List Shape) (hl : l.length ≤ 1000) (o : Shape) : F_slices_Contains_impl_Shape_impl_Shape (l, o) = some (l.any fun s => decide (s = o)) := by
  rcases runL_first (f := step_slices_Index_impl_Shape_impl_Shape_0) (fun i => !decide (l.getD i shZ = o)) (fun i => (l, ((l.length : Int), (i : Int), o))) (fun i => .inl (i : Int)) (.inr ()) l.length (fun i hi => by
    have hw := wrap_succ (i := i) (by omega)
    have he := shEqB_is o (l.getD i (0, (0, 0, (0, 0, false))))
    unfold shEqB at he
    have hs : decide (o = l.getD i (0, (0, 0, (0, 0, false)))) = decide (l.getD i shZ = o) := by
      show decide (o = l.getD i shZ) = _
      by_cases q : l.getD i shZ = o
      · rw [decide_eq_true q, decide_eq_true q.symm]
      · rw [decide_eq_false q, decide_eq_false (fun z => q z.symm)]
    simp only [step_slices_Index_impl_Shape_impl_Shape_0, lt_len hi, nonneg, Bool.and_self, cond_true, Int.toNat_natCast, hw, he, hs]
    cases decide (l.getD i shZ = o) <;> rfl) (by simp only [step_slices_Index_impl_Shape_impl_Shape_0, not_lt_len, cond_false]) with ⟨t, hp⟩ | ⟨i, hi, hp, hj, t⟩
  · have t' : runL step_slices_Index_impl_Shape_impl_Shape_0 (l, ((l.length : Int), 0, o)) = _ := t
    simp only [F_slices_Contains_impl_Shape_impl_Shape, F_slices_Index_impl_Shape_impl_Shape, t']
    have : (l.any fun s => decide (s = o)) = false := by
      rw [List.any_eq_false]
      intro x hx
      obtain ⟨i, hi, rfl⟩ := List.mem_iff_getElem.1 hx
      have := hp i hi
      rw [List.getD, List.getElem?_eq_getElem hi] at this
      simpa using this
    rw [this]; rfl
  · have t' : runL step_slices_Index_impl_Shape_impl_Shape_0 (l, ((l.length : Int), 0, o)) = _ := t
    simp only [F_slices_Contains_impl_Shape_impl_Shape, F_slices_Index_impl_Shape_impl_Shape, t']
    have : (l.any fun s => decide (s = o)) = true := List.any_eq_true.2 ⟨_, getD_mem hi shZ, by simpa using hp⟩
    rw [this, decide_eq_true (show (i : Int) ≥ 0 by omega)]

/-! ### All steps -/
theorem mvAll_is (l : List UInt8) (r : Int) (hl : l.length ≤ 6) (h1 : 1 ≤ r) (h3 : r ≤ 3) : F_spec_mvAll (ba l, r) = some (ba (Lib.repeatL l r.toNat)) := by
  obtain ⟨n, rfl⟩ : ∃ n : Nat, r = (n : Int) := ⟨r.toNat, by omega⟩
  have t := runL_traj (f := step_spec_mvTimes_0) (fun i => (ba l, ((n : Int) - (i : Int)), ba (Lib.repeatL l i))) (ba (Lib.repeatL l n)) n (fun i hi => by
    have g : decide ((n : Int) - (i : Int) > 0) = true := decide_eq_true (by omega)
    have hw : IntKind.i64.wrap ((n : Int) - (i : Int) - 1) = (n : Int) - ((i + 1 : Nat) : Int) := by rw [wrap_id (by omega) (by omega)]; omega
    have hz := Lib.repeatL_length l i
    have hm : i * l.length ≤ 3 * 6 := Nat.mul_le_mul (by omega) hl
    have g2 : decide ((ba (Lib.repeatL l i)).size + (ba l).size ≤ 9223372036854775807) = true := decide_eq_true (by rw [ba_size, ba_size]; omega)
    have hr : Lib.repeatL l (i + 1) = Lib.repeatL l i ++ l := by rw [Lib.repeatL_add, Lib.repeatL_one]
    simp only [step_spec_mvTimes_0, g, cond_true, g2, hw, ba_app, hr]) (by
      have g : decide ((n : Int) - (n : Int) > 0) = false := decide_eq_false (by omega)
      simp only [step_spec_mvTimes_0, g, cond_false])
  have t' : runL step_spec_mvTimes_0 (ba l, (n : Int), (⟨#[]⟩ : ByteArray)) = some (ba (Lib.repeatL l n)) := by
    have e : ((n : Int) - ((0 : Nat) : Int)) = (n : Int) := by omega
    rw [e] at t; exact t
  simp only [F_spec_mvAll, F_spec_mvTimes, t', Int.toNat_natCast]
theorem Move_all_is (l : List UInt8) (r : Int) (hl : l.length ≤ 6) (h1 : 1 ≤ r) (h3 : r ≤ 3) : F_impl_Move_all (ba l, r) = some (ba (Lib.repeatL l r.toNat)) := by
  have g : (decide (0 ≤ r) && decide (r ≤ 1024) && decide ((ba l).size ≤ 1048576)) = true := by
    rw [decide_eq_true (by omega), decide_eq_true (by omega), decide_eq_true (by rw [ba_size]; omega)]; rfl
  simp only [F_impl_Move_all, F_strings_Repeat_is, g, cond_true]
  rfl
theorem mvMirror_is (l : List UInt8) (r : Int) (hl : l.length ≤ 1048576) : F_spec_mvMirror (ba l, r) = some (ba (l.map rpByte), r) := by
  have t := runL_traj (f := step_spec_mvMirror_0) (fun i => (ba ((l.take i).map rpByte), ((i : Int), (ByteArray.empty, (0 : Int), (ba l, r))))) (ba (l.map rpByte), (ByteArray.empty, (0 : Int), (ba l, r))) l.length (fun i hi => by
    have hw := wrap_succ (i := i) (by omega)
    have g : decide ((i : Int) < ((ba l).size : Int)) = true := lt_len (by rw [ba_size]; exact hi)
    have hz : ((l.take i).map rpByte).length = i := by simp; omega
    have gs : ∀ b : UInt8, decide ((ba ((l.take i).map rpByte)).size + (ba [b]).size ≤ 9223372036854775807) = true := fun b => decide_eq_true (by rw [ba_size, ba_size, hz]; simp; omega)
    have hs : (l.take (i + 1)).map rpByte = (l.take i).map rpByte ++ [rpByte (l.getD i 0)] := by rw [take_succ_getD hi 0, List.map_append]; rfl
    have hb : byteAt (ba l) i = ((l.getD i 0).toNat : Int) := ba_byteAt l i
    simp only [step_spec_mvMirror_0, g, nonneg, Bool.and_self, cond_true, Int.toNat_natCast, hw, hb, hs]
    have e8 : ((((l.getD i 0).toNat : Nat) : Int) == 108) = decide (l.getD i 0 = 108) := byte_beq _ 108
    have e4 : ((((l.getD i 0).toNat : Nat) : Int) == 114) = decide (l.getD i 0 = 114) := byte_beq _ 114
    rw [e8, e4]
    by_cases h8 : l.getD i 0 = 108
    · have g1 := gs 114
      have g1' : decide ((ba ((l.take i).map rpByte)).size + (⟨#[114]⟩ : ByteArray).size ≤ 9223372036854775807) = true := g1
      rw [decide_eq_true h8, g1', h8]
      show some (Sum.inl (ba ((l.take i).map rpByte) ++ ba [114], _)) = _
      rw [ba_app]; rfl
    · rw [decide_eq_false h8]
      by_cases h4 : l.getD i 0 = 114
      · have g1 := gs 108
        have g1' : decide ((ba ((l.take i).map rpByte)).size + (⟨#[108]⟩ : ByteArray).size ≤ 9223372036854775807) = true := g1
        rw [decide_eq_true h4, g1', h4]
        show some (Sum.inl (ba ((l.take i).map rpByte) ++ ba [108], _)) = _
        rw [ba_app]; rfl
      · have hx : (ba l).extract i (i + 1) = ba [l.getD i 0] := by
          rw [ba_extract, show i + 1 - i = 1 by omega, List.drop_eq_getElem_cons hi]
          rw [List.getD, List.getElem?_eq_getElem hi]; rfl
        have hr : rpByte (l.getD i 0) = l.getD i 0 := by unfold rpByte; rw [if_neg h8, if_neg h4]
        have g3 : (decide ((i : Int) ≤ ((i + 1 : Nat) : Int)) && decide (((i + 1 : Nat) : Int) ≤ ((ba l).size : Int))) = true := by
          rw [decide_eq_true (by omega), decide_eq_true (by rw [ba_size]; omega)]; rfl
        rw [decide_eq_false h4, hr]
        simp only [cond_false, Bool.true_and, g3, cond_true, Int.toNat_natCast, hx, gs, ba_app]) (by
      have g : decide (((l.length : Nat) : Int) < ((ba l).size : Int)) = false := by rw [ba_size]; exact not_lt_len _
      simp only [step_spec_mvMirror_0, g, cond_false, List.take_length])
  have t' : runL step_spec_mvMirror_0 ((⟨#[]⟩ : ByteArray), (0, (ByteArray.empty, (0 : Int), (ba l, r)))) = _ := t
  simp only [F_spec_mvMirror, t']
theorem mirrored_is (l : List UInt8) (r : Int) (hl : l.length ≤ 1048576) : F_impl_Move_mirrored (ba l, r) = some (ba (l.map rpByte), r) := by
  rw [F_impl_Move_mirrored_is, show (ba l, r).1 = ba l from rfl, decide_eq_true (show (ba l).size ≤ 9223372036854775806 by rw [ba_size]; omega)]
  rfl

/-! ### The rules -/
def keepL (ms os : Shape) (mo oo : Orient) (a b : List UInt8) (mr orr : Int) : Bool :=
  bif decide (b = []) then decide (ms = os) || plainHas os
  else !decide (a = []) && (decide (ms = os) && ((decide (mo = oo) || decide (mo = orMir oo)) &&
    (decide (Lib.repeatL a mr.toNat = Lib.repeatL b orr.toNat) || decide (Lib.repeatL (a.map rpByte) mr.toNat = Lib.repeatL b orr.toNat))))
def keep (m o : Hand) : Bool := keepL m.1 o.1 m.2.1 o.2.1 m.2.2.2.1.data.toList o.2.2.2.1.data.toList m.2.2.2.2 o.2.2.2.2
def mvW (m : Move) : Prop := m.1.data.toList.length ≤ 6 ∧ 1 ≤ m.2 ∧ m.2 ≤ 3
theorem decide_comm' {α : Type} [DecidableEq α] (a b : α) : decide (a = b) = decide (b = a) := by
  by_cases h : a = b
  · rw [decide_eq_true h, decide_eq_true h.symm]
  · rw [decide_eq_false h, decide_eq_false (fun q => h q.symm)]
theorem orMir_flip (a b : Orient) : decide (a = orMir b) = decide (b = orMir a) := by
  by_cases h : a = orMir b
  · rw [decide_eq_true h, decide_eq_true (by rw [h, orMir_mir])]
  · rw [decide_eq_false h, decide_eq_false (fun q => h (by rw [q, orMir_mir]))]
theorem keep_spec (m o : Hand) (hm : mvW m.2.2.2) (ho : mvW o.2.2.2) : ∃ n, F_spec_siBroken (m, o) = some n ∧ (n != 0) = !keep m o := by
  obtain ⟨ms, mo, mp, mb, mr⟩ := m
  obtain ⟨os, oo, op, ob, orr⟩ := o
  obtain ⟨a, rfl⟩ : ∃ a, mb = ba a := ⟨mb.data.toList, eq_ba mb⟩
  obtain ⟨b, rfl⟩ : ∃ b, ob = ba b := ⟨ob.data.toList, eq_ba ob⟩
  obtain ⟨ha, h1, h3⟩ := hm
  obtain ⟨hb, k1, k3⟩ := ho
  simp only [ba_data] at ha hb h1 h3 k1 k3
  have es := shEqB_is ms os
  have eo := orEqB_is mo oo
  have eo2 := orEqB_is mo (orMir oo)
  unfold shEqB at es
  unfold orEqB at eo eo2
  have lp := broken_loop plainL (by show plainL.length ≤ 1000; decide) os oo.1 oo.2 op.1 op.2.1 op.2.2 (ba b) orr
  have A1 := mvAll_is a mr ha h1 h3
  have A2 := mvAll_is b orr hb k1 k3
  have A3 := mvMirror_is a mr (by omega)
  have A4 := mvAll_is (a.map rpByte) mr (by simpa using ha) h1 h3
  have ek : keep (ms, mo, mp, ba a, mr) (os, oo, op, ba b, orr) = keepL ms os mo oo a b mr orr := rfl
  rw [ek]
  simp only [F_spec_siBroken, mt_nil, es, keepL]
  cases hbn : decide (b = []) with
  | true =>
    simp only [cond_true]
    cases decide (ms = os) with
    | true => exact ⟨0, rfl, rfl⟩
    | false =>
      simp only [cond_false, siPlain_is, lp, Bool.false_or, plainHas]
      cases plainL.any _ with
      | true => exact ⟨0, rfl, rfl⟩
      | false => exact ⟨4, rfl, rfl⟩
  | false =>
    simp only [cond_false]
    cases han : decide (a = []) with
    | true => exact ⟨3, rfl, rfl⟩
    | false =>
      simp only [cond_false, Bool.not_false, Bool.true_and]
      cases decide (ms = os) with
      | false => exact ⟨1, rfl, rfl⟩
      | true =>
        simp only [Bool.not_true, cond_false, Bool.true_and, eo, orMirror_is, eo2, A1, A2, A3, A4, tt]
        cases decide (mo = oo) <;> cases decide (mo = orMir oo) <;> cases decide (Lib.repeatL a mr.toNat = Lib.repeatL b orr.toNat) <;> cases decide (Lib.repeatL (a.map rpByte) mr.toNat = Lib.repeatL b orr.toNat) <;>
          first | exact ⟨0, rfl, rfl⟩ | exact ⟨2, rfl, rfl⟩ | exact ⟨3, rfl, rfl⟩
theorem keep_impl (m o : Hand) (hm : mvW m.2.2.2) (ho : mvW o.2.2.2) : F_impl_keepRules (m, o) = some (keep m o) := by
  obtain ⟨ms, mo, mp, mb, mr⟩ := m
  obtain ⟨os, oo, op, ob, orr⟩ := o
  obtain ⟨a, rfl⟩ : ∃ a, mb = ba a := ⟨mb.data.toList, eq_ba mb⟩
  obtain ⟨b, rfl⟩ : ∃ b, ob = ba b := ⟨ob.data.toList, eq_ba ob⟩
  obtain ⟨ha, h1, h3⟩ := hm
  obtain ⟨hb, k1, k3⟩ := ho
  simp only [ba_data] at ha hb h1 h3 k1 k3
  have es := shEqB_is os ms
  have es2 := shEqB_is ms os
  have eo := orEqB_is oo mo
  have eo2 := orEqB_is oo (orMir mo)
  unfold shEqB at es es2
  unfold orEqB at eo eo2
  rw [decide_comm' os ms] at es
  rw [decide_comm' oo mo] at eo
  rw [← orMir_flip mo oo] at eo2
  have lp := Contains_is plainL (by show plainL.length ≤ 1000; decide) os
  have A1 := Move_all_is a mr ha h1 h3
  have A2 := Move_all_is b orr hb k1 k3
  have A3 := mirrored_is a mr (by omega)
  have A4 := Move_all_is (a.map rpByte) mr (by simpa using ha) h1 h3
  have c1 := decide_comm' (Lib.repeatL b orr.toNat) (Lib.repeatL a mr.toNat)
  have c2 := decide_comm' (Lib.repeatL b orr.toNat) (Lib.repeatL (a.map rpByte) mr.toNat)
  have ek : keep (ms, mo, mp, ba a, mr) (os, oo, op, ba b, orr) = keepL ms os mo oo a b mr orr := rfl
  rw [ek]
  simp only [F_impl_keepRules, F_impl_Hand_moves, mt_nil, es, es2, keepL]
  cases hbn : decide (b = []) with
  | true =>
    simp only [cond_true, Bool.not_true, Bool.not_false]
    cases decide (ms = os) with
    | true => rfl
    | false => simp only [cond_false, PlainShapes_is, lp, Bool.false_or, plainHas]
  | false =>
    simp only [cond_false, Bool.not_false, Bool.not_true, eo, Orient_mirrored_is, eo2, A1, A2, A3, A4, tt, c1, c2]
    cases decide (a = []) <;> cases decide (ms = os) <;> cases decide (mo = oo) <;> cases decide (mo = orMir oo) <;> cases decide (Lib.repeatL a mr.toNat = Lib.repeatL b orr.toNat) <;> cases decide (Lib.repeatL (a.map rpByte) mr.toNat = Lib.repeatL b orr.toNat) <;> rfl
end Go.Proofs.YtklfnbckoaphpaaGreatDoor
/- Signs are read alike on both sides: plain laws. No conditions beyond the bounds that are named. -/
set_option linter.unusedVariables false
set_option linter.unusedSimpArgs false
namespace Go.Proofs.YtklfnbckoaphpaaGreatDoor
open Go
abbrev Sign := Hand × (Bool × Hand)
def sgZ : Sign := (hdZ, false, hdZ)
theorem hdP_w {x : ByteArray} (h : (hdP x).2.1 = 0) : mvW (hdP x).1.2.2.2 := by
  obtain ⟨l, rfl⟩ : ∃ l, x = ba l := ⟨x.data.toList, eq_ba x⟩
  rcases four (spl 47 l) with ⟨a, b, c, d, e⟩ | hn
  · have hm := mvP_ok (ba d)
    rw [hdP_four e] at h ⊢
    revert h
    cases (shP (ba a)).2 with
    | false => intro h; exact absurd (show (3 : Int) = 0 from h) (by decide)
    | true =>
      cases (orP (ba b)).2 with
      | false => intro h; exact absurd (show (4 : Int) = 0 from h) (by decide)
      | true =>
        cases (plP (ba c)).2 with
        | false => intro h; exact absurd (show (5 : Int) = 0 from h) (by decide)
        | true =>
          cases hk : (mvP (ba d)).2 with
          | false => intro h; exact absurd (show (6 : Int) = 0 from h) (by decide)
          | true =>
            intro _
            obtain ⟨q1, _, q3, _⟩ := mvOK_parts (hm hk)
            exact ⟨q1, q3⟩
  · rw [hdP_no hn] at h
    exact absurd h (by decide)
/-- a sign, what is wrong in its text, and where that begins -/
def sgP (x : ByteArray) : Sign × Int × Int := match spl 43 x.data.toList with
  | [a] => bif (hdP (ba a)).2.1 != 0 then (sgZ, (hdP (ba a)).2) else (((hdP (ba a)).1, false, hdZ), 0, 0)
  | [a, b] => bif (hdP (ba a)).2.1 != 0 then (sgZ, (hdP (ba a)).2) else bif (hdP (ba b)).2.1 != 0 then (sgZ, (hdP (ba b)).2.1, (a.length : Int) + 1 + (hdP (ba b)).2.2)
    else bif !keep (hdP (ba a)).1 (hdP (ba b)).1 then (sgZ, 7, (a.length : Int) + 1) else (((hdP (ba a)).1, true, (hdP (ba b)).1), 0, 0)
  | _ => (sgZ, 1, 0)
theorem sgP_one {l : List UInt8} (h : 43 ∉ l) : sgP (ba l) = bif (hdP (ba l)).2.1 != 0 then (sgZ, (hdP (ba l)).2) else (((hdP (ba l)).1, false, hdZ), 0, 0) := by
  unfold sgP; rw [ba_data, spl_none 43 l h]
theorem sgP_two {a b : List UInt8} (ha : 43 ∉ a) (hb : 43 ∉ b) : sgP (ba (a ++ 43 :: b)) = bif (hdP (ba a)).2.1 != 0 then (sgZ, (hdP (ba a)).2) else bif (hdP (ba b)).2.1 != 0 then (sgZ, (hdP (ba b)).2.1, (a.length : Int) + 1 + (hdP (ba b)).2.2)
    else bif !keep (hdP (ba a)).1 (hdP (ba b)).1 then (sgZ, 7, (a.length : Int) + 1) else (((hdP (ba a)).1, true, (hdP (ba b)).1), 0, 0) := by
  unfold sgP; rw [ba_data, spl_cons 43 a b ha, spl_none 43 b hb]
theorem sgP_more {a b c : List UInt8} (ha : 43 ∉ a) (hb : 43 ∉ b) : sgP (ba (a ++ 43 :: (b ++ 43 :: c))) = (sgZ, 1, 0) := by
  unfold sgP; rw [ba_data, spl_cons 43 a _ ha, spl_cons 43 b c hb]
  have := spl_ne 43 c
  cases hs : spl 43 c with
  | nil => exact absurd hs this
  | cons x y => rfl
theorem hdP_at (x : ByteArray) (hx : x.size ≤ 1048576) : 0 ≤ (hdP x).2.2 ∧ (hdP x).2.2 ≤ 4194304 := by
  obtain ⟨l, rfl⟩ : ∃ l, x = ba l := ⟨x.data.toList, eq_ba x⟩
  have hl : l.length ≤ 1048576 := hx
  rcases four (spl 47 l) with ⟨a, b, c, d, e⟩ | hn
  · have hsz := spl_sizes 47 l.length l (Nat.le_refl _)
    rw [e] at hsz
    have za := (hsz a (by simp)).1
    have zb := (hsz b (by simp)).1
    have zc := (hsz c (by simp)).1
    rw [hdP_four e]
    cases (shP (ba a)).2 <;> cases (orP (ba b)).2 <;> cases (plP (ba c)).2 <;> cases (mvP (ba d)).2 <;> simp only [Bool.not_false, Bool.not_true, cond_true, cond_false] <;> constructor <;> omega
  · rw [hdP_no hn]
    constructor <;> simp
theorem sgP_spec (x : ByteArray) (hx : x.size ≤ 1048576) : F_spec_paParse x = some (sgP x) := by
  obtain ⟨l, rfl⟩ : ∃ l, x = ba l := ⟨x.data.toList, eq_ba x⟩
  have hl : l.length ≤ 1048576 := hx
  have hsp : F_spec_l1Split (ba l, 43) = some ((spl 43 l).map ba) := l1Split_is l 43 hl
  simp only [F_spec_paParse, hsp]
  rcases spl_cases 43 l with h | ⟨a, r, rfl, ha⟩
  · rw [sgP_one h, spl_none 43 l h]
    have g1 : decide (((([l].map ba).length : Nat) : Int) > 2) = false := rfl
    have g0 : (decide (0 ≤ 0) && decide ((0 : Int) < ((([l].map ba).length : Nat) : Int))) = true := rfl
    have g2 : (((([l].map ba).length : Nat) : Int) == 1) = true := rfl
    have gd : ([l].map ba).getD (0 : Int).toNat ByteArray.empty = ba l := rfl
    simp only [g0, g1, g2, gd, cond_true, cond_false, hdP_spec (ba l) (by rw [ba_size]; exact hl)]
    cases ((hdP (ba l)).2.1 != 0) <;> rfl
  · have hla : a.length ≤ 1048576 := by simp only [List.length_append, List.length_cons] at hl; omega
    have hlr : r.length ≤ 1048576 := by simp only [List.length_append, List.length_cons] at hl; omega
    have hA := hdP_spec (ba a) (by rw [ba_size]; exact hla)
    rcases spl_cases 43 r with hr | ⟨b, c, rfl, hb⟩
    · rw [sgP_two ha hr, spl_cons 43 a r ha, spl_none 43 r hr]
      have hB := hdP_spec (ba r) (by rw [ba_size]; exact hlr)
      have g1 : decide (((([a, r].map ba).length : Nat) : Int) > 2) = false := rfl
      have g0 : (decide (0 ≤ 0) && decide ((0 : Int) < ((([a, r].map ba).length : Nat) : Int))) = true := rfl
      have g3 : (decide (0 ≤ 1) && decide ((1 : Int) < ((([a, r].map ba).length : Nat) : Int))) = true := rfl
      have g2 : (((([a, r].map ba).length : Nat) : Int) == 1) = false := rfl
      have gd : ([a, r].map ba).getD (0 : Int).toNat ByteArray.empty = ba a := rfl
      have ge : ([a, r].map ba).getD (1 : Int).toNat ByteArray.empty = ba r := rfl
      have w1 : IntKind.i64.wrap (((ba a).size : Int) + 1) = (a.length : Int) + 1 := wrap_id (by rw [ba_size]; omega) (by rw [ba_size]; omega)
      have hat := hdP_at (ba r) (by rw [ba_size]; exact hlr)
      have w2 : IntKind.i64.wrap ((a.length : Int) + 1 + (hdP (ba r)).2.2) = (a.length : Int) + 1 + (hdP (ba r)).2.2 := wrap_id (by omega) (by omega)
      simp only [g0, g1, g2, g3, gd, ge, cond_true, cond_false, hA, hB, w1, w2]
      cases h1 : ((hdP (ba a)).2.1 != 0) with
      | true => rfl
      | false =>
        cases h2 : ((hdP (ba r)).2.1 != 0) with
        | true => rfl
        | false =>
          obtain ⟨n, hn, hk⟩ := keep_spec (hdP (ba a)).1 (hdP (ba r)).1 (hdP_w (by simpa using h1)) (hdP_w (by simpa using h2))
          simp only [cond_false, hn, hk]
          cases keep (hdP (ba a)).1 (hdP (ba r)).1 <;> rfl
    · rw [sgP_more ha hb, spl_cons 43 a _ ha, spl_cons 43 b c hb]
      have hlen := spl_len 43 c
      have g1 : decide (((((a :: b :: spl 43 c).map ba).length : Nat) : Int) > 2) = true := by
        rw [List.length_map]; simp; omega
      simp only [g1, cond_true]
      rfl
theorem sgP_impl (x : ByteArray) (hx : x.size ≤ 1048576) : F_impl_readSign x = some (sgP x) := by
  obtain ⟨l, rfl⟩ : ∃ l, x = ba l := ⟨x.data.toList, eq_ba x⟩
  have hl : l.length ≤ 1048576 := hx
  have hcn : F_strings_Count (ba l, (⟨#[43]⟩ : ByteArray)) = some ((l.count 43 : Nat) : Int) := Count_is l 43
  simp only [F_impl_readSign, hcn]
  rcases spl_cases 43 l with h | ⟨a, r, rfl, ha⟩
  · have hc : F_strings_Cut (ba l, (⟨#[43]⟩ : ByteArray)) = some (ba l, ba [], false) := Cut_none hl h
    have g : decide (((l.count 43 : Nat) : Int) > 1) = false := by rw [List.count_eq_zero.2 h]; rfl
    rw [sgP_one h]
    simp only [g, cond_false, hc, Bool.not_false, cond_true, hdP_impl (ba l) (by rw [ba_size]; exact hl)]
    cases ((hdP (ba l)).2.1 != 0) <;> rfl
  · have hc : F_strings_Cut (ba (a ++ 43 :: r), (⟨#[43]⟩ : ByteArray)) = some (ba a, ba r, true) := Cut_at hl ha
    have hla : a.length ≤ 1048576 := by simp only [List.length_append, List.length_cons] at hl; omega
    have hlr : r.length ≤ 1048576 := by simp only [List.length_append, List.length_cons] at hl; omega
    have hA := hdP_impl (ba a) (by rw [ba_size]; exact hla)
    have hcount : (a ++ 43 :: r).count 43 = r.count 43 + 1 := by rw [List.count_append, List.count_eq_zero.2 ha, List.count_cons_self]; omega
    rw [hcount]
    rcases spl_cases 43 r with hr | ⟨b, c, rfl, hb⟩
    · have hB := hdP_impl (ba r) (by rw [ba_size]; exact hlr)
      have g : decide (((r.count 43 + 1 : Nat) : Int) > 1) = false := by rw [List.count_eq_zero.2 hr]; rfl
      have w1 : IntKind.i64.wrap (((ba a).size : Int) + 1) = (a.length : Int) + 1 := wrap_id (by rw [ba_size]; omega) (by rw [ba_size]; omega)
      have hat := hdP_at (ba r) (by rw [ba_size]; exact hlr)
      have w2 : IntKind.i64.wrap ((a.length : Int) + 1 + (hdP (ba r)).2.2) = (a.length : Int) + 1 + (hdP (ba r)).2.2 := wrap_id (by omega) (by omega)
      rw [sgP_two ha hr]
      simp only [g, cond_true, cond_false, Bool.not_true, hc, hA, hB, w1, w2]
      cases h1 : ((hdP (ba a)).2.1 != 0) with
      | true => rfl
      | false =>
        cases h2 : ((hdP (ba r)).2.1 != 0) with
        | true => rfl
        | false =>
          have hk := keep_impl (hdP (ba a)).1 (hdP (ba r)).1 (hdP_w (by simpa using h1)) (hdP_w (by simpa using h2))
          simp only [cond_false, hk]
          cases keep (hdP (ba a)).1 (hdP (ba r)).1 <;> rfl
    · have g : decide ((((b ++ 43 :: c).count 43 + 1 : Nat) : Int) > 1) = true := by
        have : 1 ≤ (b ++ 43 :: c).count 43 := by rw [List.count_append, List.count_cons_self]; omega
        exact decide_eq_true (by omega)
      rw [sgP_more ha hb]
      simp only [g, cond_true]
      rfl
/-! ### Equal signs -/
theorem eqShape_refl (s : Shape) : F_laws_eqShape (s, s) = some true := by simp only [F_laws_eqShape, bne_self_eq_false, cond_false, BEq.rfl, Bool.not_true]
theorem eqOrient_refl (s : Orient) : F_laws_eqOrient (s, s) = some true := by simp only [F_laws_eqOrient, bne_self_eq_false, cond_false]
theorem eqPlace_refl (s : Place) : F_laws_eqPlace (s, s) = some true := by simp only [F_laws_eqPlace, bne_self_eq_false, cond_false, BEq.rfl, Bool.not_true]
theorem eqMove_refl (s : Move) : F_laws_eqMove (s, s) = some true := by simp only [F_laws_eqMove, bne_self_eq_false, cond_false, BEq.rfl, Bool.not_true]
theorem eqHand_refl (s : Hand) : F_laws_eqHand (s, s) = some true := by
  simp only [F_laws_eqHand, eqShape_refl, eqOrient_refl, eqPlace_refl, eqMove_refl, Bool.not_true, cond_false]
theorem eqSign_refl (s : Sign) : F_laws_eqSign (s, s) = some true := by
  simp only [F_laws_eqSign, eqHand_refl, BEq.rfl, Bool.not_true, cond_false]
theorem sgP_bad {x : ByteArray} (h : (sgP x).2.1 ≠ 0) : (sgP x).1 = sgZ := by
  unfold sgP at h ⊢
  split
  · rename_i a e
    simp only [e] at h
    revert h
    cases ((hdP (ba a)).2.1 != 0) with
    | true => intro _; rfl
    | false => intro h; exact absurd rfl h
  · rename_i a b e
    simp only [e] at h
    revert h
    cases ((hdP (ba a)).2.1 != 0) with
    | true => intro _; rfl
    | false =>
      cases ((hdP (ba b)).2.1 != 0) with
      | true => intro _; rfl
      | false =>
        cases keep (hdP (ba a)).1 (hdP (ba b)).1 with
        | false => intro _; rfl
        | true => intro h; exact absurd rfl h
  · rfl
end Go.Proofs.YtklfnbckoaphpaaGreatDoor
/- What ParseSign answers. No conditions. -/
set_option linter.unusedVariables false
set_option linter.unusedSimpArgs false
namespace Go.Proofs.YtklfnbckoaphpaaGreatDoor
open Go
def psP (x : ByteArray) : Sign × Bool := bif decide ((x.size : Int) ≤ 200) then ((sgP x).1, (sgP x).2.1 == 0) else (sgZ, false)
theorem ParseSign_impl (x : ByteArray) (hx : x.size ≤ 1048576) : F_impl_ParseSign x = some (psP x) := by
  simp only [F_impl_ParseSign, psP, gt_not]
  cases decide ((x.size : Int) ≤ 200) with
  | false => rfl
  | true =>
    simp only [Bool.not_true, cond_false, cond_true, sgP_impl x hx]
    by_cases h : (sgP x).2.1 = 0
    · have e1 : ((sgP x).2.1 != 0) = false := by rw [h]; rfl
      have e2 : ((sgP x).2.1 == 0) = true := by rw [h]; rfl
      rw [e1, e2]; rfl
    · have e1 : ((sgP x).2.1 != 0) = true := by rw [bne_iff_ne]; exact h
      have e2 : ((sgP x).2.1 == 0) = false := beq_eq_false_iff_ne.2 h
      rw [e1, e2, sgP_bad h]; rfl
end Go.Proofs.YtklfnbckoaphpaaGreatDoor
/- Texts of parts, hands and signs are read back, and what is read has this text: plain laws. No conditions beyond those that are named. -/
set_option linter.unusedVariables false
set_option linter.unusedSimpArgs false
namespace Go.Proofs.YtklfnbckoaphpaaGreatDoor
open Go

/-! ### Shapes -/
theorem sh_tr {l : List UInt8} (h : (shP (ba l)).2 = true) : shOK (shP (ba l)).1 = true ∧ shText (shP (ba l)).1 = l := by
  revert h
  unfold shP
  rw [ba_size]
  by_cases h5 : l.length = 5
  · rw [decide_eq_true h5, decide_eq_false (show ¬ l.length = 6 by omega)]
    simp only [Bool.true_and, Bool.false_and, cond_false]
    cases hok : shOK (shD (ba l) false) with
    | false => intro h; cases h
    | true =>
      intro _
      refine ⟨hok, ?_⟩
      match l, h5 with
      | [b0, b1, b2, b3, b4], _ =>
        obtain ⟨q1, q2, q3, q4, q5, _⟩ := shOK_parts hok
        have d1 : dig (shD (ba [b0, b1, b2, b3, b4]) false).1 = b0 := dig_byte q1
        have d2 : dig (shD (ba [b0, b1, b2, b3, b4]) false).2.1 = b1 := dig_byte q2
        have d3 : dig (shD (ba [b0, b1, b2, b3, b4]) false).2.2.1 = b2 := dig_byte q3
        have d4 : dig (shD (ba [b0, b1, b2, b3, b4]) false).2.2.2.1 = b3 := dig_byte q4
        have d5 : dig (shD (ba [b0, b1, b2, b3, b4]) false).2.2.2.2.1 = b4 := dig_byte q5
        show shText (shD (ba [b0, b1, b2, b3, b4]) false) = _
        unfold shText
        rw [d1, d2, d3, d4, d5]
        rfl
  · by_cases h6 : l.length = 6
    · rw [decide_eq_true h6, decide_eq_false h5]
      simp only [Bool.true_and, Bool.false_and, cond_false]
      cases hok : decide (byteAt (ba l) 5 = 115) && shOK (shD (ba l) true) with
      | false => intro h; cases h
      | true =>
        intro _
        rw [Bool.and_eq_true] at hok
        obtain ⟨hb, hok⟩ := hok
        have hb := of_decide_eq_true hb
        refine ⟨hok, ?_⟩
        match l, h6 with
        | [b0, b1, b2, b3, b4, b5], _ =>
          obtain ⟨q1, q2, q3, q4, q5, _⟩ := shOK_parts hok
          have d1 : dig (shD (ba [b0, b1, b2, b3, b4, b5]) true).1 = b0 := dig_byte q1
          have d2 : dig (shD (ba [b0, b1, b2, b3, b4, b5]) true).2.1 = b1 := dig_byte q2
          have d3 : dig (shD (ba [b0, b1, b2, b3, b4, b5]) true).2.2.1 = b2 := dig_byte q3
          have d4 : dig (shD (ba [b0, b1, b2, b3, b4, b5]) true).2.2.2.1 = b3 := dig_byte q4
          have d5 : dig (shD (ba [b0, b1, b2, b3, b4, b5]) true).2.2.2.2.1 = b4 := dig_byte q5
          have e5 : b5 = 115 := by
            have e : byteAt (ba [b0, b1, b2, b3, b4, b5]) 5 = (b5.toNat : Int) := rfl
            rw [e] at hb
            exact UInt8.toNat_inj.1 (by have : (115 : UInt8).toNat = 115 := rfl; omega)
          show shText (shD (ba [b0, b1, b2, b3, b4, b5]) true) = _
          unfold shText
          rw [d1, d2, d3, d4, d5, e5]
          rfl
    · rw [decide_eq_false h5, decide_eq_false h6]
      intro h; cases h

/-! ### Orientations -/
def dirB (n : Int) : UInt8 := dirL.getD n.toNat 0
theorem dirI_in : ∀ b : Fin 256, in05 (dirI (b.val : Int)) = true → dirB (dirI (b.val : Int)) = UInt8.ofNat b.val := by decide +kernel
theorem dirB_I {b : UInt8} (h : in05 (dirI (b.toNat : Int)) = true) : dirB (dirI (b.toNat : Int)) = b := by
  have := dirI_in ⟨b.toNat, b.toNat_lt⟩ h
  simpa using this
def orT (o : Orient) : List UInt8 := [dirB o.1, dirB o.2]
theorem orOK_parts {o : Orient} (h : orOK o = true) : in05 o.1 = true ∧ in05 o.2 = true := by
  simp only [orOK, Bool.and_eq_true] at h
  exact ⟨h.1.1.1, h.1.1.2⟩
theorem or_tr {l : List UInt8} (h : (orP (ba l)).2 = true) : orOK (orP (ba l)).1 = true ∧ orT (orP (ba l)).1 = l := by
  revert h
  unfold orP
  rw [ba_size]
  cases hk : decide (l.length = 2) && orOK (dirI (byteAt (ba l) 0), dirI (byteAt (ba l) 1)) with
  | false => intro h; cases h
  | true =>
    intro _
    rw [Bool.and_eq_true] at hk
    obtain ⟨h2, hok⟩ := hk
    have h2 := of_decide_eq_true h2
    refine ⟨hok, ?_⟩
    match l, h2 with
    | [b0, b1], _ =>
      obtain ⟨q1, q2⟩ := orOK_parts hok
      have d1 : dirB (dirI (byteAt (ba [b0, b1]) 0)) = b0 := dirB_I q1
      have d2 : dirB (dirI (byteAt (ba [b0, b1]) 1)) = b1 := dirB_I q2
      show orT (dirI (byteAt (ba [b0, b1]) 0), dirI (byteAt (ba [b0, b1]) 1)) = _
      unfold orT
      rw [d1, d2]

/-! ### Places -/
theorem plL_all : ∀ c : Fin 60, plOK (plCd c.val) = true → plCd c.val ∈ plL := fun c h => List.mem_filter.2 ⟨List.mem_map.2 ⟨c.val, List.mem_range.2 c.isLt, rfl⟩, h⟩
theorem plL_mem {p : Place} (h : plOK p = true) : p ∈ plL := by
  obtain ⟨⟨b0, b9⟩, s0, s1⟩ := plOK_parts h
  obtain ⟨b, s, t⟩ := p
  simp only at b0 b9 s0 s1
  have key : ∃ c : Nat, c < 60 ∧ plCd c = (b, s, t) := by
    refine ⟨b.toNat * 6 + (s + 1).toNat * 2 + (if t then 1 else 0), by cases t <;> simp <;> omega, ?_⟩
    unfold plCd
    cases t with
    | false => refine Prod.ext ?_ (Prod.ext ?_ ?_) <;> simp <;> omega
    | true => refine Prod.ext ?_ (Prod.ext ?_ ?_) <;> simp <;> omega
  obtain ⟨c, hc, e⟩ := key
  have := plL_all ⟨c, hc⟩ (by rw [e]; exact h)
  rwa [e] at this
theorem pl_tr {l : List UInt8} (h : (plP (ba l)).2 = true) : plOK (plP (ba l)).1 = true ∧ plT (plP (ba l)).1 = l := by
  cases hf : plL.find? (fun q => decide (plT q = l)) with
  | none => rw [plP_none hf] at h; cases h
  | some q =>
    rw [plP_some hf]
    exact ⟨plL_ok q (List.mem_of_find?_eq_some hf), (by have h3 := List.find?_some hf; exact of_decide_eq_true h3)⟩

/-! ### Movements -/
theorem stOK_parts {a : List UInt8} (h : stOK a = true) : a ≠ [] ∧ a.length ≤ 6 ∧ dirAll a = true := by
  simp only [stOK, Bool.and_eq_true, Bool.not_eq_true', decide_eq_false_iff_not, decide_eq_true_eq] at h
  exact ⟨h.1.1, h.1.2, h.2⟩
theorem mv_tr {l : List UInt8} (h : (mvP (ba l)).2 = true) : mvOK (mvP (ba l)).1.1.data.toList (mvP (ba l)).1.2 = true ∧ mvT (mvP (ba l)).1.1.data.toList (mvP (ba l)).1.2 = l := by
  refine ⟨mvP_ok _ h, ?_⟩
  have h' : (mvPl l).2 = true := h
  show mvT (mvPl l).1.1 (mvPl l).1.2 = l
  rcases spl_cases 42 l with hn | ⟨a, r, rfl, ha⟩
  · rw [mvPl_one hn] at h' ⊢
    by_cases h45 : l = [45]
    · rw [if_pos h45, h45]; rfl
    · rw [if_neg h45] at h' ⊢
      cases hs : stOK l with
      | false => rw [hs] at h'; cases h'
      | true => exact mvT_one (stOK_parts hs).1
  · rcases spl_cases 42 r with hr | ⟨b, c, rfl, hb⟩
    · rw [mvPl_two ha hr] at h' ⊢
      cases h2 : stOK a && decide (r = [50]) with
      | true =>
        rw [Bool.and_eq_true] at h2
        rw [of_decide_eq_true h2.2]
        show mvT a 2 = _
        unfold mvT
        rw [if_neg (stOK_parts h2.1).1, if_neg (by decide)]; rfl
      | false =>
        rw [h2] at h'
        cases h3 : stOK a && decide (r = [51]) with
        | true =>
          rw [Bool.and_eq_true] at h3
          rw [of_decide_eq_true h3.2]
          show mvT a 3 = _
          unfold mvT
          rw [if_neg (stOK_parts h3.1).1, if_neg (by decide)]; rfl
        | false => rw [h3] at h'; cases h'
    · rw [mvPl_more ha hb] at h'; cases h'
end Go.Proofs.YtklfnbckoaphpaaGreatDoor
/- Texts of hands and signs are read back, and what is read has this text: plain laws. No conditions beyond those that are named. -/
set_option linter.unusedVariables false
set_option linter.unusedSimpArgs false
namespace Go.Proofs.YtklfnbckoaphpaaGreatDoor
open Go

/-! ### What separates is in no part -/
theorem plL_no : ∀ p ∈ plL, (47 : UInt8) ∉ plT p ∧ (43 : UInt8) ∉ plT p ∧ (61 : UInt8) ∉ plT p ∧ (10 : UInt8) ∉ plT p ∧ (plT p).length ≤ 7 := by decide +kernel
/-! ### Hands -/
def hdOK (h : Hand) : Bool := shOK h.1 && (orOK h.2.1 && (plOK h.2.2.1 && mvOK h.2.2.2.1.data.toList h.2.2.2.2))
def mvTx (m : Move) : List UInt8 := mvT m.1.data.toList m.2
def hdT (h : Hand) : List UInt8 := shText h.1 ++ 47 :: (orT h.2.1 ++ 47 :: (plT h.2.2.1 ++ 47 :: mvTx h.2.2.2))
theorem hdOK_parts {h : Hand} (k : hdOK h = true) : shOK h.1 = true ∧ orOK h.2.1 = true ∧ plOK h.2.2.1 = true ∧ mvOK h.2.2.2.1.data.toList h.2.2.2.2 = true := by
  simp only [hdOK, Bool.and_eq_true] at k
  exact k
theorem spl_four {l a b c d : List UInt8} (e : spl 47 l = [a, b, c, d]) : l = a ++ 47 :: (b ++ 47 :: (c ++ 47 :: d)) := by
  rcases spl_cases 47 l with h | ⟨a', r, hl, h⟩
  · rw [spl_none 47 l h] at e; cases e
  · rw [hl, spl_cons 47 a' r h] at e
    obtain ⟨e1, f1⟩ := List.cons.inj e
    rw [hl, e1]
    congr 2
    rcases spl_cases 47 r with h2 | ⟨b', r2, hr, h2⟩
    · rw [spl_none 47 r h2] at f1; cases f1
    · rw [hr, spl_cons 47 b' r2 h2] at f1
      obtain ⟨e2, f2⟩ := List.cons.inj f1
      rw [hr, e2]
      congr 2
      rcases spl_cases 47 r2 with h3 | ⟨c', r3, hr2, h3⟩
      · rw [spl_none 47 r2 h3] at f2; cases f2
      · rw [hr2, spl_cons 47 c' r3 h3] at f2
        obtain ⟨e3, f3⟩ := List.cons.inj f2
        rw [hr2, e3]
        congr 2
        rcases spl_cases 47 r3 with h4 | ⟨d', r4, hr3, h4⟩
        · rw [spl_none 47 r3 h4] at f3
          exact (List.cons.inj f3).1
        · rw [hr3, spl_cons 47 d' r4 h4] at f3
          exact absurd (List.cons.inj f3).2 (spl_ne 47 r4)
theorem hd_tr {l : List UInt8} (h : (hdP (ba l)).2.1 = 0) : hdOK (hdP (ba l)).1 = true ∧ hdT (hdP (ba l)).1 = l := by
  rcases four (spl 47 l) with ⟨a, b, c, d, e⟩ | hn
  · rw [hdP_four e] at h ⊢
    revert h
    cases h1 : (shP (ba a)).2 with
    | false => intro h; exact absurd (show (3 : Int) = 0 from h) (by decide)
    | true =>
      cases h2 : (orP (ba b)).2 with
      | false => intro h; exact absurd (show (4 : Int) = 0 from h) (by decide)
      | true =>
        cases h3 : (plP (ba c)).2 with
        | false => intro h; exact absurd (show (5 : Int) = 0 from h) (by decide)
        | true =>
          cases h4 : (mvP (ba d)).2 with
          | false => intro h; exact absurd (show (6 : Int) = 0 from h) (by decide)
          | true =>
            intro _
            obtain ⟨q1, p1⟩ := sh_tr h1
            obtain ⟨q2, p2⟩ := or_tr h2
            obtain ⟨q3, p3⟩ := pl_tr h3
            obtain ⟨q4, p4⟩ := mv_tr h4
            have p4' : mvTx (mvP (ba d)).1 = d := p4
            refine ⟨?_, ?_⟩
            · show (shOK (shP (ba a)).1 && (orOK (orP (ba b)).1 && (plOK (plP (ba c)).1 && mvOK (mvP (ba d)).1.1.data.toList (mvP (ba d)).1.2))) = true
              rw [q1, q2, q3, q4]; rfl
            · show shText (shP (ba a)).1 ++ 47 :: (orT (orP (ba b)).1 ++ 47 :: (plT (plP (ba c)).1 ++ 47 :: mvTx (mvP (ba d)).1)) = l
              rw [p1, p2, p3, p4', spl_four e]
  · rw [hdP_no hn] at h
    exact absurd (show (2 : Int) = 0 from h) (by decide)

/-! ### Signs -/
instance decOPM : DecidableEq (Orient × (Place × Move)) := instDecidableEqProd
instance decHand : DecidableEq Hand := instDecidableEqProd (α := Shape) (β := Orient × (Place × Move))
instance decSign : DecidableEq Sign := instDecidableEqProd (α := Hand) (β := Bool × Hand)
def sgOK (s : Sign) : Bool := hdOK s.1 && bif s.2.1 then hdOK s.2.2 && keep s.1 s.2.2 else decide (s.2.2 = hdZ)
def sgT (s : Sign) : List UInt8 := bif s.2.1 then hdT s.1 ++ 43 :: hdT s.2.2 else hdT s.1
theorem sg_tr {l : List UInt8} (h : (sgP (ba l)).2.1 = 0) : sgOK (sgP (ba l)).1 = true ∧ sgT (sgP (ba l)).1 = l := by
  rcases spl_cases 43 l with hn | ⟨a, r, rfl, ha⟩
  · rw [sgP_one hn] at h ⊢
    cases h1 : ((hdP (ba l)).2.1 != 0) with
    | true =>
      rw [h1] at h
      have h : (hdP (ba l)).2.1 = 0 := h
      rw [h] at h1; exact absurd h1 (by decide)
    | false =>
      obtain ⟨q1, q2⟩ := hd_tr (show (hdP (ba l)).2.1 = 0 by simpa using h1)
      refine ⟨?_, q2⟩
      show (hdOK (hdP (ba l)).1 && decide (hdZ = hdZ)) = true
      rw [q1, decide_eq_true rfl]; rfl
  · rcases spl_cases 43 r with hr | ⟨b, c, rfl, hb⟩
    · rw [sgP_two ha hr] at h ⊢
      cases h1 : ((hdP (ba a)).2.1 != 0) with
      | true =>
        rw [h1] at h
        have h : (hdP (ba a)).2.1 = 0 := h
        rw [h] at h1; exact absurd h1 (by decide)
      | false =>
        cases h2 : ((hdP (ba r)).2.1 != 0) with
        | true =>
          rw [h1, h2] at h
          have h : (hdP (ba r)).2.1 = 0 := h
          rw [h] at h2; exact absurd h2 (by decide)
        | false =>
          cases h3 : keep (hdP (ba a)).1 (hdP (ba r)).1 with
          | false =>
            rw [h1, h2, h3] at h
            exact absurd (show (7 : Int) = 0 from h) (by decide)
          | true =>
            obtain ⟨q1, q2⟩ := hd_tr (show (hdP (ba a)).2.1 = 0 by simpa using h1)
            obtain ⟨q3, q4⟩ := hd_tr (show (hdP (ba r)).2.1 = 0 by simpa using h2)
            refine ⟨?_, ?_⟩
            · show (hdOK (hdP (ba a)).1 && (hdOK (hdP (ba r)).1 && keep (hdP (ba a)).1 (hdP (ba r)).1)) = true
              rw [q1, q3, h3]; rfl
            · show hdT (hdP (ba a)).1 ++ 43 :: hdT (hdP (ba r)).1 = _
              rw [q2, q4]
    · rw [sgP_more ha hb] at h
      exact absurd (show (1 : Int) = 0 from h) (by decide)
end Go.Proofs.YtklfnbckoaphpaaGreatDoor
/- Texts of hands and signs, long and short: what the program writes. No conditions beyond those that are named. -/
set_option linter.unusedVariables false
set_option linter.unusedSimpArgs false
namespace Go.Proofs.YtklfnbckoaphpaaGreatDoor
open Go

/-! ### Lengths -/
theorem sh_len (s : Shape) : (shText s).length ≤ 6 := by
  obtain ⟨t, a, b, c, d, sp⟩ := s
  cases sp
  · exact (by decide : 5 ≤ 6)
  · exact Nat.le_refl 6
theorem or_len (o : Orient) : (orT o).length = 2 := rfl
theorem pl_len {p : Place} (h : plOK p = true) : (plT p).length ≤ 7 := (plL_no p (plL_mem h)).2.2.2.2
theorem mv_len {m : Move} (h : mvOK m.1.data.toList m.2 = true) : (mvTx m).length ≤ 8 := by
  obtain ⟨h6, _⟩ := mvOK_parts h
  show (mvT m.1.data.toList m.2).length ≤ 8
  generalize m.1.data.toList = l at h6 ⊢
  unfold mvT
  split
  · simp
  · split
    · omega
    · simp only [List.length_append, List.length_cons, List.length_nil]; omega
theorem hd_len {h : Hand} (k : hdOK h = true) : (hdT h).length ≤ 26 := by
  obtain ⟨k1, k2, k3, k4⟩ := hdOK_parts k
  have l1 := sh_len h.1
  have l2 := or_len h.2.1
  have l3 := pl_len k3
  have l4 := mv_len k4
  simp only [hdT, List.length_append, List.length_cons]
  omega
/-! ### Hands -/
theorem sgOK_parts {s : Sign} (k : sgOK s = true) : hdOK s.1 = true ∧ (s.2.1 = true → hdOK s.2.2 = true ∧ keep s.1 s.2.2 = true) ∧ (s.2.1 = false → s.2.2 = hdZ) := by
  obtain ⟨m, two, o⟩ := s
  simp only [sgOK, Bool.and_eq_true] at k
  obtain ⟨k1, k2⟩ := k
  cases two with
  | false => exact ⟨k1, fun h => (by cases h), fun _ => of_decide_eq_true k2⟩
  | true =>
    simp only [cond_true, Bool.and_eq_true] at k2
    exact ⟨k1, fun _ => k2, fun h => (by cases h)⟩
/-! ### Short texts -/
end Go.Proofs.YtklfnbckoaphpaaGreatDoor
/- Rows of signs: a row is equal to itself, sizes are counted, marks that are written are read. No conditions beyond the bounds that are named. -/
set_option linter.unusedVariables false
set_option linter.unusedSimpArgs false
namespace Go.Proofs.YtklfnbckoaphpaaGreatDoor
open Go
theorem eqSignS_is (l : List Sign) (h : l.length ≤ 9223372036854775807) : F_laws_eqSignS (l, l) = some true := by
  have t := runL_traj (f := step_laws_eqSignS_0) (fun i => (l, l, (i : Int))) (.inr ()) l.length (fun i hi => by
    have hw := wrap_succ (i := i) (by omega)
    simp only [step_laws_eqSignS_0, lt_len hi, nonneg, Bool.and_self, cond_true, Int.toNat_natCast, hw, eqSign_refl, Bool.not_true, cond_false]) (by simp [step_laws_eqSignS_0])
  have t' : runL step_laws_eqSignS_0 (l, l, (0 : Int)) = some (.inr ()) := t
  simp [F_laws_eqSignS, t']
/-! ### Marks -/
def marksE {α : Type} (f : Nat → α) (n : Nat) : List α := (List.range n).map f
theorem marksE_len {α : Type} (f : Nat → α) (n : Nat) : (marksE f n).length = n := by simp [marksE]
theorem marksE_get {α : Type} (f : Nat → α) {n i : Nat} (h : i < n) (d : α) : (marksE f n).getD i d = f i := by simp [marksE, List.getD, h]
theorem marksE_set {α : Type} (f : Nat → α) (l : List α) {i : Nat} (h : i < l.length) : (marksE f i ++ l.drop i).set i (f i) = marksE f (i + 1) ++ l.drop (i + 1) := by
  rw [List.set_append, if_neg (by simp [marksE_len]), marksE_len, Nat.sub_self, List.drop_eq_getElem_cons h, List.set_cons_zero]
  simp [marksE, List.range_succ]
theorem marksE_lenD {α : Type} (f : Nat → α) (l : List α) {i : Nat} (h : i ≤ l.length) : (marksE f i ++ l.drop i).length = l.length := by simp [marksE_len]; omega
theorem getD_setE {α : Type} (l : List α) {i : Nat} (h : i < l.length) (a d : α) : (l.set i a).getD i d = a := by simp [List.getD, h]
/-- the text of a mark -/
theorem bytesE_one (n : Int) : (bytesStr [n]).size = 1 := rfl
theorem tdivE {n : Int} (h : 0 < n) : 0 ≤ n.tdiv 10 ∧ n.tdiv 10 ≤ n - 1 := by
  have h1 : n.tdiv 10 = n / 10 := Int.tdiv_eq_ediv_of_nonneg (by omega)
  omega
theorem markE_some (k : Int) (h : k ≤ 4611686018427387904) : ∃ t, F_laws_markText k = some t := by
  by_cases h0 : k ≤ 0
  · exact ⟨_, by simp [F_laws_markText, h0]; rfl⟩
  · obtain ⟨o, ho, hq⟩ := runL_inv (f := step_laws_markText_0) (fun s => 0 ≤ s.1 ∧ (s.2.size : Int) + s.1 ≤ 4611686018427387904) (fun o => (o.size : Int) ≤ 4611686018427387904) (fun s => s.1.toNat) (by
      rintro ⟨n, s⟩ ⟨h1, h2⟩
      simp only at h1 h2
      by_cases hn : n > 0
      · right
        obtain ⟨d1, d2⟩ := tdivE hn
        have hw : IntKind.i64.wrap (n.tdiv 10) = n.tdiv 10 := wrap_id (by omega) (by omega)
        have hm : IntKind.i64.max = 9223372036854775807 := by decide
        refine ⟨(n.tdiv 10, bytesStr [IntKind.u8.wrap (IntKind.i64.wrap (48 + n.tmod 10))] ++ s), ?_, ⟨d1, ?_⟩, by simp; omega⟩
        · have hg : decide ((bytesStr [IntKind.u8.wrap (IntKind.i64.wrap (48 + n.tmod 10))]).size + s.size ≤ 9223372036854775807) = true := by
            rw [bytesE_one]; exact decide_eq_true (by omega)
          simp only [step_laws_markText_0, decide_eq_true hn, cond_true, hm, hg, hw]
          rfl
        · simp only [ByteArray.size_append, bytesE_one]
          omega
      · left
        refine ⟨s, ?_, by omega⟩
        simp only [step_laws_markText_0, decide_eq_false hn, cond_false]) (k, ⟨#[]⟩) ⟨by omega, by have hz : (⟨#[]⟩ : ByteArray).size = 0 := rfl; simp only [hz]; omega⟩
    have hm : IntKind.i64.max = 9223372036854775807 := by decide
    have hz : ((⟨#[109]⟩ : ByteArray).size) = 1 := rfl
    have hg : decide ((⟨#[109]⟩ : ByteArray).size + o.size ≤ 9223372036854775807) = true := by rw [hz]; exact decide_eq_true (by omega)
    exact ⟨_, by simp only [F_laws_markText, decide_eq_false h0, cond_false, ho, hm, hg, cond_true]; rfl⟩
noncomputable def mtE (k : Int) : ByteArray := (F_laws_markText k).getD ByteArray.empty
theorem mtE_is {k : Int} (h : k ≤ 4611686018427387904) : F_laws_markText k = some (mtE k) := by
  obtain ⟨t, e⟩ := markE_some k h
  simp [mtE, e]



noncomputable def markSg (i : Nat) : Sign := ((((1 + 27 * (i : Int)), (2 + 27 * (i : Int)), (3 + 27 * (i : Int)), (4 + 27 * (i : Int)), (5 + 27 * (i : Int)), (((6 + 27 * (i : Int))).tmod 3 == 0)), ((7 + 27 * (i : Int)), (8 + 27 * (i : Int))), ((9 + 27 * (i : Int)), (10 + 27 * (i : Int)), (((11 + 27 * (i : Int))).tmod 3 == 0)), ((mtE (12 + 27 * (i : Int))), (13 + 27 * (i : Int)))), (((14 + 27 * (i : Int))).tmod 3 == 0), (((15 + 27 * (i : Int)), (16 + 27 * (i : Int)), (17 + 27 * (i : Int)), (18 + 27 * (i : Int)), (19 + 27 * (i : Int)), (((20 + 27 * (i : Int))).tmod 3 == 0)), ((21 + 27 * (i : Int)), (22 + 27 * (i : Int))), ((23 + 27 * (i : Int)), (24 + 27 * (i : Int)), (((25 + 27 * (i : Int))).tmod 3 == 0)), ((mtE (26 + 27 * (i : Int))), (27 + 27 * (i : Int)))))
set_option maxHeartbeats 4000000 in
theorem markSignS_is (l : List Sign) (h : l.length ≤ 1048576) : F_laws_markSignS (l, 1) = some (marksE markSg l.length, 1 + 27 * (l.length : Int)) := by
  have t := runL_traj (f := step_laws_markSignS_0) (fun i => (1 + 27 * (i : Int), (i : Int), marksE markSg i ++ l.drop i)) (1 + 27 * (l.length : Int), marksE markSg l.length) l.length (fun i hi => by
    have hw := wrap_succ (i := i) (by omega)
    have w1 : IntKind.i64.wrap (1 + 27 * (i : Int) + 1) = 2 + 27 * (i : Int) := by rw [wrap_id (by omega) (by omega)]; omega
    have w2 : IntKind.i64.wrap (2 + 27 * (i : Int) + 1) = 3 + 27 * (i : Int) := by rw [wrap_id (by omega) (by omega)]; omega
    have w3 : IntKind.i64.wrap (3 + 27 * (i : Int) + 1) = 4 + 27 * (i : Int) := by rw [wrap_id (by omega) (by omega)]; omega
    have w4 : IntKind.i64.wrap (4 + 27 * (i : Int) + 1) = 5 + 27 * (i : Int) := by rw [wrap_id (by omega) (by omega)]; omega
    have w5 : IntKind.i64.wrap (5 + 27 * (i : Int) + 1) = 6 + 27 * (i : Int) := by rw [wrap_id (by omega) (by omega)]; omega
    have w6 : IntKind.i64.wrap (6 + 27 * (i : Int) + 1) = 7 + 27 * (i : Int) := by rw [wrap_id (by omega) (by omega)]; omega
    have w7 : IntKind.i64.wrap (7 + 27 * (i : Int) + 1) = 8 + 27 * (i : Int) := by rw [wrap_id (by omega) (by omega)]; omega
    have w8 : IntKind.i64.wrap (8 + 27 * (i : Int) + 1) = 9 + 27 * (i : Int) := by rw [wrap_id (by omega) (by omega)]; omega
    have w9 : IntKind.i64.wrap (9 + 27 * (i : Int) + 1) = 10 + 27 * (i : Int) := by rw [wrap_id (by omega) (by omega)]; omega
    have w10 : IntKind.i64.wrap (10 + 27 * (i : Int) + 1) = 11 + 27 * (i : Int) := by rw [wrap_id (by omega) (by omega)]; omega
    have w11 : IntKind.i64.wrap (11 + 27 * (i : Int) + 1) = 12 + 27 * (i : Int) := by rw [wrap_id (by omega) (by omega)]; omega
    have w12 : IntKind.i64.wrap (12 + 27 * (i : Int) + 1) = 13 + 27 * (i : Int) := by rw [wrap_id (by omega) (by omega)]; omega
    have w13 : IntKind.i64.wrap (13 + 27 * (i : Int) + 1) = 14 + 27 * (i : Int) := by rw [wrap_id (by omega) (by omega)]; omega
    have w14 : IntKind.i64.wrap (14 + 27 * (i : Int) + 1) = 15 + 27 * (i : Int) := by rw [wrap_id (by omega) (by omega)]; omega
    have w15 : IntKind.i64.wrap (15 + 27 * (i : Int) + 1) = 16 + 27 * (i : Int) := by rw [wrap_id (by omega) (by omega)]; omega
    have w16 : IntKind.i64.wrap (16 + 27 * (i : Int) + 1) = 17 + 27 * (i : Int) := by rw [wrap_id (by omega) (by omega)]; omega
    have w17 : IntKind.i64.wrap (17 + 27 * (i : Int) + 1) = 18 + 27 * (i : Int) := by rw [wrap_id (by omega) (by omega)]; omega
    have w18 : IntKind.i64.wrap (18 + 27 * (i : Int) + 1) = 19 + 27 * (i : Int) := by rw [wrap_id (by omega) (by omega)]; omega
    have w19 : IntKind.i64.wrap (19 + 27 * (i : Int) + 1) = 20 + 27 * (i : Int) := by rw [wrap_id (by omega) (by omega)]; omega
    have w20 : IntKind.i64.wrap (20 + 27 * (i : Int) + 1) = 21 + 27 * (i : Int) := by rw [wrap_id (by omega) (by omega)]; omega
    have w21 : IntKind.i64.wrap (21 + 27 * (i : Int) + 1) = 22 + 27 * (i : Int) := by rw [wrap_id (by omega) (by omega)]; omega
    have w22 : IntKind.i64.wrap (22 + 27 * (i : Int) + 1) = 23 + 27 * (i : Int) := by rw [wrap_id (by omega) (by omega)]; omega
    have w23 : IntKind.i64.wrap (23 + 27 * (i : Int) + 1) = 24 + 27 * (i : Int) := by rw [wrap_id (by omega) (by omega)]; omega
    have w24 : IntKind.i64.wrap (24 + 27 * (i : Int) + 1) = 25 + 27 * (i : Int) := by rw [wrap_id (by omega) (by omega)]; omega
    have w25 : IntKind.i64.wrap (25 + 27 * (i : Int) + 1) = 26 + 27 * (i : Int) := by rw [wrap_id (by omega) (by omega)]; omega
    have w26 : IntKind.i64.wrap (26 + 27 * (i : Int) + 1) = 27 + 27 * (i : Int) := by rw [wrap_id (by omega) (by omega)]; omega
    have w27 : IntKind.i64.wrap (27 + 27 * (i : Int) + 1) = 1 + 27 * ((i + 1 : Nat) : Int) := by rw [wrap_id (by omega) (by omega)]; omega
    have hl := marksE_lenD markSg l (Nat.le_of_lt hi)
    have hl' : i < (marksE markSg i ++ l.drop i).length := by rw [hl]; exact hi
    have h3 : (!decide ((3 : Int) = 0)) = true := rfl
    have hs : ∀ a, ((marksE markSg i ++ l.drop i).set i a).getD i dz27 = a := fun a => getD_setE _ hl' _ _
    have hm : (marksE markSg i ++ l.drop i).set i ((((1 + 27 * (i : Int)), (2 + 27 * (i : Int)), (3 + 27 * (i : Int)), (4 + 27 * (i : Int)), (5 + 27 * (i : Int)), (((6 + 27 * (i : Int))).tmod 3 == 0)), ((7 + 27 * (i : Int)), (8 + 27 * (i : Int))), ((9 + 27 * (i : Int)), (10 + 27 * (i : Int)), (((11 + 27 * (i : Int))).tmod 3 == 0)), ((mtE (12 + 27 * (i : Int))), (13 + 27 * (i : Int)))), (((14 + 27 * (i : Int))).tmod 3 == 0), (((15 + 27 * (i : Int)), (16 + 27 * (i : Int)), (17 + 27 * (i : Int)), (18 + 27 * (i : Int)), (19 + 27 * (i : Int)), (((20 + 27 * (i : Int))).tmod 3 == 0)), ((21 + 27 * (i : Int)), (22 + 27 * (i : Int))), ((23 + 27 * (i : Int)), (24 + 27 * (i : Int)), (((25 + 27 * (i : Int))).tmod 3 == 0)), ((mtE (26 + 27 * (i : Int))), (27 + 27 * (i : Int))))) = marksE markSg (i + 1) ++ l.drop (i + 1) := marksE_set markSg l hi
    simp only [step_laws_markSignS_0, List.length_set, hl, lt_len hi, nonneg, Bool.and_self, cond_true, Int.toNat_natCast, hw, w1, w2, w3, w4, w5, w6, w7, w8, w9, w10, w11, w12, w13, w14, w15, w16, w17, w18, w19, w20, w21, w22, w23, w24, w25, w26, w27, mtE_is (show 12 + 27 * (i : Int) ≤ 4611686018427387904 by omega), mtE_is (show 26 + 27 * (i : Int) ≤ 4611686018427387904 by omega), h3, List.set_set, hs, hm]
    rfl) (by
    simp [step_laws_markSignS_0, marksE_len])
  have t' : runL step_laws_markSignS_0 (1, (0 : Int), l) = some (1 + 27 * (l.length : Int), marksE markSg l.length) := t
  simp only [F_laws_markSignS, t']
set_option maxHeartbeats 4000000 in
theorem heldSignS_is (n : Nat) (h : n ≤ 1048576) : F_laws_heldSignS (marksE markSg n, 1) = some (1 + 27 * (n : Int)) := by
  have t := runL_traj (f := step_laws_heldSignS_0) (fun i => (marksE markSg n, 1 + 27 * (i : Int), (i : Int))) (.inr (1 + 27 * (n : Int))) n (fun i hi => by
    have hw := wrap_succ (i := i) (by omega)
    have w1 : IntKind.i64.wrap (1 + 27 * (i : Int) + 1) = 2 + 27 * (i : Int) := by rw [wrap_id (by omega) (by omega)]; omega
    have w2 : IntKind.i64.wrap (2 + 27 * (i : Int) + 1) = 3 + 27 * (i : Int) := by rw [wrap_id (by omega) (by omega)]; omega
    have w3 : IntKind.i64.wrap (3 + 27 * (i : Int) + 1) = 4 + 27 * (i : Int) := by rw [wrap_id (by omega) (by omega)]; omega
    have w4 : IntKind.i64.wrap (4 + 27 * (i : Int) + 1) = 5 + 27 * (i : Int) := by rw [wrap_id (by omega) (by omega)]; omega
    have w5 : IntKind.i64.wrap (5 + 27 * (i : Int) + 1) = 6 + 27 * (i : Int) := by rw [wrap_id (by omega) (by omega)]; omega
    have w6 : IntKind.i64.wrap (6 + 27 * (i : Int) + 1) = 7 + 27 * (i : Int) := by rw [wrap_id (by omega) (by omega)]; omega
    have w7 : IntKind.i64.wrap (7 + 27 * (i : Int) + 1) = 8 + 27 * (i : Int) := by rw [wrap_id (by omega) (by omega)]; omega
    have w8 : IntKind.i64.wrap (8 + 27 * (i : Int) + 1) = 9 + 27 * (i : Int) := by rw [wrap_id (by omega) (by omega)]; omega
    have w9 : IntKind.i64.wrap (9 + 27 * (i : Int) + 1) = 10 + 27 * (i : Int) := by rw [wrap_id (by omega) (by omega)]; omega
    have w10 : IntKind.i64.wrap (10 + 27 * (i : Int) + 1) = 11 + 27 * (i : Int) := by rw [wrap_id (by omega) (by omega)]; omega
    have w11 : IntKind.i64.wrap (11 + 27 * (i : Int) + 1) = 12 + 27 * (i : Int) := by rw [wrap_id (by omega) (by omega)]; omega
    have w12 : IntKind.i64.wrap (12 + 27 * (i : Int) + 1) = 13 + 27 * (i : Int) := by rw [wrap_id (by omega) (by omega)]; omega
    have w13 : IntKind.i64.wrap (13 + 27 * (i : Int) + 1) = 14 + 27 * (i : Int) := by rw [wrap_id (by omega) (by omega)]; omega
    have w14 : IntKind.i64.wrap (14 + 27 * (i : Int) + 1) = 15 + 27 * (i : Int) := by rw [wrap_id (by omega) (by omega)]; omega
    have w15 : IntKind.i64.wrap (15 + 27 * (i : Int) + 1) = 16 + 27 * (i : Int) := by rw [wrap_id (by omega) (by omega)]; omega
    have w16 : IntKind.i64.wrap (16 + 27 * (i : Int) + 1) = 17 + 27 * (i : Int) := by rw [wrap_id (by omega) (by omega)]; omega
    have w17 : IntKind.i64.wrap (17 + 27 * (i : Int) + 1) = 18 + 27 * (i : Int) := by rw [wrap_id (by omega) (by omega)]; omega
    have w18 : IntKind.i64.wrap (18 + 27 * (i : Int) + 1) = 19 + 27 * (i : Int) := by rw [wrap_id (by omega) (by omega)]; omega
    have w19 : IntKind.i64.wrap (19 + 27 * (i : Int) + 1) = 20 + 27 * (i : Int) := by rw [wrap_id (by omega) (by omega)]; omega
    have w20 : IntKind.i64.wrap (20 + 27 * (i : Int) + 1) = 21 + 27 * (i : Int) := by rw [wrap_id (by omega) (by omega)]; omega
    have w21 : IntKind.i64.wrap (21 + 27 * (i : Int) + 1) = 22 + 27 * (i : Int) := by rw [wrap_id (by omega) (by omega)]; omega
    have w22 : IntKind.i64.wrap (22 + 27 * (i : Int) + 1) = 23 + 27 * (i : Int) := by rw [wrap_id (by omega) (by omega)]; omega
    have w23 : IntKind.i64.wrap (23 + 27 * (i : Int) + 1) = 24 + 27 * (i : Int) := by rw [wrap_id (by omega) (by omega)]; omega
    have w24 : IntKind.i64.wrap (24 + 27 * (i : Int) + 1) = 25 + 27 * (i : Int) := by rw [wrap_id (by omega) (by omega)]; omega
    have w25 : IntKind.i64.wrap (25 + 27 * (i : Int) + 1) = 26 + 27 * (i : Int) := by rw [wrap_id (by omega) (by omega)]; omega
    have w26 : IntKind.i64.wrap (26 + 27 * (i : Int) + 1) = 27 + 27 * (i : Int) := by rw [wrap_id (by omega) (by omega)]; omega
    have w27 : IntKind.i64.wrap (27 + 27 * (i : Int) + 1) = 1 + 27 * ((i + 1 : Nat) : Int) := by rw [wrap_id (by omega) (by omega)]; omega
    have h3 : (!decide ((3 : Int) = 0)) = true := rfl
    have hg := marksE_get markSg hi dz27
    have hm : markSg i = ((((1 + 27 * (i : Int)), (2 + 27 * (i : Int)), (3 + 27 * (i : Int)), (4 + 27 * (i : Int)), (5 + 27 * (i : Int)), (((6 + 27 * (i : Int))).tmod 3 == 0)), ((7 + 27 * (i : Int)), (8 + 27 * (i : Int))), ((9 + 27 * (i : Int)), (10 + 27 * (i : Int)), (((11 + 27 * (i : Int))).tmod 3 == 0)), ((mtE (12 + 27 * (i : Int))), (13 + 27 * (i : Int)))), (((14 + 27 * (i : Int))).tmod 3 == 0), (((15 + 27 * (i : Int)), (16 + 27 * (i : Int)), (17 + 27 * (i : Int)), (18 + 27 * (i : Int)), (19 + 27 * (i : Int)), (((20 + 27 * (i : Int))).tmod 3 == 0)), ((21 + 27 * (i : Int)), (22 + 27 * (i : Int))), ((23 + 27 * (i : Int)), (24 + 27 * (i : Int)), (((25 + 27 * (i : Int))).tmod 3 == 0)), ((mtE (26 + 27 * (i : Int))), (27 + 27 * (i : Int))))) := rfl
    simp only [step_laws_heldSignS_0, marksE_len, lt_len hi, nonneg, Bool.and_self, cond_true, Int.toNat_natCast, hg, hm, bne_self_eq_false, cond_false, hw, w1, w2, w3, w4, w5, w6, w7, w8, w9, w10, w11, w12, w13, w14, w15, w16, w17, w18, w19, w20, w21, w22, w23, w24, w25, w26, w27, mtE_is (show 12 + 27 * (i : Int) ≤ 4611686018427387904 by omega), mtE_is (show 26 + 27 * (i : Int) ≤ 4611686018427387904 by omega), h3, BEq.rfl, Bool.not_true]
    rfl) (by simp [step_laws_heldSignS_0, marksE_len])
  have t' : runL step_laws_heldSignS_0 (marksE markSg n, 1, (0 : Int)) = some (.inr (1 + 27 * (n : Int))) := t
  simp only [F_laws_heldSignS, t']
end Go.Proofs.YtklfnbckoaphpaaGreatDoor
/- laws.FnExactParseSigns answers yes. No conditions. -/
set_option linter.unusedVariables false
set_option linter.unusedSimpArgs false
namespace Go.Proofs.YtklfnbckoaphpaaGreatDoor
open Go
/-! ### Lines are the parts between newlines -/
def segL : List (List UInt8) → List ByteArray
  | [] => []
  | [a] => if a = [] then [] else [ba a]
  | a :: b :: r => ba (a ++ [10]) :: segL (b :: r)
theorem linesN_spl : ∀ (n : Nat) (l : List UInt8), l.length ≤ n → linesN n (ba l) = segL (spl 10 l)
  | 0, l, h => by
    have : l = [] := List.eq_nil_of_length_eq_zero (by omega)
    subst this
    rfl
  | n + 1, l, h => by
    rcases spl_cases 10 l with hn | ⟨a, r, rfl, ha⟩
    · rw [spl_none 10 l hn]
      unfold linesN segL
      by_cases e : l = []
      · subst e; rfl
      · have hz : ((ba l).size == 0) = false := beq_eq_false_iff_ne.2 (by rw [ba_size]; exact fun q => e (List.eq_nil_of_length_eq_zero q))
        rw [hz, if_neg e, ba_data, idx_none hn]
        rfl
    · rw [spl_cons 10 a r ha]
      obtain ⟨b, t, hb⟩ : ∃ b t, spl 10 r = b :: t := by
        cases hq : spl 10 r with
        | nil => exact absurd hq (spl_ne 10 r)
        | cons b t => exact ⟨b, t, rfl⟩
      have ih := linesN_spl n r (by simp at h; omega)
      have hz : ((ba (a ++ 10 :: r)).size == 0) = false := beq_eq_false_iff_ne.2 (by rw [ba_size]; simp)
      have hi := idx_at (r := r) ha
      unfold linesN
      rw [hz, ba_data, hi, hb]
      have g : decide (0 ≤ (a.length : Int)) = true := decide_eq_true (by omega)
      rw [g]
      simp only [cond_false, cond_true, Int.toNat_natCast, segL]
      have e1 : (ba (a ++ 10 :: r)).extract 0 (a.length + 1) = ba (a ++ [10]) := by
        rw [ba_extract]
        have : a ++ 10 :: r = (a ++ [10]) ++ r := by simp
        rw [this, List.drop_zero, Nat.sub_zero, List.take_append_of_le_length (by simp), List.take_of_length_le (by simp)]
      have e2 : (ba (a ++ 10 :: r)).extract (a.length + 1) (ba (a ++ 10 :: r)).size = ba r := by
        rw [ba_extract, ba_size]
        have : a ++ 10 :: r = (a ++ [10]) ++ r := by simp
        rw [this, List.drop_append_of_le_length (by simp), List.drop_eq_nil_of_le (by simp), List.nil_append, List.take_of_length_le (by simp; omega)]
      rw [e1, e2, ih, hb]
theorem lines_spl (l : List UInt8) : linesOf (ba l) = segL (spl 10 l) := linesN_spl _ l (Nat.le_refl _)
/-! ### The newline at the end -/
theorem hasSuffix_is (a : List UInt8) (b : UInt8) (hl : a.length ≤ 1048576) : F_stringslite_HasSuffix (ba (a ++ [b]), (⟨#[10]⟩ : ByteArray)) = some (decide (b = 10)) := by
  have z1 : (⟨#[10]⟩ : ByteArray).size = 1 := rfl
  have zn : (ba (a ++ [b])).size = a.length + 1 := by rw [ba_size]; simp
  have g0 : decide ((((ba (a ++ [b])).size : Nat) : Int) ≥ ((⟨#[10]⟩ : ByteArray).size : Int)) = true := decide_eq_true (by rw [z1, zn]; omega)
  have w : IntKind.i64.wrap ((((ba (a ++ [b])).size : Nat) : Int) - ((⟨#[10]⟩ : ByteArray).size : Int)) = (a.length : Int) := by
    rw [z1, zn, wrap_id (by omega) (by omega)]; omega
  have g1 : (decide (0 ≤ (a.length : Int)) && decide ((a.length : Int) ≤ (((ba (a ++ [b])).size : Nat) : Int)) && decide ((((ba (a ++ [b])).size : Nat) : Int) ≤ (((ba (a ++ [b])).size : Nat) : Int))) = true := by
    rw [decide_eq_true (by omega), decide_eq_true (by rw [zn]; omega), decide_eq_true (Int.le_refl _)]; rfl
  have ex : (ba (a ++ [b])).extract a.length (ba (a ++ [b])).size = ba [b] := by
    rw [ba_extract, ba_size, List.drop_left, List.take_of_length_le (by simp)]
  have e10 : (⟨#[10]⟩ : ByteArray) = ba [10] := rfl
  simp only [F_stringslite_HasSuffix, g0, cond_true, w, g1, Int.toNat_natCast, ex]
  rw [e10, tt]
  by_cases h : b = 10
  · subst h; rfl
  · rw [decide_eq_false h, decide_eq_false (fun q => h (List.cons.inj q).1)]
theorem trim_is (a : List UInt8) (hl : a.length ≤ 1048576) : F_strings_TrimSuffix (ba (a ++ [10]), (⟨#[10]⟩ : ByteArray)) = some (ba a) := by
  have z1 : (⟨#[10]⟩ : ByteArray).size = 1 := rfl
  have zn : (ba (a ++ [10])).size = a.length + 1 := by rw [ba_size]; simp
  have hs := hasSuffix_is a 10 hl
  have w : IntKind.i64.wrap ((((ba (a ++ [10])).size : Nat) : Int) - ((⟨#[10]⟩ : ByteArray).size : Int)) = (a.length : Int) := by
    rw [z1, zn, wrap_id (by omega) (by omega)]; omega
  have g1 : (decide (0 ≤ (0 : Int)) && decide ((0 : Int) ≤ (a.length : Int)) && decide ((a.length : Int) ≤ (((ba (a ++ [10])).size : Nat) : Int))) = true := by
    rw [decide_eq_true (by omega), decide_eq_true (by omega), decide_eq_true (by rw [zn]; omega)]; rfl
  have ex : (ba (a ++ [10])).extract ((0 : Int)).toNat a.length = ba a := by
    show (ba (a ++ [10])).extract 0 a.length = ba a
    rw [ba_extract, List.drop_zero, Nat.sub_zero, List.take_left]
  simp only [F_strings_TrimSuffix, F_stringslite_TrimSuffix, hs, decide_true, cond_true, w, g1, Int.toNat_natCast, ex]
theorem trim_no (a : List UInt8) (h : (10 : UInt8) ∉ a) (h0 : a ≠ []) (hl : a.length ≤ 1048576) : F_stringslite_HasSuffix (ba a, (⟨#[10]⟩ : ByteArray)) = some false ∧ F_strings_TrimSuffix (ba a, (⟨#[10]⟩ : ByteArray)) = some (ba a) := by
  obtain ⟨a', b, rfl⟩ : ∃ a' b, a = a' ++ [b] := ⟨a.dropLast, a.getLast h0, (List.dropLast_concat_getLast h0).symm⟩
  have hs := hasSuffix_is a' b (by simp at hl; omega)
  have hb : b ≠ 10 := fun e => h (by rw [e]; simp)
  rw [decide_eq_false hb] at hs
  exact ⟨hs, by simp only [F_strings_TrimSuffix, F_stringslite_TrimSuffix, hs, cond_false]⟩
/-! ### The signs of the parts -/
def okP (a : List UInt8) : Bool := (sgP (ba a)).2.1 == 0
def sgOf (a : List UInt8) : Sign := (sgP (ba a)).1
theorem sgT_len {s : Sign} (k : sgOK s = true) : (sgT s).length ≤ 53 := by
  obtain ⟨p1, p2, p3⟩ := sgOK_parts k
  unfold sgT
  have l1 := hd_len p1
  cases h : s.2.1 with
  | false => simp only [cond_false]; omega
  | true =>
    have l2 := hd_len (p2 h).1
    simp only [cond_true, List.length_append, List.length_cons]; omega
theorem psP_ok (a : List UInt8) : psP (ba a) = (bif okP a then (sgOf a, true) else (sgZ, false)) := by
  unfold psP okP sgOf
  by_cases h : (sgP (ba a)).2.1 = 0
  · obtain ⟨k, e⟩ := sg_tr h
    have hl := sgT_len k
    rw [e] at hl
    have hz : (((ba a).size : Nat) : Int) ≤ 200 := by rw [ba_size]; omega
    rw [decide_eq_true hz, h]; rfl
  · have hb : ((sgP (ba a)).2.1 == 0) = false := beq_eq_false_iff_ne.2 h
    rw [hb, sgP_bad h]
    cases decide ((((ba a).size : Nat) : Int) ≤ 200) <;> rfl
/-- the signs of all parts but the last one, which is empty; at most twenty -/
def allP (init : List (List UInt8)) (last : List UInt8) (k : Nat) : Bool := init.all okP && (decide (last = []) && decide (k + init.length ≤ 20))
theorem fold_is : ∀ (init : List (List UInt8)) (last : List UInt8) (out : List Sign), (∀ p ∈ init, p.length ≤ 1048576) → last.length ≤ 1048576 → (10 : UInt8) ∉ last → out.length ≤ 20 →
    ∃ o', foldL step_impl_ParseSigns_L (out, false) (segL (init ++ [last])) = some (bif allP init last out.length then .inl (out ++ init.map sgOf, false) else .inr (o', false))
  | [], last, out, _, hl, hn, ho => by
    show ∃ o', foldL step_impl_ParseSigns_L (out, false) (if last = [] then [] else [ba last]) = _
    by_cases e : last = []
    · refine ⟨[], ?_⟩
      have ha : allP [] last out.length = true := by
        unfold allP
        rw [decide_eq_true e, decide_eq_true (show out.length + ([] : List (List UInt8)).length ≤ 20 by simpa using ho)]; rfl
      rw [if_pos e, ha]
      simp [foldL]
    · obtain ⟨h1, h2⟩ := trim_no last hn e hl
      have hp := ParseSign_impl (ba last) (by rw [ba_size]; exact hl)
      rw [psP_ok] at hp
      have ha : allP [] last out.length = false := by
        unfold allP
        rw [decide_eq_false e]; simp
      have hh : F_strings_HasSuffix (ba last, (⟨#[10]⟩ : ByteArray)) = some false := by simp only [F_strings_HasSuffix, h1]
      refine ⟨out, ?_⟩
      rw [if_neg e, ha]
      have st : step_impl_ParseSigns_L (out, false) (ba last) = some (.inr (out, false)) := by
        simp only [step_impl_ParseSigns_L, h2, hp, hh]
        cases okP last <;> rfl
      simp only [foldL, st, cond_false]
  | a :: init, last, out, hi, hl, hn, ho => by
    have ha := hi a (by simp)
    have hp := ParseSign_impl (ba a) (by rw [ba_size]; exact ha)
    rw [psP_ok] at hp
    have ht := trim_is a ha
    have hs := hasSuffix_is a 10 ha
    have hh : F_strings_HasSuffix (ba (a ++ [10]), (⟨#[10]⟩ : ByteArray)) = some true := by simp only [F_strings_HasSuffix, hs, decide_true]
    have hseg : segL (a :: init ++ [last]) = ba (a ++ [10]) :: segL (init ++ [last]) := by
      cases init with
      | nil => rfl
      | cons b t => rfl
    have hg : ∀ z : Sign, decide ((out.length + [z].length) * 232 ≤ 140737488355328) = true := fun z => decide_eq_true (by simp; omega)
    rw [hseg]
    cases hok : okP a with
    | false =>
      refine ⟨out, ?_⟩
      have st : step_impl_ParseSigns_L (out, false) (ba (a ++ [10])) = some (.inr (out, false)) := by
        rw [hok] at hp
        simp only [step_impl_ParseSigns_L, ht, hp, cond_false, Bool.not_false, cond_true]
      have hal : allP (a :: init) last out.length = false := by unfold allP; rw [List.all_cons, hok]; rfl
      simp only [foldL, st, hal, cond_false]
    | true =>
      rw [hok] at hp
      by_cases h20 : out.length = 20
      · refine ⟨out, ?_⟩
        have b20 : ((out.length : Int) == 20) = true := by rw [h20]; rfl
        have st : step_impl_ParseSigns_L (out, false) (ba (a ++ [10])) = some (.inr (out, false)) := by
          simp only [step_impl_ParseSigns_L, ht, hp, cond_true, Bool.not_true, cond_false, hh, b20]
        have hal : allP (a :: init) last out.length = false := by
          unfold allP
          rw [decide_eq_false (show ¬ out.length + (a :: init).length ≤ 20 by simp; omega)]; simp
        simp only [foldL, st, hal, cond_false]
      · have b20 : ((out.length : Int) == 20) = false := beq_eq_false_iff_ne.2 (by omega)
        obtain ⟨o', ih⟩ := fold_is init last (out ++ [sgOf a]) (fun p hp => hi p (List.mem_cons_of_mem _ hp)) hl hn (by simp; omega)
        refine ⟨o', ?_⟩
        have st : step_impl_ParseSigns_L (out, false) (ba (a ++ [10])) = some (.inl (out ++ [sgOf a], false)) := by
          simp only [step_impl_ParseSigns_L, ht, hp, cond_true, Bool.not_true, cond_false, hh, b20, hg]
        have hal : allP (a :: init) last out.length = allP init last (out ++ [sgOf a]).length := by
          unfold allP
          rw [List.all_cons, hok, Bool.true_and]
          congr 3
          simp; omega
        simp only [foldL, st, ih, hal, List.append_assoc, List.map_cons, List.cons_append, List.nil_append]
/-! ### The specification's loop -/
theorem loop_is (init : List (List UInt8)) (last : List UInt8) (hi : ∀ p ∈ init, p.length ≤ 1048576) (hk : init.length ≤ 20) :
    runL step_spec_ParseSigns_0 ((0 : Int), ((init.length : Int), ((init.length : Int), ((0 : Int), ((init ++ [last]).map ba, []))))) = some (bif init.all okP then .inr (init.map sgOf) else .inl ([], false)) := by
  have t := runL_inv (f := step_spec_ParseSigns_0) (fun s => ∃ i : Nat, s = ((0 : Int), ((init.length : Int), ((init.length : Int), ((i : Int), ((init ++ [last]).map ba, (init.take i).map sgOf))))) ∧ i ≤ init.length ∧ (init.take i).all okP = true)
    (fun o => o = (bif init.all okP then .inr (init.map sgOf) else .inl ([], false))) (fun s => init.length - s.2.2.2.1.toNat) (by
    rintro s ⟨i, rfl, hi', hall⟩
    rcases Nat.lt_or_ge i init.length with hlt | hge
    · have hg : ((init ++ [last]).map ba).getD i ByteArray.empty = ba init[i] := by
        rw [List.getD, List.getElem?_map, List.getElem?_append_left hlt, List.getElem?_eq_getElem hlt]; rfl
      have hp := sgP_spec (ba init[i]) (by rw [ba_size]; exact hi _ (List.getElem_mem hlt))
      have w1 := wrap_succ (i := i) (by omega)
      have z0 : (0 : Int).toNat = 0 := rfl
      have htk : init.take (i + 1) = init.take i ++ [init[i]] := by rw [List.take_add_one, List.getElem?_eq_getElem hlt]; rfl
      have hmap : (init.take (i + 1)).map sgOf = (init.take i).map sgOf ++ [sgOf init[i]] := by rw [htk, List.map_append]; rfl
      have gg : ∀ z : Sign, decide ((((init.take i).map sgOf).length + [z].length) * 232 ≤ 140737488355328) = true := fun z => decide_eq_true (by simp; omega)
      cases hok : okP init[i] with
      | true =>
        right
        have h0 : ((sgP (ba init[i])).2.1 != 0) = false := by
          have : ((sgP (ba init[i])).2.1 == 0) = true := hok
          simp [bne, this]
        refine ⟨((0 : Int), ((init.length : Int), ((init.length : Int), (((i + 1 : Nat) : Int), ((init ++ [last]).map ba, (init.take i).map sgOf ++ [sgOf init[i]]))))), ?_, ⟨i + 1, by rw [hmap], by omega, by rw [htk, List.all_append, hall]; simp [hok]⟩, by simp; omega⟩
        simp only [step_spec_ParseSigns_0, lt_len hlt, nonneg, Bool.and_self, cond_true, Int.toNat_natCast, z0, Nat.zero_add, hg, hp, h0, cond_false, gg, w1]
        rfl
      | false =>
        left
        have h0 : ((sgP (ba init[i])).2.1 != 0) = true := by
          have : ((sgP (ba init[i])).2.1 == 0) = false := hok
          simp [bne, this]
        have hno : init.all okP = false := by
          rw [List.all_eq_false]
          exact ⟨_, List.getElem_mem hlt, by rw [hok]; simp⟩
        refine ⟨.inl ([], false), ?_, by rw [hno]; rfl⟩
        simp only [step_spec_ParseSigns_0, lt_len hlt, nonneg, Bool.and_self, cond_true, Int.toNat_natCast, z0, Nat.zero_add, hg, hp, h0]
    · left
      have : i = init.length := by omega
      subst this
      rw [List.take_length] at hall
      refine ⟨.inr (init.map sgOf), ?_, by rw [hall]; rfl⟩
      simp only [step_spec_ParseSigns_0, not_lt_len, cond_false, List.take_length]) ((0 : Int), ((init.length : Int), ((init.length : Int), ((0 : Int), ((init ++ [last]).map ba, []))))) ⟨0, rfl, Nat.zero_le _, rfl⟩
  obtain ⟨o, ho, rfl⟩ := t
  exact ho
theorem ParseSigns_same (l : List UInt8) (hl : l.length ≤ 1048576) : ∃ y : List Sign × Bool, F_spec_ParseSigns (ba l) = some y ∧ F_impl_ParseSigns (ba l) = some y ∧ y.1.length ≤ 20 := by
  have hsp := l1Split_is l 10 hl
  have hsp : F_spec_l1Split (ba l, (10 : Int)) = some ((spl 10 l).map ba) := hsp
  have hall := spl_sizes 10 l.length l (Nat.le_refl _)
  obtain ⟨init, last, hs⟩ : ∃ init last, spl 10 l = init ++ [last] := ⟨(spl 10 l).dropLast, (spl 10 l).getLast (spl_ne 10 l), (List.dropLast_concat_getLast (spl_ne 10 l)).symm⟩
  have h1 : ∀ p ∈ init, p.length ≤ 1048576 := fun p hp => Nat.le_trans (hall p (by rw [hs]; simp [hp])).1 hl
  have h2 : last.length ≤ 1048576 := Nat.le_trans (hall last (by rw [hs]; simp)).1 hl
  have h3 : (10 : UInt8) ∉ last := (hall last (by rw [hs]; simp)).2
  have hil : init.length ≤ 1048576 := by
    have := spl_len 10 l
    have hc := List.count_le_length (a := (10 : UInt8)) (l := l)
    rw [hs] at this
    simp at this; omega
  by_cases hbig : (((ba l).size : Nat) : Int) > 2000
  · refine ⟨([], false), ?_, ?_, by simp⟩
    · simp only [F_spec_ParseSigns, hsp, decide_eq_true hbig, cond_true]
    · simp only [F_impl_ParseSigns, decide_eq_true hbig, cond_true]
  · obtain ⟨o', hf⟩ := fold_is init last [] h1 h2 h3 (by simp)
    refine ⟨bif allP init last 0 then (init.map sgOf, true) else ([], false), ?_, ?_, ?_⟩
    · rw [hs] at hsp
      have hlen : ((init ++ [last]).map ba).length = init.length + 1 := by simp
      have w1 : IntKind.i64.wrap (((((init ++ [last]).map ba).length : Nat) : Int) - 1) = (init.length : Int) := by rw [hlen, wrap_id (by omega) (by omega)]; omega
      have g1 : (decide (0 ≤ (init.length : Int)) && decide ((init.length : Int) < ((((init ++ [last]).map ba).length : Nat) : Int))) = true := by rw [decide_eq_true (by omega), decide_eq_true (by rw [hlen]; omega)]; rfl
      have g2 : (decide (0 ≤ (0 : Int)) && decide ((0 : Int) ≤ (init.length : Int)) && decide ((init.length : Int) ≤ ((((init ++ [last]).map ba).length : Nat) : Int))) = true := by rw [decide_eq_true (by omega), decide_eq_true (by omega), decide_eq_true (by rw [hlen]; omega)]; rfl
      have hg : ((init ++ [last]).map ba).getD init.length ByteArray.empty = ba last := by
        rw [List.getD, List.getElem?_map, List.getElem?_append_right (Nat.le_refl _)]; simp
      have e0 : ((ba last).toList == (⟨#[]⟩ : ByteArray).toList) = decide (last = []) := mt_nil last
      have z0 : (0 : Int).toNat = 0 := rfl
      by_cases h21 : ((((init ++ [last]).map ba).length : Nat) : Int) > 21
      · have hal : allP init last 0 = false := by
          unfold allP
          rw [decide_eq_false (show ¬ 0 + init.length ≤ 20 by rw [hlen] at h21; omega)]; simp
        simp only [F_spec_ParseSigns, hsp, decide_eq_false hbig, decide_eq_true h21, cond_true, cond_false, hal]
      · have hk : init.length ≤ 20 := by rw [hlen] at h21; omega
        have hlp := loop_is init last h1 hk
        by_cases hla : last = []
        · have hal : allP init last 0 = init.all okP := by
            unfold allP
            rw [decide_eq_true hla, decide_eq_true (show 0 + init.length ≤ 20 by omega)]; simp
          simp only [F_spec_ParseSigns, hsp, decide_eq_false hbig, decide_eq_false h21, cond_false, w1, g1, cond_true, Int.toNat_natCast, hg, e0, decide_eq_true hla, Bool.not_true, g2, z0, Nat.sub_zero, Int.ofNat_zero, Int.sub_zero]
          have hlp' : runL step_spec_ParseSigns_0 (((0 : Nat) : Int), ((init.length : Int), ((init.length : Int), ((0 : Int), ((init ++ [last]).map ba, []))))) = _ := hlp
          first | rw [hlp] | rw [hlp']
          rw [hal]
          cases init.all okP <;> rfl
        · have hal : allP init last 0 = false := by
            unfold allP
            rw [decide_eq_false hla]; simp
          simp only [F_spec_ParseSigns, hsp, decide_eq_false hbig, decide_eq_false h21, cond_false, w1, g1, cond_true, Int.toNat_natCast, hg, e0, decide_eq_false hla, Bool.not_false, hal]
    · have e : linesOf (ba l) = segL (init ++ [last]) := by rw [lines_spl, hs]
      simp only [F_impl_ParseSigns, decide_eq_false hbig, cond_false, e, hf, List.length_nil]
      cases allP init last 0 <;> simp
    · cases hal : allP init last 0 with
      | false => simp
      | true =>
        unfold allP at hal
        simp only [Bool.and_eq_true, decide_eq_true_eq] at hal
        simp only [cond_true, List.length_map]
        omega
theorem law_ParseSigns (x : ByteArray) : F_laws_FnExactParseSigns x = some true := by
  by_cases hx : (x.size : Int) > 1048576
  · delta F_laws_FnExactParseSigns
    simp only [decide_eq_true hx, cond_true]
  · obtain ⟨y, y1, y2, y3⟩ := ParseSigns_same x.data.toList (by have : x.data.toList.length = x.size := rfl; omega)
    rw [← eq_ba] at y1 y2
    have e1 := eqSignS_is y.1 (by omega)
    have m2 := markSignS_is y.1 (by omega)
    have k2 := heldSignS_is y.1.length (by omega)
    have n2 : decide (1 + 27 * (y.1.length : Int) < 0) = false := decide_eq_false (by omega)
    delta F_laws_FnExactParseSigns
    simp only [decide_eq_false hx, cond_false, y1, y2, e1, Bool.not_true, BEq.rfl, m2, k2, n2, bne_self_eq_false]
end Go.Proofs.YtklfnbckoaphpaaGreatDoor
