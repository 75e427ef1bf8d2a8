/- Plain laws for this claim, several texts in one. No conditions beyond the bounds that are named. -/
import Derived.Test.YtklfnbckoaphpaaGreatDoorEvZk
import Derived.Test.YtklfnbckoaphpaaGreatDoorC0
import Derived.Lib.IndexLaws
import Derived.Lib.IndexBytes
import Derived.Lib.SplitLaws
import Derived.Lib.CutLaws
import Derived.Lib.Repeat
/- Words for pure laws: rounds of loops, bounds of numbers. No conditions. -/
set_option linter.unusedVariables false
namespace Go.Proofs.YtklfnbckoaphpaaGreatDoor
open Go
theorem wrap_id {n : Int} (h0 : -9223372036854775808 ≤ n) (h1 : n ≤ 9223372036854775807) : IntKind.i64.wrap n = n := by
  simp [IntKind.wrap, IntKind.bits, IntKind.signed]
  omega
theorem wrap_succ {i : Nat} (h : i < 9223372036854775807) : IntKind.i64.wrap ((i : Int) + 1) = ((i + 1 : Nat) : Int) := by rw [wrap_id (by omega) (by omega)]; omega
/-- a loop that keeps R and comes to an end has Q behind it -/
theorem runL_inv {S O : Type} {f : S → Option (S ⊕ O)} (R : S → Prop) (Q : O → Prop) (μ : S → Nat)
    (h : ∀ s, R s → (∃ o, f s = some (.inr o) ∧ Q o) ∨ ∃ s', f s = some (.inl s') ∧ R s' ∧ μ s' < μ s) : ∀ s, R s → ∃ o, runL f s = some o ∧ Q o := by
  have go : ∀ n s, μ s ≤ n → R s → ∃ o, runL f s = some o ∧ Q o := by
    intro n
    induction n with
    | zero =>
      intro s hn hs
      rcases h s hs with ⟨o, e, q⟩ | ⟨s', e, r, l⟩
      · exact ⟨o, by rw [runL_eq, e], q⟩
      · omega
    | succ n ih =>
      intro s hn hs
      rcases h s hs with ⟨o, e, q⟩ | ⟨s', e, r, l⟩
      · exact ⟨o, by rw [runL_eq, e], q⟩
      · obtain ⟨o, e2, q⟩ := ih s' (by omega) r
        exact ⟨o, by rw [runL_eq, e]; exact e2, q⟩
  exact fun s hs => go _ s (Nat.le_refl _) hs

/-- a loop over m rounds whose states are known -/
theorem runL_traj {S O : Type} {f : S → Option (S ⊕ O)} (s : Nat → S) (o : O) (m : Nat) (h : ∀ i, i < m → f (s i) = some (.inl (s (i + 1)))) (hend : f (s m) = some (.inr o)) : runL f (s 0) = some o := by
  have go : ∀ k i, m - i = k → i ≤ m → runL f (s i) = some o := by
    intro k
    induction k with
    | zero => intro i hk hi; rw [runL_eq, show i = m by omega, hend]
    | succ k ih => intro i hk hi; rw [runL_eq, h i (by omega)]; exact ih (i + 1) (by omega) (by omega)
  exact go m 0 (by omega) (by omega)

/-- a loop that goes on while p holds: the first place where it fails -/
theorem runL_first {S O : Type} {f : S → Option (S ⊕ O)} (p : Nat → Bool) (s : Nat → S) (no : Nat → O) (yes : O) (m : Nat)
    (h : ∀ i, i < m → f (s i) = some (bif p i then .inl (s (i + 1)) else .inr (no i))) (hend : f (s m) = some (.inr yes)) :
    (runL f (s 0) = some yes ∧ ∀ i, i < m → p i = true) ∨ ∃ i, i < m ∧ p i = false ∧ (∀ j, j < i → p j = true) ∧ runL f (s 0) = some (no i) := by
  have go : ∀ k i, m - i = k → i ≤ m → (∀ j, j < i → p j = true) → runL f (s 0) = runL f (s i) → (runL f (s 0) = some yes ∧ ∀ i, i < m → p i = true) ∨ ∃ i, i < m ∧ p i = false ∧ (∀ j, j < i → p j = true) ∧ runL f (s 0) = some (no i) := by
    intro k
    induction k with
    | zero =>
      intro i hk hi hp he
      have : i = m := by omega
      subst this
      exact .inl ⟨by rw [he, runL_eq, hend], hp⟩
    | succ k ih =>
      intro i hk hi hp he
      have hi' : i < m := by omega
      cases hpi : p i with
      | false => exact .inr ⟨i, hi', hpi, hp, by rw [he, runL_eq, h i hi', hpi]; rfl⟩
      | true =>
        refine ih (i + 1) (by omega) (by omega) (fun j hj => ?_) ?_
        · rcases Nat.lt_succ_iff_lt_or_eq.1 hj with hj | hj
          · exact hp j hj
          · exact hj ▸ hpi
        · rw [he, runL_eq f (s i), h i hi', hpi]; rfl
  exact go m 0 (by omega) (by omega) (fun j hj => by omega) rfl

/-- all of the first m places -/
def allN (p : Nat → Bool) (m : Nat) : Bool := (List.range m).all p
theorem allN_true {p : Nat → Bool} {m : Nat} : allN p m = true ↔ ∀ i, i < m → p i = true := by simp [allN]
theorem allN_false {p : Nat → Bool} {m : Nat} : allN p m = false ↔ ∃ i, i < m ∧ p i = false := by simp [allN]

theorem runL_all {S O : Type} {f : S → Option (S ⊕ O)} (p : Nat → Bool) (s : Nat → S) (no yes : O) (m : Nat)
    (h : ∀ i, i < m → f (s i) = some (bif p i then .inl (s (i + 1)) else .inr no)) (hend : f (s m) = some (.inr yes)) : runL f (s 0) = some (bif allN p m then yes else no) := by
  rcases runL_first p s (fun _ => no) yes m h hend with ⟨e, hp⟩ | ⟨i, hi, hp, _, e⟩
  · rw [e, allN_true.2 hp]; rfl
  · rw [e, allN_false.2 ⟨i, hi, hp⟩]; rfl

/-- the first of m places where p holds, or -1 -/
def firstN (p : Nat → Bool) (m : Nat) : Int := match (List.range m).find? p with | some i => (i : Int) | none => -1
theorem firstN_at {p : Nat → Bool} {m i : Nat} (hi : i < m) (hp : p i = true) (hj : ∀ j, j < i → p j = false) : firstN p m = (i : Int) := by
  unfold firstN
  have : (List.range m).find? p = some i := by
    rw [List.find?_range_eq_some]
    refine ⟨hp, by simpa using hi, fun j hj' => by simp [hj j hj']⟩
  rw [this]
theorem firstN_none {p : Nat → Bool} {m : Nat} (h : ∀ j, j < m → p j = false) : firstN p m = -1 := by
  unfold firstN
  have : (List.range m).find? p = none := by
    rw [List.find?_eq_none]
    intro x hx
    simp [h x (by simpa using hx)]
  rw [this]
theorem getD_mem {α : Type} {l : List α} {i : Nat} (h : i < l.length) (d : α) : l.getD i d ∈ l := by simp [List.getD, List.getElem?_eq_getElem h]
theorem take_succ_getD {α : Type} {l : List α} {i : Nat} (h : i < l.length) (d : α) : l.take (i + 1) = l.take i ++ [l.getD i d] := by
  rw [List.take_add_one, List.getD, List.getElem?_eq_getElem h]; rfl
theorem lt_len {i n : Nat} (h : i < n) : decide ((i : Int) < (n : Int)) = true := by simp; omega
theorem not_lt_len (n : Nat) : decide ((n : Int) < (n : Int)) = false := by simp
theorem nonneg (i : Nat) : decide (0 ≤ (i : Int)) = true := by simp

end Go.Proofs.YtklfnbckoaphpaaGreatDoor
/- The words of the laws. No conditions beyond the bounds that are named. -/
set_option linter.unusedVariables false
set_option linter.unusedSimpArgs false
namespace Go.Proofs.YtklfnbckoaphpaaGreatDoor
open Go
end Go.Proofs.YtklfnbckoaphpaaGreatDoor
/- Bytes, and texts that are split at a byte, on both sides: plain laws. No conditions beyond the bounds that are named. -/
set_option linter.unusedVariables false
set_option linter.unusedSimpArgs false
namespace Go.Proofs.YtklfnbckoaphpaaGreatDoor
open Go

/-! ### Bytes -/
def ba (l : List UInt8) : ByteArray := ⟨l.toArray⟩
theorem ba_data (l : List UInt8) : (ba l).data.toList = l := rfl
theorem eq_ba (x : ByteArray) : x = ba x.data.toList := by
  rcases x with ⟨⟨l⟩⟩
  rfl
theorem ba_size (l : List UInt8) : (ba l).size = l.length := rfl
theorem ba_app (a b : List UInt8) : ba a ++ ba b = ba (a ++ b) := by
  have h : ∀ (x y : ByteArray), x.data.toList = y.data.toList → x = y := fun x y h => by rw [eq_ba x, eq_ba y, h]
  apply h
  simp [ba, ByteArray.data_append]
theorem ba_extract (l : List UInt8) (a b : Nat) : (ba l).extract a b = ba ((l.drop a).take (b - a)) := by
  have h : ∀ (x y : ByteArray), x.data.toList = y.data.toList → x = y := fun x y h => by rw [eq_ba x, eq_ba y, h]
  apply h
  rw [Lib.extract_data]
  rfl
theorem ba_byteAt (l : List UInt8) (i : Nat) : byteAt (ba l) i = ((l.getD i 0).toNat : Int) := rfl
theorem ba_inj {a b : List UInt8} : ba a = ba b ↔ a = b := ⟨fun h => by have := congrArg (fun x : ByteArray => x.data.toList) h; exact this, fun h => h ▸ rfl⟩
theorem ba_toList (l : List UInt8) : (ba l).toList = l := by rw [Lib.toList_data]; rfl
theorem byte_beq (b c : UInt8) : (((b.toNat : Nat) : Int) == ((c.toNat : Nat) : Int)) = decide (b = c) := by
  by_cases h : b = c
  · subst h; simp
  · have : ¬ ((b.toNat : Int) = (c.toNat : Int)) := fun e => h (UInt8.toNat_inj.1 (by omega))
    rw [decide_eq_false h]; exact beq_eq_false_iff_ne.2 this
theorem l1In_is (a b c : Int) : F_spec_l1In (a, b, c) = some (decide (b ≤ a) && decide (a ≤ c)) := by
  unfold F_spec_l1In
  by_cases h : b ≤ a <;> simp [h]
theorem within_is (a b c : Int) : F_impl_within (a, b, c) = some (decide (b ≤ a) && decide (a ≤ c)) := by
  unfold F_impl_within
  by_cases h : b ≤ a <;> simp [h]
theorem lt_not {a b : Int} : decide (a < b) = !decide (b ≤ a) := by by_cases h : b ≤ a <;> simp [h] <;> omega
/-! ### Splitting -/
def spl (c : UInt8) : List UInt8 → List (List UInt8)
  | [] => [[]]
  | b :: r => if b = c then [] :: spl c r else (b :: (spl c r).headD []) :: (spl c r).tail
theorem spl_ne (c : UInt8) : ∀ l, spl c l ≠ []
  | [] => by simp [spl]
  | b :: r => by unfold spl; split <;> simp
theorem spl_none (c : UInt8) : ∀ a, c ∉ a → spl c a = [a]
  | [], _ => rfl
  | b :: r, h => by
    have hb : ¬ b = c := fun e => h (by simp [e])
    rw [spl, if_neg hb, spl_none c r (fun q => h (List.mem_cons_of_mem _ q))]
    rfl
theorem spl_cons (c : UInt8) : ∀ a r, c ∉ a → spl c (a ++ c :: r) = a :: spl c r
  | [], r, _ => by simp [spl]
  | b :: a, r, h => by
    have hb : ¬ b = c := fun e => h (by simp [e])
    rw [List.cons_append, spl, if_neg hb, spl_cons c a r (fun q => h (List.mem_cons_of_mem _ q))]
    rfl
theorem spl_cases (c : UInt8) : ∀ l, c ∉ l ∨ ∃ a r, l = a ++ c :: r ∧ c ∉ a
  | [] => .inl (by simp)
  | b :: l => by
    by_cases hb : b = c
    · exact .inr ⟨[], l, by simp [hb], by simp⟩
    · rcases spl_cases c l with h | ⟨a, r, rfl, h⟩
      · exact .inl (by simp [h]; exact fun e => hb e.symm)
      · exact .inr ⟨b :: a, r, rfl, by simp [h]; exact fun e => hb e.symm⟩
theorem spl_len (c : UInt8) : ∀ l, (spl c l).length = l.count c + 1
  | [] => rfl
  | b :: r => by
    unfold spl
    split
    · rename_i h
      subst h
      simp [spl_len b r]
    · rename_i h
      have := spl_len c r
      rw [List.count_cons_of_ne h]
      have hne := spl_ne c r
      cases hs : spl c r with
      | nil => exact absurd hs hne
      | cons x y => rw [hs] at this; simpa using this
theorem spl_sizes (c : UInt8) : ∀ (n : Nat) (l : List UInt8), l.length ≤ n → ∀ p ∈ spl c l, p.length ≤ l.length ∧ c ∉ p := by
  intro n
  induction n with
  | zero =>
    intro l hl p hp
    obtain rfl : l = [] := List.eq_nil_of_length_eq_zero (by omega)
    simp [spl] at hp
    subst hp; simp
  | succ n ih =>
    intro l hl p hp
    rcases spl_cases c l with h | ⟨a, r, rfl, h⟩
    · rw [spl_none c l h] at hp
      obtain rfl := List.mem_singleton.1 hp
      exact ⟨Nat.le_refl _, h⟩
    · rw [spl_cons c a r h] at hp
      simp only [List.length_append, List.length_cons] at hl ⊢
      rcases List.mem_cons.1 hp with rfl | hp
      · exact ⟨by omega, h⟩
      · have := ih r (by omega) p hp
        exact ⟨by omega, this.2⟩
theorem not_mem_piece {l : List UInt8} {c : UInt8} {fr i : Nat} (h : ∀ j, fr ≤ j → j < i → l.getD j 0 ≠ c) (hi : i ≤ l.length) : c ∉ (l.drop fr).take (i - fr) := by
  intro hm
  obtain ⟨j, hj, e⟩ := List.mem_iff_getElem.1 hm
  have hj' : j < i - fr := by simp at hj; omega
  have e' : l.getD (fr + j) 0 = c := by
    rw [List.getElem_take, List.getElem_drop] at e
    rw [List.getD, List.getElem?_eq_getElem (by omega)]
    exact e
  exact h (fr + j) (by omega) (by omega) e'
theorem drop_piece {l : List UInt8} {c : UInt8} {fr i : Nat} (h1 : fr ≤ i) (hi : i < l.length) (hc : l.getD i 0 = c) : l.drop fr = (l.drop fr).take (i - fr) ++ c :: l.drop (i + 1) := by
  have e : l.drop i = c :: l.drop (i + 1) := by
    rw [List.drop_eq_getElem_cons hi]
    congr 1
    rw [List.getD, List.getElem?_eq_getElem hi] at hc
    exact hc
  rw [← e]
  conv => lhs; rw [← List.take_append_drop (i - fr) (l.drop fr)]
  rw [List.drop_drop, show fr + (i - fr) = i by omega]
theorem l1Split_is (l : List UInt8) (c : UInt8) (hl : l.length ≤ 1048576) : F_spec_l1Split (ba l, (c.toNat : Int)) = some ((spl c l).map ba) := by
  obtain ⟨o, e, fr, out, rfl, hf, hno, hlo, ho⟩ := runL_inv (f := step_spec_l1Split_0) (fun s => ∃ (fr i : Nat) (out : List ByteArray), s = (ba l, (c.toNat : Int), (fr : Int), (i : Int), out) ∧ fr ≤ i ∧ i ≤ l.length ∧ (∀ j, fr ≤ j → j < i → l.getD j 0 ≠ c) ∧ out.length ≤ fr ∧ out ++ (spl c (l.drop fr)).map ba = (spl c l).map ba)
    (fun o => ∃ (fr : Nat) (out : List ByteArray), o = (ba l, (fr : Int), out) ∧ fr ≤ l.length ∧ (∀ j, fr ≤ j → j < l.length → l.getD j 0 ≠ c) ∧ out.length ≤ fr ∧ out ++ (spl c (l.drop fr)).map ba = (spl c l).map ba) (fun s => l.length - s.2.2.2.1.toNat) (by
    rintro s ⟨fr, i, out, rfl, h1, h2, h3, h4, h5⟩
    rcases Nat.lt_or_ge i l.length with hlt | hge
    · right
      have hw := wrap_succ (i := i) (by omega)
      have hb : (byteAt (ba l) i == (c.toNat : Int)) = decide (l.getD i 0 = c) := by rw [ba_byteAt]; exact byte_beq _ _
      have hs : decide ((i : Int) < ((ba l).size : Int)) = true := lt_len (by rw [ba_size]; exact hlt)
      by_cases hc : l.getD i 0 = c
      · rw [decide_eq_true hc] at hb
        have hd := drop_piece h1 hlt hc
        have hp := not_mem_piece h3 (Nat.le_of_lt hlt)
        refine ⟨(ba l, (c.toNat : Int), ((i + 1 : Nat) : Int), ((i + 1 : Nat) : Int), out ++ [(ba l).extract fr i]), ?_, ⟨i + 1, i + 1, _, rfl, Nat.le_refl _, by omega, fun j hj hj' => by omega, by simp; omega, ?_⟩, by simp; omega⟩
        · have g1 : decide ((fr : Int) ≤ (i : Int)) = true := decide_eq_true (by omega)
          have g2 : decide ((i : Int) ≤ ((ba l).size : Int)) = true := decide_eq_true (by rw [ba_size]; omega)
          have g3 : decide ((out.length + [(ba l).extract fr i].length) * 16 ≤ 140737488355328) = true := decide_eq_true (by simp; omega)
          simp only [step_spec_l1Split_0, hs, nonneg, Bool.and_self, cond_true, Int.toNat_natCast, hb, g1, g2, g3, hw]
        · rw [← h5, hd, spl_cons c _ _ hp, ba_extract]
          simp
      · rw [decide_eq_false hc] at hb
        refine ⟨(ba l, (c.toNat : Int), (fr : Int), ((i + 1 : Nat) : Int), out), ?_, ⟨fr, i + 1, _, rfl, by omega, by omega, fun j hj hj' => ?_, h4, h5⟩, by simp; omega⟩
        · simp only [step_spec_l1Split_0, hs, nonneg, Bool.and_self, cond_true, cond_false, Int.toNat_natCast, hb, hw]
        · rcases Nat.lt_or_eq_of_le (Nat.le_of_lt_succ hj') with hj' | rfl
          · exact h3 j hj hj'
          · exact hc
    · left
      have : i = l.length := by omega
      subst this
      refine ⟨(ba l, (fr : Int), out), ?_, fr, out, rfl, h1, h3, h4, h5⟩
      have hs : decide (((l.length : Nat) : Int) < ((ba l).size : Int)) = false := by rw [ba_size]; exact not_lt_len _
      simp only [step_spec_l1Split_0, hs, cond_false]) (ba l, (c.toNat : Int), 0, 0, []) ⟨0, 0, [], rfl, Nat.le_refl _, Nat.zero_le _, fun j _ h => by omega, Nat.le_refl _, by simp⟩
  have g1 : decide ((fr : Int) ≤ ((ba l).size : Int)) = true := decide_eq_true (by rw [ba_size]; omega)
  have g2 : decide (((ba l).size : Int) ≤ ((ba l).size : Int)) = true := decide_eq_true (Int.le_refl _)
  have g3 : decide ((out.length + [(ba l).extract fr (ba l).size].length) * 16 ≤ 140737488355328) = true := decide_eq_true (by simp; omega)
  simp only [F_spec_l1Split, e, nonneg, Bool.and_self, cond_true, Int.toNat_natCast, g1, g2, g3]
  have hp := not_mem_piece hno (Nat.le_refl _)
  have hd : (l.drop fr).take (l.length - fr) = l.drop fr := List.take_of_length_le (by simp)
  rw [hd] at hp
  rw [← ho, spl_none c _ hp, ba_size, ba_extract, hd]
  rfl
theorem idx_none {c : UInt8} {a : List UInt8} (h : c ∉ a) : Lib.indexByte a c = -1 := by
  rcases Int.lt_or_le (Lib.indexByte a c) 0 with hl | hl
  · have := Lib.indexByte_ge a c; omega
  · obtain ⟨o, ho⟩ : ∃ o : Nat, Lib.indexByte a c = o := ⟨(Lib.indexByte a c).toNat, by omega⟩
    exact absurd (List.mem_of_getElem? (Lib.indexByte_some ho).1) h
theorem idx_at {c : UInt8} {a r : List UInt8} (h : c ∉ a) : Lib.indexByte (a ++ c :: r) c = (a.length : Int) := by
  induction a with
  | nil => simp [Lib.indexByte]
  | cons b a ih =>
    have hb : ¬ b = c := fun e => h (by simp [e])
    have hi := ih (fun q => h (List.mem_cons_of_mem _ q))
    show Lib.indexByte (b :: (a ++ c :: r)) c = _
    unfold Lib.indexByte
    have hb' : (b == c) = false := beq_eq_false_iff_ne.2 hb
    have hm : (((a.length : Nat) : Int) == -1) = false := beq_eq_false_iff_ne.2 (by omega)
    rw [hi]
    simp only [hb', hm, List.length_cons]
    simp
theorem cut_none {c : UInt8} {l : List UInt8} (h : c ∉ l) : Lib.cut l [c] = (l, [], false) := by
  unfold Lib.cut
  rw [Lib.index_one, idx_none h, if_neg (by decide)]
theorem cut_at {c : UInt8} {a r : List UInt8} (h : c ∉ a) : Lib.cut (a ++ c :: r) [c] = (a, r, true) := by
  unfold Lib.cut
  rw [Lib.index_one, idx_at h, if_pos (by omega)]
  simp
theorem splitB_is (c : UInt8) : ∀ (n : Nat) (l : List UInt8), l.count c = n → Lib.splitB (ba [c]) 0 n (ba l) = (spl c l).map ba := by
  intro n
  induction n with
  | zero =>
    intro l h
    have hn : c ∉ l := List.count_eq_zero.1 h
    rw [spl_none c l hn]
    rfl
  | succ n ih =>
    intro l h
    rcases spl_cases c l with hn | ⟨a, r, rfl, ha⟩
    · rw [List.count_eq_zero.2 hn] at h; omega
    · have hi : Lib.indexB (ba (a ++ c :: r)) (ba [c]) = (a.length : Int) := by
        show Lib.index (a ++ c :: r) [c] = _
        rw [Lib.index_one, idx_at ha]
      have hcnt : r.count c = n := by
        rw [List.count_append, List.count_eq_zero.2 ha, List.count_cons_self] at h; omega
      rw [Lib.splitB_hit (ba [c]) 0 n _ a.length hi, spl_cons c a r ha, List.map_cons]
      congr 1
      · rw [ba_extract]; simp
      · rw [← ih r hcnt, ba_extract]
        have hsz : (ba [c]).size = 1 := rfl
        rw [hsz, ba_size]
        congr 2
        simp
        rw [List.take_of_length_le (by omega)]
theorem Split_is (l : List UInt8) (c : UInt8) (hl : l.length ≤ 1048576) : F_strings_Split (ba l, ba [c]) = some ((spl c l).map ba) := by
  rw [F_strings_Split_is]
  have h0 : decide ((ba l).size < 4294967281) = true := decide_eq_true (by rw [ba_size]; omega)
  have h1 : decide (1 ≤ (ba [c]).size) = true := rfl
  have hc : Lib.countB (ba l) (ba [c]) = l.count c := by
    show Lib.count l [c] = _
    exact Lib.count_one c l
  simp only [h0, h1, Bool.and_self, cond_true, hc, splitB_is c _ l rfl]
theorem Cut_none {l : List UInt8} {c : UInt8} (hl : l.length ≤ 1048576) (h : c ∉ l) : F_strings_Cut (ba l, ba [c]) = some (ba l, ba [], false) := by
  rw [F_strings_Cut_is, show (ba l, ba [c]).1 = ba l from rfl, decide_eq_true (show (ba l).size < 4294967281 by rw [ba_size]; omega), cond_true]
  show some (ba (Lib.cut l [c]).1, ba (Lib.cut l [c]).2.1, (Lib.cut l [c]).2.2) = _
  rw [cut_none h]
theorem Cut_at {a r : List UInt8} {c : UInt8} (hl : (a ++ c :: r).length ≤ 1048576) (h : c ∉ a) : F_strings_Cut (ba (a ++ c :: r), ba [c]) = some (ba a, ba r, true) := by
  rw [F_strings_Cut_is, show (ba (a ++ c :: r), ba [c]).1 = ba (a ++ c :: r) from rfl, decide_eq_true (show (ba (a ++ c :: r)).size < 4294967281 by rw [ba_size]; omega), cond_true]
  show some (ba (Lib.cut (a ++ c :: r) [c]).1, ba (Lib.cut (a ++ c :: r) [c]).2.1, (Lib.cut (a ++ c :: r) [c]).2.2) = _
  rw [cut_at h]
end Go.Proofs.YtklfnbckoaphpaaGreatDoor
/- Shapes and orientations, on both sides: plain laws. No conditions beyond the bounds that are named. -/
set_option linter.unusedVariables false
set_option linter.unusedSimpArgs false
namespace Go.Proofs.YtklfnbckoaphpaaGreatDoor
open Go
abbrev Shape := Int × (Int × (Int × (Int × (Int × Bool))))
abbrev Orient := Int × Int
def shAdj (s : Shape) : Bool := ((s.2.1 == 0) && (s.2.2.1 == 0)) || (((s.2.2.1 == 0) && (s.2.2.2.1 == 0)) || ((s.2.2.2.1 == 0) && (s.2.2.2.2.1 == 0)))
def in02 (n : Int) : Bool := decide (0 ≤ n) && decide (n ≤ 2)
def shOK (s : Shape) : Bool := in02 s.1 && (in02 s.2.1 && in02 s.2.2.1 && in02 s.2.2.2.1 && in02 s.2.2.2.2.1) && (!s.2.2.2.2.2 || shAdj s)
theorem allN_all {α : Type} (q : α → Bool) (d : α) (l : List α) : allN (fun i => q (l.getD i d)) l.length = l.all q := by
  rw [Bool.eq_iff_iff, allN_true, List.all_eq_true]
  constructor
  · intro h x hx
    obtain ⟨i, hi, rfl⟩ := List.mem_iff_getElem.1 hx
    have := h i hi
    rwa [List.getD, List.getElem?_eq_getElem hi] at this
  · intro h i hi
    rw [List.getD, List.getElem?_eq_getElem hi]
    exact h _ (List.getElem_mem hi)
theorem l1All_is (l : List Int) (a b : Int) (hl : l.length ≤ 9223372036854775806) : F_spec_l1All (l, a, b) = some (l.all fun v => decide (a ≤ v) && decide (v ≤ b)) := by
  have t := runL_all (f := step_spec_l1All_0) (fun i => decide (a ≤ l.getD i 0) && decide (l.getD i 0 ≤ b)) (fun i => (a, b, (l, (l.length : Int), (i : Int)))) (.inl false) (.inr ()) l.length (fun i hi => by
    have hw := wrap_succ (i := i) (by omega)
    simp only [step_spec_l1All_0, lt_len hi, nonneg, Bool.and_self, cond_true, Int.toNat_natCast, l1In_is, hw]
    cases decide (a ≤ l.getD i 0) && decide (l.getD i 0 ≤ b) <;> rfl) (by simp only [step_spec_l1All_0, not_lt_len, cond_false])
  have t' : runL step_spec_l1All_0 (a, b, (l, (l.length : Int), 0)) = _ := t
  simp only [F_spec_l1All, t', allN_all (fun v => decide (a ≤ v) && decide (v ≤ b)) 0 l]
  cases l.all _ <;> rfl
theorem shWide_is (s : Shape) : F_spec_shWide s = some (shAdj s) := by
  obtain ⟨t, a, b, c, d, sp⟩ := s
  have s1 : step_spec_shWide_0 (1, [a, b, c, d]) = some (bif (a == 0) && (b == 0) then .inr (.inl true) else .inl (2, [a, b, c, d])) := by
    have e : step_spec_shWide_0 (1, [a, b, c, d]) = bif (a == 0) then (bif (b == 0) then some (.inr (.inl true)) else some (.inl (2, [a, b, c, d]))) else some (.inl (2, [a, b, c, d])) := rfl
    rw [e]; cases (a == 0) <;> cases (b == 0) <;> rfl
  have s2 : step_spec_shWide_0 (2, [a, b, c, d]) = some (bif (b == 0) && (c == 0) then .inr (.inl true) else .inl (3, [a, b, c, d])) := by
    have e : step_spec_shWide_0 (2, [a, b, c, d]) = bif (b == 0) then (bif (c == 0) then some (.inr (.inl true)) else some (.inl (3, [a, b, c, d]))) else some (.inl (3, [a, b, c, d])) := rfl
    rw [e]; cases (b == 0) <;> cases (c == 0) <;> rfl
  have s3 : step_spec_shWide_0 (3, [a, b, c, d]) = some (bif (c == 0) && (d == 0) then .inr (.inl true) else .inl (4, [a, b, c, d])) := by
    have e : step_spec_shWide_0 (3, [a, b, c, d]) = bif (c == 0) then (bif (d == 0) then some (.inr (.inl true)) else some (.inl (4, [a, b, c, d]))) else some (.inl (4, [a, b, c, d])) := rfl
    rw [e]; cases (c == 0) <;> cases (d == 0) <;> rfl
  have s4 : step_spec_shWide_0 (4, [a, b, c, d]) = some (.inr (.inr ())) := rfl
  simp only [F_spec_shWide, F_spec_shFingers, shAdj]
  rw [runL_eq, s1]
  cases (a == 0) && (b == 0) with
  | true => rfl
  | false =>
    simp only [cond_false, Bool.false_or]
    rw [runL_eq, s2]
    cases (b == 0) && (c == 0) with
    | true => rfl
    | false =>
      simp only [cond_false, Bool.false_or]
      rw [runL_eq, s3]
      cases (c == 0) && (d == 0) with
      | true => rfl
      | false =>
        simp only [cond_false]
        rw [runL_eq, s4]
theorem shGood_is (s : Shape) : F_spec_shGood s = some (shOK s) := by
  obtain ⟨t, a, b, c, d, sp⟩ := s
  have h := l1All_is [a, b, c, d] 0 2 (by simp)
  have hw := shWide_is (t, a, b, c, d, sp)
  simp only [F_spec_shGood, F_spec_shFingers, l1In_is, h, hw, shOK, in02]
  simp only [List.all_cons, List.all_nil, Bool.and_true]
  generalize (decide (0 ≤ t) && decide (t ≤ 2)) = T
  generalize (decide (0 ≤ a) && decide (a ≤ 2)) = A
  generalize (decide (0 ≤ b) && decide (b ≤ 2)) = B
  generalize (decide (0 ≤ c) && decide (c ≤ 2)) = C
  generalize (decide (0 ≤ d) && decide (d ≤ 2)) = D
  cases T <;> cases A <;> cases B <;> cases C <;> cases D <;> cases sp <;> rfl
theorem maySpread_is (s : Shape) : F_impl_Shape_maySpread s = some (shAdj s) := by
  obtain ⟨t, a, b, c, d, sp⟩ := s
  simp only [F_impl_Shape_maySpread, shAdj]
  cases (a == 0) <;> cases (b == 0) <;> cases (c == 0) <;> cases (d == 0) <;> rfl
theorem IndexFunc_int_is (l : List Int) (hl : l.length ≤ 9223372036854775806) (φ : Int → Option Bool) (p : Int → Bool) (hφ : ∀ v ∈ l, φ v = some (p v)) : F_slices_ContainsFunc_int_int (l, φ) = some (l.any p) := by
  rcases runL_first (f := step_slices_IndexFunc_int_int_0) (fun i => !p (l.getD i 0)) (fun i => (l, φ, (l.length : Int), (i : Int))) (fun i => .inl (i : Int)) (.inr ()) l.length (fun i hi => by
    have hw := wrap_succ (i := i) (by omega)
    simp only [step_slices_IndexFunc_int_int_0, lt_len hi, nonneg, Bool.and_self, cond_true, Int.toNat_natCast, hw, hφ _ (getD_mem hi 0)]
    cases p (l.getD i 0) <;> rfl) (by simp only [step_slices_IndexFunc_int_int_0, not_lt_len, cond_false]) with ⟨t, hp⟩ | ⟨i, hi, hp, hj, t⟩
  · have t' : runL step_slices_IndexFunc_int_int_0 (l, φ, (l.length : Int), (0 : Int)) = _ := t
    simp only [F_slices_ContainsFunc_int_int, F_slices_IndexFunc_int_int, t']
    have : l.any p = false := by
      rw [List.any_eq_false]
      intro x hx
      obtain ⟨i, hi, rfl⟩ := List.mem_iff_getElem.1 hx
      have := hp i hi
      rw [List.getD, List.getElem?_eq_getElem hi] at this
      simpa using this
    rw [this]; rfl
  · have t' : runL step_slices_IndexFunc_int_int_0 (l, φ, (l.length : Int), (0 : Int)) = _ := t
    simp only [F_slices_ContainsFunc_int_int, F_slices_IndexFunc_int_int, t']
    have : l.any p = true := List.any_eq_true.2 ⟨_, getD_mem hi 0, by simpa using hp⟩
    rw [this, decide_eq_true (show (i : Int) ≥ 0 by omega)]
theorem allWithin_is (l : List Int) (a b : Int) (hl : l.length ≤ 9223372036854775806) : F_impl_allWithin (l, a, b) = some (l.all fun v => decide (a ≤ v) && decide (v ≤ b)) := by
  have h := IndexFunc_int_is l hl (K_impl_allWithin_1 (a, b)) (fun v => !(decide (a ≤ v) && decide (v ≤ b))) (fun v _ => by simp only [K_impl_allWithin_1, F_impl_allWithin_1, within_is])
  simp only [F_impl_allWithin, h]
  rw [List.any_eq_not_all_not]
  simp
theorem IsShape_is (s : Shape) : F_impl_IsShape s = some (shOK s) := by
  obtain ⟨t, a, b, c, d, sp⟩ := s
  have h := allWithin_is ([t] ++ [a, b, c, d]) 0 2 (by simp)
  have hm := maySpread_is (t, a, b, c, d, sp)
  have g : decide (([t].length + [a, b, c, d].length) * 8 ≤ 140737488355328) = true := rfl
  simp only [F_impl_IsShape, F_impl_Shape_bends, g, cond_true, h, hm, shOK, in02]
  simp only [List.cons_append, List.nil_append, List.all_cons, List.all_nil, Bool.and_true]
  generalize (decide (0 ≤ t) && decide (t ≤ 2)) = T
  generalize (decide (0 ≤ a) && decide (a ≤ 2)) = A
  generalize (decide (0 ≤ b) && decide (b ≤ 2)) = B
  generalize (decide (0 ≤ c) && decide (c ≤ 2)) = C
  generalize (decide (0 ≤ d) && decide (d ≤ 2)) = D
  cases T <;> cases A <;> cases B <;> cases C <;> cases D <;> cases sp <;> rfl
end Go.Proofs.YtklfnbckoaphpaaGreatDoor
/- Shapes are parsed alike on both sides: plain laws. No conditions beyond the bounds that are named. -/
set_option linter.unusedVariables false
set_option linter.unusedSimpArgs false
namespace Go.Proofs.YtklfnbckoaphpaaGreatDoor
open Go
def shZ : Shape := (0, (0, 0, (0, 0, false)))
def dig (n : Int) : UInt8 := UInt8.ofNat (48 + n.toNat)
theorem in02_cases {n : Int} (h : in02 n = true) : n = 0 ∨ n = 1 ∨ n = 2 := by
  simp only [in02, Bool.and_eq_true, decide_eq_true_eq] at h
  omega
theorem Itoa_dig {n : Int} (h : in02 n = true) : F_strconv_Itoa n = some (ba [dig n]) := by
  have k0 : Lib.itoa 0 = [dig 0] := by decide +kernel
  have k1 : Lib.itoa 1 = [dig 1] := by decide +kernel
  have k2 : Lib.itoa 2 = [dig 2] := by decide +kernel
  rcases in02_cases h with rfl | rfl | rfl
  · rw [F_strconv_Itoa_is, k0]; rfl
  · rw [F_strconv_Itoa_is, k1]; rfl
  · rw [F_strconv_Itoa_is, k2]; rfl
def shText (s : Shape) : List UInt8 := [dig s.1, dig s.2.1, dig s.2.2.1, dig s.2.2.2.1, dig s.2.2.2.2.1] ++ bif s.2.2.2.2.2 then [115] else []
theorem shOK_parts {s : Shape} (h : shOK s = true) : in02 s.1 = true ∧ in02 s.2.1 = true ∧ in02 s.2.2.1 = true ∧ in02 s.2.2.2.1 = true ∧ in02 s.2.2.2.2.1 = true ∧ (s.2.2.2.2.2 = true → shAdj s = true) := by
  simp only [shOK, Bool.and_eq_true, Bool.or_eq_true, Bool.not_eq_true'] at h
  obtain ⟨⟨h1, ⟨⟨h2, h3⟩, h4⟩, h5⟩, h6⟩ := h
  refine ⟨h1, h2, h3, h4, h5, fun e => ?_⟩
  rcases h6 with h6 | h6
  · rw [h6] at e; cases e
  · exact h6
theorem Shape_text_is {s : Shape} (h : shOK s = true) : F_impl_Shape_text s = some (ba (shText s)) := by
  obtain ⟨t, a, b, c, d, sp⟩ := s
  obtain ⟨h1, h2, h3, h4, h5, _⟩ := shOK_parts h
  have e1 := Itoa_dig h1
  have e2 := Itoa_dig h2
  have e3 := Itoa_dig h3
  have e4 := Itoa_dig h4
  have e5 := Itoa_dig h5
  simp only at e1 e2 e3 e4 e5
  have s0 : step_impl_Shape_text_0 (ba [dig t], 4, 0, [a, b, c, d], t, a, b, c, d, sp) = some (.inl (ba [dig t, dig a], 4, 1, [a, b, c, d], t, a, b, c, d, sp)) := by
    have e : step_impl_Shape_text_0 (ba [dig t], 4, 0, [a, b, c, d], t, a, b, c, d, sp) = match F_strconv_Itoa a with | none => none | some y5 => bif decide ((ba [dig t]).size + y5.size ≤ 9223372036854775807) then some (.inl (ba [dig t] ++ y5, 4, 1, [a, b, c, d], t, a, b, c, d, sp)) else none := rfl
    rw [e, e2]; simp only [ba_app]; rfl
  have s1 : step_impl_Shape_text_0 (ba [dig t, dig a], 4, 1, [a, b, c, d], t, a, b, c, d, sp) = some (.inl (ba [dig t, dig a, dig b], 4, 2, [a, b, c, d], t, a, b, c, d, sp)) := by
    have e : step_impl_Shape_text_0 (ba [dig t, dig a], 4, 1, [a, b, c, d], t, a, b, c, d, sp) = match F_strconv_Itoa b with | none => none | some y5 => bif decide ((ba [dig t, dig a]).size + y5.size ≤ 9223372036854775807) then some (.inl (ba [dig t, dig a] ++ y5, 4, 2, [a, b, c, d], t, a, b, c, d, sp)) else none := rfl
    rw [e, e3]; simp only [ba_app]; rfl
  have s2 : step_impl_Shape_text_0 (ba [dig t, dig a, dig b], 4, 2, [a, b, c, d], t, a, b, c, d, sp) = some (.inl (ba [dig t, dig a, dig b, dig c], 4, 3, [a, b, c, d], t, a, b, c, d, sp)) := by
    have e : step_impl_Shape_text_0 (ba [dig t, dig a, dig b], 4, 2, [a, b, c, d], t, a, b, c, d, sp) = match F_strconv_Itoa c with | none => none | some y5 => bif decide ((ba [dig t, dig a, dig b]).size + y5.size ≤ 9223372036854775807) then some (.inl (ba [dig t, dig a, dig b] ++ y5, 4, 3, [a, b, c, d], t, a, b, c, d, sp)) else none := rfl
    rw [e, e4]; simp only [ba_app]; rfl
  have s3 : step_impl_Shape_text_0 (ba [dig t, dig a, dig b, dig c], 4, 3, [a, b, c, d], t, a, b, c, d, sp) = some (.inl (ba [dig t, dig a, dig b, dig c, dig d], 4, 4, [a, b, c, d], t, a, b, c, d, sp)) := by
    have e : step_impl_Shape_text_0 (ba [dig t, dig a, dig b, dig c], 4, 3, [a, b, c, d], t, a, b, c, d, sp) = match F_strconv_Itoa d with | none => none | some y5 => bif decide ((ba [dig t, dig a, dig b, dig c]).size + y5.size ≤ 9223372036854775807) then some (.inl (ba [dig t, dig a, dig b, dig c] ++ y5, 4, 4, [a, b, c, d], t, a, b, c, d, sp)) else none := rfl
    rw [e, e5]; simp only [ba_app]; rfl
  have s4 : step_impl_Shape_text_0 (ba [dig t, dig a, dig b, dig c, dig d], 4, 4, [a, b, c, d], t, a, b, c, d, sp) = some (.inr (ba [dig t, dig a, dig b, dig c, dig d], t, a, b, c, d, sp)) := rfl
  have l4 : (([a, b, c, d].length : Nat) : Int) = 4 := rfl
  have r : runL step_impl_Shape_text_0 (ba [dig t], 4, 0, [a, b, c, d], t, a, b, c, d, sp) = some (ba [dig t, dig a, dig b, dig c, dig d], t, a, b, c, d, sp) := by
    rw [runL_eq, s0]; simp only []
    rw [runL_eq, s1]; simp only []
    rw [runL_eq, s2]; simp only []
    rw [runL_eq, s3]; simp only []
    rw [runL_eq, s4]
  simp only [F_impl_Shape_text, F_impl_Shape_bends, e1, l4, r, shText]
  cases sp with
  | false => simp only [cond_false, List.append_nil]
  | true =>
    have g : decide ((ba [dig t, dig a, dig b, dig c, dig d]).size + (⟨#[115]⟩ : ByteArray).size ≤ 9223372036854775807) = true := rfl
    simp only [cond_true, g]
    exact congrArg some (ba_app _ [115])

/-! ### Parsing -/
def shD (x : ByteArray) (sp : Bool) : Shape := (byteAt x 0 - 48, (byteAt x 1 - 48, byteAt x 2 - 48, (byteAt x 3 - 48, byteAt x 4 - 48, sp)))
def shP (x : ByteArray) : Shape × Bool :=
  bif decide (x.size = 5) && shOK (shD x false) then (shD x false, true)
  else bif decide (x.size = 6) && decide (byteAt x 5 = 115) && shOK (shD x true) then (shD x true, true) else (shZ, false)
theorem runL_step {S O : Type} {f : S → Option (S ⊕ O)} {s s' : S} (h : f s = some (.inl s')) : runL f s = runL f s' := by rw [runL_eq, h]
theorem runL_end {S O : Type} {f : S → Option (S ⊕ O)} {s : S} {o : O} (h : f s = some (.inr o)) : runL f s = some o := by rw [runL_eq, h]
theorem byteAt_le (s : ByteArray) (i : Nat) : 0 ≤ byteAt s i ∧ byteAt s i ≤ 255 := by
  obtain ⟨b, hb⟩ : ∃ b : UInt8, byteAt s i = (b.toNat : Int) := ⟨_, rfl⟩
  have := b.toNat_lt
  omega
theorem wrap_byte (s : ByteArray) (i : Nat) : IntKind.i64.wrap (byteAt s i) = byteAt s i := by
  have := byteAt_le s i
  exact wrap_id (by omega) (by omega)
theorem wrap_dig (s : ByteArray) (i : Nat) : IntKind.i64.wrap (byteAt s i - 48) = byteAt s i - 48 := by
  have := byteAt_le s i
  exact wrap_id (by omega) (by omega)
theorem spec_loop (x : ByteArray) (h5 : 5 ≤ x.size) (r1 r2 r3 r4 r5 : Int) (rb : Bool) : runL step_spec_shParse_0 (x, 0, (r1, r2, (r3, r4, (r5, rb, [])))) = some (x, ([byteAt x 0 - 48, byteAt x 1 - 48, byteAt x 2 - 48, byteAt x 3 - 48, byteAt x 4 - 48], r1, (r2, r3, (r4, r5, rb)))) := by
  have t := runL_traj (f := step_spec_shParse_0) (fun i => (x, (i : Int), (r1, r2, (r3, r4, (r5, rb, (List.range i).map fun j => byteAt x j - 48))))) (x, ((List.range 5).map fun j => byteAt x j - 48, r1, (r2, r3, (r4, r5, rb)))) 5 (fun i hi => by
    have hw := wrap_succ (i := i) (by omega)
    have g1 : decide ((i : Int) < 5) = true := decide_eq_true (by omega)
    have g2 : decide ((i : Int) < (x.size : Int)) = true := decide_eq_true (by omega)
    have g3 : decide (((List.map (fun j => byteAt x j - 48) (List.range i)).length + [byteAt x i - 48].length) * 8 ≤ 140737488355328) = true := decide_eq_true (by simp; omega)
    simp only [step_spec_shParse_0, g1, g2, nonneg, Bool.and_self, cond_true, Int.toNat_natCast, wrap_byte, wrap_dig, g3, hw, List.range_succ, List.map_append, List.map_cons, List.map_nil]) rfl
  exact t
theorem with_is (s : Shape) (hs : s.2.2.2.2.2 = false) (v : Int) : F_impl_Shape_with (s, 0, v) = some (v, s.2) ∧ F_impl_Shape_with (s, 1, v) = some (s.1, v, s.2.2) ∧ F_impl_Shape_with (s, 2, v) = some (s.1, s.2.1, v, s.2.2.2) ∧
    F_impl_Shape_with (s, 3, v) = some (s.1, s.2.1, s.2.2.1, v, s.2.2.2.2) ∧ F_impl_Shape_with (s, 4, v) = some (s.1, s.2.1, s.2.2.1, s.2.2.2.1, v, s.2.2.2.2.2) := by
  obtain ⟨t, a, b, c, d, sp⟩ := s
  simp only at hs
  subst hs
  exact ⟨rfl, rfl, rfl, rfl, rfl⟩
theorem impl_loop (x : ByteArray) (h5 : 5 ≤ x.size) (R : Shape) : runL step_impl_ParseShape_0 (x, (0, (0, 0, (0, 0, (0, false, R))))) = some (x, (byteAt x 0 - 48, (byteAt x 1 - 48, byteAt x 2 - 48, (byteAt x 3 - 48, byteAt x 4 - 48, (false, R))))) := by
  have hp : ∀ i : Nat, i < 5 → ∀ s : Shape, (decide ((i : Int) < 5) = true ∧ decide ((i : Int) < (x.size : Int)) = true) := fun i hi _ => ⟨decide_eq_true (by omega), decide_eq_true (by omega)⟩
  have st : ∀ (i : Nat) (s s' : Shape), i < 5 → F_impl_Shape_with (s, (i : Int), byteAt x i - 48) = some s' → step_impl_ParseShape_0 (x, ((i : Int), (s.1, s.2.1, (s.2.2.1, s.2.2.2.1, (s.2.2.2.2.1, s.2.2.2.2.2, R))))) = some (.inl (x, (((i + 1 : Nat) : Int), (s'.1, s'.2.1, (s'.2.2.1, s'.2.2.2.1, (s'.2.2.2.2.1, s'.2.2.2.2.2, R)))))) := by
    intro i s s' hi hw
    have hws := wrap_succ (i := i) (by omega)
    have g1 : decide ((i : Int) < 5) = true := decide_eq_true (by omega)
    have g2 : decide ((i : Int) < (x.size : Int)) = true := decide_eq_true (by omega)
    have hw' : F_impl_Shape_with ((s.1, s.2.1, s.2.2.1, s.2.2.2.1, s.2.2.2.2.1, s.2.2.2.2.2), (i : Int), byteAt x i - 48) = some s' := hw
    simp only [step_impl_ParseShape_0, g1, g2, nonneg, Bool.and_self, cond_true, Int.toNat_natCast, wrap_byte, wrap_dig, hws, hw']
  have a0 := st 0 shZ _ (by omega) (with_is shZ rfl _).1
  have a1 := st 1 _ _ (by omega) (with_is (byteAt x 0 - 48, shZ.2) rfl _).2.1
  have a2 := st 2 _ _ (by omega) (with_is (byteAt x 0 - 48, byteAt x 1 - 48, shZ.2.2) rfl _).2.2.1
  have a3 := st 3 _ _ (by omega) (with_is (byteAt x 0 - 48, byteAt x 1 - 48, byteAt x 2 - 48, shZ.2.2.2) rfl _).2.2.2.1
  have a4 := st 4 _ _ (by omega) (with_is (byteAt x 0 - 48, byteAt x 1 - 48, byteAt x 2 - 48, byteAt x 3 - 48, shZ.2.2.2.2) rfl _).2.2.2.2
  have a0' : step_impl_ParseShape_0 (x, (0, (0, 0, (0, 0, (0, false, R))))) = _ := a0
  exact (runL_step a0').trans ((runL_step a1).trans ((runL_step a2).trans ((runL_step a3).trans ((runL_step a4).trans (runL_end rfl)))))
/-! ### Both sides -/
theorem shP_spec (x : ByteArray) : F_spec_shParse x = some (shP x) := by
  have hb := byteAt_le x 5
  simp only [F_spec_shParse, l1In_is]
  by_cases h5 : x.size = 5
  · have g1 : (decide (5 ≤ (x.size : Int)) && decide ((x.size : Int) ≤ 6)) = true := by rw [h5]; rfl
    have g2 : ((x.size : Int) == 6) = false := by rw [h5]; rfl
    have lp := spec_loop x (by omega) 0 0 0 0 0 false
    have sg := shGood_is (shD x false)
    unfold shD at sg
    simp only [g1, g2, Bool.not_true, cond_false, lp]
    have e : shP x = bif shOK (shD x false) then (shD x false, true) else (shZ, false) := by
      unfold shP
      rw [decide_eq_true h5, decide_eq_false (show ¬ x.size = 6 by omega)]
      simp only [Bool.true_and, Bool.false_and, cond_false]
    rw [e]
    have e2 : F_spec_shGood ((([byteAt x 0 - 48, byteAt x 1 - 48, byteAt x 2 - 48, byteAt x 3 - 48, byteAt x 4 - 48].getD (0 : Int).toNat 0), (([byteAt x 0 - 48, byteAt x 1 - 48, byteAt x 2 - 48, byteAt x 3 - 48, byteAt x 4 - 48].getD (1 : Int).toNat 0), ([byteAt x 0 - 48, byteAt x 1 - 48, byteAt x 2 - 48, byteAt x 3 - 48, byteAt x 4 - 48].getD (2 : Int).toNat 0), (([byteAt x 0 - 48, byteAt x 1 - 48, byteAt x 2 - 48, byteAt x 3 - 48, byteAt x 4 - 48].getD (3 : Int).toNat 0), ([byteAt x 0 - 48, byteAt x 1 - 48, byteAt x 2 - 48, byteAt x 3 - 48, byteAt x 4 - 48].getD (4 : Int).toNat 0), false)))) = some (shOK (shD x false)) := sg
    rw [e2]
    cases shOK (shD x false) <;> rfl
  · by_cases h6 : x.size = 6
    · have g1 : (decide (5 ≤ (x.size : Int)) && decide ((x.size : Int) ≤ 6)) = true := by rw [h6]; rfl
      have g2 : ((x.size : Int) == 6) = true := by rw [h6]; rfl
      have g3 : (decide (0 ≤ 5) && decide ((5 : Int) < (x.size : Int))) = true := by rw [h6]; rfl
      have lp := spec_loop x (by omega) 0 0 0 0 0 false
      have sg := shGood_is (shD x true)
      unfold shD at sg
      have e : shP x = bif decide (byteAt x 5 = 115) && shOK (shD x true) then (shD x true, true) else (shZ, false) := by
        unfold shP
        rw [decide_eq_true h6, decide_eq_false h5]
        simp only [Bool.true_and, Bool.false_and, cond_false]
      rw [e]
      simp only [g1, g2, g3, Bool.not_true, cond_false, cond_true, lp]
      by_cases hs : byteAt x 5 = 115
      · have hs' : (byteAt x (5 : Int).toNat != 115) = false := by
          show (byteAt x 5 != 115) = false
          rw [hs]; rfl
        rw [hs', decide_eq_true hs, cond_false, Bool.true_and]
        have e2 : F_spec_shGood ((([byteAt x 0 - 48, byteAt x 1 - 48, byteAt x 2 - 48, byteAt x 3 - 48, byteAt x 4 - 48].getD (0 : Int).toNat 0), (([byteAt x 0 - 48, byteAt x 1 - 48, byteAt x 2 - 48, byteAt x 3 - 48, byteAt x 4 - 48].getD (1 : Int).toNat 0), ([byteAt x 0 - 48, byteAt x 1 - 48, byteAt x 2 - 48, byteAt x 3 - 48, byteAt x 4 - 48].getD (2 : Int).toNat 0), (([byteAt x 0 - 48, byteAt x 1 - 48, byteAt x 2 - 48, byteAt x 3 - 48, byteAt x 4 - 48].getD (3 : Int).toNat 0), ([byteAt x 0 - 48, byteAt x 1 - 48, byteAt x 2 - 48, byteAt x 3 - 48, byteAt x 4 - 48].getD (4 : Int).toNat 0), true)))) = some (shOK (shD x true)) := sg
        rw [e2]
        cases shOK (shD x true) <;> rfl
      · have hs' : (byteAt x (5 : Int).toNat != 115) = true := by
          show (byteAt x 5 != 115) = true
          rw [bne_iff_ne]; exact hs
        rw [hs', decide_eq_false hs, cond_true, Bool.false_and, cond_false]
        rfl
    · have g1 : (decide (5 ≤ (x.size : Int)) && decide ((x.size : Int) ≤ 6)) = false := by
        rw [Bool.and_eq_false_iff]
        by_cases hl : x.size < 5
        · exact .inl (decide_eq_false (by omega))
        · exact .inr (decide_eq_false (by omega))
      have e : shP x = (shZ, false) := by
        unfold shP
        rw [decide_eq_false h5, decide_eq_false h6]
        simp only [Bool.false_and, cond_false]
      rw [e, g1]
      rfl
theorem dig_byte {b : UInt8} (h : in02 ((b.toNat : Int) - 48) = true) : dig ((b.toNat : Int) - 48) = b := by
  apply UInt8.toNat_inj.1
  unfold dig
  rcases in02_cases h with e | e | e <;> rw [e] <;> simp <;> omega
theorem shP_mid (l : List UInt8) (sp : Bool) (h5 : 5 ≤ l.length) (hl : l.length ≤ 6) (h6 : (((l.length : Nat) : Int) == 6) = sp) : F_impl_ParseShape (ba l) = bif shOK (shD (ba l) sp) then (bif decide (shText (shD (ba l) sp) = l) then some (shD (ba l) sp, true) else some (shZ, false)) else some (shZ, false) := by
  have g1 : (decide (5 ≤ ((ba l).size : Int)) && decide (((ba l).size : Int) ≤ 6)) = true := by
    rw [ba_size, decide_eq_true (by omega), decide_eq_true (by omega)]; rfl
  have g2 : (((ba l).size : Int) == 6) = sp := by rw [ba_size]; exact h6
  have lp := impl_loop (ba l) (by rw [ba_size]; omega) shZ
  have lp' : runL step_impl_ParseShape_0 (ba l, (0, (0, 0, (0, 0, (0, (false, 0, (0, 0, (0, 0, false)))))))) = _ := lp
  have e1 : F_impl_IsShape (byteAt (ba l) 0 - 48, byteAt (ba l) 1 - 48, byteAt (ba l) 2 - 48, byteAt (ba l) 3 - 48, byteAt (ba l) 4 - 48, sp) = some (shOK (shD (ba l) sp)) := IsShape_is (shD (ba l) sp)
  simp only [F_impl_ParseShape, within_is, g1, Bool.not_true, cond_false, lp', g2, e1]
  cases hok : shOK (shD (ba l) sp) with
  | false => rfl
  | true =>
    have e2 : F_impl_Shape_text (byteAt (ba l) 0 - 48, byteAt (ba l) 1 - 48, byteAt (ba l) 2 - 48, byteAt (ba l) 3 - 48, byteAt (ba l) 4 - 48, sp) = some (ba (shText (shD (ba l) sp))) := Shape_text_is hok
    simp only [Bool.not_true, cond_false, e2, ba_toList, cond_true]
    by_cases h : shText (shD (ba l) sp) = l
    · rw [h, decide_eq_true rfl, beq_self_eq_true]; rfl
    · rw [decide_eq_false h, beq_eq_false_iff_ne.2 h]; rfl
theorem shP_impl (x : ByteArray) : F_impl_ParseShape x = some (shP x) := by
  obtain ⟨l, rfl⟩ : ∃ l, x = ba l := ⟨x.data.toList, eq_ba x⟩
  by_cases h5 : l.length = 5
  · rw [shP_mid l false (by omega) (by omega) (by rw [h5]; rfl)]
    unfold shP
    rw [ba_size, decide_eq_true h5, decide_eq_false (show ¬ l.length = 6 by omega)]
    simp only [Bool.true_and, Bool.false_and, cond_false]
    cases hok : shOK (shD (ba l) false) with
    | false => rfl
    | true =>
      have ht : shText (shD (ba l) false) = l := by
        match l, h5 with
        | [b0, b1, b2, b3, b4], _ =>
          obtain ⟨q1, q2, q3, q4, q5, _⟩ := shOK_parts hok
          have d1 : dig (shD (ba [b0, b1, b2, b3, b4]) false).1 = b0 := dig_byte q1
          have d2 : dig (shD (ba [b0, b1, b2, b3, b4]) false).2.1 = b1 := dig_byte q2
          have d3 : dig (shD (ba [b0, b1, b2, b3, b4]) false).2.2.1 = b2 := dig_byte q3
          have d4 : dig (shD (ba [b0, b1, b2, b3, b4]) false).2.2.2.1 = b3 := dig_byte q4
          have d5 : dig (shD (ba [b0, b1, b2, b3, b4]) false).2.2.2.2.1 = b4 := dig_byte q5
          unfold shText
          rw [d1, d2, d3, d4, d5]
          rfl
      rw [decide_eq_true ht]; rfl
  · by_cases h6 : l.length = 6
    · rw [shP_mid l true (by omega) (by omega) (by rw [h6]; rfl)]
      unfold shP
      rw [ba_size, decide_eq_true h6, decide_eq_false h5]
      simp only [Bool.true_and, Bool.false_and, cond_false]
      cases hok : shOK (shD (ba l) true) with
      | false => rw [Bool.and_false]; rfl
      | true =>
        have ht : decide (shText (shD (ba l) true) = l) = decide (byteAt (ba l) 5 = 115) := by
          match l, h6 with
          | [b0, b1, b2, b3, b4, b5], _ =>
            obtain ⟨q1, q2, q3, q4, q5, _⟩ := shOK_parts hok
            have d1 : dig (shD (ba [b0, b1, b2, b3, b4, b5]) true).1 = b0 := dig_byte q1
            have d2 : dig (shD (ba [b0, b1, b2, b3, b4, b5]) true).2.1 = b1 := dig_byte q2
            have d3 : dig (shD (ba [b0, b1, b2, b3, b4, b5]) true).2.2.1 = b2 := dig_byte q3
            have d4 : dig (shD (ba [b0, b1, b2, b3, b4, b5]) true).2.2.2.1 = b3 := dig_byte q4
            have d5 : dig (shD (ba [b0, b1, b2, b3, b4, b5]) true).2.2.2.2.1 = b4 := dig_byte q5
            unfold shText
            rw [d1, d2, d3, d4, d5]
            have e : byteAt (ba [b0, b1, b2, b3, b4, b5]) 5 = (b5.toNat : Int) := rfl
            rw [e]
            by_cases hb : b5 = 115
            · subst hb
              rw [decide_eq_true (show ((115 : UInt8).toNat : Int) = 115 from rfl)]
              exact decide_eq_true rfl
            · have h1 : ¬ ((b5.toNat : Int) = 115) := fun q => hb (UInt8.toNat_inj.1 (by have : (115 : UInt8).toNat = 115 := rfl; omega))
              rw [decide_eq_false h1]
              refine decide_eq_false fun q => hb ?_
              have q' : [b0, b1, b2, b3, b4] ++ [115] = [b0, b1, b2, b3, b4] ++ [b5] := q
              have := List.append_cancel_left q'
              exact (List.cons.inj this).1.symm
        rw [ht, Bool.and_true, cond_true]
        cases decide (byteAt (ba l) 5 = 115) <;> rfl
    · have g1 : (decide (5 ≤ ((ba l).size : Int)) && decide (((ba l).size : Int) ≤ 6)) = false := by
        rw [Bool.and_eq_false_iff, ba_size]
        by_cases hl : l.length < 5
        · exact .inl (decide_eq_false (by omega))
        · exact .inr (decide_eq_false (by omega))
      have e : shP (ba l) = (shZ, false) := by
        unfold shP
        rw [ba_size, decide_eq_false h5, decide_eq_false h6]
        simp only [Bool.false_and, cond_false]
      simp only [F_impl_ParseShape, within_is, g1, Bool.not_false, cond_true, e]
      rfl
end Go.Proofs.YtklfnbckoaphpaaGreatDoor
/- Directions, orientations and movements, on both sides: plain laws. No conditions beyond the bounds that are named. -/
set_option linter.unusedVariables false
set_option linter.unusedSimpArgs false
namespace Go.Proofs.YtklfnbckoaphpaaGreatDoor
open Go

/-! ### Directions -/
def dirL : List UInt8 := [117, 100, 108, 114, 102, 98]
def dirI (n : Int) : Int := firstN (fun i => byteAt (ba dirL) i == n) 6
theorem mvIndex_is (n : Int) : F_spec_mvIndex n = some (dirI n) := by
  have t := runL_first (f := step_spec_mvIndex_0) (fun i => !(byteAt (ba dirL) i == n)) (fun i => (n, (i : Int))) (fun i => .inl (i : Int)) (.inr ()) 6 (fun i hi => by
    have hw := wrap_succ (i := i) (by omega)
    have g1 : decide ((i : Int) < (((⟨#[117, 100, 108, 114, 102, 98]⟩ : ByteArray).size : Nat) : Int)) = true := decide_eq_true (by show (i : Int) < 6; omega)
    have e : byteAt (⟨#[117, 100, 108, 114, 102, 98]⟩ : ByteArray) i = byteAt (ba dirL) i := rfl
    simp only [step_spec_mvIndex_0, F_spec_mvLetters, g1, nonneg, Bool.and_self, cond_true, Int.toNat_natCast, hw, e]
    cases (byteAt (ba dirL) i == n) <;> rfl) rfl
  rcases t with ⟨t, hp⟩ | ⟨i, hi, hp, hj, t⟩
  · have t' : runL step_spec_mvIndex_0 (n, 0) = _ := t
    simp only [F_spec_mvIndex, t']
    unfold dirI
    rw [firstN_none (fun j hj => by simpa using hp j hj)]
  · have t' : runL step_spec_mvIndex_0 (n, 0) = _ := t
    simp only [F_spec_mvIndex, t']
    unfold dirI
    rw [firstN_at hi (by simpa using hp) (fun j hj' => by simpa using hj j hj')]
theorem orLetter_is (n : Int) : F_spec_orLetter n = some (dirI n) := by
  have t := runL_first (f := step_spec_orLetter_0) (fun i => !(byteAt (ba dirL) i == n)) (fun i => (n, (i : Int))) (fun i => .inl (i : Int)) (.inr ()) 6 (fun i hi => by
    have hw := wrap_succ (i := i) (by omega)
    have g0 : decide ((i : Int) < 6) = true := decide_eq_true (by omega)
    have g1 : decide ((i : Int) < (((⟨#[117, 100, 108, 114, 102, 98]⟩ : ByteArray).size : Nat) : Int)) = true := decide_eq_true (by show (i : Int) < 6; omega)
    have e : byteAt (⟨#[117, 100, 108, 114, 102, 98]⟩ : ByteArray) i = byteAt (ba dirL) i := rfl
    simp only [step_spec_orLetter_0, g0, g1, nonneg, Bool.and_self, cond_true, Int.toNat_natCast, hw, e]
    cases (byteAt (ba dirL) i == n) <;> rfl) rfl
  rcases t with ⟨t, hp⟩ | ⟨i, hi, hp, hj, t⟩
  · have t' : runL step_spec_orLetter_0 (n, 0) = _ := t
    simp only [F_spec_orLetter, t']
    unfold dirI
    rw [firstN_none (fun j hj => by simpa using hp j hj)]
  · have t' : runL step_spec_orLetter_0 (n, 0) = _ := t
    simp only [F_spec_orLetter, t']
    unfold dirI
    rw [firstN_at hi (by simpa using hp) (fun j hj' => by simpa using hj j hj')]
theorem dirI_bytes : ∀ b : Fin 256, Lib.indexByte dirL (UInt8.ofNat b.val) = dirI (b.val : Int) := by decide +kernel
theorem dirI_byte (b : UInt8) : Lib.indexByte dirL b = dirI (b.toNat : Int) := by
  have := dirI_bytes ⟨b.toNat, b.toNat_lt⟩
  simpa using this
theorem IndexByte_dir (x : ByteArray) (i : Nat) : F_strings_IndexByte ((⟨#[117, 100, 108, 114, 102, 98]⟩ : ByteArray), byteAt x i) = some (dirI (byteAt x i)) := by
  obtain ⟨b, hb⟩ : ∃ b : UInt8, byteAt x i = (b.toNat : Int) := ⟨_, rfl⟩
  rw [hb, ← dirI_byte]
  unfold F_strings_IndexByte
  congr 2
  simp [Nat.toUInt8]

/-! ### Orientations -/
def in05 (n : Int) : Bool := decide (0 ≤ n) && decide (n ≤ 5)
def orOpp (n : Int) : Int := bif n.tmod 2 == 0 then n + 1 else n - 1
def orOK (o : Orient) : Bool := in05 o.1 && in05 o.2 && (o.1 != o.2) && (o.1 != orOpp o.2)
theorem in05_cases {n : Int} (h : in05 n = true) : n = 0 ∨ n = 1 ∨ n = 2 ∨ n = 3 ∨ n = 4 ∨ n = 5 := by
  simp only [in05, Bool.and_eq_true, decide_eq_true_eq] at h
  omega
theorem orOpp_is (n : Int) (h : in05 n = true) : F_spec_orOpposite n = some (orOpp n) := by
  rcases in05_cases h with rfl | rfl | rfl | rfl | rfl | rfl <;> rfl
theorem orGood_is (o : Orient) : F_spec_orGood o = some (orOK o) := by
  obtain ⟨a, b⟩ := o
  have e : ∀ n, F_spec_orDir n = some (in05 n) := fun n => by simp only [F_spec_orDir, l1In_is, in05]
  simp only [F_spec_orGood, e, orOK]
  cases ha : in05 a with
  | false => simp only [cond_false, Bool.false_and]
  | true =>
    cases hb : in05 b with
    | false => simp only [cond_true, cond_false, Bool.false_and, Bool.and_false]
    | true =>
      simp only [cond_true, Bool.true_and, orOpp_is b hb]
      cases (a != b) <;> rfl
theorem IsOrient_is (o : Orient) : F_impl_IsOrient o = some (orOK o) := by
  obtain ⟨a, b⟩ := o
  simp only [F_impl_IsOrient, within_is, orOK]
  show (bif in05 a then _ else _) = _
  cases ha : in05 a with
  | false => simp only [cond_false, Bool.false_and]
  | true =>
    simp only [cond_true]
    show (bif in05 b then _ else _) = _
    cases hb : in05 b with
    | false => simp only [cond_false, Bool.false_and, Bool.and_false]
    | true =>
      rcases in05_cases ha with rfl | rfl | rfl | rfl | rfl | rfl <;> rcases in05_cases hb with rfl | rfl | rfl | rfl | rfl | rfl <;> rfl
def orP (x : ByteArray) : Orient × Bool := bif decide (x.size = 2) && orOK (dirI (byteAt x 0), dirI (byteAt x 1)) then ((dirI (byteAt x 0), dirI (byteAt x 1)), true) else ((0, 0), false)
theorem orP_spec (x : ByteArray) : F_spec_orParse x = some (orP x) := by
  simp only [F_spec_orParse, orP]
  by_cases h : x.size = 2
  · have g : (((x.size : Nat) : Int) != 2) = false := by rw [h]; rfl
    have g0 : (decide (0 ≤ 0) && decide ((0 : Int) < (x.size : Int))) = true := by rw [h]; rfl
    have g1 : (decide (0 ≤ 1) && decide ((1 : Int) < (x.size : Int))) = true := by rw [h]; rfl
    have e0 : F_spec_orLetter (byteAt x (0 : Int).toNat) = some (dirI (byteAt x 0)) := orLetter_is _
    have e1 : F_spec_orLetter (byteAt x (1 : Int).toNat) = some (dirI (byteAt x 1)) := orLetter_is _
    simp only [g, g0, g1, cond_false, cond_true, e0, e1, orGood_is, decide_eq_true h, Bool.true_and]
    cases orOK _ <;> rfl
  · have g : (((x.size : Nat) : Int) != 2) = true := by rw [bne_iff_ne]; omega
    simp only [g, cond_true, decide_eq_false h, Bool.false_and, cond_false]
theorem orP_impl (x : ByteArray) : F_impl_ParseOrient x = some (orP x) := by
  simp only [F_impl_ParseOrient, orP]
  by_cases h : x.size = 2
  · have g : (((x.size : Nat) : Int) != 2) = false := by rw [h]; rfl
    have g0 : (decide (0 ≤ 0) && decide ((0 : Int) < (x.size : Int))) = true := by rw [h]; rfl
    have g1 : (decide (0 ≤ 1) && decide ((1 : Int) < (x.size : Int))) = true := by rw [h]; rfl
    have e0 : F_strings_IndexByte ((⟨#[117, 100, 108, 114, 102, 98]⟩ : ByteArray), byteAt x (0 : Int).toNat) = some (dirI (byteAt x 0)) := IndexByte_dir x 0
    have e1 : F_strings_IndexByte ((⟨#[117, 100, 108, 114, 102, 98]⟩ : ByteArray), byteAt x (1 : Int).toNat) = some (dirI (byteAt x 1)) := IndexByte_dir x 1
    simp only [g, g0, g1, cond_false, cond_true, e0, e1, IsOrient_is, decide_eq_true h, Bool.true_and]
    cases orOK _ <;> rfl
  · have g : (((x.size : Nat) : Int) != 2) = true := by rw [bne_iff_ne]; omega
    simp only [g, cond_true, decide_eq_false h, Bool.false_and, cond_false]
def orSw (n : Int) : Int := bif n == 2 then 3 else bif n == 3 then 2 else n
theorem orSwap_is (n : Int) : F_spec_orSwap n = some (orSw n) := by
  simp only [F_spec_orSwap, orSw]
  by_cases h2 : n = 2
  · subst h2; rfl
  · by_cases h3 : n = 3
    · subst h3; rfl
    · rw [beq_eq_false_iff_ne.2 h2, beq_eq_false_iff_ne.2 h3]; rfl
theorem mirrored1_is (n : Int) : F_impl_Orient_mirrored_1 n = some (orSw n) := by
  simp only [F_impl_Orient_mirrored_1, orSw]
  by_cases h2 : n = 2
  · subst h2; rfl
  · by_cases h3 : n = 3
    · subst h3; rfl
    · rw [beq_eq_false_iff_ne.2 h2, beq_eq_false_iff_ne.2 h3]; rfl
def orMir (o : Orient) : Orient := (orSw o.1, orSw o.2)
theorem orMirror_is (o : Orient) : F_spec_orMirror o = some (orMir o) := by simp only [F_spec_orMirror, orSwap_is, orMir]
theorem Orient_mirrored_is (o : Orient) : F_impl_Orient_mirrored o = some (orMir o) := by simp only [F_impl_Orient_mirrored, mirrored1_is, orMir]
theorem orSw_sw (n : Int) : orSw (orSw n) = n := by
  unfold orSw
  by_cases h2 : n = 2
  · subst h2; rfl
  · by_cases h3 : n = 3
    · subst h3; rfl
    · rw [beq_eq_false_iff_ne.2 h2, beq_eq_false_iff_ne.2 h3]
      simp only [cond_false]
      rw [beq_eq_false_iff_ne.2 h2, beq_eq_false_iff_ne.2 h3]; rfl
theorem orMir_mir (o : Orient) : orMir (orMir o) = o := by
  obtain ⟨a, b⟩ := o
  simp only [orMir, orSw_sw]
end Go.Proofs.YtklfnbckoaphpaaGreatDoor
/- Places, on both sides: plain laws. No conditions beyond the bounds that are named. -/
set_option linter.unusedVariables false
set_option linter.unusedSimpArgs false
namespace Go.Proofs.YtklfnbckoaphpaaGreatDoor
open Go
abbrev Place := Int × (Int × Bool)
def plOK (p : Place) : Bool := (decide (0 ≤ p.1) && decide (p.1 ≤ 9)) && (decide (-1 ≤ p.2.1) && decide (p.2.1 ≤ 1)) && !(p.2.2 && (p.1 == 0))
def plCd (c : Nat) : Place := (((c / 6 : Nat) : Int), (((c % 6) / 2 : Nat) : Int) - 1, (c % 2 == 1))
def plL : List Place := ((List.range 60).map plCd).filter plOK
def plNm : List (List UInt8) := [[115, 112, 97, 99, 101], [104, 101, 97, 100], [101, 121, 101], [99, 104, 101, 101, 107], [109, 111, 117, 116, 104], [99, 104, 105, 110], [110, 101, 99, 107], [99, 104, 101, 115, 116], [119, 97, 105, 115, 116], [104, 105, 112]]
def plT (p : Place) : List UInt8 := (plNm.getD p.1.toNat [] ++ (bif p.2.1 == -1 then [60] else bif p.2.1 == 1 then [62] else [])) ++ (bif p.2.2 then [42] else [])
theorem plGood_is (p : Place) : F_spec_plGood p = some (plOK p) := by
  obtain ⟨b, s, t⟩ := p
  simp only [F_spec_plGood, l1In_is, plOK]
  cases hb : decide (0 ≤ b) && decide (b ≤ 9) with
  | false => rfl
  | true =>
    cases hs : decide (-1 ≤ s) && decide (s ≤ 1) with
    | false => rfl
    | true =>
      simp only [Bool.and_eq_true, decide_eq_true_eq] at hb
      by_cases h0 : b = 0
      · subst h0; cases t <;> rfl
      · rw [decide_eq_true (show b > 0 by omega), beq_eq_false_iff_ne.2 h0]; cases t <;> rfl
theorem IsPlace_is (p : Place) : F_impl_IsPlace p = some (plOK p) := by
  obtain ⟨b, s, t⟩ := p
  simp only [F_impl_IsPlace, within_is, plOK]
  cases decide (0 ≤ b) && decide (b ≤ 9) with
  | false => rfl
  | true =>
    cases decide (-1 ≤ s) && decide (s ≤ 1) with
    | false => rfl
    | true => cases t <;> cases (b == 0) <;> rfl
theorem plOK_parts {p : Place} (h : plOK p = true) : (0 ≤ p.1 ∧ p.1 ≤ 9) ∧ (-1 ≤ p.2.1 ∧ p.2.1 ≤ 1) := by
  simp only [plOK, Bool.and_eq_true, decide_eq_true_eq] at h
  exact ⟨h.1.1, h.1.2⟩

/-! ### Texts -/
theorem plText_is {p : Place} (h : plOK p = true) : F_spec_plText p = some (ba (plT p)) := by
  obtain ⟨⟨b0, b9⟩, s0, s1⟩ := plOK_parts h
  obtain ⟨b, s, t⟩ := p
  simp only at b0 b9 s0 s1
  clear h
  have hs : s = -1 ∨ s = 0 ∨ s = 1 := by omega
  have hb : b = 0 ∨ b = 1 ∨ b = 2 ∨ b = 3 ∨ b = 4 ∨ b = 5 ∨ b = 6 ∨ b = 7 ∨ b = 8 ∨ b = 9 := by omega
  rcases hb with rfl | rfl | rfl | rfl | rfl | rfl | rfl | rfl | rfl | rfl <;> rcases hs with rfl | rfl | rfl <;> cases t <;> rfl
theorem Place_text_is {p : Place} (h : plOK p = true) : F_impl_Place_text p = some (ba (plT p)) := by
  obtain ⟨⟨b0, b9⟩, s0, s1⟩ := plOK_parts h
  obtain ⟨b, s, t⟩ := p
  simp only at b0 b9 s0 s1
  clear h
  have hs : s = -1 ∨ s = 0 ∨ s = 1 := by omega
  have hb : b = 0 ∨ b = 1 ∨ b = 2 ∨ b = 3 ∨ b = 4 ∨ b = 5 ∨ b = 6 ∨ b = 7 ∨ b = 8 ∨ b = 9 := by omega
  rcases hb with rfl | rfl | rfl | rfl | rfl | rfl | rfl | rfl | rfl | rfl <;> rcases hs with rfl | rfl | rfl <;> cases t <;> rfl

/-! ### All places -/
def plIn (b s : Int) : List Place := ([false, true].map fun t => (b, s, t)).filter plOK
theorem plIn_le (b s : Int) : (plIn b s).length ≤ 2 := by
  unfold plIn
  exact Nat.le_trans (List.length_filter_le _ _) (by simp)
theorem plAll0_is (b s : Int) (out : List Place) (ho : out.length ≤ 1000) : runL step_spec_plAll_0 (b, (s, 2, (0, [false, true], out))) = some (b, s, out ++ plIn b s) := by
  have st : ∀ (i : Nat) (t : Bool) (o : List Place), i < 2 → o.length ≤ 1002 → [false, true].getD i false = t → step_spec_plAll_0 (b, (s, 2, ((i : Int), [false, true], o))) = some (.inl (b, (s, 2, (((i + 1 : Nat) : Int), [false, true], o ++ ([(b, s, t)].filter plOK))))) := by
    intro i t o hi ho' ht
    have hw := wrap_succ (i := i) (by omega)
    have g1 : decide ((i : Int) < 2) = true := decide_eq_true (by omega)
    have g2 : decide ((i : Int) < (([false, true].length : Nat) : Int)) = true := decide_eq_true (by simp; omega)
    have g3 : decide ((o.length + [(b, s, t)].length) * 24 ≤ 140737488355328) = true := decide_eq_true (by simp; omega)
    simp only [step_spec_plAll_0, g1, g2, nonneg, Bool.and_self, cond_true, Int.toNat_natCast, ht, plGood_is, g3, hw]
    cases hp : plOK (b, s, t) with
    | true => simp [List.filter, hp]
    | false => simp [List.filter, hp]
  have a0 := st 0 false out (by omega) (by omega) rfl
  have a1 := st 1 true (out ++ [(b, s, false)].filter plOK) (by omega) (by have := List.length_filter_le plOK [(b, s, false)]; simp only [List.length_append, List.length_singleton] at *; omega) rfl
  refine (runL_step a0).trans ((runL_step a1).trans ((runL_end rfl).trans ?_))
  have e : plIn b s = [(b, s, false)].filter plOK ++ [(b, s, true)].filter plOK := by
    unfold plIn
    rw [← List.filter_append]; rfl
  rw [e, List.append_assoc]
def plMd (b : Int) : List Place := plIn b (-1) ++ (plIn b 0 ++ plIn b 1)
theorem plMd_le (b : Int) : (plMd b).length ≤ 6 := by
  have h1 := plIn_le b (-1)
  have h2 := plIn_le b 0
  have h3 := plIn_le b 1
  unfold plMd
  simp only [List.length_append]
  omega
theorem plAll1_is (b : Int) (out : List Place) (ho : out.length ≤ 900) : runL step_spec_plAll_1 (b, -1, out) = some (b, out ++ plMd b) := by
  have st : ∀ (s : Int) (o : List Place), -1 ≤ s → s ≤ 1 → o.length ≤ 1000 → step_spec_plAll_1 (b, s, o) = some (.inl (b, s + 1, o ++ plIn b s)) := by
    intro s o h1 h2 ho'
    have hw : IntKind.i64.wrap (s + 1) = s + 1 := wrap_id (by omega) (by omega)
    have hr := plAll0_is b s o ho'
    have hr' : runL step_spec_plAll_0 (b, (s, (([false, true].length : Nat) : Int), (0, [false, true], o))) = _ := hr
    simp only [step_spec_plAll_1, decide_eq_true h2, cond_true, hr', hw]
  have l1 := plIn_le b (-1)
  have l2 := plIn_le b 0
  have a0 := st (-1) out (by omega) (by omega) (by omega)
  have a1 := st 0 (out ++ plIn b (-1)) (by omega) (by omega) (by rw [List.length_append]; omega)
  have a2 := st 1 (out ++ plIn b (-1) ++ plIn b 0) (by omega) (by omega) (by rw [List.length_append, List.length_append]; omega)
  refine (runL_step a0).trans ((runL_step a1).trans ((runL_step a2).trans ((runL_end rfl).trans ?_)))
  rw [plMd, List.append_assoc, List.append_assoc]
theorem plAll_list : ((List.range 10).flatMap fun i : Nat => plMd (i : Int)) = plL := by decide +kernel
theorem plAll_is : F_spec_plAll () = some plL := by
  have hlen : ∀ n : Nat, ((List.range n).flatMap fun i : Nat => plMd (i : Int)).length ≤ 6 * n := by
    intro n
    induction n with
    | zero => simp
    | succ n ih =>
      rw [List.range_succ, List.flatMap_append, List.length_append]
      have := plMd_le (n : Int)
      simp only [List.flatMap_cons, List.flatMap_nil, List.append_nil]
      omega
  have t := runL_traj (f := step_spec_plAll_2) (fun n => ((n : Int), (List.range n).flatMap fun i : Nat => plMd (i : Int))) ((List.range 10).flatMap fun i : Nat => plMd (i : Int)) 10 (fun n hn => by
    have hw := wrap_succ (i := n) (by omega)
    have g : decide ((n : Int) < 10) = true := decide_eq_true (by omega)
    have hr := plAll1_is (n : Int) ((List.range n).flatMap fun i : Nat => plMd (i : Int)) (by have := hlen n; omega)
    simp only [step_spec_plAll_2, g, cond_true, hr, hw, List.range_succ, List.flatMap_append, List.flatMap_cons, List.flatMap_nil, List.append_nil]) rfl
  have t' : runL step_spec_plAll_2 (0, []) = _ := t
  simp only [F_spec_plAll, t', plAll_list]

/-! ### Parsing -/
def plP (x : ByteArray) : Place × Bool := match plL.find? (fun p => decide (plT p = x.data.toList)) with | some p => (p, true) | none => ((0, 0, false), false)
theorem plP_some {l : List UInt8} {p : Place} (h : plL.find? (fun p => decide (plT p = l)) = some p) : plP (ba l) = (p, true) := by
  show (match plL.find? (fun p => decide (plT p = l)) with | some p => (p, true) | none => ((0, 0, false), false)) = _
  rw [h]
theorem plP_none {l : List UInt8} (h : plL.find? (fun p => decide (plT p = l)) = none) : plP (ba l) = ((0, 0, false), false) := by
  show (match plL.find? (fun p => decide (plT p = l)) with | some p => (p, true) | none => ((0, 0, false), false)) = _
  rw [h]
theorem find_first {α : Type} {p : α → Bool} : ∀ {l : List α} {i : Nat} (d : α), i < l.length → p (l.getD i d) = true → (∀ j, j < i → p (l.getD j d) = false) → l.find? p = some (l.getD i d)
  | a :: l, 0, d, _, hp, _ => by
    have hp' : p a = true := hp
    rw [List.find?_cons, hp']; rfl
  | a :: l, i + 1, d, hi, hp, hj => by
    have h0 : p a = false := hj 0 (by omega)
    rw [List.find?_cons, h0]
    exact find_first d (by simpa using hi) hp (fun j hj' => hj (j + 1) (by omega))
theorem find_none {α : Type} {p : α → Bool} {l : List α} (d : α) (h : ∀ j, j < l.length → p (l.getD j d) = false) : l.find? p = none := by
  rw [List.find?_eq_none]
  intro x hx
  obtain ⟨i, hi, rfl⟩ := List.mem_iff_getElem.1 hx
  have := h i hi
  rw [List.getD, List.getElem?_eq_getElem hi] at this
  simpa using this
theorem plL_ok : ∀ p ∈ plL, plOK p = true := fun p hp => (List.mem_filter.1 hp).2
theorem plL_len : plL.length ≤ 60 := Nat.le_trans (List.length_filter_le _ _) (by simp)
theorem beq_text (a b : List UInt8) : (a == b) = decide (a = b) := by
  by_cases h : a = b
  · subst h; simp
  · rw [decide_eq_false h, beq_eq_false_iff_ne.2 h]
theorem plP_spec (x : ByteArray) : F_spec_plParse x = some (plP x) := by
  obtain ⟨l, rfl⟩ : ∃ l, x = ba l := ⟨x.data.toList, eq_ba x⟩
  have hl := plL_len
  rcases runL_first (f := step_spec_plParse_0) (fun i => !decide (plT (plL.getD i (0, 0, false)) = l)) (fun i => (ba l, (plL.length : Int), ((i : Int), plL, (0, 0, false)))) (fun i => .inl (true, plL.getD i (0, 0, false))) (.inr (0, 0, false)) plL.length (fun i hi => by
    have hw := wrap_succ (i := i) (by omega)
    have ht := plText_is (plL_ok _ (getD_mem hi (0, 0, false)))
    simp only [step_spec_plParse_0, lt_len hi, nonneg, Bool.and_self, cond_true, Int.toNat_natCast, ht, ba_toList, beq_text, hw]
    cases decide (plT (plL.getD i (0, 0, false)) = l) <;> rfl) (by simp only [step_spec_plParse_0, not_lt_len, cond_false]) with ⟨t, hp⟩ | ⟨i, hi, hp, hj, t⟩
  · have t' : runL step_spec_plParse_0 (ba l, (plL.length : Int), (0, plL, (0, 0, false))) = _ := t
    have hf : plL.find? (fun p => decide (plT p = l)) = none := find_none (0, 0, false) fun j hj => by simpa using hp j hj
    simp only [F_spec_plParse, plAll_is, t', plP_none hf]
  · have t' : runL step_spec_plParse_0 (ba l, (plL.length : Int), (0, plL, (0, 0, false))) = _ := t
    have hf : plL.find? (fun p => decide (plT p = l)) = some (plL.getD i (0, 0, false)) := find_first (0, 0, false) hi (by simpa using hp) fun j hj' => by simpa using hj j hj'
    simp only [F_spec_plParse, plAll_is, t', plP_some hf]
theorem PlaceOfCode_all : ∀ c : Fin 60, F_impl_PlaceOfCode (c.val : Int) = some (bif plOK (plCd c.val) then (plCd c.val, true) else ((0, 0, false), false)) := by
  intro c
  have h0 := c.isLt
  have g : (decide (0 ≤ (c.val : Int)) && decide ((c.val : Int) ≤ 59)) = true := by rw [decide_eq_true (by omega), decide_eq_true (by omega)]; rfl
  have e1 : IntKind.i64.wrap ((c.val : Int).tdiv 6) = ((c.val / 6 : Nat) : Int) := by
    have : (c.val : Int).tdiv 6 = ((c.val / 6 : Nat) : Int) := rfl
    rw [this]; exact wrap_id (by omega) (by omega)
  have e2 : (c.val : Int).tmod 6 = ((c.val % 6 : Nat) : Int) := rfl
  have e3 : IntKind.i64.wrap ((((c.val % 6 : Nat) : Int)).tdiv 2) = (((c.val % 6) / 2 : Nat) : Int) := by
    have : (((c.val % 6 : Nat) : Int)).tdiv 2 = (((c.val % 6) / 2 : Nat) : Int) := rfl
    rw [this]; exact wrap_id (by omega) (by omega)
  have e4 : IntKind.i64.wrap ((((c.val % 6) / 2 : Nat) : Int) - 1) = (((c.val % 6) / 2 : Nat) : Int) - 1 := wrap_id (by omega) (by omega)
  have e5 : ((c.val : Int).tmod 2 == 1) = (c.val % 2 == 1) := by
    have : (c.val : Int).tmod 2 = ((c.val % 2 : Nat) : Int) := rfl
    rw [this]
    by_cases h : c.val % 2 = 1
    · rw [h]; rfl
    · rw [beq_eq_false_iff_ne.2 h]; exact beq_eq_false_iff_ne.2 (by omega)
  have z6 : (!decide (6 = 0)) = true := rfl
  have z2 : (!decide (2 = 0)) = true := rfl
  have hp := IsPlace_is (plCd c.val)
  unfold plCd at hp
  simp only [F_impl_PlaceOfCode, within_is, g, Bool.not_true, cond_false, z6, z2, cond_true, e1, e2, e3, e4, e5, hp]
  show (bif !(plOK (plCd c.val)) then _ else _) = _
  cases plOK (plCd c.val) <;> rfl
theorem plP_impl (x : ByteArray) : F_impl_ParsePlace x = some (plP x) := by
  obtain ⟨l, rfl⟩ : ∃ l, x = ba l := ⟨x.data.toList, eq_ba x⟩
  have hfd : plL.find? (fun p => decide (plT p = l)) = ((List.range 60).map plCd).find? (fun p => plOK p && decide (plT p = l)) := by
    unfold plL
    rw [List.find?_filter]
    refine congrArg (fun q => List.find? q _) (funext fun a => ?_)
    cases plOK a <;> simp
  have hml : ((List.range 60).map plCd).length = 60 := by simp
  have hat : ∀ i, i < 60 → ((List.range 60).map plCd).getD i (0, 0, false) = plCd i := fun i hi => by
    rw [List.getD, List.getElem?_eq_getElem (by rw [hml]; exact hi)]
    simp
  rcases runL_first (f := step_impl_ParsePlace_0) (fun i => !(plOK (plCd i) && decide (plT (plCd i) = l))) (fun i => (ba l, ((i : Int), (0, 0, false)))) (fun i => .inl (true, plCd i)) (.inr (0, 0, false)) 60 (fun i hi => by
    have hw := wrap_succ (i := i) (by omega)
    have g : decide ((i : Int) < 60) = true := decide_eq_true (by omega)
    have hc : F_impl_PlaceOfCode ((i : Nat) : Int) = _ := PlaceOfCode_all ⟨i, hi⟩
    simp only [step_impl_ParsePlace_0, g, cond_true, hc, hw]
    cases hok : plOK (plCd i) with
    | false => rfl
    | true =>
      simp only [cond_true, Place_text_is hok, ba_toList, beq_text, Bool.true_and]
      cases decide (plT (plCd i) = l) <;> rfl) rfl with ⟨t, hp⟩ | ⟨i, hi, hp, hj, t⟩
  · have t' : runL step_impl_ParsePlace_0 (ba l, (0, (0, 0, false))) = _ := t
    have hf : plL.find? (fun p => decide (plT p = l)) = none := by
      rw [hfd]
      exact find_none (0, 0, false) fun j hj => by rw [hat j (by omega)]; have q := hp j (by omega); rw [Bool.not_eq_true'] at q; exact q
    simp only [F_impl_ParsePlace, t', plP_none hf]
  · have t' : runL step_impl_ParsePlace_0 (ba l, (0, (0, 0, false))) = _ := t
    have hf : plL.find? (fun p => decide (plT p = l)) = some (plCd i) := by
      rw [hfd, ← hat i hi]
      exact find_first (0, 0, false) (by omega) (by rw [hat i hi]; rw [Bool.not_eq_false'] at hp; exact hp) fun j hj' => by rw [hat j (by omega)]; have q := hj j hj'; rw [Bool.not_eq_true'] at q; exact q
    simp only [F_impl_ParsePlace, t', plP_some hf]
end Go.Proofs.YtklfnbckoaphpaaGreatDoor
/- Movements, on both sides: plain laws. No conditions beyond the bounds that are named. -/
set_option linter.unusedVariables false
set_option linter.unusedSimpArgs false
namespace Go.Proofs.YtklfnbckoaphpaaGreatDoor
open Go
abbrev Move := ByteArray × Int
def dirAll (l : List UInt8) : Bool := l.all fun b => decide (0 ≤ dirI (b.toNat : Int))
theorem dirAll_N (l : List UInt8) : allN (fun i => decide (0 ≤ dirI (byteAt (ba l) i))) l.length = dirAll l := allN_all (fun b : UInt8 => decide (0 ≤ dirI (b.toNat : Int))) 0 l
theorem mvSteps_is (l : List UInt8) (hl : l.length ≤ 9223372036854775806) : F_spec_mvSteps (ba l) = some (dirAll l) := by
  have t := runL_all (f := step_spec_mvSteps_0) (fun i => decide (0 ≤ dirI (byteAt (ba l) i))) (fun i => (ba l, (i : Int))) (.inl false) (.inr ()) l.length (fun i hi => by
    have hw := wrap_succ (i := i) (by omega)
    have g : decide ((i : Int) < ((ba l).size : Int)) = true := lt_len (by rw [ba_size]; exact hi)
    simp only [step_spec_mvSteps_0, g, nonneg, Bool.and_self, cond_true, Int.toNat_natCast, mvIndex_is, hw, lt_not]
    cases decide (0 ≤ dirI (byteAt (ba l) i)) <;> rfl) (by
      have g : decide (((l.length : Nat) : Int) < ((ba l).size : Int)) = false := by rw [ba_size]; exact not_lt_len _
      simp only [step_spec_mvSteps_0, g, cond_false])
  have t' : runL step_spec_mvSteps_0 (ba l, 0) = _ := t
  simp only [F_spec_mvSteps, t', dirAll_N]
  cases dirAll l <;> rfl
theorem hasOnly_dir (l : List UInt8) (hl : l.length ≤ 9223372036854775806) : F_impl_hasOnly (ba l, (⟨#[117, 100, 108, 114, 102, 98]⟩ : ByteArray)) = some (dirAll l) := by
  have t := runL_all (f := step_impl_hasOnly_0) (fun i => decide (0 ≤ dirI (byteAt (ba l) i))) (fun i => (ba l, ((⟨#[117, 100, 108, 114, 102, 98]⟩ : ByteArray), ((l.length : Nat) : Int), (i : Int)))) (.inl false) (.inr ()) l.length (fun i hi => by
    have hw := wrap_succ (i := i) (by omega)
    have g : decide ((i : Int) < ((ba l).size : Int)) = true := lt_len (by rw [ba_size]; exact hi)
    simp only [step_impl_hasOnly_0, lt_len hi, g, nonneg, Bool.and_self, cond_true, Int.toNat_natCast, IndexByte_dir, hw, lt_not]
    cases decide (0 ≤ dirI (byteAt (ba l) i)) <;> rfl) (by simp only [step_impl_hasOnly_0, not_lt_len, cond_false])
  have t' : runL step_impl_hasOnly_0 (ba l, ((⟨#[117, 100, 108, 114, 102, 98]⟩ : ByteArray), (((ba l).size : Nat) : Int), 0)) = _ := t
  simp only [F_impl_hasOnly, t', dirAll_N]
  cases dirAll l <;> rfl
def mvOK (l : List UInt8) (r : Int) : Bool := decide (l.length ≤ 6) && dirAll l && (decide (1 ≤ r) && decide (r ≤ 3)) && (!decide (l = []) || (r == 1))
theorem mt_nil (l : List UInt8) : ((ba l).toList == (⟨#[]⟩ : ByteArray).toList) = decide (l = []) := by
  have e : (⟨#[]⟩ : ByteArray).toList = [] := ba_toList []
  rw [ba_toList, e, beq_text]
theorem mvGood_is (l : List UInt8) (r : Int) : F_spec_mvGood (ba l, r) = some (mvOK l r) := by
  simp only [F_spec_mvGood, mvOK]
  by_cases h : l.length ≤ 6
  · have g : decide (((ba l).size : Int) ≤ 6) = true := decide_eq_true (by rw [ba_size]; omega)
    simp only [g, cond_true, mvSteps_is l (by omega), l1In_is, mt_nil, decide_eq_true h, Bool.true_and]
    cases dirAll l <;> cases decide (1 ≤ r) && decide (r ≤ 3) <;> cases decide (l = []) <;> rfl
  · have g : decide (((ba l).size : Int) ≤ 6) = false := decide_eq_false (by rw [ba_size]; omega)
    simp only [g, cond_false, decide_eq_false h, Bool.false_and]
theorem IsMove_is (l : List UInt8) (r : Int) : F_impl_IsMove (ba l, r) = some (mvOK l r) := by
  simp only [F_impl_IsMove, mvOK]
  by_cases h : l.length ≤ 6
  · have g : decide (((ba l).size : Int) ≤ 6) = true := decide_eq_true (by rw [ba_size]; omega)
    simp only [g, cond_true, hasOnly_dir l (by omega), within_is, mt_nil, decide_eq_true h, Bool.true_and]
    cases dirAll l <;> cases decide (1 ≤ r) && decide (r ≤ 3) <;> cases decide (l = []) <;> rfl
  · have g : decide (((ba l).size : Int) ≤ 6) = false := decide_eq_false (by rw [ba_size]; omega)
    simp only [g, cond_false, decide_eq_false h, Bool.false_and]
theorem mvOK_parts {l : List UInt8} {r : Int} (h : mvOK l r = true) : l.length ≤ 6 ∧ dirAll l = true ∧ (1 ≤ r ∧ r ≤ 3) ∧ (l = [] → r = 1) := by
  simp only [mvOK, Bool.and_eq_true, Bool.or_eq_true, decide_eq_true_eq, Bool.not_eq_true', decide_eq_false_iff_not, beq_iff_eq] at h
  obtain ⟨⟨⟨h1, h2⟩, h3⟩, h4⟩ := h
  exact ⟨h1, h2, h3, fun e => h4.elim (fun q => absurd e q) id⟩

/-! ### Texts -/
def mvT (l : List UInt8) (r : Int) : List UInt8 := if l = [] then [45] else if r = 1 then l else l ++ [42, dig r]
theorem itoa2 : Lib.itoa 2 = [dig 2] := by decide +kernel
theorem itoa3 : Lib.itoa 3 = [dig 3] := by decide +kernel
theorem mvText_is {l : List UInt8} {r : Int} (h : mvOK l r = true) : F_spec_mvText (ba l, r) = some (ba (mvT l r)) := by
  obtain ⟨h6, _, ⟨h1, h3⟩, h0⟩ := mvOK_parts h
  simp only [F_spec_mvText, mvT, mt_nil]
  by_cases hl : l = []
  · rw [decide_eq_true hl, if_pos hl]; rfl
  · rw [decide_eq_false hl, if_neg hl, cond_false]
    have hr : r = 1 ∨ r = 2 ∨ r = 3 := by omega
    have g1 : decide ((ba l).size + (⟨#[42]⟩ : ByteArray).size ≤ 9223372036854775807) = true := decide_eq_true (by rw [ba_size]; show l.length + 1 ≤ _; omega)
    have e42 : ba l ++ (⟨#[42]⟩ : ByteArray) = ba (l ++ [42]) := ba_app l [42]
    have k2 : F_spec_l1Num 2 = some (ba [dig 2]) := by rw [F_spec_l1Num_is, itoa2]; rfl
    have k3 : F_spec_l1Num 3 = some (ba [dig 3]) := by rw [F_spec_l1Num_is, itoa3]; rfl
    have g2 : ∀ n, decide ((ba (l ++ [42])).size + (ba [dig n]).size ≤ 9223372036854775807) = true := fun n => decide_eq_true (by rw [ba_size, ba_size]; simp; omega)
    rcases hr with rfl | rfl | rfl
    · rfl
    · simp only [g1, cond_true, e42, k2, g2, ba_app, List.append_assoc]; rfl
    · simp only [g1, cond_true, e42, k3, g2, ba_app, List.append_assoc]; rfl
theorem Move_text_is {l : List UInt8} {r : Int} (h : mvOK l r = true) : F_impl_Move_text (ba l, r) = some (ba (mvT l r)) := by
  obtain ⟨h6, _, ⟨h1, h3⟩, h0⟩ := mvOK_parts h
  simp only [F_impl_Move_text, mvT, mt_nil]
  by_cases hl : l = []
  · rw [decide_eq_true hl, if_pos hl]; rfl
  · rw [decide_eq_false hl, if_neg hl, cond_false]
    have hr : r = 1 ∨ r = 2 ∨ r = 3 := by omega
    have g1 : decide ((ba l).size + (⟨#[42]⟩ : ByteArray).size ≤ 9223372036854775807) = true := decide_eq_true (by rw [ba_size]; show l.length + 1 ≤ _; omega)
    have e42 : ba l ++ (⟨#[42]⟩ : ByteArray) = ba (l ++ [42]) := ba_app l [42]
    have k2 : F_strconv_Itoa 2 = some (ba [dig 2]) := by rw [F_strconv_Itoa_is, itoa2]; rfl
    have k3 : F_strconv_Itoa 3 = some (ba [dig 3]) := by rw [F_strconv_Itoa_is, itoa3]; rfl
    have g2 : ∀ n, decide ((ba (l ++ [42])).size + (ba [dig n]).size ≤ 9223372036854775807) = true := fun n => decide_eq_true (by rw [ba_size, ba_size]; simp; omega)
    rcases hr with rfl | rfl | rfl
    · rfl
    · simp only [g1, cond_true, e42, k2, g2, ba_app, List.append_assoc]; rfl
    · simp only [g1, cond_true, e42, k3, g2, ba_app, List.append_assoc]; rfl

/-! ### Parsing -/
theorem read_total (x : ByteArray) : ∃ n, F_spec_l1Read x = some n := by
  have loop : x.size ≤ 6 → ∃ o, runL step_spec_l1Read_0 (x, 0, 0) = some o := fun hx => by
    obtain ⟨o, e, _⟩ := runL_inv (f := step_spec_l1Read_0) (fun s => ∃ (v : Int) (i : Nat), s = (x, v, (i : Int)) ∧ i ≤ x.size) (fun _ => True) (fun s => x.size - s.2.2.toNat) (by
      rintro s ⟨v, i, rfl, hi⟩
      rcases Nat.lt_or_ge i x.size with hlt | hge
      · have hw := wrap_succ (i := i) (by omega)
        simp only [step_spec_l1Read_0, lt_len hlt, nonneg, Bool.and_self, cond_true, Int.toNat_natCast, hw]
        cases decide (byteAt x i < 48)
        · cases decide (byteAt x i > 57)
          · exact .inr ⟨_, rfl, ⟨_, i + 1, rfl, by omega⟩, by simp; omega⟩
          · exact .inl ⟨_, rfl, trivial⟩
        · exact .inl ⟨_, rfl, trivial⟩
      · have : i = x.size := by omega
        subst this
        exact .inl ⟨.inr v, by simp only [step_spec_l1Read_0, not_lt_len, cond_false], trivial⟩) (x, 0, 0) ⟨0, 0, rfl, by omega⟩
    exact ⟨o, e⟩
  unfold F_spec_l1Read
  rw [l1In_is]
  by_cases h6 : (x.size : Int) ≤ 6
  · by_cases h1 : 1 ≤ (x.size : Int)
    · obtain ⟨o, e⟩ := loop (by omega)
      have h0 : decide (0 < (x.size : Int)) = true := decide_eq_true (by omega)
      simp only [decide_eq_true h1, decide_eq_true h6, h0, Bool.and_self, Bool.not_true, cond_false, e, decide_true, Int.le_refl, cond_true]
      cases byteAt x (0 : Int).toNat == 48
      · cases o <;> exact ⟨_, rfl⟩
      · cases decide ((x.size : Int) > 1)
        · cases o <;> exact ⟨_, rfl⟩
        · exact ⟨_, rfl⟩
    · simp only [decide_eq_false h1, Bool.false_and, Bool.not_false, cond_true]
      exact ⟨_, rfl⟩
  · simp only [decide_eq_false h6, Bool.and_false, Bool.not_false, cond_true]
    exact ⟨_, rfl⟩
theorem read2 : F_spec_l1Read (ba [50]) = some 2 := by
  have r : runL step_spec_l1Read_0 (ba [50], 0, 0) = some (.inr 2) := (runL_step (s' := (ba [50], 2, 1)) rfl).trans (runL_end rfl)
  have g : F_spec_l1Read (ba [50]) = match runL step_spec_l1Read_0 (ba [50], 0, 0) with | none => none | some (.inl o23) => some o23 | some (.inr o23) => some o23 := rfl
  rw [g, r]
theorem read3 : F_spec_l1Read (ba [51]) = some 3 := by
  have r : runL step_spec_l1Read_0 (ba [51], 0, 0) = some (.inr 3) := (runL_step (s' := (ba [51], 3, 1)) rfl).trans (runL_end rfl)
  have g : F_spec_l1Read (ba [51]) = match runL step_spec_l1Read_0 (ba [51], 0, 0) with | none => none | some (.inl o23) => some o23 | some (.inr o23) => some o23 := rfl
  rw [g, r]
theorem decimal_total (s : ByteArray) (hs : s.size ≤ 281474976710656) : F_impl_decimal s = some (decOf s) := by
  rw [F_impl_decimal_is, decide_eq_true hs]; rfl
theorem dec2 : (decOf (ba [50])).1 = 2 := by
  have h : Lib.atoiAll [50] = .ok 2 := by decide +kernel
  unfold decOf
  rw [ba_data, h]
  have e : (⟨(Lib.itoa 2).toArray⟩ : ByteArray) = ba [50] := by rw [itoa2]; rfl
  simp only [decide_eq_true e, cond_true]
theorem dec3 : (decOf (ba [51])).1 = 3 := by
  have h : Lib.atoiAll [51] = .ok 3 := by decide +kernel
  unfold decOf
  rw [ba_data, h]
  have e : (⟨(Lib.itoa 3).toArray⟩ : ByteArray) = ba [51] := by rw [itoa3]; rfl
  simp only [decide_eq_true e, cond_true]
/-- steps that stand in a text -/
def stOK (a : List UInt8) : Bool := !decide (a = []) && decide (a.length ≤ 6) && dirAll a
def mvPl (l : List UInt8) : (List UInt8 × Int) × Bool := match spl 42 l with
  | [a] => if l = [45] then (([], 1), true) else bif stOK a then ((a, 1), true) else (([], 0), false)
  | [a, t] => bif stOK a && decide (t = [50]) then ((a, 2), true) else bif stOK a && decide (t = [51]) then ((a, 3), true) else (([], 0), false)
  | _ => (([], 0), false)
def mvP (x : ByteArray) : Move × Bool := ((ba (mvPl x.data.toList).1.1, (mvPl x.data.toList).1.2), (mvPl x.data.toList).2)
theorem mv_chk (a r : List UInt8) (n : Int) : (mvOK a n && decide (mvT a n = a ++ 42 :: r)) = (stOK a && ((n == 2) && decide (r = [50]) || (n == 3) && decide (r = [51]))) := by
  have d2 : dig 2 = 50 := rfl
  have d3 : dig 3 = 51 := rfl
  by_cases ha : a = []
  · subst ha
    have e : stOK [] = false := rfl
    rw [e, Bool.false_and]
    have : mvT [] n ≠ [] ++ 42 :: r := by
      intro h
      have h' : [45] = (42 : UInt8) :: r := h
      have := (List.cons.inj h').1
      revert this; decide
    rw [decide_eq_false this, Bool.and_false]
  · have es : stOK a = (decide (a.length ≤ 6) && dirAll a) := by unfold stOK; rw [decide_eq_false ha]; rfl
    have em : mvOK a n = ((decide (a.length ≤ 6) && dirAll a) && (decide (1 ≤ n) && decide (n ≤ 3))) := by unfold mvOK; rw [decide_eq_false ha]; simp
    rw [es, em, Bool.and_assoc]
    cases decide (a.length ≤ 6) && dirAll a with
    | false => rfl
    | true =>
      rw [Bool.true_and, Bool.true_and]
      by_cases h2 : n = 2
      · subst h2
        have : decide (mvT a 2 = a ++ 42 :: r) = decide (r = [50]) := by
          unfold mvT
          rw [if_neg ha, if_neg (by decide), d2]
          by_cases h : r = [50]
          · subst h; rw [decide_eq_true (show a ++ [42, 50] = a ++ 42 :: [50] from rfl)]; exact (decide_eq_true rfl).symm
          · rw [decide_eq_false h]
            exact decide_eq_false fun q => h ((List.cons.inj (List.append_cancel_left q)).2.symm)
        rw [this]
        cases decide (r = [50]) <;> rfl
      · by_cases h3 : n = 3
        · subst h3
          have : decide (mvT a 3 = a ++ 42 :: r) = decide (r = [51]) := by
            unfold mvT
            rw [if_neg ha, if_neg (by decide), d3]
            by_cases h : r = [51]
            · subst h; rw [decide_eq_true (show a ++ [42, 51] = a ++ 42 :: [51] from rfl)]; exact (decide_eq_true rfl).symm
            · rw [decide_eq_false h]
              exact decide_eq_false fun q => h ((List.cons.inj (List.append_cancel_left q)).2.symm)
          rw [this]
          cases decide (r = [51]) <;> rfl
        · rw [beq_eq_false_iff_ne.2 h2, beq_eq_false_iff_ne.2 h3, Bool.false_and, Bool.false_and, Bool.or_self]
          by_cases h1 : n = 1
          · subst h1
            have : mvT a 1 ≠ a ++ 42 :: r := by
              unfold mvT
              rw [if_neg ha, if_pos rfl]
              intro q
              have := congrArg List.length q
              simp at this
            rw [decide_eq_false this, Bool.and_false]
          · have : (decide (1 ≤ n) && decide (n ≤ 3)) = false := by
              rw [Bool.and_eq_false_iff]
              by_cases h : 1 ≤ n
              · exact .inr (decide_eq_false (by omega))
              · exact .inl (decide_eq_false h)
            rw [this, Bool.false_and]
end Go.Proofs.YtklfnbckoaphpaaGreatDoor
/- Movements are parsed alike on both sides: plain laws. No conditions beyond the bounds that are named. -/
set_option linter.unusedVariables false
set_option linter.unusedSimpArgs false
namespace Go.Proofs.YtklfnbckoaphpaaGreatDoor
open Go
theorem t45 (l : List UInt8) : ((ba l).toList == (⟨#[45]⟩ : ByteArray).toList) = decide (l = [45]) := by
  have e : (⟨#[45]⟩ : ByteArray).toList = [45] := ba_toList [45]
  rw [ba_toList, e, beq_text]
theorem tt (a l : List UInt8) : ((ba a).toList == (ba l).toList) = decide (a = l) := by rw [ba_toList, ba_toList, beq_text]
theorem mvPl_one {l : List UInt8} (h : 42 ∉ l) : mvPl l = if l = [45] then (([], 1), true) else bif stOK l then ((l, 1), true) else (([], 0), false) := by
  unfold mvPl; rw [spl_none 42 l h]
theorem mvPl_two {a r : List UInt8} (ha : 42 ∉ a) (hr : 42 ∉ r) : mvPl (a ++ 42 :: r) = bif stOK a && decide (r = [50]) then ((a, 2), true) else bif stOK a && decide (r = [51]) then ((a, 3), true) else (([], 0), false) := by
  unfold mvPl; rw [spl_cons 42 a r ha, spl_none 42 r hr]
theorem mvPl_more {a b c : List UInt8} (ha : 42 ∉ a) (hb : 42 ∉ b) : mvPl (a ++ 42 :: (b ++ 42 :: c)) = (([], 0), false) := by
  unfold mvPl; rw [spl_cons 42 a _ ha, spl_cons 42 b c hb]
  have := spl_ne 42 c
  cases hs : spl 42 c with
  | nil => exact absurd hs this
  | cons x y => rfl
theorem ok_one (l : List UInt8) : mvOK l 1 = (decide (l.length ≤ 6) && dirAll l) := by unfold mvOK; simp
theorem mvT_one {l : List UInt8} (h : l ≠ []) : mvT l 1 = l := by unfold mvT; rw [if_neg h, if_pos rfl]
theorem one_chk {l : List UInt8} (h45 : l ≠ [45]) : (mvOK l 1 && decide (mvT l 1 = l)) = stOK l := by
  rw [ok_one]
  by_cases hl : l = []
  · subst hl; rfl
  · rw [mvT_one hl, decide_eq_true rfl, Bool.and_true]
    unfold stOK
    rw [decide_eq_false hl]; rfl
theorem step_bifs (F : ByteArray × Int → Option ByteArray) (a l : List UInt8) (n : Int) (hF : mvOK a n = true → F (ba a, n) = some (ba (mvT a n))) :
    (bif (!(mvOK a n)) then some (((ByteArray.empty, (0 : Int)), false)) else match F (ba a, n) with | none => none | some y => bif (!(y.toList == (ba l).toList)) then some (((ByteArray.empty, 0), false)) else some (((ba a, n), true))) =
    some (bif mvOK a n && decide (mvT a n = l) then ((ba a, n), true) else ((ByteArray.empty, 0), false)) := by
  cases h : mvOK a n with
  | false => rfl
  | true =>
    rw [hF h]
    simp only [Bool.not_true, cond_false, Bool.true_and, tt]
    cases decide (mvT a n = l) <;> rfl
theorem mvP_spec (x : ByteArray) (hx : x.size ≤ 1048576) : F_spec_mvParse x = some (mvP x) := by
  obtain ⟨l, rfl⟩ : ∃ l, x = ba l := ⟨x.data.toList, eq_ba x⟩
  have hl : l.length ≤ 1048576 := hx
  have hsp : F_spec_l1Split (ba l, 42) = some ((spl 42 l).map ba) := l1Split_is l 42 hl
  have hmp : mvP (ba l) = ((ba (mvPl l).1.1, (mvPl l).1.2), (mvPl l).2) := rfl
  rw [hmp]
  have eE : (⟨#[]⟩ : ByteArray) = ba [] := rfl
  simp only [F_spec_mvParse, hsp, t45, eE]
  rcases spl_cases 42 l with h | ⟨a, r, rfl, ha⟩
  · rw [spl_none 42 l h, mvPl_one h]
    have g0 : (decide (0 ≤ 0) && decide ((0 : Int) < ((([l].map ba).length : Nat) : Int))) = true := rfl
    have g1 : (((([l].map ba).length : Nat) : Int) == 2) = false := rfl
    have g2 : decide (((([l].map ba).length : Nat) : Int) > 2) = false := rfl
    have gd : ([l].map ba).getD (0 : Int).toNat ByteArray.empty = ba l := rfl
    simp only [g0, g1, g2, gd, cond_true, cond_false]
    by_cases h45 : l = [45]
    · subst h45
      simp only [decide_true, cond_true, mvGood_is]
      exact (step_bifs F_spec_mvText [] [45] 1 mvText_is).trans rfl
    · rw [decide_eq_false h45, if_neg h45]
      simp only [cond_false, mvGood_is]
      refine (step_bifs F_spec_mvText l l 1 mvText_is).trans ?_
      rw [one_chk h45]
      cases stOK l <;> rfl
  · have h45 : a ++ 42 :: r ≠ [45] := by
      intro q
      have : (42 : UInt8) ∈ ([45] : List UInt8) := by rw [← q]; simp
      revert this; decide
    rw [decide_eq_false h45]
    rcases spl_cases 42 r with hr | ⟨b, c, rfl, hb⟩
    · rw [spl_cons 42 a r ha, spl_none 42 r hr, mvPl_two ha hr]
      have g0 : (decide (0 ≤ 0) && decide ((0 : Int) < ((([a, r].map ba).length : Nat) : Int))) = true := rfl
      have g1 : (((([a, r].map ba).length : Nat) : Int) == 2) = true := rfl
      have g2 : decide (((([a, r].map ba).length : Nat) : Int) > 2) = false := rfl
      have g3 : (decide (0 ≤ 1) && decide ((1 : Int) < ((([a, r].map ba).length : Nat) : Int))) = true := rfl
      have gd : ([a, r].map ba).getD (0 : Int).toNat ByteArray.empty = ba a := rfl
      have ge : ([a, r].map ba).getD (1 : Int).toNat ByteArray.empty = ba r := rfl
      obtain ⟨n, hn⟩ := read_total (ba r)
      simp only [g0, g1, g2, g3, gd, ge, cond_true, cond_false, hn, mvGood_is]
      refine (step_bifs F_spec_mvText a (a ++ 42 :: r) n mvText_is).trans ?_
      rw [mv_chk]
      by_cases h2 : r = [50]
      · subst h2
        rw [read2] at hn
        obtain rfl := (Option.some.inj hn).symm
        cases stOK a <;> rfl
      · by_cases h3 : r = [51]
        · subst h3
          rw [read3] at hn
          obtain rfl := (Option.some.inj hn).symm
          cases stOK a <;> rfl
        · simp only [decide_eq_false h2, decide_eq_false h3, Bool.and_false, Bool.or_self, cond_false]
          rfl
    · rw [spl_cons 42 a _ ha, spl_cons 42 b c hb, mvPl_more ha hb]
      have hlen := spl_len 42 c
      have g0 : (decide (0 ≤ 0) && decide ((0 : Int) < ((((a :: b :: spl 42 c).map ba).length : Nat) : Int))) = true := by
        rw [List.length_map]; simp; omega
      have g1 : (((((a :: b :: spl 42 c).map ba).length : Nat) : Int) == 2) = false := by
        rw [List.length_map]; simp; omega
      have g2 : decide (((((a :: b :: spl 42 c).map ba).length : Nat) : Int) > 2) = true := by
        rw [List.length_map]; simp; omega
      simp only [g0, g1, g2, cond_true, cond_false]
      rfl
theorem mvP_impl (x : ByteArray) (hx : x.size ≤ 1048576) : F_impl_ParseMove x = some (mvP x) := by
  obtain ⟨l, rfl⟩ : ∃ l, x = ba l := ⟨x.data.toList, eq_ba x⟩
  have hl : l.length ≤ 1048576 := hx
  have hmp : mvP (ba l) = ((ba (mvPl l).1.1, (mvPl l).1.2), (mvPl l).2) := rfl
  rw [hmp]
  have eE : (⟨#[]⟩ : ByteArray) = ba [] := rfl
  rcases spl_cases 42 l with h | ⟨a, r, rfl, ha⟩
  · have hc : F_strings_Cut (ba l, (⟨#[42]⟩ : ByteArray)) = some (ba l, ba [], false) := Cut_none hl h
    rw [mvPl_one h]
    simp only [F_impl_ParseMove, hc, t45, cond_false, eE]
    by_cases h45 : l = [45]
    · subst h45
      simp only [decide_true, cond_true, IsMove_is]
      exact (step_bifs F_impl_Move_text [] [45] 1 Move_text_is).trans rfl
    · rw [decide_eq_false h45, if_neg h45]
      simp only [cond_false, IsMove_is]
      refine (step_bifs F_impl_Move_text l l 1 Move_text_is).trans ?_
      rw [one_chk h45]
      cases stOK l <;> rfl
  · have h45 : a ++ 42 :: r ≠ [45] := by
      intro q
      have : (42 : UInt8) ∈ ([45] : List UInt8) := by rw [← q]; simp
      revert this; decide
    have hc : F_strings_Cut (ba (a ++ 42 :: r), (⟨#[42]⟩ : ByteArray)) = some (ba a, ba r, true) := Cut_at hl ha
    have hd := decimal_total (ba r) (by rw [ba_size]; simp only [List.length_append, List.length_cons] at hl; omega)
    simp only [F_impl_ParseMove, hc, t45, decide_eq_false h45, cond_true, cond_false, hd, IsMove_is]
    refine (step_bifs F_impl_Move_text a (a ++ 42 :: r) (decOf (ba r)).1 Move_text_is).trans ?_
    rw [mv_chk]
    rcases spl_cases 42 r with hr | ⟨b, c, rfl, hb⟩
    · rw [mvPl_two ha hr]
      by_cases h2 : r = [50]
      · subst h2
        rw [dec2]
        cases stOK a <;> rfl
      · by_cases h3 : r = [51]
        · subst h3
          rw [dec3]
          cases stOK a <;> rfl
        · simp only [decide_eq_false h2, decide_eq_false h3, Bool.and_false, Bool.or_self, cond_false]
          rfl
    · rw [mvPl_more ha hb]
      have h2 : b ++ 42 :: c ≠ [50] := fun q => by
        have : (42 : UInt8) ∈ ([50] : List UInt8) := by rw [← q]; simp
        revert this; decide
      have h3 : b ++ 42 :: c ≠ [51] := fun q => by
        have : (42 : UInt8) ∈ ([51] : List UInt8) := by rw [← q]; simp
        revert this; decide
      simp only [decide_eq_false h2, decide_eq_false h3, Bool.and_false, Bool.or_self, cond_false]
      rfl
end Go.Proofs.YtklfnbckoaphpaaGreatDoor
/- Hands are read alike on both sides: plain laws. No conditions beyond the bounds that are named. -/
set_option linter.unusedVariables false
set_option linter.unusedSimpArgs false
namespace Go.Proofs.YtklfnbckoaphpaaGreatDoor
open Go
abbrev Hand := Shape × (Orient × (Place × Move))
def mvZ : Move := (ByteArray.empty, 0)
def hdZ : Hand := (shZ, (0, 0), (0, 0, false), mvZ)
/-- a hand, what is wrong in its text, and where that begins -/
def hdP (x : ByteArray) : Hand × Int × Int := match spl 47 x.data.toList with
  | [a, b, c, d] =>
    bif !(shP (ba a)).2 then (hdZ, 3, 0) else bif !(orP (ba b)).2 then (hdZ, 4, (a.length : Int) + 1)
    else bif !(plP (ba c)).2 then (hdZ, 5, (a.length : Int) + 1 + ((b.length : Int) + 1)) else bif !(mvP (ba d)).2 then (hdZ, 6, (a.length : Int) + 1 + ((b.length : Int) + 1) + ((c.length : Int) + 1))
    else (((shP (ba a)).1, (orP (ba b)).1, (plP (ba c)).1, (mvP (ba d)).1), 0, 0)
  | _ => (hdZ, 2, 0)
theorem four {α : Type} (l : List α) : (∃ a b c d, l = [a, b, c, d]) ∨ l.length ≠ 4 := by
  match l with
  | [] => exact .inr (by simp)
  | [_] => exact .inr (by simp)
  | [_, _] => exact .inr (by simp)
  | [_, _, _] => exact .inr (by simp)
  | [a, b, c, d] => exact .inl ⟨a, b, c, d, rfl⟩
  | _ :: _ :: _ :: _ :: _ :: r => exact .inr (by simp)
theorem hdP_four {l a b c d : List UInt8} (h : spl 47 l = [a, b, c, d]) : hdP (ba l) = bif !(shP (ba a)).2 then (hdZ, 3, 0) else bif !(orP (ba b)).2 then (hdZ, 4, (a.length : Int) + 1)
    else bif !(plP (ba c)).2 then (hdZ, 5, (a.length : Int) + 1 + ((b.length : Int) + 1)) else bif !(mvP (ba d)).2 then (hdZ, 6, (a.length : Int) + 1 + ((b.length : Int) + 1) + ((c.length : Int) + 1))
    else (((shP (ba a)).1, (orP (ba b)).1, (plP (ba c)).1, (mvP (ba d)).1), 0, 0) := by
  unfold hdP
  rw [ba_data, h]
theorem hdP_no {l : List UInt8} (h : (spl 47 l).length ≠ 4) : hdP (ba l) = (hdZ, 2, 0) := by
  unfold hdP
  rw [ba_data]
  split
  · rename_i e; rw [e] at h; exact absurd rfl h
  · rfl
abbrev RhR := Int × Int × Int × Int × Int × Bool × Int × Int × Int × Int × Bool × ByteArray × Int
theorem rh_loop (a b c d : List UInt8) (ha : a.length ≤ 1048576) (hb : b.length ≤ 1048576) (hc : c.length ≤ 1048576) (hd : d.length ≤ 1048576) (s o p k : Bool)
    (r1 r2 r3 r4 r5 : Int) (r6 : Bool) (r7 r8 r9 r10 : Int) (r11 : Bool) (r12 : ByteArray) (r13 : Int) (Z : RhR) :
    runL step_impl_readHand_0 ([ba a, ba b, ba c, ba d], (0, (s, (o, p, k)), (0, r1, (r2, r3, (r4, r5, (r6, r7, (r8, r9, (r10, r11, (r12, r13, Z))))))))) =
    some (bif !s then .inl (3, 0, (0, 0, (0, 0, (0, false, (0, 0, (0, 0, (false, ByteArray.empty, 0)))))))
      else bif !o then .inl (4, (a.length : Int) + 1, (0, 0, (0, 0, (0, false, (0, 0, (0, 0, (false, ByteArray.empty, 0)))))))
      else bif !p then .inl (5, (a.length : Int) + 1 + ((b.length : Int) + 1), (0, 0, (0, 0, (0, false, (0, 0, (0, 0, (false, ByteArray.empty, 0)))))))
      else bif !k then .inl (6, (a.length : Int) + 1 + ((b.length : Int) + 1) + ((c.length : Int) + 1), (0, 0, (0, 0, (0, false, (0, 0, (0, 0, (false, ByteArray.empty, 0)))))))
      else .inr (r1, (r2, r3, (r4, r5, (r6, r7, (r8, r9, (r10, r11, (r12, r13, Z)))))))) := by
  have w1 : IntKind.i64.wrap (((ba a).size : Int) + 1) = (a.length : Int) + 1 := wrap_id (by rw [ba_size]; omega) (by rw [ba_size]; omega)
  have w2 : IntKind.i64.wrap (0 + ((a.length : Int) + 1)) = (a.length : Int) + 1 := by rw [Int.zero_add]; exact wrap_id (by omega) (by omega)
  have w3 : IntKind.i64.wrap (((ba b).size : Int) + 1) = (b.length : Int) + 1 := wrap_id (by rw [ba_size]; omega) (by rw [ba_size]; omega)
  have w4 : IntKind.i64.wrap ((a.length : Int) + 1 + ((b.length : Int) + 1)) = (a.length : Int) + 1 + ((b.length : Int) + 1) := wrap_id (by omega) (by omega)
  have w5 : IntKind.i64.wrap (((ba c).size : Int) + 1) = (c.length : Int) + 1 := wrap_id (by rw [ba_size]; omega) (by rw [ba_size]; omega)
  have w6 : IntKind.i64.wrap ((a.length : Int) + 1 + ((b.length : Int) + 1) + ((c.length : Int) + 1)) = (a.length : Int) + 1 + ((b.length : Int) + 1) + ((c.length : Int) + 1) := wrap_id (by omega) (by omega)
  have w7 : IntKind.i64.wrap (((ba d).size : Int) + 1) = (d.length : Int) + 1 := wrap_id (by rw [ba_size]; omega) (by rw [ba_size]; omega)
  generalize hR : (r1, (r2, r3, (r4, r5, (r6, r7, (r8, r9, (r10, r11, (r12, r13, Z))))))) = R
  clear hR
  have e0 : step_impl_readHand_0 ([ba a, ba b, ba c, ba d], (0, (s, (o, p, k)), (0, R))) = bif !s then some (.inr (.inl (3, 0, (0, 0, (0, 0, (0, false, (0, 0, (0, 0, (false, ByteArray.empty, 0))))))))) else some (.inl ([ba a, ba b, ba c, ba d], (IntKind.i64.wrap (0 + IntKind.i64.wrap (((ba a).size : Int) + 1)), (s, (o, p, k)), (1, R)))) := rfl
  have e1 : ∀ at_ : Int, step_impl_readHand_0 ([ba a, ba b, ba c, ba d], (at_, (s, (o, p, k)), (1, R))) = bif !o then some (.inr (.inl (4, at_, (0, 0, (0, 0, (0, false, (0, 0, (0, 0, (false, ByteArray.empty, 0))))))))) else some (.inl ([ba a, ba b, ba c, ba d], (IntKind.i64.wrap (at_ + IntKind.i64.wrap (((ba b).size : Int) + 1)), (s, (o, p, k)), (2, R)))) := fun _ => rfl
  have e2 : ∀ at_ : Int, step_impl_readHand_0 ([ba a, ba b, ba c, ba d], (at_, (s, (o, p, k)), (2, R))) = bif !p then some (.inr (.inl (5, at_, (0, 0, (0, 0, (0, false, (0, 0, (0, 0, (false, ByteArray.empty, 0))))))))) else some (.inl ([ba a, ba b, ba c, ba d], (IntKind.i64.wrap (at_ + IntKind.i64.wrap (((ba c).size : Int) + 1)), (s, (o, p, k)), (3, R)))) := fun _ => rfl
  have e3 : ∀ at_ : Int, step_impl_readHand_0 ([ba a, ba b, ba c, ba d], (at_, (s, (o, p, k)), (3, R))) = bif !k then some (.inr (.inl (6, at_, (0, 0, (0, 0, (0, false, (0, 0, (0, 0, (false, ByteArray.empty, 0))))))))) else some (.inl ([ba a, ba b, ba c, ba d], (IntKind.i64.wrap (at_ + IntKind.i64.wrap (((ba d).size : Int) + 1)), (s, (o, p, k)), (4, R)))) := fun _ => rfl
  have e4 : ∀ at_ : Int, step_impl_readHand_0 ([ba a, ba b, ba c, ba d], (at_, (s, (o, p, k)), (4, R))) = some (.inr (.inr R)) := fun _ => rfl
  rw [w1, w2] at e0
  rw [runL_eq, e0]
  cases s with
  | false => rfl
  | true =>
    have f1 := e1 ((a.length : Int) + 1)
    rw [w3, w4] at f1
    show runL _ _ = _
    rw [runL_eq, f1]
    cases o with
    | false => rfl
    | true =>
      have f2 := e2 ((a.length : Int) + 1 + ((b.length : Int) + 1))
      rw [w5, w6] at f2
      show runL _ _ = _
      rw [runL_eq, f2]
      cases p with
      | false => rfl
      | true =>
        have f3 := e3 ((a.length : Int) + 1 + ((b.length : Int) + 1) + ((c.length : Int) + 1))
        show runL _ _ = _
        rw [runL_eq, f3]
        cases k with
        | false => rfl
        | true =>
          show runL _ _ = _
          rw [runL_eq, e4]
          rfl
theorem hdP_impl (x : ByteArray) (hx : x.size ≤ 1048576) : F_impl_readHand x = some (hdP x) := by
  obtain ⟨l, rfl⟩ : ∃ l, x = ba l := ⟨x.data.toList, eq_ba x⟩
  have hl : l.length ≤ 1048576 := hx
  have hsp : F_strings_Split (ba l, (⟨#[47]⟩ : ByteArray)) = some ((spl 47 l).map ba) := Split_is l 47 hl
  simp only [F_impl_readHand, hsp]
  rcases four (spl 47 l) with ⟨a, b, c, d, e⟩ | hn
  · rw [hdP_four e, e]
    have hsz := spl_sizes 47 l.length l (Nat.le_refl _)
    rw [e] at hsz
    have za := (hsz a (by simp)).1
    have zb := (hsz b (by simp)).1
    have zc := (hsz c (by simp)).1
    have zd := (hsz d (by simp)).1
    have g : (((([a, b, c, d].map ba).length : Nat) : Int) != 4) = false := rfl
    have g0 : (decide (0 ≤ 0) && decide ((0 : Int) < ((([a, b, c, d].map ba).length : Nat) : Int))) = true := rfl
    have g1 : (decide (0 ≤ 1) && decide ((1 : Int) < ((([a, b, c, d].map ba).length : Nat) : Int))) = true := rfl
    have g2 : (decide (0 ≤ 2) && decide ((2 : Int) < ((([a, b, c, d].map ba).length : Nat) : Int))) = true := rfl
    have g3 : (decide (0 ≤ 3) && decide ((3 : Int) < ((([a, b, c, d].map ba).length : Nat) : Int))) = true := rfl
    have d0 : ([a, b, c, d].map ba).getD (0 : Int).toNat ByteArray.empty = ba a := rfl
    have d1 : ([a, b, c, d].map ba).getD (1 : Int).toNat ByteArray.empty = ba b := rfl
    have d2 : ([a, b, c, d].map ba).getD (2 : Int).toNat ByteArray.empty = ba c := rfl
    have d3 : ([a, b, c, d].map ba).getD (3 : Int).toNat ByteArray.empty = ba d := rfl
    have m := mvP_impl (ba d) (by rw [ba_size]; omega)
    simp only [g, g0, g1, g2, g3, d0, d1, d2, d3, cond_true, cond_false, shP_impl, orP_impl, plP_impl, m]
    generalize shP (ba a) = S
    generalize orP (ba b) = O
    generalize plP (ba c) = P
    generalize mvP (ba d) = M
    obtain ⟨⟨t, f1, f2, f3, f4, sp⟩, s⟩ := S
    obtain ⟨⟨o1, o2⟩, o⟩ := O
    obtain ⟨⟨p1, p2, p3⟩, p⟩ := P
    obtain ⟨⟨m1, m2⟩, k⟩ := M
    simp only
    simp only [List.map_cons, List.map_nil]
    rw [rh_loop a b c d (by omega) (by omega) (by omega) (by omega)]
    cases s <;> cases o <;> cases p <;> cases k <;> rfl
  · rw [hdP_no hn]
    have g : (((((spl 47 l).map ba).length : Nat) : Int) != 4) = true := by rw [List.length_map, bne_iff_ne]; omega
    simp only [g, cond_true]
    rfl
end Go.Proofs.YtklfnbckoaphpaaGreatDoor
/- The rules for two hands, on both sides: plain laws. No conditions beyond the bounds that are named. -/
set_option linter.unusedVariables false
set_option linter.unusedSimpArgs false
namespace Go.Proofs.YtklfnbckoaphpaaGreatDoor
open Go
def shEqB (s t : Shape) : Bool := (s.1 == t.1) && ((s.2.1 == t.2.1) && ((s.2.2.1 == t.2.2.1) && ((s.2.2.2.1 == t.2.2.2.1) && ((s.2.2.2.2.1 == t.2.2.2.2.1) && ((s.2.2.2.2.2 == t.2.2.2.2.2) && true)))))
theorem shEqB_is (s t : Shape) : shEqB s t = decide (s = t) := by
  obtain ⟨a, b, c, d, e, f⟩ := s
  obtain ⟨a', b', c', d', e', f'⟩ := t
  rw [Bool.eq_iff_iff]
  simp only [shEqB, Bool.and_true, Bool.and_eq_true, beq_iff_eq, decide_eq_true_eq, Prod.mk.injEq]
def orEqB (s t : Orient) : Bool := (s.1 == t.1) && ((s.2 == t.2) && true)
theorem orEqB_is (s t : Orient) : orEqB s t = decide (s = t) := by
  obtain ⟨a, b⟩ := s
  obtain ⟨a', b'⟩ := t
  rw [Bool.eq_iff_iff]
  simp only [orEqB, Bool.and_true, Bool.and_eq_true, beq_iff_eq, decide_eq_true_eq, Prod.mk.injEq]

/-! ### Plain shapes -/
def plainT : List ByteArray := [(⟨#[48, 48, 48, 48, 48]⟩ : ByteArray), (⟨#[48, 48, 48, 48, 48, 115]⟩ : ByteArray), (⟨#[50, 50, 50, 50, 50]⟩ : ByteArray), (⟨#[49, 48, 48, 48, 48]⟩ : ByteArray), (⟨#[49, 48, 50, 50, 50]⟩ : ByteArray), (⟨#[48, 48, 50, 50, 50]⟩ : ByteArray)]
def plainL : List Shape := plainT.map fun t => (shP t).1
theorem siPlain_is : F_spec_siPlain () = some plainL := by
  have t := runL_traj (f := step_spec_siPlain_0) (fun i => ((plainT.length : Int), ((i : Int), plainT, (plainT.take i).map fun t => (shP t).1))) plainL plainT.length (fun i hi => by
    have hw := wrap_succ (i := i) (by have : plainT.length = 6 := rfl; omega)
    have g : decide ((((plainT.take i).map fun t => (shP t).1).length + [(shP (plainT.getD i ByteArray.empty)).1].length) * 48 ≤ 140737488355328) = true := decide_eq_true (by have : plainT.length = 6 := rfl; simp; omega)
    simp only [step_spec_siPlain_0, lt_len hi, nonneg, Bool.and_self, cond_true, Int.toNat_natCast, shP_spec, g, hw, take_succ_getD hi ByteArray.empty, List.map_append, List.map_cons, List.map_nil]) (by simp only [step_spec_siPlain_0, not_lt_len, cond_false, List.take_length]; rfl)
  have t' : runL step_spec_siPlain_0 ((plainT.length : Int), (0, plainT, [])) = some plainL := t
  exact congrArg (fun z => match z with | none => none | some o9 => some o9) t'
theorem PlainShapes_is : F_impl_PlainShapes () = some plainL := by
  have t := runL_traj (f := step_impl_PlainShapes_0) (fun i => ((plainT.length : Int), ((i : Int), plainT, (plainT.take i).map fun t => (shP t).1))) plainL plainT.length (fun i hi => by
    have hw := wrap_succ (i := i) (by have : plainT.length = 6 := rfl; omega)
    have g : decide ((((plainT.take i).map fun t => (shP t).1).length + [(shP (plainT.getD i ByteArray.empty)).1].length) * 48 ≤ 140737488355328) = true := decide_eq_true (by have : plainT.length = 6 := rfl; simp; omega)
    simp only [step_impl_PlainShapes_0, lt_len hi, nonneg, Bool.and_self, cond_true, Int.toNat_natCast, shP_impl, g, hw, take_succ_getD hi ByteArray.empty, List.map_append, List.map_cons, List.map_nil]) (by simp only [step_impl_PlainShapes_0, not_lt_len, cond_false, List.take_length]; rfl)
  have t' : runL step_impl_PlainShapes_0 ((plainT.length : Int), (0, plainT, [])) = some plainL := t
  exact congrArg (fun z => match z with | none => none | some o9 => some o9) t'
def plainHas (o : Shape) : Bool := plainL.any fun s => decide (s = o)
theorem broken_loop (l : List Shape) (hl : l.length ≤ 1000) (o : Shape) (r1 r2 r3 r4 : Int) (r5 : Bool) (r6 : ByteArray) (r7 : Int) :
    runL step_spec_siBroken_0 ((l.length : Int), 0, (l, o.1, (o.2.1, o.2.2.1, (o.2.2.2.1, o.2.2.2.2.1, (o.2.2.2.2.2, r1, (r2, r3, (r4, r5, (r6, r7)))))))) = some (bif l.any (fun s => decide (s = o)) then .inl 0 else .inr ()) := by
  have t := runL_all (f := step_spec_siBroken_0) (fun i => !decide (l.getD i shZ = o)) (fun i => ((l.length : Int), (i : Int), (l, o.1, (o.2.1, o.2.2.1, (o.2.2.2.1, o.2.2.2.2.1, (o.2.2.2.2.2, r1, (r2, r3, (r4, r5, (r6, r7))))))))) (.inl 0) (.inr ()) l.length (fun i hi => by
    have hw := wrap_succ (i := i) (by omega)
    have he := shEqB_is (l.getD i (0, (0, 0, (0, 0, false)))) o
    unfold shEqB at he
    simp only [step_spec_siBroken_0, lt_len hi, nonneg, Bool.and_self, cond_true, Int.toNat_natCast, hw, he]
    show (bif decide (l.getD i shZ = o) then _ else _) = _
    cases decide (l.getD i shZ = o) <;> rfl) (by simp only [step_spec_siBroken_0, not_lt_len, cond_false])
  have t' : runL step_spec_siBroken_0 ((l.length : Int), 0, (l, o.1, (o.2.1, o.2.2.1, (o.2.2.2.1, o.2.2.2.2.1, (o.2.2.2.2.2, r1, (r2, r3, (r4, r5, (r6, r7)))))))) = _ := t
  rw [t', allN_all (fun s : Shape => !decide (s = o)) shZ l, List.any_eq_not_all_not]
  cases l.all _ <;> rfl
theorem Contains_is (l : List Shape) (hl : l.length ≤ 1000) (o : Shape) : F_slices_Contains_impl_Shape_impl_Shape (l, o) = some (l.any fun s => decide (s = o)) := by
  rcases runL_first (f := step_slices_Index_impl_Shape_impl_Shape_0) (fun i => !decide (l.getD i shZ = o)) (fun i => (l, ((l.length : Int), (i : Int), o))) (fun i => .inl (i : Int)) (.inr ()) l.length (fun i hi => by
    have hw := wrap_succ (i := i) (by omega)
    have he := shEqB_is o (l.getD i (0, (0, 0, (0, 0, false))))
    unfold shEqB at he
    have hs : decide (o = l.getD i (0, (0, 0, (0, 0, false)))) = decide (l.getD i shZ = o) := by
      show decide (o = l.getD i shZ) = _
      by_cases q : l.getD i shZ = o
      · rw [decide_eq_true q, decide_eq_true q.symm]
      · rw [decide_eq_false q, decide_eq_false (fun z => q z.symm)]
    simp only [step_slices_Index_impl_Shape_impl_Shape_0, lt_len hi, nonneg, Bool.and_self, cond_true, Int.toNat_natCast, hw, he, hs]
    cases decide (l.getD i shZ = o) <;> rfl) (by simp only [step_slices_Index_impl_Shape_impl_Shape_0, not_lt_len, cond_false]) with ⟨t, hp⟩ | ⟨i, hi, hp, hj, t⟩
  · have t' : runL step_slices_Index_impl_Shape_impl_Shape_0 (l, ((l.length : Int), 0, o)) = _ := t
    simp only [F_slices_Contains_impl_Shape_impl_Shape, F_slices_Index_impl_Shape_impl_Shape, t']
    have : (l.any fun s => decide (s = o)) = false := by
      rw [List.any_eq_false]
      intro x hx
      obtain ⟨i, hi, rfl⟩ := List.mem_iff_getElem.1 hx
      have := hp i hi
      rw [List.getD, List.getElem?_eq_getElem hi] at this
      simpa using this
    rw [this]; rfl
  · have t' : runL step_slices_Index_impl_Shape_impl_Shape_0 (l, ((l.length : Int), 0, o)) = _ := t
    simp only [F_slices_Contains_impl_Shape_impl_Shape, F_slices_Index_impl_Shape_impl_Shape, t']
    have : (l.any fun s => decide (s = o)) = true := List.any_eq_true.2 ⟨_, getD_mem hi shZ, by simpa using hp⟩
    rw [this, decide_eq_true (show (i : Int) ≥ 0 by omega)]

/-! ### All steps -/
theorem mvAll_is (l : List UInt8) (r : Int) (hl : l.length ≤ 6) (h1 : 1 ≤ r) (h3 : r ≤ 3) : F_spec_mvAll (ba l, r) = some (ba (Lib.repeatL l r.toNat)) := by
  obtain ⟨n, rfl⟩ : ∃ n : Nat, r = (n : Int) := ⟨r.toNat, by omega⟩
  have t := runL_traj (f := step_spec_mvTimes_0) (fun i => (ba l, ((n : Int) - (i : Int)), ba (Lib.repeatL l i))) (ba (Lib.repeatL l n)) n (fun i hi => by
    have g : decide ((n : Int) - (i : Int) > 0) = true := decide_eq_true (by omega)
    have hw : IntKind.i64.wrap ((n : Int) - (i : Int) - 1) = (n : Int) - ((i + 1 : Nat) : Int) := by rw [wrap_id (by omega) (by omega)]; omega
    have hz := Lib.repeatL_length l i
    have hm : i * l.length ≤ 3 * 6 := Nat.mul_le_mul (by omega) hl
    have g2 : decide ((ba (Lib.repeatL l i)).size + (ba l).size ≤ 9223372036854775807) = true := decide_eq_true (by rw [ba_size, ba_size]; omega)
    have hr : Lib.repeatL l (i + 1) = Lib.repeatL l i ++ l := by rw [Lib.repeatL_add, Lib.repeatL_one]
    simp only [step_spec_mvTimes_0, g, cond_true, g2, hw, ba_app, hr]) (by
      have g : decide ((n : Int) - (n : Int) > 0) = false := decide_eq_false (by omega)
      simp only [step_spec_mvTimes_0, g, cond_false])
  have t' : runL step_spec_mvTimes_0 (ba l, (n : Int), (⟨#[]⟩ : ByteArray)) = some (ba (Lib.repeatL l n)) := by
    have e : ((n : Int) - ((0 : Nat) : Int)) = (n : Int) := by omega
    rw [e] at t; exact t
  simp only [F_spec_mvAll, F_spec_mvTimes, t', Int.toNat_natCast]
theorem Move_all_is (l : List UInt8) (r : Int) (hl : l.length ≤ 6) (h1 : 1 ≤ r) (h3 : r ≤ 3) : F_impl_Move_all (ba l, r) = some (ba (Lib.repeatL l r.toNat)) := by
  have g : (decide (0 ≤ r) && decide (r ≤ 1024) && decide ((ba l).size ≤ 1048576)) = true := by
    rw [decide_eq_true (by omega), decide_eq_true (by omega), decide_eq_true (by rw [ba_size]; omega)]; rfl
  simp only [F_impl_Move_all, F_strings_Repeat_is, g, cond_true]
  rfl
theorem mvMirror_is (l : List UInt8) (r : Int) (hl : l.length ≤ 1048576) : F_spec_mvMirror (ba l, r) = some (ba (l.map rpByte), r) := by
  have t := runL_traj (f := step_spec_mvMirror_0) (fun i => (ba ((l.take i).map rpByte), ((i : Int), (ByteArray.empty, (0 : Int), (ba l, r))))) (ba (l.map rpByte), (ByteArray.empty, (0 : Int), (ba l, r))) l.length (fun i hi => by
    have hw := wrap_succ (i := i) (by omega)
    have g : decide ((i : Int) < ((ba l).size : Int)) = true := lt_len (by rw [ba_size]; exact hi)
    have hz : ((l.take i).map rpByte).length = i := by simp; omega
    have gs : ∀ b : UInt8, decide ((ba ((l.take i).map rpByte)).size + (ba [b]).size ≤ 9223372036854775807) = true := fun b => decide_eq_true (by rw [ba_size, ba_size, hz]; simp; omega)
    have hs : (l.take (i + 1)).map rpByte = (l.take i).map rpByte ++ [rpByte (l.getD i 0)] := by rw [take_succ_getD hi 0, List.map_append]; rfl
    have hb : byteAt (ba l) i = ((l.getD i 0).toNat : Int) := ba_byteAt l i
    simp only [step_spec_mvMirror_0, g, nonneg, Bool.and_self, cond_true, Int.toNat_natCast, hw, hb, hs]
    have e8 : ((((l.getD i 0).toNat : Nat) : Int) == 108) = decide (l.getD i 0 = 108) := byte_beq _ 108
    have e4 : ((((l.getD i 0).toNat : Nat) : Int) == 114) = decide (l.getD i 0 = 114) := byte_beq _ 114
    rw [e8, e4]
    by_cases h8 : l.getD i 0 = 108
    · have g1 := gs 114
      have g1' : decide ((ba ((l.take i).map rpByte)).size + (⟨#[114]⟩ : ByteArray).size ≤ 9223372036854775807) = true := g1
      rw [decide_eq_true h8, g1', h8]
      show some (Sum.inl (ba ((l.take i).map rpByte) ++ ba [114], _)) = _
      rw [ba_app]; rfl
    · rw [decide_eq_false h8]
      by_cases h4 : l.getD i 0 = 114
      · have g1 := gs 108
        have g1' : decide ((ba ((l.take i).map rpByte)).size + (⟨#[108]⟩ : ByteArray).size ≤ 9223372036854775807) = true := g1
        rw [decide_eq_true h4, g1', h4]
        show some (Sum.inl (ba ((l.take i).map rpByte) ++ ba [108], _)) = _
        rw [ba_app]; rfl
      · have hx : (ba l).extract i (i + 1) = ba [l.getD i 0] := by
          rw [ba_extract, show i + 1 - i = 1 by omega, List.drop_eq_getElem_cons hi]
          rw [List.getD, List.getElem?_eq_getElem hi]; rfl
        have hr : rpByte (l.getD i 0) = l.getD i 0 := by unfold rpByte; rw [if_neg h8, if_neg h4]
        have g3 : (decide ((i : Int) ≤ ((i + 1 : Nat) : Int)) && decide (((i + 1 : Nat) : Int) ≤ ((ba l).size : Int))) = true := by
          rw [decide_eq_true (by omega), decide_eq_true (by rw [ba_size]; omega)]; rfl
        rw [decide_eq_false h4, hr]
        simp only [cond_false, Bool.true_and, g3, cond_true, Int.toNat_natCast, hx, gs, ba_app]) (by
      have g : decide (((l.length : Nat) : Int) < ((ba l).size : Int)) = false := by rw [ba_size]; exact not_lt_len _
      simp only [step_spec_mvMirror_0, g, cond_false, List.take_length])
  have t' : runL step_spec_mvMirror_0 ((⟨#[]⟩ : ByteArray), (0, (ByteArray.empty, (0 : Int), (ba l, r)))) = _ := t
  simp only [F_spec_mvMirror, t']
theorem mirrored_is (l : List UInt8) (r : Int) (hl : l.length ≤ 1048576) : F_impl_Move_mirrored (ba l, r) = some (ba (l.map rpByte), r) := by
  rw [F_impl_Move_mirrored_is, show (ba l, r).1 = ba l from rfl, decide_eq_true (show (ba l).size ≤ 9223372036854775806 by rw [ba_size]; omega)]
  rfl

/-! ### The rules -/
def keepL (ms os : Shape) (mo oo : Orient) (a b : List UInt8) (mr orr : Int) : Bool :=
  bif decide (b = []) then decide (ms = os) || plainHas os
  else !decide (a = []) && (decide (ms = os) && ((decide (mo = oo) || decide (mo = orMir oo)) &&
    (decide (Lib.repeatL a mr.toNat = Lib.repeatL b orr.toNat) || decide (Lib.repeatL (a.map rpByte) mr.toNat = Lib.repeatL b orr.toNat))))
def keep (m o : Hand) : Bool := keepL m.1 o.1 m.2.1 o.2.1 m.2.2.2.1.data.toList o.2.2.2.1.data.toList m.2.2.2.2 o.2.2.2.2
def mvW (m : Move) : Prop := m.1.data.toList.length ≤ 6 ∧ 1 ≤ m.2 ∧ m.2 ≤ 3
theorem decide_comm' {α : Type} [DecidableEq α] (a b : α) : decide (a = b) = decide (b = a) := by
  by_cases h : a = b
  · rw [decide_eq_true h, decide_eq_true h.symm]
  · rw [decide_eq_false h, decide_eq_false (fun q => h q.symm)]
theorem orMir_flip (a b : Orient) : decide (a = orMir b) = decide (b = orMir a) := by
  by_cases h : a = orMir b
  · rw [decide_eq_true h, decide_eq_true (by rw [h, orMir_mir])]
  · rw [decide_eq_false h, decide_eq_false (fun q => h (by rw [q, orMir_mir]))]
theorem keep_spec (m o : Hand) (hm : mvW m.2.2.2) (ho : mvW o.2.2.2) : ∃ n, F_spec_siBroken (m, o) = some n ∧ (n != 0) = !keep m o := by
  obtain ⟨ms, mo, mp, mb, mr⟩ := m
  obtain ⟨os, oo, op, ob, orr⟩ := o
  obtain ⟨a, rfl⟩ : ∃ a, mb = ba a := ⟨mb.data.toList, eq_ba mb⟩
  obtain ⟨b, rfl⟩ : ∃ b, ob = ba b := ⟨ob.data.toList, eq_ba ob⟩
  obtain ⟨ha, h1, h3⟩ := hm
  obtain ⟨hb, k1, k3⟩ := ho
  simp only [ba_data] at ha hb h1 h3 k1 k3
  have es := shEqB_is ms os
  have eo := orEqB_is mo oo
  have eo2 := orEqB_is mo (orMir oo)
  unfold shEqB at es
  unfold orEqB at eo eo2
  have lp := broken_loop plainL (by show plainL.length ≤ 1000; decide) os oo.1 oo.2 op.1 op.2.1 op.2.2 (ba b) orr
  have A1 := mvAll_is a mr ha h1 h3
  have A2 := mvAll_is b orr hb k1 k3
  have A3 := mvMirror_is a mr (by omega)
  have A4 := mvAll_is (a.map rpByte) mr (by simpa using ha) h1 h3
  have ek : keep (ms, mo, mp, ba a, mr) (os, oo, op, ba b, orr) = keepL ms os mo oo a b mr orr := rfl
  rw [ek]
  simp only [F_spec_siBroken, mt_nil, es, keepL]
  cases hbn : decide (b = []) with
  | true =>
    simp only [cond_true]
    cases decide (ms = os) with
    | true => exact ⟨0, rfl, rfl⟩
    | false =>
      simp only [cond_false, siPlain_is, lp, Bool.false_or, plainHas]
      cases plainL.any _ with
      | true => exact ⟨0, rfl, rfl⟩
      | false => exact ⟨4, rfl, rfl⟩
  | false =>
    simp only [cond_false]
    cases han : decide (a = []) with
    | true => exact ⟨3, rfl, rfl⟩
    | false =>
      simp only [cond_false, Bool.not_false, Bool.true_and]
      cases decide (ms = os) with
      | false => exact ⟨1, rfl, rfl⟩
      | true =>
        simp only [Bool.not_true, cond_false, Bool.true_and, eo, orMirror_is, eo2, A1, A2, A3, A4, tt]
        cases decide (mo = oo) <;> cases decide (mo = orMir oo) <;> cases decide (Lib.repeatL a mr.toNat = Lib.repeatL b orr.toNat) <;> cases decide (Lib.repeatL (a.map rpByte) mr.toNat = Lib.repeatL b orr.toNat) <;>
          first | exact ⟨0, rfl, rfl⟩ | exact ⟨2, rfl, rfl⟩ | exact ⟨3, rfl, rfl⟩
theorem keep_impl (m o : Hand) (hm : mvW m.2.2.2) (ho : mvW o.2.2.2) : F_impl_keepRules (m, o) = some (keep m o) := by
  obtain ⟨ms, mo, mp, mb, mr⟩ := m
  obtain ⟨os, oo, op, ob, orr⟩ := o
  obtain ⟨a, rfl⟩ : ∃ a, mb = ba a := ⟨mb.data.toList, eq_ba mb⟩
  obtain ⟨b, rfl⟩ : ∃ b, ob = ba b := ⟨ob.data.toList, eq_ba ob⟩
  obtain ⟨ha, h1, h3⟩ := hm
  obtain ⟨hb, k1, k3⟩ := ho
  simp only [ba_data] at ha hb h1 h3 k1 k3
  have es := shEqB_is os ms
  have es2 := shEqB_is ms os
  have eo := orEqB_is oo mo
  have eo2 := orEqB_is oo (orMir mo)
  unfold shEqB at es es2
  unfold orEqB at eo eo2
  rw [decide_comm' os ms] at es
  rw [decide_comm' oo mo] at eo
  rw [← orMir_flip mo oo] at eo2
  have lp := Contains_is plainL (by show plainL.length ≤ 1000; decide) os
  have A1 := Move_all_is a mr ha h1 h3
  have A2 := Move_all_is b orr hb k1 k3
  have A3 := mirrored_is a mr (by omega)
  have A4 := Move_all_is (a.map rpByte) mr (by simpa using ha) h1 h3
  have c1 := decide_comm' (Lib.repeatL b orr.toNat) (Lib.repeatL a mr.toNat)
  have c2 := decide_comm' (Lib.repeatL b orr.toNat) (Lib.repeatL (a.map rpByte) mr.toNat)
  have ek : keep (ms, mo, mp, ba a, mr) (os, oo, op, ba b, orr) = keepL ms os mo oo a b mr orr := rfl
  rw [ek]
  simp only [F_impl_keepRules, F_impl_Hand_moves, mt_nil, es, es2, keepL]
  cases hbn : decide (b = []) with
  | true =>
    simp only [cond_true, Bool.not_true, Bool.not_false]
    cases decide (ms = os) with
    | true => rfl
    | false => simp only [cond_false, PlainShapes_is, lp, Bool.false_or, plainHas]
  | false =>
    simp only [cond_false, Bool.not_false, Bool.not_true, eo, Orient_mirrored_is, eo2, A1, A2, A3, A4, tt, c1, c2]
    cases decide (a = []) <;> cases decide (ms = os) <;> cases decide (mo = oo) <;> cases decide (mo = orMir oo) <;> cases decide (Lib.repeatL a mr.toNat = Lib.repeatL b orr.toNat) <;> cases decide (Lib.repeatL (a.map rpByte) mr.toNat = Lib.repeatL b orr.toNat) <;> rfl
end Go.Proofs.YtklfnbckoaphpaaGreatDoor
/- Signs are read alike on both sides: plain laws. No conditions beyond the bounds that are named. -/
set_option linter.unusedVariables false
set_option linter.unusedSimpArgs false
namespace Go.Proofs.YtklfnbckoaphpaaGreatDoor
open Go
abbrev Sign := Hand × (Bool × Hand)
/-! ### Equal signs -/
theorem eqShape_refl (s : Shape) : F_laws_eqShape (s, s) = some true := by simp only [F_laws_eqShape, bne_self_eq_false, cond_false, BEq.rfl, Bool.not_true]
theorem eqOrient_refl (s : Orient) : F_laws_eqOrient (s, s) = some true := by simp only [F_laws_eqOrient, bne_self_eq_false, cond_false]
theorem eqPlace_refl (s : Place) : F_laws_eqPlace (s, s) = some true := by simp only [F_laws_eqPlace, bne_self_eq_false, cond_false, BEq.rfl, Bool.not_true]
theorem eqMove_refl (s : Move) : F_laws_eqMove (s, s) = some true := by simp only [F_laws_eqMove, bne_self_eq_false, cond_false, BEq.rfl, Bool.not_true]
theorem eqHand_refl (s : Hand) : F_laws_eqHand (s, s) = some true := by
  simp only [F_laws_eqHand, eqShape_refl, eqOrient_refl, eqPlace_refl, eqMove_refl, Bool.not_true, cond_false]
theorem eqSign_refl (s : Sign) : F_laws_eqSign (s, s) = some true := by
  simp only [F_laws_eqSign, eqHand_refl, BEq.rfl, Bool.not_true, cond_false]
end Go.Proofs.YtklfnbckoaphpaaGreatDoor
/- Texts of parts, hands and signs are read back, and what is read has this text: plain laws. No conditions beyond those that are named. -/
set_option linter.unusedVariables false
set_option linter.unusedSimpArgs false
namespace Go.Proofs.YtklfnbckoaphpaaGreatDoor
open Go

/-! ### Shapes -/
/-! ### Orientations -/
/-! ### Places -/
/-! ### Movements -/
end Go.Proofs.YtklfnbckoaphpaaGreatDoor
/- Texts of hands and signs are read back, and what is read has this text: plain laws. No conditions beyond those that are named. -/
set_option linter.unusedVariables false
set_option linter.unusedSimpArgs false
namespace Go.Proofs.YtklfnbckoaphpaaGreatDoor
open Go

/-! ### What separates is in no part -/
/-! ### Hands -/
def hdOK (h : Hand) : Bool := shOK h.1 && (orOK h.2.1 && (plOK h.2.2.1 && mvOK h.2.2.2.1.data.toList h.2.2.2.2))
theorem hdOK_parts {h : Hand} (k : hdOK h = true) : shOK h.1 = true ∧ orOK h.2.1 = true ∧ plOK h.2.2.1 = true ∧ mvOK h.2.2.2.1.data.toList h.2.2.2.2 = true := by
  simp only [hdOK, Bool.and_eq_true] at k
  exact k
/-! ### Signs -/
instance decOPM : DecidableEq (Orient × (Place × Move)) := instDecidableEqProd
instance decHand : DecidableEq Hand := instDecidableEqProd (α := Shape) (β := Orient × (Place × Move))
instance decSign : DecidableEq Sign := instDecidableEqProd (α := Hand) (β := Bool × Hand)
def sgOK (s : Sign) : Bool := hdOK s.1 && bif s.2.1 then hdOK s.2.2 && keep s.1 s.2.2 else decide (s.2.2 = hdZ)
end Go.Proofs.YtklfnbckoaphpaaGreatDoor
/- What good hands and signs are, on both sides. No conditions. -/
set_option linter.unusedVariables false
set_option linter.unusedSimpArgs false
namespace Go.Proofs.YtklfnbckoaphpaaGreatDoor
open Go
theorem mvGood' (m : Move) : F_spec_mvGood m = some (mvOK m.1.data.toList m.2) := mvGood_is m.1.data.toList m.2
theorem IsMove' (m : Move) : F_impl_IsMove m = some (mvOK m.1.data.toList m.2) := IsMove_is m.1.data.toList m.2
theorem siHand_is (h : Hand) : F_spec_siHand h = some (hdOK h) := by
  simp only [F_spec_siHand, shGood_is, orGood_is, plGood_is, mvGood', hdOK]
  cases shOK h.1 <;> cases orOK h.2.1 <;> cases plOK h.2.2.1 <;> rfl
theorem IsHand_is (h : Hand) : F_impl_IsHand h = some (hdOK h) := by
  simp only [F_impl_IsHand, IsShape_is, IsOrient_is, IsPlace_is, IsMove', hdOK]
  cases shOK h.1 <;> cases orOK h.2.1 <;> cases plOK h.2.2.1 <;> rfl
theorem mvOK_w {l : List UInt8} {r : Int} (h : mvOK l r = true) : l.length ≤ 6 ∧ 1 ≤ r ∧ r ≤ 3 := by
  simp only [mvOK, Bool.and_eq_true, decide_eq_true_eq] at h
  exact ⟨h.1.1.1, h.1.2⟩
theorem hdOK_w {h : Hand} (k : hdOK h = true) : mvW h.2.2.2 := mvOK_w (hdOK_parts k).2.2.2
theorem hz_is (h : Hand) : ((((h.1.1 == 0) && ((h.1.2.1 == 0) && ((h.1.2.2.1 == 0) && ((h.1.2.2.2.1 == 0) && ((h.1.2.2.2.2.1 == 0) && ((h.1.2.2.2.2.2 == false) && true)))))) && (((h.2.1.1 == 0) && ((h.2.1.2 == 0) && true)) && (((h.2.2.1.1 == 0) && ((h.2.2.1.2.1 == 0) && ((h.2.2.1.2.2 == false) && true))) && (((h.2.2.2.1.toList == ByteArray.empty.toList) && ((h.2.2.2.2 == 0) && true)) && true))))) = decide (h = hdZ) := by
  obtain ⟨⟨a, b, c, d, e, f⟩, ⟨g, i⟩, ⟨j, k, l⟩, ⟨m, n⟩⟩ := h
  have ht : (m.toList == ByteArray.empty.toList) = decide (m = ByteArray.empty) := by
    rw [eq_ba m, ba_toList, show ByteArray.empty.toList = [] from ba_toList []]
    have e0 : ByteArray.empty = ba [] := rfl
    rw [e0]
    by_cases h : m.data.toList = []
    · rw [h]; simp
    · rw [decide_eq_false (fun q => h (ba_inj.1 q)), beq_eq_false_iff_ne]; exact h
  simp only [ht]
  rw [Bool.eq_iff_iff]
  simp only [Bool.and_eq_true, beq_iff_eq, decide_eq_true_eq, hdZ, shZ, mvZ, Prod.mk.injEq, and_true]
theorem siGood_is (s : Sign) : F_spec_siGood s = some (sgOK s) := by
  obtain ⟨m, two, o⟩ := s
  simp only [F_spec_siGood, siHand_is, sgOK]
  cases hm : hdOK m with
  | false => simp
  | true =>
    cases two with
    | false => simp only [Bool.not_true, cond_false, Bool.not_false, cond_true, hz_is, Bool.true_and]
    | true =>
      simp only [Bool.not_true, cond_false, cond_true, Bool.true_and]
      cases ho : hdOK o with
      | false => rfl
      | true =>
        obtain ⟨n, e, hn⟩ := keep_spec m o (hdOK_w hm) (hdOK_w ho)
        simp only [cond_true, e, Bool.true_and]
        have : (n == 0) = !(n != 0) := by simp [bne]
        rw [this, hn, Bool.not_not]
theorem IsSign_is (s : Sign) : F_impl_IsSign s = some (sgOK s) := by
  obtain ⟨m, two, o⟩ := s
  simp only [F_impl_IsSign, IsHand_is, sgOK]
  cases hm : hdOK m with
  | false => simp
  | true =>
    cases two with
    | false => simp only [Bool.not_true, cond_false, Bool.not_false, cond_true, hz_is, Bool.true_and]
    | true =>
      simp only [Bool.not_true, cond_false, cond_true, Bool.true_and]
      cases ho : hdOK o with
      | false => rfl
      | true => simp only [cond_true, keep_impl m o (hdOK_w hm) (hdOK_w ho), Bool.true_and]
end Go.Proofs.YtklfnbckoaphpaaGreatDoor
/- Old texts of hands: what their parts put into a hand, on both sides: plain laws. No conditions beyond the bounds that are named. -/
set_option linter.unusedVariables false
set_option linter.unusedSimpArgs false
namespace Go.Proofs.YtklfnbckoaphpaaGreatDoor
open Go
def lBody : List UInt8 := [98, 111, 100, 121]
def lFace : List UInt8 := [102, 97, 99, 101]
def lBrow : List UInt8 := [98, 114, 111, 119]
def lAir : List UInt8 := [97, 105, 114]
def oChest : List UInt8 := [99, 104, 101, 115, 116, 42]
def oMouth : List UInt8 := [109, 111, 117, 116, 104]
def oEye : List UInt8 := [101, 121, 101]
def oSpace : List UInt8 := [115, 112, 97, 99, 101]
/-- the name of today's place -/
def oldL (l : List UInt8) : List UInt8 := bif decide (l = lBody) then oChest else bif decide (l = lFace) then oMouth else bif decide (l = lBrow) then oEye else bif decide (l = lAir) then oSpace else []
/-- the place with an old or a new name -/
def plQ (l : List UInt8) : Place × Bool := bif !(plP (ba l)).2 then plP (ba (oldL l)) else plP (ba l)
theorem plP0 : plP (ba []) = ((0, 0, false), false) := plP_none (by decide +kernel)
theorem plBody : plP (ba lBody) = ((0, 0, false), false) := plP_none (by decide +kernel)
theorem plFace : plP (ba lFace) = ((0, 0, false), false) := plP_none (by decide +kernel)
theorem plBrow : plP (ba lBrow) = ((0, 0, false), false) := plP_none (by decide +kernel)
theorem plAir : plP (ba lAir) = ((0, 0, false), false) := plP_none (by decide +kernel)
theorem keq_text (a b : List UInt8) : Ty.keq .str (ba a) (ba b) = decide (a = b) := tt a b
theorem mget_old (l : List UInt8) : mget (.str) (.str) (ba l) (mput (.str) (.str) (ba lAir) (ba oSpace) (mput (.str) (.str) (ba lBrow) (ba oEye) (mput (.str) (.str) (ba lFace) (ba oMouth) (mput (.str) (.str) (ba lBody) (ba oChest) [])))) (ba []) = ba (oldL l) := by
  have k1 : Ty.keq .str (ba lFace) (ba lBody) = false := by rw [keq_text]; rfl
  have k2 : Ty.keq .str (ba lBrow) (ba lBody) = false := by rw [keq_text]; rfl
  have k3 : Ty.keq .str (ba lBrow) (ba lFace) = false := by rw [keq_text]; rfl
  have k4 : Ty.keq .str (ba lAir) (ba lBody) = false := by rw [keq_text]; rfl
  have k5 : Ty.keq .str (ba lAir) (ba lFace) = false := by rw [keq_text]; rfl
  have k6 : Ty.keq .str (ba lAir) (ba lBrow) = false := by rw [keq_text]; rfl
  have p1 : mput (.str) (.str) (ba lBody) (ba oChest) [] = [(ba lBody, ba oChest)] := rfl
  have p2 : mput (.str) (.str) (ba lFace) (ba oMouth) [(ba lBody, ba oChest)] = [(ba lBody, ba oChest), (ba lFace, ba oMouth)] := by
    show (bif Ty.keq .str (ba lFace) (ba lBody) then _ else _) = _
    rw [k1]; rfl
  have p3 : mput (.str) (.str) (ba lBrow) (ba oEye) [(ba lBody, ba oChest), (ba lFace, ba oMouth)] = [(ba lBody, ba oChest), (ba lFace, ba oMouth), (ba lBrow, ba oEye)] := by
    show (bif Ty.keq .str (ba lBrow) (ba lBody) then _ else _ :: (bif Ty.keq .str (ba lBrow) (ba lFace) then _ else _)) = _
    rw [k2, k3]; rfl
  have p4 : mput (.str) (.str) (ba lAir) (ba oSpace) [(ba lBody, ba oChest), (ba lFace, ba oMouth), (ba lBrow, ba oEye)] = [(ba lBody, ba oChest), (ba lFace, ba oMouth), (ba lBrow, ba oEye), (ba lAir, ba oSpace)] := by
    show (bif Ty.keq .str (ba lAir) (ba lBody) then _ else _ :: (bif Ty.keq .str (ba lAir) (ba lFace) then _ else _ :: (bif Ty.keq .str (ba lAir) (ba lBrow) then _ else _))) = _
    rw [k4, k5, k6]; rfl
  rw [p1, p2, p3, p4]
  simp only [mget, mfind, keq_text, oldL]
  cases decide (l = lBody) <;> cases decide (l = lFace) <;> cases decide (l = lBrow) <;> cases decide (l = lAir) <;> rfl
theorem OldPlace_is (l : List UInt8) : F_impl_OldPlace (ba l) = some (plP (ba (oldL l))) := by
  have h := mget_old l
  show (match F_impl_ParsePlace (mget (.str) (.str) (ba l) (mput (.str) (.str) (ba lAir) (ba oSpace) (mput (.str) (.str) (ba lBrow) (ba oEye) (mput (.str) (.str) (ba lFace) (ba oMouth) (mput (.str) (.str) (ba lBody) (ba oChest) [])))) (ba [])) with | none => none | some y6 => some y6) = _
  rw [h, plP_impl]
/-- an old name's place -/
def imQ (l : List UInt8) : Place × Bool := bif decide (l = lBody) then plP (ba oChest) else bif decide (l = lFace) then plP (ba oMouth) else bif decide (l = lBrow) then plP (ba oEye) else bif decide (l = lAir) then plP (ba oSpace) else ((0, 0, false), false)
theorem imPlaces_is (l : List UInt8) : F_spec_imPlaces (ba l) = some (imQ l) := by
  have c : ∀ m, ((ba m).toList == (ba l).toList) = decide (l = m) := fun m => by rw [tt]; simp only [eq_comm]
  have w0 : IntKind.i64.wrap (0 + 1) = 1 := rfl
  have w1 : IntKind.i64.wrap (1 + 1) = 2 := rfl
  have w2 : IntKind.i64.wrap (2 + 1) = 3 := rfl
  have w3 : IntKind.i64.wrap (3 + 1) = 4 := rfl
  have st : ∀ (i : Nat) (m o : List UInt8), i < 4 → [ba lBody, ba lFace, ba lBrow, ba lAir].getD i ByteArray.empty = ba m → [ba oChest, ba oMouth, ba oEye, ba oSpace].getD i ByteArray.empty = ba o →
      step_spec_imPlaces_0 (ba l, 4, ((i : Int), [ba lBody, ba lFace, ba lBrow, ba lAir], (0, 0, false))) = bif decide (l = m) then some (Sum.inr (Sum.inl ((plP (ba o)).2, (plP (ba o)).1))) else some (Sum.inl (ba l, 4, (((i + 1 : Nat) : Int), [ba lBody, ba lFace, ba lBrow, ba lAir], (0, 0, false)))) := by
    intro i m o hi hm ho
    have g1 : decide ((i : Int) < 4) = true := decide_eq_true (by omega)
    have g2 : (decide (0 ≤ (i : Int)) && decide ((i : Int) < (([ba lBody, ba lFace, ba lBrow, ba lAir].length : Nat) : Int))) = true := by
      rw [decide_eq_true (show 0 ≤ (i : Int) by omega), decide_eq_true (show (i : Int) < (([ba lBody, ba lFace, ba lBrow, ba lAir].length : Nat) : Int) by simp; omega)]; rfl
    have g3 : (decide (0 ≤ (i : Int)) && decide ((i : Int) < (([ba oChest, ba oMouth, ba oEye, ba oSpace].length : Nat) : Int))) = true := by
      rw [decide_eq_true (show 0 ≤ (i : Int) by omega), decide_eq_true (show (i : Int) < (([ba oChest, ba oMouth, ba oEye, ba oSpace].length : Nat) : Int) by simp; omega)]; rfl
    have hw := wrap_succ (i := i) (by omega)
    show (bif decide ((i : Int) < 4) then bif (decide (0 ≤ (i : Int)) && decide ((i : Int) < (([ba lBody, ba lFace, ba lBrow, ba lAir].length : Nat) : Int))) then
      bif (([ba lBody, ba lFace, ba lBrow, ba lAir].getD i ByteArray.empty).toList == (ba l).toList) then
        bif (decide (0 ≤ (i : Int)) && decide ((i : Int) < (([ba oChest, ba oMouth, ba oEye, ba oSpace].length : Nat) : Int))) then
          match F_spec_plParse ([ba oChest, ba oMouth, ba oEye, ba oSpace].getD i ByteArray.empty) with | none => none | some y3 => some (Sum.inr (Sum.inl (y3.2, y3.1)))
        else none
      else some (Sum.inl (ba l, 4, (IntKind.i64.wrap ((i : Int) + 1), [ba lBody, ba lFace, ba lBrow, ba lAir], (0, 0, false)))) else none else _) = _
    rw [g1, g2, g3, hm, ho, c, plP_spec, hw]
    rfl
  have s0 := st 0 lBody oChest (by omega) rfl rfl
  have s1 := st 1 lFace oMouth (by omega) rfl rfl
  have s2 := st 2 lBrow oEye (by omega) rfl rfl
  have s3 := st 3 lAir oSpace (by omega) rfl rfl
  have s4 : step_spec_imPlaces_0 (ba l, 4, (((4 : Nat) : Int), [ba lBody, ba lFace, ba lBrow, ba lAir], (0, 0, false))) = some (Sum.inr (Sum.inr (0, 0, false))) := rfl
  have main : runL step_spec_imPlaces_0 (ba l, 4, (((0 : Nat) : Int), [ba lBody, ba lFace, ba lBrow, ba lAir], (0, 0, false))) = some (bif decide (l = lBody) then Sum.inl ((plP (ba oChest)).2, (plP (ba oChest)).1) else bif decide (l = lFace) then Sum.inl ((plP (ba oMouth)).2, (plP (ba oMouth)).1) else
      bif decide (l = lBrow) then Sum.inl ((plP (ba oEye)).2, (plP (ba oEye)).1) else bif decide (l = lAir) then Sum.inl ((plP (ba oSpace)).2, (plP (ba oSpace)).1) else Sum.inr (0, 0, false)) := by
    cases h0 : decide (l = lBody) with
    | true => rw [h0] at s0; exact runL_end s0
    | false =>
      rw [h0] at s0
      refine (runL_step s0).trans ?_
      cases h1 : decide (l = lFace) with
      | true => rw [h1] at s1; exact runL_end s1
      | false =>
        rw [h1] at s1
        refine (runL_step s1).trans ?_
        cases h2 : decide (l = lBrow) with
        | true => rw [h2] at s2; exact runL_end s2
        | false =>
          rw [h2] at s2
          refine (runL_step s2).trans ?_
          cases h3 : decide (l = lAir) with
          | true => rw [h3] at s3; exact runL_end s3
          | false =>
            rw [h3] at s3
            exact (runL_step s3).trans (runL_end s4)
  have e : F_spec_imPlaces (ba l) = match runL step_spec_imPlaces_0 (ba l, 4, (((0 : Nat) : Int), [ba lBody, ba lFace, ba lBrow, ba lAir], (0, 0, false))) with
    | none => none | some (.inl o5) => some (o5.2, o5.1) | some (.inr o5) => some ((0, 0, false), false) := rfl
  rw [e, main]
  unfold imQ
  cases decide (l = lBody) <;> cases decide (l = lFace) <;> cases decide (l = lBrow) <;> cases decide (l = lAir) <;> rfl
/-- both ways to a place -/
theorem imQ_is (l : List UInt8) : (bif !(imQ l).2 then plP (ba l) else imQ l) = plQ l ∨ ((bif !(imQ l).2 then plP (ba l) else imQ l).2 = false ∧ (plQ l).2 = false) := by
  unfold plQ imQ oldL
  by_cases h0 : l = lBody
  · subst h0
    rw [plBody, decide_eq_true rfl]
    cases h : (plP (ba oChest)).2 with
    | true => left; simp only [cond_true, h, Bool.not_true, cond_false, Bool.not_false]
    | false => right; simp only [cond_true, h, Bool.not_false, and_self]
  · by_cases h1 : l = lFace
    · subst h1
      rw [plFace, decide_eq_false h0, decide_eq_true rfl]
      cases h : (plP (ba oMouth)).2 with
      | true => left; simp only [cond_true, h, Bool.not_true, cond_false, Bool.not_false]
      | false => right; simp only [cond_true, cond_false, h, Bool.not_false, and_self]
    · by_cases h2 : l = lBrow
      · subst h2
        rw [plBrow, decide_eq_false h0, decide_eq_false h1, decide_eq_true rfl]
        cases h : (plP (ba oEye)).2 with
        | true => left; simp only [cond_true, h, Bool.not_true, cond_false, Bool.not_false]
        | false => right; simp only [cond_true, cond_false, h, Bool.not_false, and_self]
      · by_cases h3 : l = lAir
        · subst h3
          rw [plAir, decide_eq_false h0, decide_eq_false h1, decide_eq_false h2, decide_eq_true rfl]
          cases h : (plP (ba oSpace)).2 with
          | true => left; simp only [cond_true, h, Bool.not_true, cond_false, Bool.not_false]
          | false => right; simp only [cond_true, cond_false, h, Bool.not_false, and_self]
        · rw [decide_eq_false h0, decide_eq_false h1, decide_eq_false h2, decide_eq_false h3]
          simp only [cond_false, cond_true, Bool.not_false, plP0]
          cases h : (plP (ba l)).2 with
          | true => left; simp only [Bool.not_true, cond_false]
          | false => right; simp only [Bool.not_false, cond_true, and_self]
end Go.Proofs.YtklfnbckoaphpaaGreatDoor
/- Old texts of hands: one part on both sides: plain laws. No conditions beyond the bounds that are named. -/
set_option linter.unusedVariables false
set_option linter.unusedSimpArgs false
namespace Go.Proofs.YtklfnbckoaphpaaGreatDoor
open Go
/-- what a part puts into a hand: its kind, its text -/
def hK (h : Hand) (a r : List UInt8) : Hand :=
  bif decide (a = [83]) then (bif (shP (ba r)).2 then ((shP (ba r)).1, h.2) else h)
  else bif decide (a = [79]) then (bif (orP (ba r)).2 then (h.1, (orP (ba r)).1, h.2.2) else h)
  else bif decide (a = [80]) then (bif (plQ r).2 then (h.1, h.2.1, (plQ r).1, h.2.2.2) else h)
  else bif decide (a = [77]) then (bif (mvP (ba r)).2 then (h.1, h.2.1, h.2.2.1, (mvP (ba r)).1) else h) else h
/-- a part -/
def hI (h : Hand) : List UInt8 → Hand
  | k :: c :: t => bif decide (c = 61) then hK h [k] t else h
  | _ => h
theorem shP0 : (shP (ba [])).2 = false := rfl
theorem orP0 : (orP (ba [])).2 = false := rfl
theorem mvP0 : (mvP (ba [])).2 = false := rfl
theorem plQ0 : (plQ []).2 = false := by
  unfold plQ
  rw [plP0, show oldL [] = [] from rfl, plP0]
  rfl
theorem hK_nil (h : Hand) (a : List UInt8) : hK h a [] = h := by
  unfold hK
  rw [shP0, orP0, mvP0, plQ0]
  cases decide (a = [83]) <;> cases decide (a = [79]) <;> cases decide (a = [80]) <;> cases decide (a = [77]) <;> rfl
theorem hK_long (h : Hand) (a r : List UInt8) (ha : a.length ≠ 1) : hK h a r = h := by
  have n : ∀ k, decide (a = [k]) = false := fun k => decide_eq_false fun e => ha (by rw [e]; rfl)
  unfold hK
  rw [n, n, n, n]
  rfl
theorem hI_none {h : Hand} {l : List UInt8} (hn : 61 ∉ l) : hI h l = h := by
  match l with
  | [] => rfl
  | [_] => rfl
  | k :: c :: t =>
    show (bif decide (c = 61) then _ else h) = h
    rw [decide_eq_false fun e => hn (by simp [e])]
    rfl
theorem hI_at {h : Hand} {a r : List UInt8} (ha : 61 ∉ a) : hI h (a ++ 61 :: r) = hK h a r := by
  match a with
  | [] =>
    rw [hK_long h [] r (by simp)]
    match r with
    | [] => rfl
    | c :: t =>
      show (bif decide (c = 61) then hK h [61] t else h) = h
      have : hK h [61] t = h := by
        unfold hK
        rfl
      rw [this]
      cases decide (c = 61) <;> rfl
  | [k] => rfl
  | k :: c :: t =>
    rw [hK_long h (k :: c :: t) r (by simp)]
    show (bif decide (c = 61) then _ else h) = h
    rw [decide_eq_false fun e => ha (by simp [e])]
    rfl
/-- the reference's part -/
theorem imPart_is (h : Hand) (l : List UInt8) (hl : l.length ≤ 1048576) : ∃ n, F_spec_imPart (h, ba l) = some (hI h l, n) := by
  match l, hl with
  | [], _ => exact ⟨_, rfl⟩
  | [k], _ => exact ⟨_, rfl⟩
  | k :: c :: t, hl =>
    have ht : t.length ≤ 1048576 := by simp only [List.length_cons] at hl; omega
    have e0 : ∀ n : UInt8, (byteAt (ba (k :: c :: t)) (0 : Int).toNat == (n.toNat : Int)) = decide (k = n) := fun n => byte_beq _ _
    have e1 : (byteAt (ba (k :: c :: t)) (1 : Int).toNat != 61) = !decide (c = 61) := congrArg Bool.not (byte_beq c 61)
    have ex : (ba (k :: c :: t)).extract (2 : Int).toNat (((ba (k :: c :: t)).size : Int)).toNat = ba t := by
      rw [ba_extract, ba_size, Int.toNat_natCast]
      show ba (t.take _) = _
      rw [List.take_of_length_le (by simp)]
    have g1 : decide (((ba (k :: c :: t)).size : Int) < 2) = false := decide_eq_false (by rw [ba_size]; simp; omega)
    have g2 : decide ((1 : Int) < ((ba (k :: c :: t)).size : Int)) = true := decide_eq_true (by rw [ba_size]; simp; omega)
    have g3 : decide ((2 : Int) ≤ ((ba (k :: c :: t)).size : Int)) = true := decide_eq_true (by rw [ba_size]; simp; omega)
    have g4 : decide (((ba (k :: c :: t)).size : Int) ≤ ((ba (k :: c :: t)).size : Int)) = true := decide_eq_true (Int.le_refl _)
    have g5 : decide ((0 : Int) < ((ba (k :: c :: t)).size : Int)) = true := decide_eq_true (by rw [ba_size]; simp; omega)
    have e83 : (byteAt (ba (k :: c :: t)) (0 : Int).toNat == 83) = decide (k = 83) := e0 83
    have e79 : (byteAt (ba (k :: c :: t)) (0 : Int).toNat == 79) = decide (k = 79) := e0 79
    have e80 : (byteAt (ba (k :: c :: t)) (0 : Int).toNat == 80) = decide (k = 80) := e0 80
    have e77 : (byteAt (ba (k :: c :: t)) (0 : Int).toNat == 77) = decide (k = 77) := e0 77
    have one : ∀ n : UInt8, decide ([k] = [n]) = decide (k = n) := fun n => by simp
    have m := mvP_spec (ba t) ht
    have q := imQ_is t
    show ∃ n, F_spec_imPart (h, ba (k :: c :: t)) = some ((bif decide (c = 61) then hK h [k] t else h), n)
    simp only [F_spec_imPart, g1, g2, g3, g4, g5, e1, e83, e79, e80, e77, ex, shP_spec, orP_spec, imPlaces_is, plP_spec, m, hK, one, cond_true, cond_false, Bool.and_true, Bool.true_and, decide_true]
    cases decide (c = 61) with
    | false => exact ⟨_, rfl⟩
    | true =>
      cases decide (k = 83) with
      | true => cases (shP (ba t)).2 <;> exact ⟨_, rfl⟩
      | false =>
        cases decide (k = 79) with
        | true => cases (orP (ba t)).2 <;> exact ⟨_, rfl⟩
        | false =>
          cases decide (k = 80) with
          | false =>
            cases decide (k = 77) with
            | true => cases (mvP (ba t)).2 <;> exact ⟨_, rfl⟩
            | false => exact ⟨_, rfl⟩
          | true =>
            rcases q with q | ⟨q1, q2⟩
            · rw [← q]
              cases h1 : (imQ t).2 with
              | true => exact ⟨_, by simp only [h1, Bool.not_false, Bool.not_true, cond_true, cond_false]; rfl⟩
              | false =>
                cases h2 : (plP (ba t)).2 with
                | true => exact ⟨_, by simp only [h1, h2, Bool.not_false, Bool.not_true, cond_true, cond_false]; rfl⟩
                | false => exact ⟨_, by simp only [h1, h2, Bool.not_false, Bool.not_true, cond_true, cond_false]; rfl⟩
            · rw [q2]
              cases h1 : (imQ t).2 with
              | true => rw [h1] at q1; simp [h1] at q1
              | false =>
                rw [h1] at q1
                have h2 : (plP (ba t)).2 = false := by simpa using q1
                exact ⟨_, by simp only [h2, Bool.not_false, Bool.not_true, cond_true, cond_false]; rfl⟩
end Go.Proofs.YtklfnbckoaphpaaGreatDoor
/- Old texts of hands are read alike on both sides: plain laws. No conditions beyond the bounds that are named. -/
set_option linter.unusedVariables false
set_option linter.unusedSimpArgs false
namespace Go.Proofs.YtklfnbckoaphpaaGreatDoor
open Go
abbrev ImE := Int × Int × Int × Int × Int × Bool × Int × Int × Int × Int × Bool × ByteArray × Int
abbrev ImS := Int × Int × Int × Int × Int × Bool × Int × Int × Int × Int × Bool × ByteArray × Int × Int × ImE
def imS (h : Hand) (p : Int) (e : ImE) : ImS := (h.1.1, h.1.2.1, h.1.2.2.1, h.1.2.2.2.1, h.1.2.2.2.2.1, h.1.2.2.2.2.2, h.2.1.1, h.2.1.2, h.2.2.1.1, h.2.2.1.2.1, h.2.2.1.2.2, h.2.2.2.1, h.2.2.2.2, p, e)
set_option maxRecDepth 100000 in
theorem imS_step (h : Hand) (p : Int) (e : ImE) (l a r : List UInt8) (b : Bool) (hr : r.length ≤ 1048576) (hc : F_strings_Cut (ba l, ba [61]) = some (ba a, ba r, b)) : ∃ p', step_impl_imported_L (imS h p e) (ba l) = some (.inl (imS (hK h a r) p' e)) := by
  have t83 : ((ba a).toList == (⟨#[83]⟩ : ByteArray).toList) = decide (a = [83]) := tt a [83]
  have t79 : ((ba a).toList == (⟨#[79]⟩ : ByteArray).toList) = decide (a = [79]) := tt a [79]
  have t80 : ((ba a).toList == (⟨#[80]⟩ : ByteArray).toList) = decide (a = [80]) := tt a [80]
  have t77 : ((ba a).toList == (⟨#[77]⟩ : ByteArray).toList) = decide (a = [77]) := tt a [77]
  have hc' : F_strings_Cut (ba l, (⟨#[61]⟩ : ByteArray)) = some (ba a, ba r, b) := hc
  have m := mvP_impl (ba r) hr
  have pq : plQ r = bif !(plP (ba r)).2 then plP (ba (oldL r)) else plP (ba r) := rfl
  have c1 : ((1 : Nat) == 0) = false := rfl
  have c0 : ((0 : Nat) == 0) = true := rfl
  have c2 : ((2 : Nat) == 0) = false := rfl
  have c4 : ((4 : Nat) == 0) = false := rfl
  have c8 : ((8 : Nat) == 0) = false := rfl
  have i1 : ((1 : Int) == 0) = false := rfl
  have i0 : ((0 : Int) == 0) = true := rfl
  have i2 : ((2 : Int) == 0) = false := rfl
  have i4 : ((4 : Int) == 0) = false := rfl
  have i8 : ((8 : Int) == 0) = false := rfl
  simp only [step_impl_imported_L, hc', t83, t79, t80, t77, shP_impl, orP_impl, plP_impl, m, OldPlace_is, hK, pq, c0, c1, c2, c4, c8, i0, i1, i2, i4, i8, cond_true, cond_false]
  generalize ((ba l).toList == (⟨#[]⟩ : ByteArray).toList) = z
  generalize shP (ba r) = S
  generalize orP (ba r) = O
  generalize plP (ba r) = L
  generalize plP (ba (oldL r)) = L'
  generalize mvP (ba r) = M
  cases decide (a = [83]) with
  | true =>
    simp only [cond_true]
    cases S.2 <;> cases z <;> simp only [cond_true, cond_false, Bool.not_true, Bool.not_false] <;> exact ⟨_, rfl⟩
  | false =>
    simp only [cond_false]
    cases decide (a = [79]) with
    | true =>
      simp only [cond_true]
      cases O.2 <;> cases z <;> simp only [cond_true, cond_false, Bool.not_true, Bool.not_false] <;> exact ⟨_, rfl⟩
    | false =>
      simp only [cond_false]
      cases decide (a = [80]) with
      | true =>
        simp only [cond_true]
        cases h1 : L.2 <;> cases h2 : L'.2 <;> cases z <;> simp only [h1, h2, cond_true, cond_false, Bool.not_true, Bool.not_false] <;> exact ⟨_, rfl⟩
      | false =>
        simp only [cond_false]
        cases decide (a = [77]) with
        | true =>
          simp only [cond_true]
          cases M.2 <;> cases z <;> simp only [cond_true, cond_false, Bool.not_true, Bool.not_false] <;> exact ⟨_, rfl⟩
        | false =>
          cases z <;> simp only [cond_true, cond_false, Bool.not_true, Bool.not_false] <;> exact ⟨_, rfl⟩
theorem imI_step (h : Hand) (p : Int) (e : ImE) (l : List UInt8) (hl : l.length ≤ 1048576) : ∃ p', step_impl_imported_L (imS h p e) (ba l) = some (.inl (imS (hI h l) p' e)) := by
  rcases spl_cases 61 l with hn | ⟨a, r, rfl, ha⟩
  · obtain ⟨p', hp⟩ := imS_step h p e l l [] false (by simp) (Cut_none hl hn)
    rw [hK_nil] at hp
    rw [hI_none hn]
    exact ⟨p', hp⟩
  · rw [hI_at ha]
    exact imS_step h p e _ a r true (by simp only [List.length_append, List.length_cons] at hl; omega) (Cut_at hl ha)
theorem imI_fold : ∀ (L : List (List UInt8)) (h : Hand) (p : Int) (e : ImE), (∀ l ∈ L, l.length ≤ 1048576) → ∃ p', foldL step_impl_imported_L (imS h p e) (L.map ba) = some (.inl (imS (L.foldl hI h) p' e))
  | [], h, p, e, _ => ⟨p, rfl⟩
  | l :: L, h, p, e, hL => by
    obtain ⟨p1, h1⟩ := imI_step h p e l (hL l (by simp))
    obtain ⟨p2, h2⟩ := imI_fold L (hI h l) p1 e (fun x hx => hL x (by simp [hx]))
    exact ⟨p2, by rw [List.map_cons, foldL, h1]; exact h2⟩
theorem splOf_spl : ∀ (n : Nat) (l : List UInt8), l.length ≤ n → splOf 59 (ba l) = (spl 59 l).map ba := by
  intro n
  induction n with
  | zero =>
    intro l hl
    have : l = [] := List.eq_nil_of_length_eq_zero (by omega)
    subst this
    rfl
  | succ n ih =>
    intro l hl
    rcases spl_cases 59 l with hn | ⟨a, r, rfl, ha⟩
    · rw [spl_none 59 l hn, splOf_last (by show Lib.indexByte l 59 < 0; rw [idx_none hn]; decide)]
      rfl
    · have hi : Lib.indexByte (ba (a ++ 59 :: r)).data.toList 59 = (a.length : Int) := idx_at ha
      have hs : (ba (a ++ 59 :: r)).size = a.length + (r.length + 1) := by rw [ba_size]; simp
      rw [spl_cons 59 a r ha, splOf_next hi (by omega), ba_extract, ba_extract, hs]
      have e1 : ((a ++ 59 :: r).drop 0).take (a.length - 0) = a := by simp
      have e2 : ((a ++ 59 :: r).drop (a.length + 1)).take (a.length + (r.length + 1) - (a.length + 1)) = r := by
        rw [show a.length + 1 = (a ++ [59]).length by simp, show a ++ 59 :: r = (a ++ [59]) ++ r by simp, List.drop_left]
        exact List.take_of_length_le (by simp; omega)
      rw [e1, e2, ih r (by simp only [List.length_append, List.length_cons] at hl; omega)]
      rfl
/-- the hand that an old text is laid over -/
def hd0 : Hand := ((shP (ba [48, 48, 48, 48, 48])).1, (orP (ba [102, 117])).1, (0, 0, false), (ByteArray.empty, 1))
theorem readHand0 : ∃ n m, F_impl_readHand (⟨#[48, 48, 48, 48, 48, 47, 102, 117, 47, 115, 112, 97, 99, 101, 47, 45]⟩ : ByteArray) = some (hd0, n, m) := by
  have h := hdP_impl (ba [48, 48, 48, 48, 48, 47, 102, 117, 47, 115, 112, 97, 99, 101, 47, 45]) (by decide)
  have hsp : spl 47 [48, 48, 48, 48, 48, 47, 102, 117, 47, 115, 112, 97, 99, 101, 47, 45] = [[48, 48, 48, 48, 48], [102, 117], [115, 112, 97, 99, 101], [45]] := by decide
  rw [hdP_four hsp] at h
  have hp : plP (ba [115, 112, 97, 99, 101]) = ((0, 0, false), true) := plP_some (by decide +kernel)
  have hm : mvP (ba [45]) = ((ba [], 1), true) := rfl
  have hs : (shP (ba [48, 48, 48, 48, 48])).2 = true := by decide +kernel
  have ho : (orP (ba [102, 117])).2 = true := by decide +kernel
  rw [hp, hm, hs, ho] at h
  exact ⟨_, _, h⟩
/-- an old text's hand -/
def imH (l : List UInt8) : Hand := (spl 59 l).foldl hI hd0
theorem imported_is (l : List UInt8) (hl : l.length ≤ 1048576) : ∃ n, F_impl_imported (ba l) = some (imH l, n) := by
  obtain ⟨n, m, hr⟩ := readHand0
  have hst : start_impl_imported (ba l) = some (ba l, imS hd0 0 (0, 0, 0, 0, 0, false, 0, 0, 0, 0, false, ByteArray.empty, 0)) := by
    unfold start_impl_imported
    rw [hr]
    rfl
  obtain ⟨p, hf⟩ := imI_fold (spl 59 l) hd0 0 (0, 0, 0, 0, 0, false, 0, 0, 0, 0, false, ByteArray.empty, 0) (fun x hx => by have := (spl_sizes 59 l.length l (Nat.le_refl _) x hx).1; omega)
  have g : decide ((ba l).size ≤ 1048576) = true := decide_eq_true hl
  refine ⟨p, ?_⟩
  unfold F_impl_imported
  rw [g, hst]
  show (bif decide ((ba l).size ≤ 1048576) then (match foldL step_impl_imported_L (imS hd0 0 (0, 0, 0, 0, 0, false, 0, 0, 0, 0, false, ByteArray.empty, 0)) (splOf 59 (ba l)) with | some (.inl s) => (match end_impl_imported s with | none => none | some z => some (out_impl_imported z)) | _ => none) else none) = _
  rw [g, splOf_spl l.length l (Nat.le_refl _), hf]
  show (match end_impl_imported (imS (imH l) p (0, 0, 0, 0, 0, false, 0, 0, 0, 0, false, ByteArray.empty, 0)) with | none => none | some z => some (out_impl_imported z)) = _
  generalize imH l = h
  have bp : (p == p) = true := by simp
  show (match (bif (p == p) then some (p, imS h p (h.1.1, h.1.2.1, h.1.2.2.1, h.1.2.2.2.1, h.1.2.2.2.2.1, h.1.2.2.2.2.2, h.2.1.1, h.2.1.2, h.2.2.1.1, h.2.2.1.2.1, h.2.2.1.2.2, h.2.2.2.1, h.2.2.2.2)) else none : Option _) with | none => none | some z => some (out_impl_imported z)) = _
  rw [bp]
  rfl
end Go.Proofs.YtklfnbckoaphpaaGreatDoor
/- The law of ImportSign, as plain Lean: it answers true. No conditions. -/
set_option linter.unusedVariables false
set_option linter.unusedSimpArgs false
namespace Go.Proofs.YtklfnbckoaphpaaGreatDoor
open Go
abbrev ImT := Int × Int × Int × (List ByteArray) × Int × Int × Int × Int × Int × Bool × Int × Int × Int × Int × Bool × ByteArray × Int × ImE
def imT (p n i : Int) (L : List ByteArray) (h : Hand) (e : ImE) : ImT := (p, n, i, L, h.1.1, h.1.2.1, h.1.2.2.1, h.1.2.2.2.1, h.1.2.2.2.2.1, h.1.2.2.2.2.2, h.2.1.1, h.2.1.2, h.2.2.1.1, h.2.2.1.2.1, h.2.2.1.2.2, h.2.2.2.1, h.2.2.2.2, e)
theorem imT_step (p : Int) (i : Nat) (M : List (List UInt8)) (h : Hand) (e : ImE) (hi : i < M.length) (hM : M.length ≤ 1048577) (hl : (M.getD i []).length ≤ 1048576) :
    ∃ p', step_spec_imRead_0 (imT p (M.length : Int) (i : Int) (M.map ba) h e) = some (.inl (imT p' (M.length : Int) ((i + 1 : Nat) : Int) (M.map ba) (hI h (M.getD i [])) e)) := by
  have hw := wrap_succ (i := i) (by omega)
  have g1 : decide ((i : Int) < (M.length : Int)) = true := lt_len hi
  have g2 : decide ((i : Int) < ((M.map ba).length : Int)) = true := by rw [List.length_map]; exact lt_len hi
  have hg : (M.map ba).getD i ByteArray.empty = ba (M.getD i []) := by
    rw [List.getD_eq_getElem?_getD, List.getD_eq_getElem?_getD, List.getElem?_map, List.getElem?_eq_getElem hi]; rfl
  generalize hm : M.getD i [] = m at hl hg
  have t0 : ((ba m).toList == (⟨#[]⟩ : ByteArray).toList) = decide (m = []) := tt m []
  obtain ⟨n, hp⟩ := imPart_is h m hl
  obtain ⟨⟨a1, a2, a3, a4, a5, a6⟩, ⟨b1, b2⟩, ⟨d1, d2, d3⟩, m1, m2⟩ := h
  unfold imT
  simp only [step_spec_imRead_0, g1, g2, nonneg, Bool.and_self, cond_true, Int.toNat_natCast, hg, t0, hw, hp]
  by_cases h0 : m = []
  · subst h0
    rw [decide_eq_true rfl]
    exact ⟨p, rfl⟩
  · rw [decide_eq_false h0]
    exact ⟨_, rfl⟩
theorem imRead_is (l : List UInt8) (hl : l.length ≤ 1048576) : ∃ n, F_spec_imRead (ba l) = some (imH l, n) := by
  have hs : F_spec_shParse (⟨#[48, 48, 48, 48, 48]⟩ : ByteArray) = some (shP (ba [48, 48, 48, 48, 48])) := shP_spec _
  have ho : F_spec_orParse (⟨#[102, 117]⟩ : ByteArray) = some (orP (ba [102, 117])) := orP_spec _
  have hsp : F_spec_l1Split (ba l, 59) = some ((spl 59 l).map ba) := l1Split_is l 59 hl
  have hlen : (spl 59 l).length ≤ 1048577 := by rw [spl_len]; have := List.count_le_length (a := (59 : UInt8)) (l := l); omega
  have hsz := spl_sizes 59 l.length l (Nat.le_refl _)
  obtain ⟨e, he⟩ : ∃ e : ImE, e = (0, 0, 0, 0, 0, false, 0, 0, 0, 0, false, ByteArray.empty, 0) := ⟨_, rfl⟩
  obtain ⟨o, hr, p, rfl⟩ := runL_inv (f := step_spec_imRead_0) (fun s => ∃ (p : Int) (i : Nat), s = imT p ((spl 59 l).length : Int) (i : Int) ((spl 59 l).map ba) (((spl 59 l).take i).foldl hI hd0) e ∧ i ≤ (spl 59 l).length)
    (fun o => ∃ p : Int, o = (p, (imT 0 0 0 [] (imH l) e).2.2.2.2)) (fun s => (s.2.1 - s.2.2.1).toNat) (by
    rintro s ⟨p, i, rfl, hi⟩
    rcases Nat.lt_or_ge i (spl 59 l).length with hlt | hge
    · right
      have hm : ((spl 59 l).getD i []) ∈ spl 59 l := by rw [List.getD_eq_getElem?_getD, List.getElem?_eq_getElem hlt]; exact List.getElem_mem hlt
      obtain ⟨p', h1⟩ := imT_step p i (spl 59 l) (((spl 59 l).take i).foldl hI hd0) e hlt hlen (by have := (hsz _ hm).1; omega)
      refine ⟨_, h1, ⟨p', i + 1, ?_, hlt⟩, ?_⟩
      · rw [List.take_add_one, List.foldl_append, List.getElem?_eq_getElem hlt, List.getD_eq_getElem?_getD, List.getElem?_eq_getElem hlt]; rfl
      · show ((((spl 59 l).length : Nat) : Int) - ((i + 1 : Nat) : Int)).toNat < ((((spl 59 l).length : Nat) : Int) - (i : Int)).toNat
        omega
    · left
      have : i = (spl 59 l).length := by omega
      subst this
      refine ⟨_, ?_, p, rfl⟩
      have g1 : decide ((((spl 59 l).length : Nat) : Int) < (((spl 59 l).length : Nat) : Int)) = false := not_lt_len _
      rw [List.take_length]
      unfold imT
      simp only [step_spec_imRead_0, g1, cond_false]
      rfl) (imT 0 ((spl 59 l).length : Int) 0 ((spl 59 l).map ba) hd0 e) ⟨0, 0, rfl, Nat.zero_le _⟩
  refine ⟨p, ?_⟩
  unfold F_spec_imRead
  rw [hs, ho]
  simp only [hsp, List.length_map]
  subst he
  simp only [imT, hd0] at hr
  rw [hr]
def zS : Sign × Bool := ((hdZ, false, hdZ), false)
/-- the sign of two old texts -/
def imY (a b : List UInt8) : Sign × Bool := bif decide ((100 : Int) < ((ba a).size : Int)) then zS else bif decide ((100 : Int) < ((ba b).size : Int)) then zS else
  bif decide (b = []) then (bif hdOK (imH a) then ((imH a, false, hdZ), true) else zS) else bif sgOK (imH a, true, imH b) then ((imH a, true, imH b), true) else zS
theorem given_is (l : List UInt8) : F_spec_imGiven (ba l) = some (!decide ((100 : Int) < ((ba l).size : Int))) := by
  simp only [F_spec_imGiven]
  by_cases h : ((ba l).size : Int) ≤ 100
  · rw [decide_eq_true h, decide_eq_false (by omega)]; rfl
  · rw [decide_eq_false h, decide_eq_true (by omega)]; rfl
theorem sgOK_one (h : Hand) : sgOK (h, false, hdZ) = hdOK h := by
  show (hdOK h && (bif false then _ else decide (hdZ = hdZ))) = _
  rw [decide_eq_true rfl]
  simp
theorem ImportSign_spec (a b : List UInt8) (ha : a.length ≤ 1048576) (hb : b.length ≤ 1048576) : F_spec_ImportSign (ba a, ba b) = some (imY a b) := by
  obtain ⟨n, h1⟩ := imRead_is a ha
  obtain ⟨m, h2⟩ := imRead_is b hb
  have t0 : ((ba b).toList == (⟨#[]⟩ : ByteArray).toList) = decide (b = []) := tt b []
  have g1 : F_spec_siGood (imH a, false, hdZ) = some (hdOK (imH a)) := by rw [siGood_is, sgOK_one]
  have g1' : F_spec_siGood (imH a, false, (((0 : Int), ((0 : Int), (0 : Int), ((0 : Int), (0 : Int), false))), ((0 : Int), (0 : Int)), (((0 : Int), (0 : Int), false), ByteArray.empty, (0 : Int)))) = some (hdOK (imH a)) := g1
  simp only [F_spec_ImportSign, given_is, h1, h2, t0, siGood_is, g1', imY]
  cases decide ((100 : Int) < ((ba a).size : Int)) with
  | true => rfl
  | false =>
    cases decide ((100 : Int) < ((ba b).size : Int)) with
    | true => rfl
    | false =>
      simp only [Bool.not_false, Bool.not_true, cond_true, cond_false]
      cases decide (b = []) with
      | true =>
        simp only [Bool.not_false, Bool.not_true, cond_true, cond_false]
        have e : sgOK (imH a, false, (((0 : Int), ((0 : Int), (0 : Int), ((0 : Int), (0 : Int), false))), ((0 : Int), (0 : Int)), (((0 : Int), (0 : Int), false), ByteArray.empty, (0 : Int)))) = hdOK (imH a) := sgOK_one _
        try rw [e]
        cases hdOK (imH a) <;> rfl
      | false =>
        simp only [Bool.not_false, Bool.not_true, cond_true, cond_false]
        cases sgOK (imH a, true, imH b) <;> rfl
theorem ImportSign_impl (a b : List UInt8) (ha : a.length ≤ 1048576) (hb : b.length ≤ 1048576) : F_impl_ImportSign (ba a, ba b) = some (imY a b) := by
  obtain ⟨n, h1⟩ := imported_is a ha
  obtain ⟨m, h2⟩ := imported_is b hb
  have t0 : ((ba b).toList == (⟨#[]⟩ : ByteArray).toList) = decide (b = []) := tt b []
  have e1 : F_impl_OneHand (imH a) = some (bif hdOK (imH a) then ((imH a, false, hdZ), true) else zS) := by
    simp only [F_impl_OneHand, IsHand_is]
    cases hdOK (imH a) <;> rfl
  have e2 : F_impl_TwoHands (imH a, imH b) = some (bif sgOK (imH a, true, imH b) then ((imH a, true, imH b), true) else zS) := by
    simp only [F_impl_TwoHands, IsSign_is]
    cases sgOK (imH a, true, imH b) <;> rfl
  have p1 : decide (((ba a).size : Int) > 100) = decide ((100 : Int) < ((ba a).size : Int)) := rfl
  have p2 : decide (((ba b).size : Int) > 100) = decide ((100 : Int) < ((ba b).size : Int)) := rfl
  simp only [F_impl_ImportSign, p1, p2, h1, h2, t0, e1, e2, imY]
  cases decide ((100 : Int) < ((ba a).size : Int)) with
  | true => rfl
  | false =>
    cases decide ((100 : Int) < ((ba b).size : Int)) with
    | true => rfl
    | false => cases decide (b = []) <;> rfl
theorem law_ImportSign (x : ByteArray × ByteArray) : F_laws_FnExactImportSign x = some true := by
  obtain ⟨x1, x2⟩ := x
  by_cases h1 : (x1.size : Int) > 1048576
  · delta F_laws_FnExactImportSign
    simp only [decide_eq_true h1, cond_true]
  · by_cases h2 : (x2.size : Int) > 1048576
    · delta F_laws_FnExactImportSign
      simp only [decide_eq_false h1, decide_eq_true h2, cond_true, cond_false]
    · have s := ImportSign_spec x1.data.toList x2.data.toList (by have : x1.data.toList.length = x1.size := rfl; omega) (by have : x2.data.toList.length = x2.size := rfl; omega)
      have i := ImportSign_impl x1.data.toList x2.data.toList (by have : x1.data.toList.length = x1.size := rfl; omega) (by have : x2.data.toList.length = x2.size := rfl; omega)
      rw [← eq_ba, ← eq_ba] at s i
      delta F_laws_FnExactImportSign
      simp only [decide_eq_false h1, decide_eq_false h2, cond_false, s, i, eqSign_refl, BEq.rfl, Bool.not_true]
end Go.Proofs.YtklfnbckoaphpaaGreatDoor
