/- strings.Lines: its iterator goes through the lines. No conditions. -/
import Derived.Test.YtklfnbckoaphpaaGreatDoorEvZsr
import Derived.Test.YtklfnbckoaphpaaGreatDoorShelf
import Derived.Shelf.Abstract
import Derived.Laws.Runes
import Derived.Shelf.RegionOpen
import Derived.Shelf.RegionOpenPlain
set_option linter.unusedVariables false
set_option linter.unusedSimpArgs false
namespace Go.Proofs.YtklfnbckoaphpaaGreatDoor
open Go Go.RowKit Go.Lib
attribute [local go_sem] Oper.semAt_some
def leftOf (bs : Nat) (w : World) : Nat := match w.cell? ⟨bs, 0, none⟩ with | some (.string r) => r.size | _ => 0
theorem leftOf_eq {W : World} {bs et : Nat} {s : ByteArray} (h : W.heap[bs]? = some (.cells #[.string s] et (0, 0))) : leftOf bs W = s.size := by
  simp [leftOf, World.cell?, h]
theorem stepBs_set (bs : Nat) (W : World) (v : Value) : StepBs bs W (W.setCell ⟨bs, 0, none⟩ v) :=
  ⟨by simp [World.setCell], fun b hb => Below.heap_setCell W ⟨bs, 0, none⟩ v b hb, rfl, rfl, rfl⟩
theorem stepBs_drew (bs : Nat) (W : World) : StepBs bs W W.drew := ⟨rfl, fun _ _ => rfl, rfl, rfl, rfl⟩
theorem heap_setCell_one {W : World} {bs et : Nat} {u : Value} (h : W.heap[bs]? = some (.cells #[u] et (0, 0))) (v : Value) : (W.setCell ⟨bs, 0, none⟩ v).heap[bs]? = some (.cells #[v] et (0, 0)) := by
  obtain ⟨hlt, hk⟩ := Array.getElem?_eq_some_iff.1 h
  show (W.heap.modify bs _)[bs]? = _
  rw [Array.getElem?_eq_getElem (by rw [Array.size_modify]; exact hlt), Array.getElem_modify_self, hk]
  rfl
theorem linesN_more : ∀ (n m : Nat) (s : ByteArray), s.size ≤ n → s.size ≤ m → linesN n s = linesN m s
  | 0, m, s, hn, _ => by
    have : s.size = 0 := by omega
    cases m <;> simp [linesN, this]
  | n + 1, 0, s, _, hm => by
    have : s.size = 0 := by omega
    simp [linesN, this]
  | n + 1, m + 1, s, hn, hm => by
    simp only [linesN]
    by_cases h0 : s.size = 0
    · simp [h0]
    · have h0' : (s.size == 0) = false := by simpa using h0
      rw [h0']
      simp only [cond_false]
      cases decide (0 ≤ Lib.indexByte s.data.toList 10) with
      | false => rfl
      | true =>
        have hsz : (s.extract ((Lib.indexByte s.data.toList 10).toNat + 1) s.size).size ≤ s.size - 1 := by
          rw [ByteArray.size_extract]; omega
        simp only [cond_true]
        rw [linesN_more n m _ (by omega) (by omega)]
theorem linesOf_last {s : ByteArray} (h0 : 0 < s.size) (h : Lib.indexByte s.data.toList 10 < 0) : linesOf s = s :: linesOf ByteArray.empty := by
  have h0' : (s.size == 0) = false := beq_eq_false_iff_ne.2 (by omega)
  unfold linesOf
  obtain ⟨n, hn⟩ : ∃ n, s.size = n + 1 := ⟨s.size - 1, by omega⟩
  rw [hn]
  simp only [linesN, h0', cond_false, decide_eq_false (show ¬ (0 ≤ Lib.indexByte s.data.toList 10) by omega)]
  rfl
theorem linesOf_next {s : ByteArray} {i : Nat} (h : Lib.indexByte s.data.toList 10 = (i : Int)) (hi : i < s.size) : linesOf s = s.extract 0 (i + 1) :: linesOf (s.extract (i + 1) s.size) := by
  have h0' : (s.size == 0) = false := beq_eq_false_iff_ne.2 (by omega)
  unfold linesOf
  obtain ⟨n, hn⟩ : ∃ n, s.size = n + 1 := ⟨s.size - 1, by omega⟩
  rw [hn]
  simp only [linesN, h0', cond_false, h, decide_eq_true (show (0 : Int) ≤ (i : Int) by omega), cond_true, Int.toNat_natCast]
  rw [hn]
  congr 1
  refine linesN_more _ _ _ ?_ (Nat.le_refl _)
  rw [ByteArray.size_extract]; omega
set_option maxHeartbeats 8000000 in
set_option maxRecDepth 1000000 in
theorem lines_ok : LinesOK Tryz.prog 95 := by
  intro n l bs et text J Jx W hts hJ hY hbs h0
  refine callsIn_of_wp (F := Fence.wide) Tryz.func95 rfl trivial ?_ rfl
  simp only [Tryz.ntmps95, List.size_toArray, List.length_cons, List.length_nil, Nat.reduceAdd, Nat.reduceSub, Array.replicate_succ, Array.replicate_zero, List.push_toArray, List.append_toArray, List.nil_append, List.cons_append]
  gi_wp2
  gi_loopw [3, 4] (fun _ _ wr => ∃ pre rest, linesOf text = pre ++ linesOf rest ∧ wr.heap[bs]? = some (.cells #[.string rest] et (0, 0)) ∧ rest.size ≤ text.size ∧ J pre wr) (fun _ _ wr => leftOf bs wr)
  case atStart => exact ⟨[], text, rfl, hbs, Nat.le_refl _, h0⟩
  case round =>
    obtain ⟨pre, rest, hl, hb, hsz, hj⟩ := hrel
    have hc : wr.cell? ⟨bs, 0, none⟩ = some (.string rest) := by simp [World.cell?, hb]
    have hfz : wr.frozen? ⟨bs, 0, none⟩ = false := by simp [World.frozen?, hb]
    rcases Nat.eq_zero_or_pos rest.size with hz | hz
    · have hz' : decide ((0 : Int) < (rest.size : Int)) = false := decide_eq_false (by omega)
      gi_wp2
      go_end0
      have : linesOf rest = [] := by simp [linesOf, hz, linesN]
      rw [this, List.append_nil] at hl
      exact ⟨⟨_, rfl⟩, .inl (by rw [hl]; exact hj)⟩
    · have hz' : decide ((0 : Int) < (rest.size : Int)) = true := decide_eq_true (by omega)
      have hix := Lib.indexByte_ge rest.data.toList 10
      by_cases hneg : Lib.indexByte rest.data.toList 10 < 0
      · have hge : decide (0 ≤ Lib.indexByte rest.data.toList 10) = false := decide_eq_false (by omega)
        have hge' : ¬ (0 ≤ Lib.indexByte rest.data.toList 10) := by omega
        obtain ⟨fn, tmps, assign, body, hy, hR⟩ := hY (n - 1) pre rest ByteArray.empty (wr.setCell ⟨bs, 0, none⟩ (.string ⟨#[]⟩)) (hJ _ _ _ hj (stepBs_set bs wr _)) (heap_setCell_one hb _) (by rw [hl, linesOf_last hz hneg])
        gi_wp2_with (refine ⟨trivial, (fun h => by cases h), ?_⟩; refine (callsIn_wide.2 (Tryz.strings_IndexByte _ _ _)).mono ?_; rintro e w' ⟨rfl, hw⟩; rw [hw])
        gi_wp2
        refine ⟨(fun h => by cases h), hR.mono ?_⟩
        rintro e W' (⟨rfl, hJ', hk⟩ | ⟨rfl, hJx'⟩)
        · gi_wp2
          have hb' : W'.heap[bs]? = some (.cells #[.string ByteArray.empty] et (0, 0)) := hk.trans (heap_setCell_one hb _)
          go_roundw
          case rel => exact ⟨pre ++ [rest], ByteArray.empty, by rw [hl, linesOf_last hz hneg]; simp, hb', Nat.zero_le _, hJ'⟩
          case measure => rw [leftOf_eq hb', leftOf_eq hb]; exact hz
        · gi_wp2
          refine bodyPost_ret (results_none rfl _ _ _) rfl ?_
          exact ⟨⟨_, rfl⟩, .inr ⟨pre, rest, [], by rw [hl, linesOf_last hz hneg]; rfl, hJx'⟩⟩
      · obtain ⟨i, hi⟩ : ∃ i : Nat, Lib.indexByte rest.data.toList 10 = (i : Int) := ⟨(Lib.indexByte rest.data.toList 10).toNat, by omega⟩
        have hil : i < rest.size := (List.getElem?_eq_some_iff.1 (Lib.indexByte_some hi).1).1
        have hge : decide ((0 : Int) ≤ (i : Int)) = true := decide_eq_true (by omega)
        have hge' : (0 : Int) ≤ (i : Int) := by omega
        have mixed : Tryz.prog.follows .mixedOrders = true := by kernel_rfl
        obtain ⟨fn, tmps, assign, body, hy, hR⟩ := hY (n - 1) pre (rest.extract 0 (i + 1)) (rest.extract (i + 1) rest.size) (wr.setCell ⟨bs, 0, none⟩ (.string (rest.extract (i + 1) rest.size))).drew (hJ _ _ _ (hJ _ _ _ hj (stepBs_set bs wr _)) (stepBs_drew bs _)) (heap_setCell_one hb _) (by rw [hl, linesOf_next hi hil])
        have hIB := Tryz.strings_IndexByte rest 10 wr
        rw [show (10 : Int).toNat.toUInt8 = 10 from rfl, hi] at hIB
        gi_wp2_with (refine ⟨trivial, (fun h => by cases h), ?_⟩; refine (callsIn_wide.2 hIB).mono ?_; rintro e w' ⟨rfl, hw⟩; rw [hw])
        refine wpIn_wide.2 ?_
        go_region_o
        gi_wp2
        refine ⟨(fun h => by cases h), hR.mono ?_⟩
        rintro e W' (⟨rfl, hJ', hk⟩ | ⟨rfl, hJx'⟩)
        · gi_wp2
          have hb' : W'.heap[bs]? = some (.cells #[.string (rest.extract (i + 1) rest.size)] et (0, 0)) := hk.trans (heap_setCell_one hb _)
          have hsz' : (rest.extract (i + 1) rest.size).size = rest.size - (i + 1) := by rw [ByteArray.size_extract]; omega
          go_roundw
          case rel => exact ⟨pre ++ [rest.extract 0 (i + 1)], rest.extract (i + 1) rest.size, by rw [hl, linesOf_next hi hil]; simp, hb', by omega, hJ'⟩
          case measure => rw [leftOf_eq hb', leftOf_eq hb, hsz']; omega
        · gi_wp2
          refine bodyPost_ret (results_none rfl _ _ _) rfl ?_
          exact ⟨⟨_, rfl⟩, .inr ⟨pre, rest.extract 0 (i + 1), linesOf (rest.extract (i + 1) rest.size), by rw [hl, linesOf_next hi hil], hJx'⟩⟩
end Go.Proofs.YtklfnbckoaphpaaGreatDoor
