/- strings.SplitSeq at a text and ";": its iterator goes through the parts. Conditions: the text is no longer than 4611686018427387904 bytes. -/
import Derived.Test.YtklfnbckoaphpaaGreatDoorEvZsi
import Derived.Test.YtklfnbckoaphpaaGreatDoorShelf
import Derived.Shelf.Abstract
import Derived.Laws.Runes
import Derived.Shelf.RegionOpen
import Derived.Shelf.RegionOpenPlain
set_option linter.unusedVariables false
set_option linter.unusedSimpArgs false
namespace Go.Proofs.YtklfnbckoaphpaaGreatDoor
open Go Go.RowKit Go.Lib
attribute [local go_sem] Oper.semAt_some
def leftOf (bs : Nat) (w : World) : Nat := match w.cell? ⟨bs, 0, none⟩ with | some (.string r) => r.size | _ => 0
theorem leftOf_eq {W : World} {bs et : Nat} {s : ByteArray} (h : W.heap[bs]? = some (.cells #[.string s] et (0, 0))) : leftOf bs W = s.size := by
  simp [leftOf, World.cell?, h]
theorem stepS_set {S : Nat → Prop} {bs : Nat} (hb : S bs) (W : World) (v : Value) : StepS S W (W.setCell ⟨bs, 0, none⟩ v) :=
  ⟨by simp [World.setCell], fun b h => Below.heap_setCell W ⟨bs, 0, none⟩ v b fun e => h (by rw [e]; exact hb), rfl, rfl, rfl⟩
theorem heap_setCell_one {W : World} {bs et : Nat} {u : Value} (h : W.heap[bs]? = some (.cells #[u] et (0, 0))) (v : Value) : (W.setCell ⟨bs, 0, none⟩ v).heap[bs]? = some (.cells #[v] et (0, 0)) := by
  obtain ⟨hlt, hk⟩ := Array.getElem?_eq_some_iff.1 h
  show (W.heap.modify bs _)[bs]? = _
  rw [Array.getElem?_eq_getElem (by rw [Array.size_modify]; exact hlt), Array.getElem_modify_self, hk]
  rfl
/-- the parts of a text between bytes -/
def splN (c : UInt8) : Nat → ByteArray → List ByteArray
  | 0, s => [s]
  | n + 1, s => bif decide (0 ≤ Lib.indexByte s.data.toList c) then s.extract 0 (Lib.indexByte s.data.toList c).toNat :: splN c n (s.extract ((Lib.indexByte s.data.toList c).toNat + 1) s.size) else [s]
def splOf (c : UInt8) (s : ByteArray) : List ByteArray := splN c s.size s
theorem splN_more (c : UInt8) : ∀ (n m : Nat) (s : ByteArray), s.size ≤ n → s.size ≤ m → splN c n s = splN c m s
  | 0, m, s, hn, _ => by
    have hz : s.data.toList = [] := List.eq_nil_of_length_eq_zero (by have : s.data.toList.length = s.size := rfl; omega)
    cases m with
    | zero => rfl
    | succ m => simp [splN, hz, Lib.indexByte]
  | n + 1, 0, s, _, hm => by
    have hz : s.data.toList = [] := List.eq_nil_of_length_eq_zero (by have : s.data.toList.length = s.size := rfl; omega)
    simp [splN, hz, Lib.indexByte]
  | n + 1, m + 1, s, hn, hm => by
    simp only [splN]
    cases hd : decide (0 ≤ Lib.indexByte s.data.toList c) with
    | false => rfl
    | true =>
      simp only [cond_true]
      have h0 := of_decide_eq_true hd
      obtain ⟨i, hi⟩ : ∃ i : Nat, Lib.indexByte s.data.toList c = (i : Int) := ⟨(Lib.indexByte s.data.toList c).toNat, by omega⟩
      have hil : i < s.size := (List.getElem?_eq_some_iff.1 (Lib.indexByte_some hi).1).1
      rw [splN_more c n m _ (by rw [ByteArray.size_extract]; omega) (by rw [ByteArray.size_extract]; omega)]
theorem splOf_last {c : UInt8} {s : ByteArray} (h : Lib.indexByte s.data.toList c < 0) : splOf c s = [s] := by
  unfold splOf
  cases s.size with
  | zero => rfl
  | succ n => simp only [splN, decide_eq_false (show ¬ (0 ≤ Lib.indexByte s.data.toList c) by omega), cond_false]
theorem splOf_next {c : UInt8} {s : ByteArray} {i : Nat} (h : Lib.indexByte s.data.toList c = (i : Int)) (hi : i < s.size) : splOf c s = s.extract 0 i :: splOf c (s.extract (i + 1) s.size) := by
  unfold splOf
  obtain ⟨n, hn⟩ : ∃ n, s.size = n + 1 := ⟨s.size - 1, by omega⟩
  rw [hn]
  simp only [splN, h, decide_eq_true (show (0 : Int) ≤ (i : Int) by omega), cond_true, Int.toNat_natCast]
  rw [hn]
  congr 1
  refine splN_more _ _ _ _ ?_ (Nat.le_refl _)
  rw [ByteArray.size_extract]; omega
set_option maxHeartbeats 8000000 in
set_option maxRecDepth 1000000 in
theorem split_ok {bs bp bq es ep eq : Nat} (h1 : bs ≠ bp) (h2 : bs ≠ bq) {text : ByteArray} (hts : text.size ≤ 4611686018427387904) :
    IterOK Tryz.prog 218 #[.pointer (some ⟨bp, 0, none⟩), .pointer (some ⟨bs, 0, none⟩), .pointer (some ⟨bq, 0, none⟩)] (fun b => b = bs ∨ b = bp ∨ b = bq)
      (fun W => W.heap[bs]? = some (.cells #[.string text] es (0, 0)) ∧ W.heap[bp]? = some (.cells #[.string ⟨#[59]⟩] ep (0, 0)) ∧ W.heap[bq]? = some (.cells #[.int .i64 0] eq (0, 0))) (splOf 59 text) := by
  intro n l J Jx W hJ hY hI h0
  obtain ⟨hbs, hbp, hbq⟩ := hI
  refine callsIn_of_wp (F := Fence.wide) Tryz.func218 rfl trivial ?_ rfl
  simp only [Tryz.ntmps218, List.size_toArray, List.length_cons, List.length_nil, Nat.reduceAdd, Nat.reduceSub, Array.replicate_succ, Array.replicate_zero, List.push_toArray, List.append_toArray, List.nil_append, List.cons_append]
  have hc0 : W.cell? ⟨bp, 0, none⟩ = some (.string ⟨#[59]⟩) := by simp [World.cell?, hbp]
  have hz59 : ((⟨#[59]⟩ : ByteArray).size : Int) = 1 := rfl
  gi_wp2
  gi_loopw [7, 8] (fun _ _ wr => ∃ pre rest, splOf 59 text = pre ++ splOf 59 rest ∧ wr.heap[bs]? = some (.cells #[.string rest] es (0, 0)) ∧ wr.heap[bp]? = some (.cells #[.string ⟨#[59]⟩] ep (0, 0)) ∧ wr.heap[bq]? = some (.cells #[.int .i64 0] eq (0, 0)) ∧ rest.size ≤ text.size ∧ J pre wr) (fun _ _ wr => leftOf bs wr)
  case atStart => exact ⟨[], text, rfl, hbs, hbp, hbq, Nat.le_refl _, h0⟩
  case round =>
    obtain ⟨pre, rest, hl, hb, hp, hq, hsz, hj⟩ := hrel
    have hcs : wr.cell? ⟨bs, 0, none⟩ = some (.string rest) := by simp [World.cell?, hb]
    have hcp : wr.cell? ⟨bp, 0, none⟩ = some (.string ⟨#[59]⟩) := by simp [World.cell?, hp]
    have hcq : wr.cell? ⟨bq, 0, none⟩ = some (.int .i64 0) := by simp [World.cell?, hq]
    have hIX := Tryz.strings_Index_one rest 59 wr
    have hixge := Lib.indexByte_ge rest.data.toList 59
    by_cases hneg : Lib.indexByte rest.data.toList 59 < 0
    · obtain ⟨fn, tmps, assign, body, hy, hR⟩ := hY (n - 1) pre rest [] wr hj (by rw [hl, splOf_last hneg])
      gi_wp2_with (refine ⟨trivial, (fun h => by cases h), ?_⟩; refine (callsIn_wide.2 hIX).mono ?_; rintro e w' ⟨rfl, hw⟩; rw [hw])
      gi_wp2
      refine ⟨(fun h => by cases h), hR.mono ?_⟩
      rintro e W' (⟨rfl, hJ', hk⟩ | ⟨rfl, hJx'⟩)
      · gi_wp2
        go_end0
        exact ⟨⟨_, rfl⟩, .inl (by rw [hl, splOf_last hneg]; exact hJ')⟩
      · gi_wp2
        go_end0
        exact ⟨⟨_, rfl⟩, .inr ⟨pre, rest, [], by rw [hl, splOf_last hneg], hJx'⟩⟩
    · obtain ⟨i, hi⟩ : ∃ i : Nat, Lib.indexByte rest.data.toList 59 = (i : Int) := ⟨(Lib.indexByte rest.data.toList 59).toNat, by omega⟩
      have hil : i < rest.size := (List.getElem?_eq_some_iff.1 (Lib.indexByte_some hi).1).1
      have hge' : ¬ ((i : Int) < 0) := by omega
      rw [hi] at hIX
      obtain ⟨fn, tmps, assign, body, hy, hR⟩ := hY (n - 1) pre (rest.extract 0 i) (splOf 59 (rest.extract (i + 1) rest.size)) wr hj (by rw [hl, splOf_next hi hil])
      gi_wp2_with (refine ⟨trivial, (fun h => by cases h), ?_⟩; refine (callsIn_wide.2 hIX).mono ?_; rintro e w' ⟨rfl, hw⟩; rw [hw])
      gi_wp2
      refine ⟨(fun h => by cases h), hR.mono ?_⟩
      rintro e W' (⟨rfl, hJ', hk⟩ | ⟨rfl, hJx'⟩)
      · have hbs' : W'.heap[bs]? = some (.cells #[.string rest] es (0, 0)) := (hk bs (.inl rfl)).trans hb
        have hbp' : W'.heap[bp]? = some (.cells #[.string ⟨#[59]⟩] ep (0, 0)) := (hk bp (.inr (.inl rfl))).trans hp
        have hbq' : W'.heap[bq]? = some (.cells #[.int .i64 0] eq (0, 0)) := (hk bq (.inr (.inr rfl))).trans hq
        have hcs' : W'.cell? ⟨bs, 0, none⟩ = some (.string rest) := by simp [World.cell?, hbs']
        have hcp' : W'.cell? ⟨bp, 0, none⟩ = some (.string ⟨#[59]⟩) := by simp [World.cell?, hbp']
        have hfz : W'.frozen? ⟨bs, 0, none⟩ = false := by simp [World.frozen?, hbs']
        gi_wp2
        have hbn := heap_setCell_one hbs' (.string (rest.extract (i + 1) rest.size))
        have ho : ∀ k, k ≠ bs → (W'.setCell ⟨bs, 0, none⟩ (.string (rest.extract (i + 1) rest.size))).heap[k]? = W'.heap[k]? := fun k hk => Below.heap_setCell W' ⟨bs, 0, none⟩ _ k hk
        have hsz' : (rest.extract (i + 1) rest.size).size = rest.size - (i + 1) := by rw [ByteArray.size_extract]; omega
        refine ⟨⟨pre ++ [rest.extract 0 i], rest.extract (i + 1) rest.size, by rw [hl, splOf_next hi hil]; simp, hbn, (ho bp (Ne.symm h1)).trans hbp', (ho bq (Ne.symm h2)).trans hbq', by omega, hJ _ _ _ hJ' (stepS_set (.inl rfl) _ _)⟩, ?_⟩
        rw [leftOf_eq hbn, leftOf_eq hb, hsz']; omega
      · gi_wp2
        refine bodyPost_ret (results_none rfl _ _ _) rfl ?_
        exact ⟨⟨_, rfl⟩, .inr ⟨pre, rest.extract 0 i, splOf 59 (rest.extract (i + 1) rest.size), by rw [hl, splOf_next hi hil], hJx'⟩⟩
end Go.Proofs.YtklfnbckoaphpaaGreatDoor
