/- strings.NewReplacer("l", "r", "r", "l").Replace and the movement that is mirrored: own walks. Conditions: the text is no longer than an int. -/
import Derived.Test.YtklfnbckoaphpaaGreatDoorShelf
import Derived.Lib.BufferMore
import Derived.Laws.NewBlocks
import Derived.Defers
import Derived.Laws.Pointers
import Derived.Laws.LoneSync
import Derived.RegionTactic
import Derived.RegionCalls
import Derived.WalkMore
import Derived.WalkKit
import Derived.Lib.Walk
import Derived.LoopN
import Derived.Shelf.RegionOpenPlain
import Derived.Deep.WholeRow
import Derived.Lib.ConvBytes
import Derived.Laws.BytesString
import Derived.Laws.IdiomStrings
import Derived.Below
/- strings.NewReplacer("l", "r", "r", "l"): the parts of sync.Once's slow road, each a contract of its own (after the worked texts LazyParts, LazySlow). Conditions: the lock free, not yet done. -/
set_option linter.unusedVariables false
set_option linter.unusedSimpArgs false
namespace Go.Proofs.YtklfnbckoaphpaaGreatDoor
open Go Go.RowKit Go.Lib
theorem rp_disable (w : World) : (callFunc 289 #[]).run Tryz.prog w = .ok (.value (.tuple #[])) w := run_call_mark0 Tryz.func289 (by kernel_rfl) (by kernel_rfl) (by kernel_rfl) .disable (by kernel_rfl) w
theorem rp_enable (w : World) : (callFunc 291 #[]).run Tryz.prog w = .ok (.value (.tuple #[])) w := run_call_mark0 Tryz.func291 (by kernel_rfl) (by kernel_rfl) (by kernel_rfl) .enable (by kernel_rfl) w
theorem rp_acquire (a : Addr) (w : World) : (callFunc 292 #[.pointer (some a)]).run Tryz.prog w = .ok (.value (.tuple #[])) w := run_call_marked Tryz.func292 (by kernel_rfl) (by kernel_rfl) (by kernel_rfl) .acquire (by kernel_rfl) a w
theorem rp_releaseMerge (a : Addr) (w : World) : (callFunc 294 #[.pointer (some a)]).run Tryz.prog w = .ok (.value (.tuple #[])) w := run_call_marked Tryz.func294 (by kernel_rfl) (by kernel_rfl) (by kernel_rfl) .releaseMerge (by kernel_rfl) a w

set_option maxHeartbeats 8000000 in
set_option maxRecDepth 1000000 in
theorem rp_store_deferred (a : Addr) (x : Value) (u : FrameMode) (w : World) (hc : w.cell? a = some x) (hz : w.frozen? a = false) :
    CallsD Tryz.prog 267 #[.pointer (some a), .bool true] u w fun e u' w' => u' = u ∧ (e = .returned (.tuple #[]) ∧ w' = w.drew.setCell a (.int .u32 1)) := by
  have hc' : w.drew.cell? a = some x := by go_simp
  have hz' : w.drew.frozen? a = false := by go_simp
  have hst := run_call_store (P := Tryz.prog) Tryz.func279 (by kernel_rfl) (by kernel_rfl) (by kernel_rfl) (by kernel_rfl) (k := .u32) (y := 1) hc' hz'
  go_enter_d Tryz.func267, Tryz.ntmps267
  go_wp2
  go_region_calls
  all_goals (go_end0; exact ⟨rfl, rfl⟩)

set_option maxHeartbeats 8000000 in
set_option maxRecDepth 1000000 in
theorem rp_unlock_deferred (a : Addr) (u : FrameMode) (w : World) (hc : w.cell? a = some (.int .i32 1)) (hz : w.frozen? a = false) :
    CallsD Tryz.prog 266 #[.pointer (some a)] u w fun e u' w' => u' = u ∧ (e = .returned (.tuple #[]) ∧ w' = w.setCell a (.int .i32 0)) := by
  have hd := rp_disable
  have he := rp_enable
  have hr := rp_releaseMerge
  have hadd := run_call_add (P := Tryz.prog) Tryz.func295 (by kernel_rfl) (by kernel_rfl) (by kernel_rfl) .i32 (by kernel_rfl) (y := -1) (s := 0) hc hz (by simp [go_sem]; rfl)
  have hcv := run_convert_to_unsafe (P := Tryz.prog) (src := 324) (dst := 265) Tryz.underlying324 Tryz.underlying265 (by kernel_rfl) hc
  go_enter_d Tryz.func266, Tryz.ntmps266
  go_wp2
  go_end0
  go_wp2
  go_end0
  exact ⟨rfl, rfl⟩

set_option maxHeartbeats 8000000 in
set_option maxRecDepth 1000000 in
theorem rp_lock_free (a : Addr) (w : World) (hc : w.cell? a = some (.int .i32 0)) (hz : w.frozen? a = false) :
    Calls Tryz.prog 265 #[.pointer (some a)] w fun e w' => e = .returned (.tuple #[]) ∧ w' = w.setCell a (.int .i32 1) := by
  have hd := rp_disable
  have he := rp_enable
  have ha := rp_acquire
  have hcas := run_call_cas_hit (P := Tryz.prog) Tryz.func290 (by kernel_rfl) (by kernel_rfl) (by kernel_rfl) .i32 (by kernel_rfl) (y := 1) hc hz
  have hc' : (w.setCell a (.int .i32 1)).cell? a = some (.int .i32 1) := World.cell?_setCell_same w a _ hc
  have hcv := run_convert_to_unsafe (P := Tryz.prog) (src := 324) (dst := 265) Tryz.underlying324 Tryz.underlying265 (by kernel_rfl) hc'
  go_enter Tryz.func265, Tryz.ntmps265
  go_wp2
  first | go_end0 | (simp only [Exit.inBlock, Exit.then]; refine bodyPost_ret (results_none rfl _ _ _) rfl ?_) | refine bodyPost_ret (results_none rfl _ _ _) rfl ?_
  go_wp2
  go_end0
  exact ⟨rfl, rfl⟩

/-- the table in which left and right are exchanged -/
def rpTab0 (k : Nat) : Array Value := ((Array.range 256).map fun i => .int .u8 (if i < k then (i : Int) else 0))
def rpSwap (i : Nat) : Nat := if i = 108 then 114 else if i = 114 then 108 else i
def rpTab : Array Value := ((Array.range 256).map fun i => .int .u8 (rpSwap i : Int))
end Go.Proofs.YtklfnbckoaphpaaGreatDoor
/- strings.NewReplacer("l", "r", "r", "l"): the table that is built. Conditions: the cells of the arguments' row. -/
set_option linter.unusedVariables false
set_option linter.unusedSimpArgs false
namespace Go.Proofs.YtklfnbckoaphpaaGreatDoor
open Go Go.RowKit Go.Lib
theorem rpTab0_get (k i : Nat) (h : i < 256) : (rpTab0 k)[i]? = some (.int .u8 (if i < k then (i : Int) else 0)) := by
  unfold rpTab0
  rw [Array.getElem?_map, Array.getElem?_range, if_pos h]
  rfl
theorem rpTab0_at (k : Nat) (h : k < 256) : (rpTab0 k)[k]? = some (.int .u8 0) := by
  rw [rpTab0_get k k h, if_neg (by omega)]
theorem rpTab0_size (k : Nat) : (rpTab0 k).size = 256 := by simp [rpTab0]
theorem rpTab0_set (k : Nat) (h : k < 256) : (rpTab0 k).setIfInBounds k (.int .u8 (k : Int)) = rpTab0 (k + 1) := by
  apply Array.ext_getElem?
  intro i
  rw [Array.getElem?_setIfInBounds]
  by_cases hi : i < 256
  · rw [rpTab0_get (k + 1) i hi]
    by_cases hk : k = i
    · subst hk
      rw [if_pos rfl, if_pos (by rw [rpTab0_size]; exact h), if_pos (by omega)]
    · rw [if_neg hk, rpTab0_get k i hi]
      by_cases hlt : i < k
      · rw [if_pos hlt, if_pos (by omega)]
      · rw [if_neg hlt, if_neg (by omega)]
  · have e1 : (rpTab0 k)[i]? = none := Array.getElem?_eq_none (by rw [rpTab0_size]; omega)
    have e2 : (rpTab0 (k + 1))[i]? = none := Array.getElem?_eq_none (by rw [rpTab0_size]; omega)
    rw [if_neg (by omega), e1, e2]
set_option maxHeartbeats 8000000 in
set_option maxRecDepth 1000000 in
theorem rp_build (p q c : Nat) (w : World) (hq : q < w.heap.size) (hr : w.cell? ⟨p, 4, none⟩ = some (.slice (some ⟨q, 0, none⟩) 4 c))
    (h0 : w.cell? ⟨q, 0, none⟩ = some (.string ⟨#[108]⟩)) (h1 : w.cell? ⟨q, 1, none⟩ = some (.string ⟨#[114]⟩)) (h2 : w.cell? ⟨q, 2, none⟩ = some (.string ⟨#[114]⟩)) (h3 : w.cell? ⟨q, 3, none⟩ = some (.string ⟨#[108]⟩)) :
    Calls Tryz.prog 254 #[.pointer (some ⟨p, 0, none⟩)] w fun e w' => e = .returned (.iface 289 (.pointer (some ⟨w.heap.size, 0, none⟩))) ∧ w' = w.alloc (.cells rpTab 288) := by
  have hz : Tryz.zeroCells288 = rpTab0 0 := by kernel_rfl
  have hsz : (rpTab0 0).size = 256 := by kernel_rfl
  have hst := run_storeCells_new (P := Tryz.prog) w 288 (rpTab0 0) (rpTab0 0) (by kernel_rfl) (by kernel_rfl) (by kernel_rfl)
  go_enter Tryz.func254, Tryz.ntmps254
  go_wp2
  apply wp_loop_rounds 3
  rw [rounds_succ]
  go_wp2
  try rw [rounds_succ]
  go_wp2
  try rw [rounds_succ]
  go_wp2
  go_loopw [61] (fun i wr => ∃ k : Nat, k ≤ 256 ∧ i = .int .i64 k ∧ wr = w.alloc (.cells (rpTab0 k) 288)) (fun i _ => 256 - (Go.RowKit.intOf i).toNat)
  case atStart => exact ⟨0, Nat.zero_le _, rfl, rfl⟩
  case round =>
    obtain ⟨k, hk, rfl, rfl⟩ := hrel
    have hck : (k : Int) < 256 → (rpTab0 k)[k]? = some (.int .u8 0) := fun h => rpTab0_at k (by omega)
    go_wp2
    · go_roundw
      case rel =>
        have hlt : k < 256 := by omega
        exact ⟨k + 1, by omega, by go_num, by rw [rpTab0_set k hlt]⟩
      case measure => simp [Go.RowKit.intOf]; omega
    · have hk' : k = 256 := by omega
      subst hk'
      clear hck
      have c1 : (rpTab0 256)[114]? = some (.int .u8 114) := by kernel_rfl
      have c2 : ((rpTab0 256).setIfInBounds 114 (.int .u8 108))[108]? = some (.int .u8 108) := by kernel_rfl
      have c3 : ((rpTab0 256).setIfInBounds 114 (.int .u8 108)).setIfInBounds 108 (.int .u8 114) = rpTab := by kernel_rfl
      have hpast : ∀ (o : Obj) (i : Nat), (w.alloc o).cell? ⟨q, i, none⟩ = w.cell? ⟨q, i, none⟩ := fun o i => World.cell?_alloc_past _ _ _ hq
      have hx1 : ∀ h, ((⟨#[114]⟩ : ByteArray)[0]'h).toNat = 114 := fun _ => rfl
      have hx2 : ∀ h, ((⟨#[108]⟩ : ByteArray)[0]'h).toNat = 108 := fun _ => rfl
      apply wp_loop_rounds 3
      rw [rounds_succ]
      go_wp2
      try rw [rounds_succ]
      go_wp2
      try rw [rounds_succ]
      go_wp2
      all_goals go_ret
      exact ⟨rfl, rfl⟩
end Go.Proofs.YtklfnbckoaphpaaGreatDoor
/- strings.NewReplacer("l", "r", "r", "l"): a text by the table. Conditions: the table's block, the text's length. -/
set_option linter.unusedVariables false
set_option linter.unusedSimpArgs false
namespace Go.Proofs.YtklfnbckoaphpaaGreatDoor
open Go Go.RowKit Go.Lib
def rpByte (c : UInt8) : UInt8 := if c = 108 then 114 else if c = 114 then 108 else c
def rpStr (s : ByteArray) : ByteArray := ⟨(s.data.toList.map rpByte).toArray⟩
theorem rpByte_nat (c : UInt8) : (rpByte c).toNat = rpSwap c.toNat := by
  unfold rpByte rpSwap
  by_cases h1 : c = 108
  · subst h1; rfl
  · have h1' : ¬ c.toNat = 108 := fun h => h1 (UInt8.toNat_inj.1 h)
    rw [if_neg h1, if_neg h1']
    by_cases h2 : c = 114
    · subst h2; rfl
    · have h2' : ¬ c.toNat = 114 := fun h => h2 (UInt8.toNat_inj.1 h)
      rw [if_neg h2, if_neg h2']
theorem rpTab_at (i : Nat) (h : i < 256) : rpTab[i]? = some (.int .u8 (rpSwap i : Int)) := by
  unfold rpTab
  rw [Array.getElem?_map, Array.getElem?_range, if_pos h]
  rfl
def rpAt (s : ByteArray) (j : Nat) : UInt8 := s.data.toList.getD j 0
theorem rpAt_get (s : ByteArray) (k : Nat) (h : k < s.size) : s[k] = rpAt s k := by
  unfold rpAt
  rw [List.getD, List.getElem?_eq_getElem (by simpa using h)]
  rfl
/-- what lies in the row in round k -/
def rpCell (s : ByteArray) (k j : Nat) : Value := .int .u8 ((if j < k then rpByte (rpAt s j) else rpAt s j).toNat : Int)
structure RpRow (w wr : World) (s : ByteArray) (k : Nat) : Prop where
  below : Below w.heap.size w wr
  size : w.heap.size < wr.heap.size
  cell : ∀ j, j < s.size → wr.cell? ⟨w.heap.size, j, none⟩ = some (rpCell s k j)
  frz : ∀ j, j < s.size → wr.frozen? ⟨w.heap.size, j, none⟩ = false
theorem rpCell_succ (s : ByteArray) (k j : Nat) (h : j ≠ k) : rpCell s (k + 1) j = rpCell s k j := by
  unfold rpCell
  by_cases hj : j < k
  · rw [if_pos hj, if_pos (by omega)]
  · rw [if_neg hj, if_neg (by omega)]
theorem rpCell_at (s : ByteArray) (k : Nat) : rpCell s (k + 1) k = .int .u8 (rpSwap (rpAt s k).toNat : Int) := by
  unfold rpCell
  rw [if_pos (by omega), rpByte_nat]
theorem RpRow.same {w wr : World} {s : ByteArray} {k : Nat} (h : RpRow w wr s k) (he : rpByte (rpAt s k) = rpAt s k) : RpRow w wr s (k + 1) := by
  refine ⟨h.below, h.size, fun j hj => ?_, h.frz⟩
  rw [h.cell j hj]
  by_cases e : j = k
  · subst e
    unfold rpCell
    rw [if_neg (by omega), if_pos (by omega), he]
  · rw [rpCell_succ s k j e]
theorem RpRow.set {w wr : World} {s : ByteArray} {k : Nat} (h : RpRow w wr s k) (hk : k < s.size) : RpRow w (wr.setCell ⟨w.heap.size, k, none⟩ (.int .u8 (rpSwap (rpAt s k).toNat : Int))) s (k + 1) := by
  refine ⟨h.below.setCell (Nat.le_refl _) _, by simpa [World.setCell] using h.size, fun j hj => ?_, fun j hj => ?_⟩
  · by_cases e : j = k
    · subst e
      rw [World.cell?_setCell_same _ _ _ (h.cell j hj), rpCell_at]
    · rw [World.cell?_setCell_other _ _ _ _ (by intro q; exact e (congrArg Addr.off q).symm), h.cell j hj, rpCell_succ s k j e]
  · rw [World.frozen?_setCell]; exact h.frz j hj
theorem rpRow_start (w : World) (s : ByteArray) (e : TypeId) (k : Nat) (hs : ∀ j, j < k → rpByte (rpAt s j) = rpAt s j) : RpRow w (bytesWorld w e s) s k := by
  have hat := bytesWorld_at_new w e s
  refine ⟨⟨rfl, rfl, rfl, by rw [bytesWorld_size]; omega, fun b hb => bytesWorld_at_old w e s b hb⟩, by rw [bytesWorld_size]; omega, fun j hj => ?_, fun j hj => ?_⟩
  · rw [bytesWorld_cell w e s j hj]
    unfold rpCell
    by_cases hjk : j < k
    · rw [if_pos hjk, hs j hjk]; rfl
    · rw [if_neg hjk]; rfl
  · have hsz : s.size ≤ (bytesCells w e s).size := by simp [bytesCells]
    simp only [World.frozen?, hat]
    simp
    omega
theorem rpStr_same (s : ByteArray) (h : ∀ j, j < s.size → rpByte (rpAt s j) = rpAt s j) : rpStr s = s := by
  unfold rpStr
  have : s.data.toList.map rpByte = s.data.toList := by
    apply List.ext_getElem
    · simp
    · intro i h1 h2
      rw [List.getElem_map]
      have := h i (by simpa using h2)
      unfold rpAt at this
      rw [List.getD, List.getElem?_eq_getElem h2] at this
      exact this
  rw [this]
theorem rpStr_size (s : ByteArray) : (rpStr s).data.toList.length = s.size := by simp [rpStr]
theorem rpStr_at (s : ByteArray) (j : Nat) (h : j < (rpStr s).data.toList.length) : (rpStr s).data.toList[j] = rpByte (rpAt s j) := by
  have hs : j < s.data.toList.length := by rw [rpStr_size] at h; simpa using h
  have e : (rpStr s).data.toList = s.data.toList.map rpByte := by simp [rpStr]
  simp only [e, List.getElem_map, rpAt, List.getD, List.getElem?_eq_getElem hs, Option.getD_some]
set_option maxHeartbeats 8000000 in
set_option maxRecDepth 1000000 in
theorem rp_bytes (b : Nat) (s : ByteArray) (w : World) (hn : s.size ≤ 9223372036854775806) (hb : w.heap[b]? = some (.cells rpTab 288 (0, 0))) :
    Calls Tryz.prog 333 #[.pointer (some ⟨b, 0, none⟩), .string s] w fun e w' => e = .returned (.string (rpStr s)) ∧ Below w.heap.size w w' := by
  have hlt : b < w.heap.size := (Array.getElem?_eq_some_iff.1 hb).1
  have hread : ∀ wr : World, Below w.heap.size w wr → ∀ i, i < 256 → wr.cell? ⟨b, i, none⟩ = some (.int .u8 (rpSwap i : Int)) := fun wr hw i hi => by
    have h1 : wr.heap[b]? = some (.cells rpTab 288 (0, 0)) := (hw.block b hlt).trans hb
    simp [World.cell?, h1, rpTab_at i hi]
  go_enter Tryz.func333, Tryz.ntmps333
  go_wp2
  go_loopw [5, 6] (fun bf i wr => ∃ k : Nat, k ≤ s.size ∧ i = .int .i64 k ∧ ((bf = .slice none 0 0 ∧ wr = w ∧ ∀ j, j < k → rpByte (rpAt s j) = rpAt s j) ∨ ∃ c : Nat, bf = .slice (some ⟨w.heap.size, 0, none⟩) s.size c ∧ RpRow w wr s k)) (fun _ i _ => s.size - (Go.RowKit.intOf i).toNat)
  case atStart => exact ⟨0, Nat.zero_le _, rfl, .inl ⟨rfl, rfl, fun j hj => by omega⟩⟩
  case round =>
    obtain ⟨k, hk, rfl, hc⟩ := hrel
    have u9 := Tryz.underlying9
    have u115 := Tryz.underlying119
    have u5 := Tryz.underlying5
    have hget : ∀ h, s[k]'h = rpAt s k := fun h => rpAt_get s k h
    have hby : (rpAt s k).toNat < 256 := (rpAt s k).toNat_lt
    have hby1 : ((rpAt s k).toNat : Int) < 256 := by omega
    rcases hc with ⟨rfl, rfl, hsame⟩ | ⟨c, rfl, hrow⟩
    · have hnil : ∀ W, (binOp .eql 119 (.slice none 0 0) (.slice none 0 0)).run Tryz.prog W = .ok (.bool true) W := fun W => Lib.run_eql_slice_nil_nil W _ _ u115
      rcases Nat.lt_or_eq_of_le hk with hlt' | rfl
      · have hcell := hread wr (Below.refl _ _) _ hby
        by_cases hch : rpByte (rpAt s k) = rpAt s k
        · have hne : rpSwap (rpAt s k).toNat = (rpAt s k).toNat := by rw [← rpByte_nat, hch]
          clear hread
          go_wp2
          go_roundw
          case rel => exact ⟨k + 1, by omega, by go_num, .inl ⟨rfl, trivial, fun j hj => by
            rcases Nat.lt_or_eq_of_le (Nat.le_of_lt_succ hj) with h | rfl
            · exact hsame j h
            · exact hch⟩⟩
          case measure => simp [Go.RowKit.intOf]; omega
        · have hne : (((rpSwap (rpAt s k).toNat : Nat) : Int) != (((rpAt s k).toNat : Nat) : Int)) = true := by
            rw [bne_iff_ne]
            intro q
            refine hch (UInt8.toNat_inj.1 ?_)
            rw [rpByte_nat]
            omega
          have hcv := fun W => Lib.run_convert_string_bytes (P := Tryz.prog) W 9 119 5 s u9 u115 u5
          have hr0 := rpRow_start wr s 5 k hsame
          have hcell2 := hread _ hr0.below _ hby
          have hc3 := hr0.cell k hlt'
          have hf3 := hr0.frz k hlt'
          have hr1 := hr0.set hlt'
          clear hread hsame
          go_wp2
          go_roundw
          case rel => exact ⟨k + 1, by omega, by go_num, .inr ⟨_, rfl, hr1⟩⟩
          case measure => simp [Go.RowKit.intOf]; omega
      · clear hread
        go_wp2
        go_ret
        exact ⟨by rw [rpStr_same s hsame]; rfl, Below.refl _ _⟩
    · have hnil : ∀ W, (binOp .eql 119 (.slice (some ⟨w.heap.size, 0, none⟩) s.size c) (.slice none 0 0)).run Tryz.prog W = .ok (.bool false) W := fun W => Lib.run_eql_slice_some_nil W _ _ _ u115
      rcases Nat.lt_or_eq_of_le hk with hlt' | rfl
      · have hcell := hread wr hrow.below _ hby
        have hc3 := hrow.cell k hlt'
        have hf3 := hrow.frz k hlt'
        by_cases hch : rpByte (rpAt s k) = rpAt s k
        · have hne : rpSwap (rpAt s k).toNat = (rpAt s k).toNat := by rw [← rpByte_nat, hch]
          have hr1 := hrow.same hch
          clear hread
          go_wp2
          go_roundw
          case rel => exact ⟨k + 1, by omega, by go_num, .inr ⟨_, rfl, hr1⟩⟩
          case measure => simp [Go.RowKit.intOf]; omega
        · have hne : (((rpSwap (rpAt s k).toNat : Nat) : Int) != (((rpAt s k).toNat : Nat) : Int)) = true := by
            rw [bne_iff_ne]
            intro q
            refine hch (UInt8.toNat_inj.1 ?_)
            rw [rpByte_nat]
            omega
          have hr1 := hrow.set hlt'
          clear hread
          go_wp2
          go_roundw
          case rel => exact ⟨k + 1, by omega, by go_num, .inr ⟨_, rfl, hr1⟩⟩
          case measure => simp [Go.RowKit.intOf]; omega
      · have hlen := rpStr_size s
        have hcb := run_convert_bytes_back (P := Tryz.prog) wr 119 9 5 ⟨w.heap.size, 0, none⟩ c (rpStr s).data.toList u115 u5 u9 (fun j hj => by
          rw [rpStr_at s j hj]
          have hj' : j < s.size := by omega
          have := hrow.cell j hj'
          unfold rpCell at this
          rw [if_pos hj'] at this
          have hadd : (⟨w.heap.size, 0, none⟩ : Addr).add j = ⟨w.heap.size, j, none⟩ := by unfold Addr.add; split <;> simp_all
          rw [hadd]
          exact this)
        rw [hlen] at hcb
        have hbk := hrow.below
        clear hread hrow
        go_wp2
        go_ret
        exact ⟨rfl, hbk⟩
end Go.Proofs.YtklfnbckoaphpaaGreatDoor
/- strings.NewReplacer("l", "r", "r", "l").Replace: built once, then asked. Conditions: the blocks are new, the text's length. -/
set_option linter.unusedVariables false
set_option linter.unusedSimpArgs false
namespace Go.Proofs.YtklfnbckoaphpaaGreatDoor
open Go Go.RowKit Go.Lib
theorem rp_size_set (w : World) (a : Addr) (v : Value) : (w.setCell a v).heap.size = w.heap.size := by simp [World.setCell]
theorem rp_size_alloc (w : World) (o : Obj) : (w.alloc o).heap.size = w.heap.size + 1 := Array.size_push ..
/-- not yet built: the five cells of the Replacer, the four of its arguments -/
structure RpNew (W0 p q c : Nat) (m : Int) (w : World) : Prop where
  hp : W0 ≤ p
  hq : W0 ≤ q
  ne : p ≠ q
  hw : W0 ≤ w.heap.size
  pq : p < w.heap.size
  qq : q < w.heap.size
  c0 : w.cell? ⟨p, 0, none⟩ = some (.int .u32 0)
  c1 : w.cell? ⟨p, 1, none⟩ = some (.int .i32 m)
  c3 : w.cell? ⟨p, 3, none⟩ = some .nilIface
  c4 : w.cell? ⟨p, 4, none⟩ = some (.slice (some ⟨q, 0, none⟩) 4 c)
  a0 : w.cell? ⟨q, 0, none⟩ = some (.string ⟨#[108]⟩)
  a1 : w.cell? ⟨q, 1, none⟩ = some (.string ⟨#[114]⟩)
  a2 : w.cell? ⟨q, 2, none⟩ = some (.string ⟨#[114]⟩)
  a3 : w.cell? ⟨q, 3, none⟩ = some (.string ⟨#[108]⟩)
  fz : ∀ j, w.frozen? ⟨p, j, none⟩ = false
/-- built -/
structure RpDone (W0 p : Nat) (k m : Int) (w w' : World) : Prop where
  below : Below W0 w w'
  size : w.heap.size ≤ w'.heap.size
  ex : ∃ b, p ≠ b ∧ b < w'.heap.size ∧ w'.cell? ⟨p, 3, none⟩ = some (.iface 289 (.pointer (some ⟨b, 0, none⟩))) ∧ w'.heap[b]? = some (.cells rpTab 288 (0, 0))
  c0 : w'.cell? ⟨p, 0, none⟩ = some (.int .u32 k)
  c1 : w'.cell? ⟨p, 1, none⟩ = some (.int .i32 m)
  fz : ∀ j, w'.frozen? ⟨p, j, none⟩ = false
set_option maxHeartbeats 8000000 in
set_option maxRecDepth 1000000 in
theorem rp_buildOnce (W0 p q c : Nat) (m : Int) (w : World) (h : RpNew W0 p q c m w) :
    Calls Tryz.prog 234 #[.pointer (some ⟨p, 0, none⟩)] w fun e w' => e = .returned (.tuple #[]) ∧ RpDone W0 p 0 m w w' := by
  have hb := rp_build p q c w h.qq h.c4 h.a0 h.a1 h.a2 h.a3
  have hpast : ∀ (i : Nat), (w.alloc (.cells rpTab 288)).cell? ⟨p, i, none⟩ = w.cell? ⟨p, i, none⟩ := fun i => World.cell?_alloc_past _ _ _ h.pq
  have hfz : ∀ (i : Nat), (w.alloc (.cells rpTab 288)).frozen? ⟨p, i, none⟩ = false := fun i => by rw [World.frozen?_alloc_past _ _ _ h.pq]; exact h.fz i
  have k3 : (w.alloc (.cells rpTab 288)).cell? ⟨p, 3, none⟩ = some .nilIface := (hpast 3).trans h.c3
  have k4 : (w.alloc (.cells rpTab 288)).cell? ⟨p, 4, none⟩ = some (.slice (some ⟨q, 0, none⟩) 4 c) := (hpast 4).trans h.c4
  have z3 := hfz 3
  have z4 := hfz 4
  have fin : RpDone W0 p 0 m w (((w.alloc (.cells rpTab 288)).setCell ⟨p, 3, none⟩ (.iface 289 (.pointer (some ⟨w.heap.size, 0, none⟩)))).setCell ⟨p, 4, none⟩ (.slice none 0 0)) := by
    have hne : p ≠ w.heap.size := by have := h.pq; omega
    refine ⟨((((Below.refl W0 w).alloc h.hw _).setCell h.hp _).setCell h.hp _), by rw [rp_size_set, rp_size_set, rp_size_alloc]; omega, ⟨w.heap.size, hne, by rw [rp_size_set, rp_size_set, rp_size_alloc]; omega, ?_, ?_⟩, ?_, ?_, fun j => ?_⟩
    · rw [World.cell?_setCell_other _ _ _ _ (by simp), World.cell?_setCell_same _ _ _ k3]
    · rw [Below.heap_setCell _ _ _ _ (by simpa using fun e => hne e.symm), Below.heap_setCell _ _ _ _ (by simpa using fun e => hne e.symm)]
      show (w.heap.push _)[w.heap.size]? = _
      rw [Array.getElem?_push, if_pos rfl]
    · rw [World.cell?_setCell_other _ _ _ _ (by simp), World.cell?_setCell_other _ _ _ _ (by simp), hpast 0, h.c0]
    · rw [World.cell?_setCell_other _ _ _ _ (by simp), World.cell?_setCell_other _ _ _ _ (by simp), hpast 1, h.c1]
    · rw [World.frozen?_setCell, World.frozen?_setCell, hfz j]
  clear hpast hfz h
  go_enter Tryz.func234, Tryz.ntmps234
  go_wp2_with (go_at_call 254; refine hb.mono ?_; rintro e w' ⟨rfl, rfl⟩)
  go_end0
  exact ⟨rfl, fin⟩
set_option maxHeartbeats 8000000 in
set_option maxRecDepth 1000000 in
theorem rp_load (a : Addr) (d : Int) (w : World) (h : w.cell? a = some (.int .u32 d)) :
    Calls Tryz.prog 252 #[.pointer (some a)] w fun e w' => e = .returned (.bool (d != 0)) ∧ w' = w := by
  have hl := run_call_load (P := Tryz.prog) Tryz.func264 (by kernel_rfl) (by kernel_rfl) (by kernel_rfl) .u32 (by kernel_rfl) h
  go_enter Tryz.func252, Tryz.ntmps252
  go_wp2
  go_ret
  exact ⟨rfl, rfl⟩
set_option maxHeartbeats 8000000 in
set_option maxRecDepth 1000000 in
theorem rp_slow (W0 p q c : Nat) (w : World) (h : RpNew W0 p q c 0 w) :
    Calls Tryz.prog 253 #[.pointer (some ⟨p, 0, none⟩), .func (.func 234) #[.pointer (some ⟨p, 0, none⟩)] #[]] w fun e w' => e = .returned (.tuple #[]) ∧ RpDone W0 p 1 0 w w' := by
  have hq : ∀ j : Nat, (⟨p, 1, none⟩ : Addr) ≠ ⟨q, j, none⟩ := fun j e => h.ne (congrArg Addr.block e)
  have hN : RpNew W0 p q c 1 (w.setCell ⟨p, 1, none⟩ (.int .i32 1)) :=
    ⟨h.hp, h.hq, h.ne, by rw [rp_size_set]; exact h.hw, by rw [rp_size_set]; exact h.pq, by rw [rp_size_set]; exact h.qq,
      (World.cell?_setCell_other _ _ _ _ (by simp)).trans h.c0, World.cell?_setCell_same _ _ _ h.c1, (World.cell?_setCell_other _ _ _ _ (by simp)).trans h.c3, (World.cell?_setCell_other _ _ _ _ (by simp)).trans h.c4,
(World.cell?_setCell_other _ _ _ _ (hq 0)).trans h.a0, (World.cell?_setCell_other _ _ _ _ (hq 1)).trans h.a1, (World.cell?_setCell_other _ _ _ _ (hq 2)).trans h.a2, (World.cell?_setCell_other _ _ _ _ (hq 3)).trans h.a3, fun j => by rw [World.frozen?_setCell]; exact h.fz j⟩
  have hbo := rp_buildOnce W0 p q c 1 _ hN
  have hld := rp_load ⟨p, 0, none⟩ 0 _ hN.c0
  have hnot : ∀ (x : Bool) (w : World), (Op.unary .not (.bool x)).run Tryz.prog w = .ok (.bool (!x)) w := fun _ _ => rfl
  have hlk := rp_lock_free ⟨p, 1, none⟩ w h.c1 (h.fz 1)
  have hb0 : Below W0 w (w.setCell ⟨p, 1, none⟩ (.int .i32 1)) := (Below.refl W0 w).setCell h.hp _
  have hp := h.hp
  clear h
  go_enter_defers Tryz.func253, Tryz.ntmps253
  go_wp2_with (first | (go_at_call 265; refine hlk.mono ?_; rintro e w' ⟨rfl, rfl⟩) | (go_at_call 234; refine hbo.mono ?_; rintro e w1 ⟨rfl, hd⟩) | (go_at_call 252; refine hld.mono ?_; rintro e w' ⟨rfl, rfl⟩))
  have fin : RpDone W0 p 1 0 w ((w1.drew.setCell ⟨p, 0, none⟩ (.int .u32 1)).setCell ⟨p, 1, none⟩ (.int .i32 0)) := by
    obtain ⟨b, hpb, hbs, e3, eb⟩ := hd.ex
    refine ⟨((hb0.trans hd.below).drew.setCell hp _).setCell hp _, by rw [rp_size_set, rp_size_set]; have := hd.size; rw [rp_size_set] at this; exact this, ⟨b, hpb, by rw [rp_size_set, rp_size_set]; exact hbs, ?_, ?_⟩, ?_, ?_, fun j => ?_⟩
    · rw [World.cell?_setCell_other _ _ _ _ (by simp), World.cell?_setCell_other _ _ _ _ (by simp), World.cell?_drew, e3]
    · rw [Below.heap_setCell _ _ _ _ (fun e => hpb e.symm), Below.heap_setCell _ _ _ _ (fun e => hpb e.symm)]
      exact eb
    · rw [World.cell?_setCell_other _ _ _ _ (by simp), World.cell?_setCell_same _ _ _ (by rw [World.cell?_drew]; exact hd.c0)]
    · rw [World.cell?_setCell_same _ _ _ ((World.cell?_setCell_other _ _ _ _ (by simp)).trans (by rw [World.cell?_drew]; exact hd.c1))]
    · rw [World.frozen?_setCell, World.frozen?_setCell]; exact hd.fz j
  have q0 := hd.c0
  have q1 := hd.c1
  have z0 := hd.fz 0
  have z1 := hd.fz 1
  refine leaves_cons (f := 267) (args := #[.pointer (some ⟨p, 0, none⟩), .bool true]) (by simp) (by simp [go_sem]) ?_
  refine (rp_store_deferred ⟨p, 0, none⟩ (.int .u32 0) .returning _ q0 z0).mono ?_
  rintro e u' w'' ⟨rfl, rfl, rfl⟩
  refine leaves_cons (f := 266) (args := #[.pointer (some ⟨p, 1, none⟩)]) (by simp [settle]) (by simp [go_sem]) ?_
  refine (rp_unlock_deferred ⟨p, 1, none⟩ _ _ ((World.cell?_setCell_other _ ⟨p, 0, none⟩ ⟨p, 1, none⟩ _ (by simp)).trans (by rw [World.cell?_drew]; exact q1)) (by simp [z1])).mono ?_
  rintro e u' w'' ⟨rfl, rfl, rfl⟩
  have := fin
  simp [Leaves, settle, results, Tryz.results253]
  exact fin
set_option maxHeartbeats 8000000 in
set_option maxRecDepth 1000000 in
theorem rp_do (W0 p q c : Nat) (w : World) (h : RpNew W0 p q c 0 w) :
    Calls Tryz.prog 233 #[.pointer (some ⟨p, 0, none⟩), .func (.func 234) #[.pointer (some ⟨p, 0, none⟩)] #[]] w fun e w' => e = .returned (.tuple #[]) ∧ RpDone W0 p 1 0 w w' := by
  have hld := rp_load ⟨p, 0, none⟩ 0 _ h.c0
  have hs := rp_slow W0 p q c w h
  have hnot : ∀ (x : Bool) (w : World), (Op.unary .not (.bool x)).run Tryz.prog w = .ok (.bool (!x)) w := fun _ _ => rfl
  clear h
  go_enter Tryz.func233, Tryz.ntmps233
  go_wp2_with (first | (go_at_call 253; refine hs.mono ?_; rintro e w1 ⟨rfl, hd⟩) | (go_at_call 252; refine hld.mono ?_; rintro e w' ⟨rfl, rfl⟩))
  go_end0
  exact ⟨rfl, hd⟩
set_option maxHeartbeats 8000000 in
set_option maxRecDepth 1000000 in
theorem rp_replace (W0 p q c : Nat) (s : ByteArray) (w : World) (hn : s.size ≤ 9223372036854775806) (h : RpNew W0 p q c 0 w) :
    Calls Tryz.prog 200 #[.pointer (some ⟨p, 0, none⟩), .string s] w fun e w' => e = .returned (.string (rpStr s)) ∧ Below W0 w w' := by
  have hs := rp_do W0 p q c w h
  have hmf : ∀ (fn : Fn) (first cap : Array Value) (w : World), (Instr.makeFunc fn first cap).run Tryz.prog w = .ok (.func fn first cap) w := fun _ _ _ _ => rfl
  have hm : ∀ (b : Nat) (w : World), (method 464 289 (.pointer (some ⟨b, 0, none⟩)) "Replace").run Tryz.prog w = .ok (333, .pointer (some ⟨b, 0, none⟩)) w := fun _ _ => by kernel_rfl
  have hw := h.hw
  have hp := h.hp
  clear h
  go_enter Tryz.func200, Tryz.ntmps200
  go_wp2_with (go_at_call 233; refine hs.mono ?_; rintro e w1 ⟨rfl, hd⟩; obtain ⟨b, hpb, hbs, e3, eb⟩ := hd.ex; have hbt := rp_bytes b s w1 hn eb; have hbel := hd.below; have hsz := hd.size; clear hd)
  go_wp2_with (go_at_call 333; refine hbt.mono ?_; rintro e w2 ⟨rfl, hd2⟩)
  go_ret
  exact ⟨rfl, hbel.trans (hd2.mono (by omega))⟩
end Go.Proofs.YtklfnbckoaphpaaGreatDoor
/- strings.NewReplacer("l", "r", "r", "l") and the movement that is mirrored. Conditions: the text's length. -/
set_option linter.unusedVariables false
set_option linter.unusedSimpArgs false
namespace Go.Proofs.YtklfnbckoaphpaaGreatDoor
open Go Go.RowKit Go.Lib
theorem rp_new_end (W0 : Nat) (w : World) (c : Nat) (rest : Array Value) (hw : W0 ≤ w.heap.size) : ∃ p q c', Ending.returned (.pointer (some ⟨w.heap.size + 1, 0, none⟩)) = .returned (.pointer (some ⟨p, 0, none⟩)) ∧
    RpNew W0 p q c' 0 (((w.alloc (.cells (#[.string ⟨#[108]⟩, .string ⟨#[114]⟩, .string ⟨#[114]⟩, .string ⟨#[108]⟩] ++ rest) 9)).alloc (.cells #[.int .u32 0, .int .i32 0, .int .u32 0, .nilIface, .slice (some ⟨w.heap.size, 0, none⟩) 4 c] 248)).drew) ∧
    Below W0 w (((w.alloc (.cells (#[.string ⟨#[108]⟩, .string ⟨#[114]⟩, .string ⟨#[114]⟩, .string ⟨#[108]⟩] ++ rest) 9)).alloc (.cells #[.int .u32 0, .int .i32 0, .int .u32 0, .nilIface, .slice (some ⟨w.heap.size, 0, none⟩) 4 c] 248)).drew) := by
  have s1 : (w.alloc (.cells (#[.string ⟨#[108]⟩, .string ⟨#[114]⟩, .string ⟨#[114]⟩, .string ⟨#[108]⟩] ++ rest) 9)).heap.size = w.heap.size + 1 := rp_size_alloc _ _
  have hp : ∀ (o1 o2 : Obj), ((w.alloc o1).alloc o2).drew.heap[w.heap.size + 1]? = some o2 := fun o1 o2 => by
    show ((w.heap.push o1).push o2)[w.heap.size + 1]? = _
    rw [Array.getElem?_push, if_pos (by rw [Array.size_push])]
  have hq : ∀ (o1 o2 : Obj), ((w.alloc o1).alloc o2).drew.heap[w.heap.size]? = some o1 := fun o1 o2 => by
    show ((w.heap.push o1).push o2)[w.heap.size]? = _
    rw [Array.getElem?_push, if_neg (by rw [Array.size_push]; omega), Array.getElem?_push, if_pos rfl]
  have hs : ∀ (o1 o2 : Obj), ((w.alloc o1).alloc o2).drew.heap.size = w.heap.size + 2 := fun o1 o2 => by
    show ((w.heap.push o1).push o2).size = _
    rw [Array.size_push, Array.size_push]
  refine ⟨w.heap.size + 1, w.heap.size, c, rfl, ⟨by omega, by omega, by omega, by rw [hs]; omega, by rw [hs]; omega, by rw [hs]; omega, ?_, ?_, ?_, ?_, ?_, ?_, ?_, ?_, fun j => ?_⟩, ?_⟩
  · simp only [World.cell?, hp]; rfl
  · simp only [World.cell?, hp]; rfl
  · simp only [World.cell?, hp]; rfl
  · simp only [World.cell?, hp]; rfl
  · simp only [World.cell?, hq]; rw [Array.getElem?_append_left (by simp)]; rfl
  · simp only [World.cell?, hq]; rw [Array.getElem?_append_left (by simp)]; rfl
  · simp only [World.cell?, hq]; rw [Array.getElem?_append_left (by simp)]; rfl
  · simp only [World.cell?, hq]; rw [Array.getElem?_append_left (by simp)]; rfl
  · simp only [World.frozen?, hp]; simp
  · exact (((Below.refl W0 w).alloc hw _).alloc (by rw [s1]; omega) _).drew
set_option maxHeartbeats 8000000 in
set_option maxRecDepth 1000000 in
theorem rp_new (W0 a : Nat) (w : World) (hw : W0 ≤ w.heap.size) (ha : w.heap[a]? = some (.cells #[.string ⟨#[108]⟩, .string ⟨#[114]⟩, .string ⟨#[114]⟩, .string ⟨#[108]⟩] 9 (0, 0))) :
    Calls Tryz.prog 199 #[.slice (some ⟨a, 0, none⟩) 4 4] w fun e w' => ∃ p q c, e = .returned (.pointer (some ⟨p, 0, none⟩)) ∧ RpNew W0 p q c 0 w' ∧ Below W0 w w' := by
  have a0 : w.cell? ⟨a, 0, none⟩ = some (.string ⟨#[108]⟩) := by simp [World.cell?, ha]
  have a1 : w.cell? ⟨a, 1, none⟩ = some (.string ⟨#[114]⟩) := by simp [World.cell?, ha]
  have a2 : w.cell? ⟨a, 2, none⟩ = some (.string ⟨#[114]⟩) := by simp [World.cell?, ha]
  have a3 : w.cell? ⟨a, 3, none⟩ = some (.string ⟨#[108]⟩) := by simp [World.cell?, ha]
  have hcap : (281474976710656 < Builtin.nextslicecap 4 0 * Tryz.t9.bytes) = False := by
    refine eq_false ?_
    have : Tryz.t9.bytes = 16 := by kernel_rfl
    rw [this]
    decide
  clear ha
  go_enter Tryz.func199, Tryz.ntmps199
  go_wp2
  go_ret
  exact rp_new_end W0 w _ _ hw
theorem rp3_size (w : World) (A B C : Obj) : (((w.alloc A).alloc B).alloc C).drew.heap.size = w.heap.size + 3 := by
  show (((w.heap.push A).push B).push C).size = _
  rw [Array.size_push, Array.size_push, Array.size_push]
theorem rp3_at2 (w : World) (A B C : Obj) : (((w.alloc A).alloc B).alloc C).drew.heap[w.heap.size + 1 + 1]? = some C := by
  show (((w.heap.push A).push B).push C)[w.heap.size + 1 + 1]? = _
  rw [Array.getElem?_push, if_pos (by rw [Array.size_push, Array.size_push])]
theorem rp3_at1 (w : World) (A B C : Obj) : (((w.alloc A).alloc B).alloc C).drew.heap[w.heap.size + 1]? = some B := by
  show (((w.heap.push A).push B).push C)[w.heap.size + 1]? = _
  rw [Array.getElem?_push, if_neg (by rw [Array.size_push, Array.size_push]; omega), Array.getElem?_push, if_pos (by rw [Array.size_push])]
theorem rp3_at0 (w : World) (A B C : Obj) : (((w.alloc A).alloc B).alloc C).drew.heap[w.heap.size]? = some A := by
  show (((w.heap.push A).push B).push C)[w.heap.size]? = _
  rw [Array.getElem?_push, if_neg (by rw [Array.size_push, Array.size_push]; omega), Array.getElem?_push, if_neg (by rw [Array.size_push]; omega), Array.getElem?_push, if_pos rfl]
theorem rp3_cell {W0 : Nat} {w w' : World} (h : Below W0 w w') {b : Nat} {cs : Array Value} {t : TypeId} (hk : w.heap[b]? = some (.cells cs t (0, 0))) (hb : b < W0) (j : Nat) : w'.cell? ⟨b, j, none⟩ = cs[j]? := by
  have := (h.block b hb).trans hk
  simp [World.cell?, this]
theorem rp3_frz {W0 : Nat} {w w' : World} (h : Below W0 w w') {b : Nat} {cs : Array Value} {t : TypeId} (hk : w.heap[b]? = some (.cells cs t (0, 0))) (hb : b < W0) (j : Nat) : w'.frozen? ⟨b, j, none⟩ = false := by
  have := (h.block b hb).trans hk
  simp [World.frozen?, this]
theorem rp3_end (w : World) (A B C : Obj) {w2 : World} (h : Below (w.heap.size + 3) (((w.alloc A).alloc B).alloc C).drew w2) (u v : Value) : Below w.heap.size w ((w2.setCell ⟨w.heap.size + 1, 0, none⟩ u).setCell ⟨w.heap.size + 1, 1, none⟩ v) := by
  have h0 : Below w.heap.size w (((w.alloc A).alloc B).alloc C).drew := ((((Below.refl _ w).alloc (Nat.le_refl _) _).alloc (by rw [rp_size_alloc]; omega) _).alloc (by rw [rp_size_alloc, rp_size_alloc]; omega) _).drew
  exact ((h0.trans (h.mono (by omega))).setCell (by show w.heap.size ≤ w.heap.size + 1; omega) _).setCell (by show w.heap.size ≤ w.heap.size + 1; omega) _
set_option maxHeartbeats 8000000 in
set_option maxRecDepth 1000000 in
theorem rp_mirrored (s : ByteArray) (r : Int) (w : World) (hn : s.size ≤ 9223372036854775806) :
    Calls Tryz.prog 141 #[.agg #[.string s, .int .i64 r]] w fun e w' => e = .returned (.agg #[.string (rpStr s), .int .i64 r]) ∧ Below w.heap.size w w' := by
  have mixed : Tryz.prog.follows .mixedOrders = true := by kernel_rfl
  go_enter Tryz.func141, Tryz.ntmps141
  go_wp2
  go_region_with_o (first | (go_at_call 199; refine (rp_new (w.heap.size + 3) (w.heap.size + 1 + 1) _ (Nat.le_of_eq (rp3_size w _ _ _).symm) (rp3_at2 w _ _ _)).mono ?_; rintro e w1 ⟨p, q, c, rfl, hN, hB⟩; have k0 := rp3_cell hB (rp3_at0 w _ _ _) (by omega) 0; have k1 := rp3_cell hB (rp3_at0 w _ _ _) (by omega) 1; have hB1 := hB) | (go_at_call 200; refine (rp_replace (w.heap.size + 3) p q c s _ hn hN).mono ?_; rintro e w2 ⟨rfl, hB2⟩; have hB3 := hB1.trans hB2; have j0 := rp3_cell hB3 (rp3_at0 w _ _ _) (by omega) 0; have j1 := rp3_cell hB3 (rp3_at0 w _ _ _) (by omega) 1; have z0 := rp3_cell hB3 (rp3_at1 w _ _ _) (by omega) 0; have z1 := rp3_cell hB3 (rp3_at1 w _ _ _) (by omega) 1; have f0 := rp3_frz hB3 (rp3_at1 w _ _ _) (by omega) 0; have f1 := rp3_frz hB3 (rp3_at1 w _ _ _) (by omega) 1))
  all_goals
    have y1 : ((w2.setCell ⟨w.heap.size + 1, 0, none⟩ (.string (rpStr s))).setCell ⟨w.heap.size + 1, 1, none⟩ (.int .i64 r)).cell? ⟨w.heap.size + 1, 1, none⟩ = some (.int .i64 r) := World.cell?_setCell_same _ _ _ ((World.cell?_setCell_other _ _ _ _ (by simp)).trans z1)
    have y0 : ((w2.setCell ⟨w.heap.size + 1, 0, none⟩ (.string (rpStr s))).setCell ⟨w.heap.size + 1, 1, none⟩ (.int .i64 r)).cell? ⟨w.heap.size + 1, 0, none⟩ = some (.string (rpStr s)) := (World.cell?_setCell_other _ _ _ _ (by simp)).trans (World.cell?_setCell_same _ _ _ z0)
    have hb : Below w.heap.size w ((w2.setCell ⟨w.heap.size + 1, 0, none⟩ (.string (rpStr s))).setCell ⟨w.heap.size + 1, 1, none⟩ (.int .i64 r)) := rp3_end w _ _ _ hB3 _ _
    clear hN hB hB1 hB2 hB3
    go_wp2
    refine bodyPost_ret (by simp [results, Tryz.results141, go_sem, y0, y1]; rfl) rfl ?_
    exact ⟨rfl, hb⟩
end Go.Proofs.YtklfnbckoaphpaaGreatDoor
