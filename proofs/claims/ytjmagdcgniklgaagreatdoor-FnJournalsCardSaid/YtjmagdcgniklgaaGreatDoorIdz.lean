/- Plain laws for this claim, several texts in one. No conditions beyond the bounds that are named. -/
import Derived.Test.YtjmagdcgniklgaaGreatDoorShelf
import Derived.Laws.RangeAny
import Derived.Laws.Runes
import Derived.WalkMore
import Derived.WalkKit
import Derived.Lib.Walk
import Derived.LoopN
import Derived.Shelf.RegionOpenPlain
import Derived.Shelf.Strings.IndexAny
import Derived.Lib.OthersKept
import Derived.Deep.LoopGhost
import Derived.WalkSmall
import Derived.Lib.AppendIntMem
import Derived.Lib.AtoiAllCases
import Derived.Lib.SmallJoins
/- strings.IndexAny at the signs + and -, whatever the text, by an own walk of its short road. Conditions: the text's length. -/
set_option linter.unusedVariables false
set_option linter.unusedSimpArgs false
namespace Go.Proofs.YtjmagdcgniklgaaGreatDoor
open Go Go.RowKit Go.Lib
abbrev pm : ByteArray := ⟨#[43, 45]⟩
set_option maxHeartbeats 8000000 in
set_option maxRecDepth 1000000 in
theorem idxRune2 (a b : UInt8) (r : Int) (henc : Utf8.encode r = ⟨#[a, b]⟩) (hb : 128 ≤ b.toNat) (h128 : 128 ≤ r) (hne : r ≠ 65533) (hv : Lib.validRune r = true) (w : World) :
    Calls Tryz.prog 66 #[.string pm, .int .i32 r] w fun e w' => e = .returned (.int .i64 (-1)) ∧ ∃ q, w' = w.drewN q := by
  have h0 : (0 : Int) ≤ r := by omega
  have h1 : ¬ r < 128 := by omega
  have mixed : Tryz.prog.follows .mixedOrders = true := by kernel_rfl
  have hq : ∀ h1 h2, ((((pm[1]'h1).toNat : Int) != (((⟨#[a, b]⟩ : ByteArray)[1]'h2).toNat : Int))) = true := by
    intro h1 h2
    have : (pm[1]'h1).toNat = 45 := rfl
    rw [this]
    have : ((⟨#[a, b]⟩ : ByteArray)[1]'h2) = b := rfl
    rw [this, bne_iff_ne]
    omega
  go_enter Tryz.func66, Tryz.ntmps66
  have u21 : Tryz.prog.underlying 21 = _ := Tryz.underlying21
  have u9 : Tryz.prog.underlying 9 = _ := Tryz.underlying9
  have hcv : ∀ w, (convert 21 9 (.int .i32 r)).run Tryz.prog w = .ok (.string ⟨#[a, b]⟩) w := fun w => by
    rw [run_convert_int_string w 21 9 .i32 r (by rw [u21]; rfl) u9, henc]
  have hix : ∀ b, Lib.indexByte ([] : List UInt8) b = -1 := fun _ => rfl
  have hb45 : ¬ (45 : Int) = (b.toNat : Int) := by omega
  go_wp2_with (go_at_call 76; refine (Tryz.utf8_ValidRune _ _).mono ?_; rintro e w' ⟨rfl, hw⟩; simp only [hw, hv])
  go_step3
  go_wp2
  apply wp_loop_once
  go_wp2
  go_step3
  go_wp2
  go_region_o
  go_wp2
  go_region_with_o (go_at_call 49; refine (Tryz.strings_IndexByte _ _ _).mono ?_; rintro e w' ⟨rfl, hw⟩; rw [hw])
  all_goals (go_wp2; simp +zetaDelta only [Exit.noGoto_ret, Exit.inBlock, Exit.then]; go_ret)
  all_goals exact ⟨rfl, 2, rfl⟩
set_option maxHeartbeats 8000000 in
set_option maxRecDepth 1000000 in
theorem idxRune3 (e : ByteArray) (r : Int) (henc : Utf8.encode r = e) (hs3 : 3 ≤ e.size) (hs4 : e.size ≤ 4) (h128 : 128 ≤ r) (hne : r ≠ 65533) (hv : Lib.validRune r = true) (w : World) :
    Calls Tryz.prog 66 #[.string pm, .int .i32 r] w fun e w' => e = .returned (.int .i64 (-1)) ∧ w' = w := by
  have h0 : (0 : Int) ≤ r := by omega
  have h1 : ¬ r < 128 := by omega
  go_enter Tryz.func66, Tryz.ntmps66
  have u21 : Tryz.prog.underlying 21 = _ := Tryz.underlying21
  have u9 : Tryz.prog.underlying 9 = _ := Tryz.underlying9
  have hcv : ∀ w, (convert 21 9 (.int .i32 r)).run Tryz.prog w = .ok (.string e) w := fun w => by
    rw [run_convert_int_string w 21 9 .i32 r (by rw [u21]; rfl) u9, henc]
  have hlt : decide ((e.size : Int) - 1 < 2) = false := decide_eq_false (by omega)
  go_wp2_with (go_at_call 76; refine (Tryz.utf8_ValidRune _ _).mono ?_; rintro e w' ⟨rfl, hw⟩; simp only [hw, hv])
  go_step3
  go_wp2
  apply wp_loop_once
  go_wp2
  all_goals (try simp +zetaDelta only [Exit.noGoto_ret, Exit.inBlock, Exit.then])
  go_wp2
  go_ret
  exact ⟨rfl, rfl⟩

set_option maxHeartbeats 8000000 in
set_option maxRecDepth 1000000 in
theorem idxRuneBad (r : Int) (h128 : 128 ≤ r) (hne : r ≠ 65533) (hv : Lib.validRune r = false) (w : World) :
    Calls Tryz.prog 66 #[.string pm, .int .i32 r] w fun e w' => e = .returned (.int .i64 (-1)) ∧ w' = w := by
  have h0 : (0 : Int) ≤ r := by omega
  have h1 : ¬ r < 128 := by omega
  go_enter Tryz.func66, Tryz.ntmps66
  go_wp2_with (go_at_call 76; refine (Tryz.utf8_ValidRune _ _).mono ?_; rintro e w' ⟨rfl, hw⟩; simp only [hw, hv])
  go_ret
  exact ⟨rfl, rfl⟩

theorem pm_next0 (w : World) (ty : TypeId) :
    (Instr.next (.pointer (some ⟨w.heap.size, 0, none⟩)) true ty).run Tryz.prog (w.iter pm 0) = .ok (.tuple #[.bool true, .int .i64 0, .int .i32 43]) (w.iter pm 1) := run_next_ascii w pm 0 ty (by decide) (by decide)
theorem pm_next1 (w : World) (ty : TypeId) :
    (Instr.next (.pointer (some ⟨w.heap.size, 0, none⟩)) true ty).run Tryz.prog (w.iter pm 1) = .ok (.tuple #[.bool true, .int .i64 1, .int .i32 45]) (w.iter pm 2) := run_next_ascii w pm 1 ty (by decide) (by decide)
set_option maxHeartbeats 8000000 in
set_option maxRecDepth 1000000 in
theorem idxRuneErr (w : World) :
    Calls Tryz.prog 66 #[.string pm, .int .i32 65533] w fun e w' => e = .returned (.int .i64 (-1)) ∧ w' = w.iter pm 2 := by
  have t9 : Tryz.prog.underlying 9 = _ := Tryz.underlying9
  have n0 := pm_next0 w
  have n1 := pm_next1 w
  have n2 := fun ty => run_next_end (P := Tryz.prog) w pm 2 ty (by decide)
  go_enter Tryz.func66, Tryz.ntmps66
  go_wp2
  apply wp_loop_rounds 3
  rw [rounds_succ]
  go_wp2
  try rw [rounds_succ]
  go_wp2
  try rw [rounds_succ]
  go_wp2
  go_ret
  exact ⟨rfl, rfl⟩
end Go.Proofs.YtjmagdcgniklgaaGreatDoor
/- strings.IndexAny at the signs + and -, whatever the text. Conditions: the text's length. -/
set_option linter.unusedVariables false
set_option linter.unusedSimpArgs false
namespace Go.Proofs.YtjmagdcgniklgaaGreatDoor
open Go Go.RowKit Go.Lib
theorem getAt (s : ByteArray) (i : Nat) (h : i < s.size) : s.get! i = s[i]'h := get_at s i h
theorem cont_high {s : ByteArray} {i k : Nat} (h : (decide (i + k < s.size) && (s.get! (i + k)).toNat / 64 == 2) = true) : i + k < s.size ∧ 128 ≤ (s.get! (i + k)).toNat := by
  rw [Bool.and_eq_true] at h
  have h1 := of_decide_eq_true h.1
  have h2 : (s.get! (i + k)).toNat / 64 = 2 := by simpa using h.2
  exact ⟨h1, by omega⟩
theorem decode_rest (s : ByteArray) (pos : Nat) (h : pos < s.size) (ha : 128 ≤ (s.get! pos).toNat) : ∀ j, j < (Utf8.decode s pos).2 → pos + j < s.size ∧ 128 ≤ (s.get! (pos + j)).toNat := by
  have hn : ¬ (s.get! (pos + 0)).toNat < 128 := by
    show ¬ (s.get! pos).toNat < 128
    omega
  have z : ∀ j, j < 1 → pos + j < s.size ∧ 128 ≤ (s.get! (pos + j)).toNat := fun j hj => by
    obtain rfl : j = 0 := by omega
    exact ⟨h, ha⟩
  simp only [Utf8.decode, hn, if_false]
  split
  · rename_i h1
    rw [Bool.and_eq_true] at h1
    have c1 := cont_high h1.2
    split
    · intro j hj
      have : j < 2 := hj
      match j, this with
      | 0, _ => exact z 0 (by omega)
      | 1, _ => exact c1
    · exact z
  · split
    · rename_i h1
      rw [Bool.and_eq_true, Bool.and_eq_true] at h1
      have c1 := cont_high h1.1.2
      have c2 := cont_high h1.2
      split
      · intro j hj
        have : j < 3 := hj
        match j, this with
        | 0, _ => exact z 0 (by omega)
        | 1, _ => exact c1
        | 2, _ => exact c2
      · exact z
    · split
      · rename_i h1
        rw [Bool.and_eq_true, Bool.and_eq_true, Bool.and_eq_true] at h1
        have c1 := cont_high h1.1.1.2
        have c2 := cont_high h1.1.2
        have c3 := cont_high h1.2
        split
        · intro j hj
          have : j < 4 := hj
          match j, this with
          | 0, _ => exact z 0 (by omega)
          | 1, _ => exact c1
          | 2, _ => exact c2
          | 3, _ => exact c3
        · exact z
      · exact z
theorem idxRune (r : Int) (h0 : 128 ≤ r) (w : World) :
    Calls Tryz.prog 66 #[.string pm, .int .i32 r] w fun e w' => e = .returned (.int .i64 (-1)) ∧ Below w.heap.size w w' := by
  by_cases hne : r = 65533
  · subst hne
    refine (idxRuneErr w).mono ?_
    rintro e w' ⟨rfl, rfl⟩
    exact ⟨rfl, (Below.refl _ _).alloc (Nat.le_refl _) _⟩
  · cases hv : Lib.validRune r with
    | false =>
      refine (idxRuneBad r h0 hne hv w).mono ?_
      rintro e w' ⟨rfl, rfl⟩
      exact ⟨rfl, Below.refl _ _⟩
    | true =>
      have hval : Utf8.valid r = true := by
        have := of_decide_eq_true hv
        simp only [Utf8.valid, Bool.or_eq_true, Bool.and_eq_true, decide_eq_true_eq]
        omega
      obtain ⟨f2, f4, fl⟩ := encode_facts r hval h0
      by_cases h3 : 3 ≤ (Utf8.encode r).size
      · refine (idxRune3 _ r rfl h3 f4 h0 hne hv w).mono ?_
        rintro e w' ⟨rfl, rfl⟩
        exact ⟨rfl, Below.refl _ _⟩
      · have hs : (Utf8.encode r).size = 2 := by omega
        obtain ⟨a, b, hab⟩ : ∃ a b, Utf8.encode r = ⟨#[a, b]⟩ := by
          rcases he : Utf8.encode r with ⟨⟨l⟩⟩
          rw [he] at hs
          have hl : l.length = 2 := hs
          match l, hl with
          | [a, b], _ => exact ⟨a, b, rfl⟩
        have hb : 128 ≤ b.toNat := by
          rw [hab] at fl
          exact fl (show 1 < 2 by omega)
        refine (idxRune2 a b r hab hb h0 hne hv w).mono ?_
        rintro e w' ⟨rfl, q, rfl⟩
        exact ⟨rfl, below_drewN (Below.refl _ _) q⟩
theorem noAny_skip {s : ByteArray} {i n : Nat} (h : Lib.NoAny s.data.toList pm.data.toList i) (hr : ∀ j, j < n → i + j < s.size ∧ 128 ≤ (s.get! (i + j)).toNat) : Lib.NoAny s.data.toList pm.data.toList (i + n) := by
  intro j b hj hb
  by_cases hji : j < i
  · exact h j b hji hb
  · obtain ⟨h1, h2⟩ := hr (j - i) (by omega)
    rw [show i + (j - i) = j by omega] at h1 h2
    have e := Lib.data_getElem? s j h1
    rw [e] at hb
    obtain rfl := Option.some.inj hb
    rw [getAt s j h1] at h2
    generalize s[j] = x at h2
    have n1 : x ≠ 43 := fun e => by subst e; revert h2; decide
    have n2 : x ≠ 45 := fun e => by subst e; revert h2; decide
    show ([43, 45] : List UInt8).contains x = false
    simp [n1, n2]
set_option maxHeartbeats 8000000 in
set_option maxRecDepth 1000000 in
theorem idxAny_short (s : ByteArray) (h8 : s.size ≤ 8) (w : World) :
    Calls Tryz.prog 48 #[.string s, .string pm] w fun e w' => e = .returned (.int .i64 (Lib.indexAny s.data.toList pm.data.toList)) ∧ Below w.heap.size w w' := by
  have h8z : decide ((8 : Int) < (s.size : Int)) = false := decide_eq_false (by omega)
  have hemp : pm.toList.isEmpty = false := by rw [Lib.toList_data]; rfl
  have hpc : pm.size = 2 := rfl
  generalize hpm : pm = p at *
  have u9 : Tryz.prog.underlying 9 = _ := Tryz.underlying9
  go_enter Tryz.func48, Tryz.ntmps48
  go_wp2_with (go_at_call 67; refine (Tryz.strings_shouldUseASCIISet _ _).mono ?_; rintro e w' ⟨rfl, hw⟩; rw [hw, h8z])
  go_loopg [9, 10] s.size (fun g _ _ wx => ∃ i : Nat, i + g = s.size ∧ wx.heap[w.heap.size]? = some (.stringIter s i) ∧ Below w.heap.size w wx ∧ Lib.NoAny s.data.toList p.data.toList i)
  case atStart => exact ⟨0, by omega, World.iter_heap _ _ _, (Below.refl _ _).alloc (Nat.le_refl _) _, Lib.NoAny.zero _ _⟩
  case round =>
    obtain ⟨i, hig, hit, hbel, hno⟩ := hrel
    have HN : Aside (Lib.NoAny s.data.toList p.data.toList i) := hno
    clear hno
    cases gk with
    | zero =>
      obtain rfl : i = s.size := by omega
      have hnx := fun ty => run_next_end_at (P := Tryz.prog) wr _ s s.size ty hit (by omega)
      go_wp2
      go_ret
      exact ⟨by rw [Lib.indexAny_none (by rw [← Lib.size_eq]; exact HN.out)]; rfl, hbel⟩
    | succ g =>
      have hi : i < s.size := by omega
      have hit2 := fun q => iterAt_heap wr _ s i q hit
      by_cases hx128 : (s[i]'hi).toNat < 128
      · obtain ⟨x, hx⟩ : ∃ x : UInt8, s[i]'hi = x := ⟨_, rfl⟩
        have hxl : s.data.toList[i]? = some x := by rw [← hx]; exact Lib.data_getElem? s i hi
        have hnx := fun ty => run_next_ascii_at (P := Tryz.prog) wr _ s i ty hit hi hx128
        rw [hx] at hnx hx128
        have Hx : Aside (s.data.toList[i]? = some x) := hxl
        clear hxl hx
        have hcon := Lib.contains_iff_indexByte p.data.toList x
        have hback : ((x.toNat : Int)).toNat.toUInt8 = x := by simp
        cases hin : p.data.toList.contains x
        · rw [hin] at hcon
          have hlt : ¬ ((0 : Int) ≤ Lib.indexByte p.data.toList x) := of_decide_eq_false hcon.symm
          clear hcon
          go_wp2_with (go_at_call 66; refine (Tryz.strings_IndexRune_ascii _ _ _ (by omega) (by omega)).mono ?_; rintro e w' ⟨rfl, hw⟩; rw [hw, hback])
          go_roundg g
          case measure => omega
          case rel => exact ⟨i + 1, by omega, hit2 _, below_iterAt hbel (Nat.le_refl _) _ _, HN.out.succ Hx.out hin⟩
        · rw [hin] at hcon
          have hge : (0 : Int) ≤ Lib.indexByte p.data.toList x := of_decide_eq_true hcon.symm
          clear hcon
          go_wp2_with (go_at_call 66; refine (Tryz.strings_IndexRune_ascii _ _ _ (by omega) (by omega)).mono ?_; rintro e w' ⟨rfl, hw⟩; rw [hw, hback])
          go_ret
          exact ⟨by rw [Lib.indexAny_hit HN.out Hx.out hin]; rfl, below_iterAt hbel (Nat.le_refl _) _ _⟩
      · have hhi : 128 ≤ (s[i]'hi).toNat := by omega
        have hd := decode_high s i hi hhi
        have hrest := decode_rest s i hi (by rw [getAt s i hi]; exact hhi)
        have hnx := fun ty => run_next_any_at (P := Tryz.prog) wr _ s i ty hit hi
        generalize hde : Utf8.decode s i = d at *
        obtain ⟨r, n⟩ := d
        have hr128 : (128 : Int) ≤ (r : Int) := by have := hd.1; simp at this; omega
        have hn1 : 1 ≤ n := hd.2
        have hle : i + n ≤ s.size := by have := (hrest (n - 1) (by show n - 1 < n; omega)).1; omega
        subst hpm
        have hN2 : Aside (Lib.NoAny s.data.toList pm.data.toList (i + n)) := noAny_skip HN.out hrest
        clear hde hd hrest
        have hlt : ¬ ((0 : Int) ≤ -1) := by decide
        simp only at hnx
        go_wp2_with (go_at_call 66; refine (idxRune _ hr128 _).mono ?_; rintro e w' ⟨rfl, hw⟩)
        go_roundg (s.size - (i + n))
        case measure => omega
        case rel => exact ⟨i + n, by omega, by rw [hw.block _ (by rw [iterAt_size]; exact (Array.getElem?_eq_some_iff.1 hit).1)]; exact hit2 _, (below_iterAt hbel (Nat.le_refl _) _ _).trans (hw.mono (by rw [iterAt_size]; exact hbel.size)), hN2.out⟩
theorem zero56 (w : World) : (zeroValue 89).run Tryz.prog w = .ok (.agg (Array.replicate 256 (.bool false))) w := by
  go_simp
  kernel_rfl
theorem idxAny (s : ByteArray) (hs : s.size < 4294967281) (w : World) :
    Calls Tryz.prog 48 #[.string s, .string pm] w fun e w' => e = .returned (.int .i64 (Lib.indexAny s.data.toList pm.data.toList)) ∧ Below w.heap.size w w' := by
  by_cases h8 : s.size ≤ 8
  · exact idxAny_short s h8 w
  · refine (Tryz.strings_IndexAny_long zero56 s pm w (Nat.le_refl _) (by omega) hs (by decide) ?_).mono ?_
    · intro j b hj
      match j, hj with
      | 0, hj => obtain rfl := Option.some.inj hj; decide
      | 1, hj => obtain rfl := Option.some.inj hj; decide
    · rintro e w' ⟨rfl, rfl⟩
      exact ⟨rfl, ((Below.refl _ _).alloc (Nat.le_refl _) _).alloc (by simp) _⟩
end Go.Proofs.YtjmagdcgniklgaaGreatDoor
/- impl.decimal: what strconv.Atoi reads and strconv.Itoa writes again. Conditions: the text's length; the package's variables hold what they hold. -/
set_option linter.unusedVariables false
set_option linter.unusedSimpArgs false
namespace Go.Proofs.YtjmagdcgniklgaaGreatDoor
open Go Go.RowKit Go.Lib
def decOf (s : ByteArray) : Int × Bool := match Lib.atoiAll s.data.toList with
  | .ok v => bif decide ((⟨(Lib.itoa v).toArray⟩ : ByteArray) = s) then (v, true) else (0, false)
  | _ => (0, false)
set_option maxHeartbeats 8000000 in
set_option maxRecDepth 1000000 in
theorem calls_decimal (s : ByteArray) (hlim : s.size ≤ 281474976710656) (w : World) (hsy : ∃ tp p, w.var? Tryz.prog "strconv.ErrSyntax" = some #[.iface tp p]) (hra : ∃ tp p, w.var? Tryz.prog "strconv.ErrRange" = some #[.iface tp p])
    (htab : ∀ w', Below w.heap.size w w' → Lib.TabIs Tryz.prog w' "internal/strconv.uint64pow10" .u64 Lib.pow10Tab) :
    Calls Tryz.prog 50 #[.string s] w fun e w' => e = .returned (.tuple #[.int .i64 (decOf s).1, .bool (decOf s).2]) ∧ Below w.heap.size w w' := by
  have hA : ∀ (v : Int), Lib.atoiAll s.data.toList = .ok v → ∀ w, Calls Tryz.prog 71 #[.string s] w fun e w' => e = .returned (.tuple #[.int .i64 v, .nilIface]) ∧ Below w.heap.size w w' := by
    intro v ha w
    refine (Tryz.strconv_Atoi_ok s (by omega) v ha _).mono ?_
    rintro e w' ⟨rfl, hw⟩
    refine ⟨rfl, ?_⟩
    rcases hw with rfl | ⟨t, rfl⟩
    · exact Below.refl _ _
    · exact Go.Joins.below_bytesWorld _ _ _ _ (Nat.le_refl _)
  have hI : ∀ (v : Int) (w' : World), Lib.atoiAll s.data.toList = .ok v → Below w.heap.size w w' → Calls Tryz.prog 60 #[.int .i64 v] w' fun e w'' => e = .returned (.string ⟨(Lib.itoa v).toArray⟩) ∧ Below w.heap.size w w'' := by
    intro v w' ha hw
    obtain ⟨h0, h1⟩ := atoiAll_bounds ha
    refine (Tryz.strconv_Itoa v h0 h1 w' (htab w' hw)).mono ?_
    rintro e w'' ⟨rfl, k, os, rfl⟩
    exact ⟨rfl, hw.trans ((Go.Lib.below_grow _ _ (Nat.le_refl _) k os).mono hw.size)⟩
  clear htab
  cases ha : Lib.atoiAll s.data.toList with
  | ok v =>
    have hA := hA v ha w
    have hI := fun w' => hI v w' ha
    have hd : decOf s = bif decide ((⟨(Lib.itoa v).toArray⟩ : ByteArray) = s) then (v, true) else (0, false) := by unfold decOf; rw [ha]
    rw [hd]
    clear hd ha hlim hsy hra
    generalize (⟨(Lib.itoa v).toArray⟩ : ByteArray) = t at *
    go_enter Tryz.func50, Tryz.ntmps50
    go_wp2_with (go_at_call 71; refine hA.mono ?_; rintro e w' ⟨rfl, hw⟩)
    go_wp2_with (go_at_call 60; refine (hI _ hw).mono ?_; rintro e w'' ⟨rfl, hw2⟩)
    all_goals rename_i hb
    · have : decide (t = s) = false := by
        refine decide_eq_false ?_
        rintro rfl
        rw [beq_self_eq_true] at hb
        cases hb
      rw [this]
      go_ret2
      exact ⟨rfl, hw2⟩
    · have : t = s := by
        have hb : (t.toList == s.toList) = true := by revert hb; cases (t.toList == s.toList) <;> simp
        have hb := eq_of_beq hb
        rw [Lib.toList_data, Lib.toList_data] at hb
        have : t.data = s.data := Array.ext' hb
        cases t; cases s; cases this; rfl
      subst this
      rw [decide_eq_true rfl]
      go_ret2
      exact ⟨rfl, hw2⟩
  | range =>
    obtain ⟨tp, p, hv⟩ := hra
    have hA := Tryz.strconv_Atoi_range_var s hlim ha tp p w hv
    have hd : decOf s = (0, false) := by unfold decOf; rw [ha]
    rw [hd]
    clear hd ha hlim hsy hv hI
    generalize Lib.atoiSat s.data.toList = sat at *
    go_enter Tryz.func50, Tryz.ntmps50
    go_wp2_with (go_at_call 71; refine hA.mono ?_; rintro e w' ⟨N, rfl, hN, hc, hw⟩)
    go_ret2
    exact ⟨rfl, hw⟩
  | _ =>
    obtain ⟨tp, p, hv⟩ := hsy
    have hA := Tryz.strconv_Atoi_syntax_var s hlim ha tp p w hv
    have hd : decOf s = (0, false) := by unfold decOf; rw [ha]
    rw [hd]
    clear hd ha hlim hra hv hI
    go_enter Tryz.func50, Tryz.ntmps50
    go_wp2_with (go_at_call 71; refine hA.mono ?_; rintro e w' ⟨N, rfl, hN, hc, hw⟩)
    go_ret2
    exact ⟨rfl, hw⟩
end Go.Proofs.YtjmagdcgniklgaaGreatDoor
