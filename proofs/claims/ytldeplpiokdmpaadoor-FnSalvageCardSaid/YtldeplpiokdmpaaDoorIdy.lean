/- strings.IndexAny at the signs + and -, whatever the text. Conditions: the text's length. -/
import Derived.Test.YtldeplpiokdmpaaDoorIdx
import Derived.Lib.OthersKept
import Derived.Deep.LoopGhost
import Derived.WalkSmall
set_option linter.unusedVariables false
set_option linter.unusedSimpArgs false
namespace Go.Proofs.YtldeplpiokdmpaaDoor
open Go Go.RowKit Go.Lib
theorem getAt (s : ByteArray) (i : Nat) (h : i < s.size) : s.get! i = s[i]'h := get_at s i h
theorem cont_high {s : ByteArray} {i k : Nat} (h : (decide (i + k < s.size) && (s.get! (i + k)).toNat / 64 == 2) = true) : i + k < s.size ∧ 128 ≤ (s.get! (i + k)).toNat := by
  rw [Bool.and_eq_true] at h
  have h1 := of_decide_eq_true h.1
  have h2 : (s.get! (i + k)).toNat / 64 = 2 := by simpa using h.2
  exact ⟨h1, by omega⟩
theorem decode_rest (s : ByteArray) (pos : Nat) (h : pos < s.size) (ha : 128 ≤ (s.get! pos).toNat) : ∀ j, j < (Utf8.decode s pos).2 → pos + j < s.size ∧ 128 ≤ (s.get! (pos + j)).toNat := by
  have hn : ¬ (s.get! (pos + 0)).toNat < 128 := by
    show ¬ (s.get! pos).toNat < 128
    omega
  have z : ∀ j, j < 1 → pos + j < s.size ∧ 128 ≤ (s.get! (pos + j)).toNat := fun j hj => by
    obtain rfl : j = 0 := by omega
    exact ⟨h, ha⟩
  simp only [Utf8.decode, hn, if_false]
  split
  · rename_i h1
    rw [Bool.and_eq_true] at h1
    have c1 := cont_high h1.2
    split
    · intro j hj
      have : j < 2 := hj
      match j, this with
      | 0, _ => exact z 0 (by omega)
      | 1, _ => exact c1
    · exact z
  · split
    · rename_i h1
      rw [Bool.and_eq_true, Bool.and_eq_true] at h1
      have c1 := cont_high h1.1.2
      have c2 := cont_high h1.2
      split
      · intro j hj
        have : j < 3 := hj
        match j, this with
        | 0, _ => exact z 0 (by omega)
        | 1, _ => exact c1
        | 2, _ => exact c2
      · exact z
    · split
      · rename_i h1
        rw [Bool.and_eq_true, Bool.and_eq_true, Bool.and_eq_true] at h1
        have c1 := cont_high h1.1.1.2
        have c2 := cont_high h1.1.2
        have c3 := cont_high h1.2
        split
        · intro j hj
          have : j < 4 := hj
          match j, this with
          | 0, _ => exact z 0 (by omega)
          | 1, _ => exact c1
          | 2, _ => exact c2
          | 3, _ => exact c3
        · exact z
      · exact z
theorem idxRune (r : Int) (h0 : 128 ≤ r) (w : World) :
    Calls Tryd.prog 53 #[.string pm, .int .i32 r] w fun e w' => e = .returned (.int .i64 (-1)) ∧ Below w.heap.size w w' := by
  by_cases hne : r = 65533
  · subst hne
    refine (idxRuneErr w).mono ?_
    rintro e w' ⟨rfl, rfl⟩
    exact ⟨rfl, (Below.refl _ _).alloc (Nat.le_refl _) _⟩
  · cases hv : Lib.validRune r with
    | false =>
      refine (idxRuneBad r h0 hne hv w).mono ?_
      rintro e w' ⟨rfl, rfl⟩
      exact ⟨rfl, Below.refl _ _⟩
    | true =>
      have hval : Utf8.valid r = true := by
        have := of_decide_eq_true hv
        simp only [Utf8.valid, Bool.or_eq_true, Bool.and_eq_true, decide_eq_true_eq]
        omega
      obtain ⟨f2, f4, fl⟩ := encode_facts r hval h0
      by_cases h3 : 3 ≤ (Utf8.encode r).size
      · refine (idxRune3 _ r rfl h3 f4 h0 hne hv w).mono ?_
        rintro e w' ⟨rfl, rfl⟩
        exact ⟨rfl, Below.refl _ _⟩
      · have hs : (Utf8.encode r).size = 2 := by omega
        obtain ⟨a, b, hab⟩ : ∃ a b, Utf8.encode r = ⟨#[a, b]⟩ := by
          rcases he : Utf8.encode r with ⟨⟨l⟩⟩
          rw [he] at hs
          have hl : l.length = 2 := hs
          match l, hl with
          | [a, b], _ => exact ⟨a, b, rfl⟩
        have hb : 128 ≤ b.toNat := by
          rw [hab] at fl
          exact fl (show 1 < 2 by omega)
        refine (idxRune2 a b r hab hb h0 hne hv w).mono ?_
        rintro e w' ⟨rfl, q, rfl⟩
        exact ⟨rfl, below_drewN (Below.refl _ _) q⟩
theorem noAny_skip {s : ByteArray} {i n : Nat} (h : Lib.NoAny s.data.toList pm.data.toList i) (hr : ∀ j, j < n → i + j < s.size ∧ 128 ≤ (s.get! (i + j)).toNat) : Lib.NoAny s.data.toList pm.data.toList (i + n) := by
  intro j b hj hb
  by_cases hji : j < i
  · exact h j b hji hb
  · obtain ⟨h1, h2⟩ := hr (j - i) (by omega)
    rw [show i + (j - i) = j by omega] at h1 h2
    have e := Lib.data_getElem? s j h1
    rw [e] at hb
    obtain rfl := Option.some.inj hb
    rw [getAt s j h1] at h2
    generalize s[j] = x at h2
    have n1 : x ≠ 43 := fun e => by subst e; revert h2; decide
    have n2 : x ≠ 45 := fun e => by subst e; revert h2; decide
    show ([43, 45] : List UInt8).contains x = false
    simp [n1, n2]
set_option maxHeartbeats 8000000 in
set_option maxRecDepth 1000000 in
theorem idxAny_short (s : ByteArray) (h8 : s.size ≤ 8) (w : World) :
    Calls Tryd.prog 39 #[.string s, .string pm] w fun e w' => e = .returned (.int .i64 (Lib.indexAny s.data.toList pm.data.toList)) ∧ Below w.heap.size w w' := by
  have h8z : decide ((8 : Int) < (s.size : Int)) = false := decide_eq_false (by omega)
  have hemp : pm.toList.isEmpty = false := by rw [Lib.toList_data]; rfl
  have hpc : pm.size = 2 := rfl
  generalize hpm : pm = p at *
  have u9 : Tryd.prog.underlying 9 = _ := Tryd.underlying9
  go_enter Tryd.func39, Tryd.ntmps39
  go_wp2_with (go_at_call 54; refine (Tryd.strings_shouldUseASCIISet _ _).mono ?_; rintro e w' ⟨rfl, hw⟩; rw [hw, h8z])
  go_loopg [9, 10] s.size (fun g _ _ wx => ∃ i : Nat, i + g = s.size ∧ wx.heap[w.heap.size]? = some (.stringIter s i) ∧ Below w.heap.size w wx ∧ Lib.NoAny s.data.toList p.data.toList i)
  case atStart => exact ⟨0, by omega, World.iter_heap _ _ _, (Below.refl _ _).alloc (Nat.le_refl _) _, Lib.NoAny.zero _ _⟩
  case round =>
    obtain ⟨i, hig, hit, hbel, hno⟩ := hrel
    have HN : Aside (Lib.NoAny s.data.toList p.data.toList i) := hno
    clear hno
    cases gk with
    | zero =>
      obtain rfl : i = s.size := by omega
      have hnx := fun ty => run_next_end_at (P := Tryd.prog) wr _ s s.size ty hit (by omega)
      go_wp2
      go_ret
      exact ⟨by rw [Lib.indexAny_none (by rw [← Lib.size_eq]; exact HN.out)]; rfl, hbel⟩
    | succ g =>
      have hi : i < s.size := by omega
      have hit2 := fun q => iterAt_heap wr _ s i q hit
      by_cases hx128 : (s[i]'hi).toNat < 128
      · obtain ⟨x, hx⟩ : ∃ x : UInt8, s[i]'hi = x := ⟨_, rfl⟩
        have hxl : s.data.toList[i]? = some x := by rw [← hx]; exact Lib.data_getElem? s i hi
        have hnx := fun ty => run_next_ascii_at (P := Tryd.prog) wr _ s i ty hit hi hx128
        rw [hx] at hnx hx128
        have Hx : Aside (s.data.toList[i]? = some x) := hxl
        clear hxl hx
        have hcon := Lib.contains_iff_indexByte p.data.toList x
        have hback : ((x.toNat : Int)).toNat.toUInt8 = x := by simp
        cases hin : p.data.toList.contains x
        · rw [hin] at hcon
          have hlt : ¬ ((0 : Int) ≤ Lib.indexByte p.data.toList x) := of_decide_eq_false hcon.symm
          clear hcon
          go_wp2_with (go_at_call 53; refine (Tryd.strings_IndexRune_ascii _ _ _ (by omega) (by omega)).mono ?_; rintro e w' ⟨rfl, hw⟩; rw [hw, hback])
          go_roundg g
          case measure => omega
          case rel => exact ⟨i + 1, by omega, hit2 _, below_iterAt hbel (Nat.le_refl _) _ _, HN.out.succ Hx.out hin⟩
        · rw [hin] at hcon
          have hge : (0 : Int) ≤ Lib.indexByte p.data.toList x := of_decide_eq_true hcon.symm
          clear hcon
          go_wp2_with (go_at_call 53; refine (Tryd.strings_IndexRune_ascii _ _ _ (by omega) (by omega)).mono ?_; rintro e w' ⟨rfl, hw⟩; rw [hw, hback])
          go_ret
          exact ⟨by rw [Lib.indexAny_hit HN.out Hx.out hin]; rfl, below_iterAt hbel (Nat.le_refl _) _ _⟩
      · have hhi : 128 ≤ (s[i]'hi).toNat := by omega
        have hd := decode_high s i hi hhi
        have hrest := decode_rest s i hi (by rw [getAt s i hi]; exact hhi)
        have hnx := fun ty => run_next_any_at (P := Tryd.prog) wr _ s i ty hit hi
        generalize hde : Utf8.decode s i = d at *
        obtain ⟨r, n⟩ := d
        have hr128 : (128 : Int) ≤ (r : Int) := by have := hd.1; simp at this; omega
        have hn1 : 1 ≤ n := hd.2
        have hle : i + n ≤ s.size := by have := (hrest (n - 1) (by show n - 1 < n; omega)).1; omega
        subst hpm
        have hN2 : Aside (Lib.NoAny s.data.toList pm.data.toList (i + n)) := noAny_skip HN.out hrest
        clear hde hd hrest
        have hlt : ¬ ((0 : Int) ≤ -1) := by decide
        simp only at hnx
        go_wp2_with (go_at_call 53; refine (idxRune _ hr128 _).mono ?_; rintro e w' ⟨rfl, hw⟩)
        go_roundg (s.size - (i + n))
        case measure => omega
        case rel => exact ⟨i + n, by omega, by rw [hw.block _ (by rw [iterAt_size]; exact (Array.getElem?_eq_some_iff.1 hit).1)]; exact hit2 _, (below_iterAt hbel (Nat.le_refl _) _ _).trans (hw.mono (by rw [iterAt_size]; exact hbel.size)), hN2.out⟩
theorem zero56 (w : World) : (zeroValue 79).run Tryd.prog w = .ok (.agg (Array.replicate 256 (.bool false))) w := by
  go_simp
  kernel_rfl
theorem idxAny (s : ByteArray) (hs : s.size < 4294967281) (w : World) :
    Calls Tryd.prog 39 #[.string s, .string pm] w fun e w' => e = .returned (.int .i64 (Lib.indexAny s.data.toList pm.data.toList)) ∧ Below w.heap.size w w' := by
  by_cases h8 : s.size ≤ 8
  · exact idxAny_short s h8 w
  · refine (Tryd.strings_IndexAny_long zero56 s pm w (Nat.le_refl _) (by omega) hs (by decide) ?_).mono ?_
    · intro j b hj
      match j, hj with
      | 0, hj => obtain rfl := Option.some.inj hj; decide
      | 1, hj => obtain rfl := Option.some.inj hj; decide
    · rintro e w' ⟨rfl, rfl⟩
      exact ⟨rfl, ((Below.refl _ _).alloc (Nat.le_refl _) _).alloc (by simp) _⟩
end Go.Proofs.YtldeplpiokdmpaaDoor
