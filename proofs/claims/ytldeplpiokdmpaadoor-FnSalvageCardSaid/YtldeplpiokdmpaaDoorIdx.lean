/- strings.IndexAny at the signs + and -, whatever the text, by an own walk of its short road. Conditions: the text's length. -/
import Derived.Test.YtldeplpiokdmpaaDoorShelf
import Derived.Laws.RangeAny
import Derived.Laws.Runes
import Derived.WalkMore
import Derived.WalkKit
import Derived.Lib.Walk
import Derived.LoopN
import Derived.Shelf.RegionOpenPlain
import Derived.Shelf.Strings.IndexAny
set_option linter.unusedVariables false
set_option linter.unusedSimpArgs false
namespace Go.Proofs.YtldeplpiokdmpaaDoor
open Go Go.RowKit Go.Lib
abbrev pm : ByteArray := ⟨#[43, 45]⟩
set_option maxHeartbeats 8000000 in
set_option maxRecDepth 1000000 in
theorem idxRune2 (a b : UInt8) (r : Int) (henc : Utf8.encode r = ⟨#[a, b]⟩) (hb : 128 ≤ b.toNat) (h128 : 128 ≤ r) (hne : r ≠ 65533) (hv : Lib.validRune r = true) (w : World) :
    Calls Tryd.prog 53 #[.string pm, .int .i32 r] w fun e w' => e = .returned (.int .i64 (-1)) ∧ ∃ q, w' = w.drewN q := by
  have h0 : (0 : Int) ≤ r := by omega
  have h1 : ¬ r < 128 := by omega
  have mixed : Tryd.prog.follows .mixedOrders = true := by kernel_rfl
  have hq : ∀ h1 h2, ((((pm[1]'h1).toNat : Int) != (((⟨#[a, b]⟩ : ByteArray)[1]'h2).toNat : Int))) = true := by
    intro h1 h2
    have : (pm[1]'h1).toNat = 45 := rfl
    rw [this]
    have : ((⟨#[a, b]⟩ : ByteArray)[1]'h2) = b := rfl
    rw [this, bne_iff_ne]
    omega
  go_enter Tryd.func53, Tryd.ntmps53
  have u21 : Tryd.prog.underlying 21 = _ := Tryd.underlying21
  have u9 : Tryd.prog.underlying 9 = _ := Tryd.underlying9
  have hcv : ∀ w, (convert 21 9 (.int .i32 r)).run Tryd.prog w = .ok (.string ⟨#[a, b]⟩) w := fun w => by
    rw [run_convert_int_string w 21 9 .i32 r (by rw [u21]; rfl) u9, henc]
  have hix : ∀ b, Lib.indexByte ([] : List UInt8) b = -1 := fun _ => rfl
  have hb45 : ¬ (45 : Int) = (b.toNat : Int) := by omega
  go_wp2_with (go_at_call 61; refine (Tryd.utf8_ValidRune _ _).mono ?_; rintro e w' ⟨rfl, hw⟩; simp only [hw, hv])
  go_step3
  go_wp2
  apply wp_loop_once
  go_wp2
  go_step3
  go_wp2
  go_region_o
  go_wp2
  go_region_with_o (go_at_call 40; refine (Tryd.strings_IndexByte _ _ _).mono ?_; rintro e w' ⟨rfl, hw⟩; rw [hw])
  all_goals (go_wp2; simp +zetaDelta only [Exit.noGoto_ret, Exit.inBlock, Exit.then]; go_ret)
  all_goals exact ⟨rfl, 2, rfl⟩
set_option maxHeartbeats 8000000 in
set_option maxRecDepth 1000000 in
theorem idxRune3 (e : ByteArray) (r : Int) (henc : Utf8.encode r = e) (hs3 : 3 ≤ e.size) (hs4 : e.size ≤ 4) (h128 : 128 ≤ r) (hne : r ≠ 65533) (hv : Lib.validRune r = true) (w : World) :
    Calls Tryd.prog 53 #[.string pm, .int .i32 r] w fun e w' => e = .returned (.int .i64 (-1)) ∧ w' = w := by
  have h0 : (0 : Int) ≤ r := by omega
  have h1 : ¬ r < 128 := by omega
  go_enter Tryd.func53, Tryd.ntmps53
  have u21 : Tryd.prog.underlying 21 = _ := Tryd.underlying21
  have u9 : Tryd.prog.underlying 9 = _ := Tryd.underlying9
  have hcv : ∀ w, (convert 21 9 (.int .i32 r)).run Tryd.prog w = .ok (.string e) w := fun w => by
    rw [run_convert_int_string w 21 9 .i32 r (by rw [u21]; rfl) u9, henc]
  have hlt : decide ((e.size : Int) - 1 < 2) = false := decide_eq_false (by omega)
  go_wp2_with (go_at_call 61; refine (Tryd.utf8_ValidRune _ _).mono ?_; rintro e w' ⟨rfl, hw⟩; simp only [hw, hv])
  go_step3
  go_wp2
  apply wp_loop_once
  go_wp2
  all_goals (try simp +zetaDelta only [Exit.noGoto_ret, Exit.inBlock, Exit.then])
  go_wp2
  go_ret
  exact ⟨rfl, rfl⟩

set_option maxHeartbeats 8000000 in
set_option maxRecDepth 1000000 in
theorem idxRuneBad (r : Int) (h128 : 128 ≤ r) (hne : r ≠ 65533) (hv : Lib.validRune r = false) (w : World) :
    Calls Tryd.prog 53 #[.string pm, .int .i32 r] w fun e w' => e = .returned (.int .i64 (-1)) ∧ w' = w := by
  have h0 : (0 : Int) ≤ r := by omega
  have h1 : ¬ r < 128 := by omega
  go_enter Tryd.func53, Tryd.ntmps53
  go_wp2_with (go_at_call 61; refine (Tryd.utf8_ValidRune _ _).mono ?_; rintro e w' ⟨rfl, hw⟩; simp only [hw, hv])
  go_ret
  exact ⟨rfl, rfl⟩

theorem pm_next0 (w : World) (ty : TypeId) :
    (Instr.next (.pointer (some ⟨w.heap.size, 0, none⟩)) true ty).run Tryd.prog (w.iter pm 0) = .ok (.tuple #[.bool true, .int .i64 0, .int .i32 43]) (w.iter pm 1) := run_next_ascii w pm 0 ty (by decide) (by decide)
theorem pm_next1 (w : World) (ty : TypeId) :
    (Instr.next (.pointer (some ⟨w.heap.size, 0, none⟩)) true ty).run Tryd.prog (w.iter pm 1) = .ok (.tuple #[.bool true, .int .i64 1, .int .i32 45]) (w.iter pm 2) := run_next_ascii w pm 1 ty (by decide) (by decide)
set_option maxHeartbeats 8000000 in
set_option maxRecDepth 1000000 in
theorem idxRuneErr (w : World) :
    Calls Tryd.prog 53 #[.string pm, .int .i32 65533] w fun e w' => e = .returned (.int .i64 (-1)) ∧ w' = w.iter pm 2 := by
  have t9 : Tryd.prog.underlying 9 = _ := Tryd.underlying9
  have n0 := pm_next0 w
  have n1 := pm_next1 w
  have n2 := fun ty => run_next_end (P := Tryd.prog) w pm 2 ty (by decide)
  go_enter Tryd.func53, Tryd.ntmps53
  go_wp2
  apply wp_loop_rounds 3
  rw [rounds_succ]
  go_wp2
  try rw [rounds_succ]
  go_wp2
  try rw [rounds_succ]
  go_wp2
  go_ret
  exact ⟨rfl, rfl⟩
end Go.Proofs.YtldeplpiokdmpaaDoor
