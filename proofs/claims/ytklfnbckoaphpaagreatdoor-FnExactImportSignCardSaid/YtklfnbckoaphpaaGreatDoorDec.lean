/- impl.decimal: what strconv.Atoi reads and strconv.Itoa writes again. Conditions: the text's length; the package's variables hold what they hold. -/
import Derived.Test.YtklfnbckoaphpaaGreatDoorShelf
import Derived.WalkMore
import Derived.WalkKit
import Derived.Lib.Walk
import Derived.WalkSmall
import Derived.Lib.OthersKept
import Derived.Shelf.RegionOpenPlain
import Derived.Lib.AppendIntMem
import Derived.Lib.AtoiAllCases
import Derived.Lib.SmallJoins
set_option linter.unusedVariables false
set_option linter.unusedSimpArgs false
namespace Go.Proofs.YtklfnbckoaphpaaGreatDoor
open Go Go.RowKit Go.Lib
def decOf (s : ByteArray) : Int × Bool := match Lib.atoiAll s.data.toList with
  | .ok v => bif decide ((⟨(Lib.itoa v).toArray⟩ : ByteArray) = s) then (v, true) else (0, false)
  | _ => (0, false)
set_option maxHeartbeats 8000000 in
set_option maxRecDepth 1000000 in
theorem calls_decimal (s : ByteArray) (hlim : s.size ≤ 281474976710656) (w : World) (hsy : ∃ tp p, w.var? Tryz.prog "strconv.ErrSyntax" = some #[.iface tp p]) (hra : ∃ tp p, w.var? Tryz.prog "strconv.ErrRange" = some #[.iface tp p])
    (htab : ∀ w', Below w.heap.size w w' → Lib.TabIs Tryz.prog w' "internal/strconv.uint64pow10" .u64 Lib.pow10Tab) :
    Calls Tryz.prog 169 #[.string s] w fun e w' => e = .returned (.tuple #[.int .i64 (decOf s).1, .bool (decOf s).2]) ∧ Below w.heap.size w w' := by
  have hA : ∀ (v : Int), Lib.atoiAll s.data.toList = .ok v → ∀ w, Calls Tryz.prog 221 #[.string s] w fun e w' => e = .returned (.tuple #[.int .i64 v, .nilIface]) ∧ Below w.heap.size w w' := by
    intro v ha w
    refine (Tryz.strconv_Atoi_ok s (by omega) v ha _).mono ?_
    rintro e w' ⟨rfl, hw⟩
    refine ⟨rfl, ?_⟩
    rcases hw with rfl | ⟨t, rfl⟩
    · exact Below.refl _ _
    · exact Go.Joins.below_bytesWorld _ _ _ _ (Nat.le_refl _)
  have hI : ∀ (v : Int) (w' : World), Lib.atoiAll s.data.toList = .ok v → Below w.heap.size w w' → Calls Tryz.prog 210 #[.int .i64 v] w' fun e w'' => e = .returned (.string ⟨(Lib.itoa v).toArray⟩) ∧ Below w.heap.size w w'' := by
    intro v w' ha hw
    obtain ⟨h0, h1⟩ := atoiAll_bounds ha
    refine (Tryz.strconv_Itoa v h0 h1 w' (htab w' hw)).mono ?_
    rintro e w'' ⟨rfl, k, os, rfl⟩
    exact ⟨rfl, hw.trans ((Go.Lib.below_grow _ _ (Nat.le_refl _) k os).mono hw.size)⟩
  clear htab
  cases ha : Lib.atoiAll s.data.toList with
  | ok v =>
    have hA := hA v ha w
    have hI := fun w' => hI v w' ha
    have hd : decOf s = bif decide ((⟨(Lib.itoa v).toArray⟩ : ByteArray) = s) then (v, true) else (0, false) := by unfold decOf; rw [ha]
    rw [hd]
    clear hd ha hlim hsy hra
    generalize (⟨(Lib.itoa v).toArray⟩ : ByteArray) = t at *
    go_enter Tryz.func169, Tryz.ntmps169
    go_wp2_with (go_at_call 221; refine hA.mono ?_; rintro e w' ⟨rfl, hw⟩)
    go_wp2_with (go_at_call 210; refine (hI _ hw).mono ?_; rintro e w'' ⟨rfl, hw2⟩)
    all_goals rename_i hb
    · have : decide (t = s) = false := by
        refine decide_eq_false ?_
        rintro rfl
        rw [beq_self_eq_true] at hb
        cases hb
      rw [this]
      go_ret2
      exact ⟨rfl, hw2⟩
    · have : t = s := by
        have hb : (t.toList == s.toList) = true := by revert hb; cases (t.toList == s.toList) <;> simp
        have hb := eq_of_beq hb
        rw [Lib.toList_data, Lib.toList_data] at hb
        have : t.data = s.data := Array.ext' hb
        cases t; cases s; cases this; rfl
      subst this
      rw [decide_eq_true rfl]
      go_ret2
      exact ⟨rfl, hw2⟩
  | range =>
    obtain ⟨tp, p, hv⟩ := hra
    have hA := Tryz.strconv_Atoi_range_var s hlim ha tp p w hv
    have hd : decOf s = (0, false) := by unfold decOf; rw [ha]
    rw [hd]
    clear hd ha hlim hsy hv hI
    generalize Lib.atoiSat s.data.toList = sat at *
    go_enter Tryz.func169, Tryz.ntmps169
    go_wp2_with (go_at_call 221; refine hA.mono ?_; rintro e w' ⟨N, rfl, hN, hc, hw⟩)
    go_ret2
    exact ⟨rfl, hw⟩
  | _ =>
    obtain ⟨tp, p, hv⟩ := hsy
    have hA := Tryz.strconv_Atoi_syntax_var s hlim ha tp p w hv
    have hd : decOf s = (0, false) := by unfold decOf; rw [ha]
    rw [hd]
    clear hd ha hlim hra hv hI
    go_enter Tryz.func169, Tryz.ntmps169
    go_wp2_with (go_at_call 221; refine hA.mono ?_; rintro e w' ⟨N, rfl, hN, hc, hw⟩)
    go_ret2
    exact ⟨rfl, hw⟩
end Go.Proofs.YtklfnbckoaphpaaGreatDoor
