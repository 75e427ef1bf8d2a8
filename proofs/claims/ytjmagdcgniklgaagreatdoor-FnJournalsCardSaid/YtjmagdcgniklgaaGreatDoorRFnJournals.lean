/- The law FnJournals returns true for every input and leaves its arguments as they were; its tied card. No conditions. -/
import Derived.Test.YtjmagdcgniklgaaGreatDoorPl
import Derived.Test.YtjmagdcgniklgaaGreatDoorCards
import Derived.Test.YtjmagdcgniklgaaGreatDoorTie
import Derived.ProofKit
import Derived.LaidMore
import Derived.LaidLaws
import Derived.OpenShut
import Derived.Stop.Joined
import Derived.SevenTiedAt
import Derived.Lib.LaidTab
namespace Go.Proofs.YtjmagdcgniklgaaGreatDoor
open Go Go.ChangeShapes Go.WideShapes Go.ChangeAt Go.RowKit
theorem Tryz.own : ownKnob Tryz.prog.godebug = none := by kernel_rfl
theorem Tryz.laidOut : laidOutB Tryz.prog = true := by kernel_rfl
theorem ifc_3 {W : World} (h : laidMetH Tryz.prog Rows.fnJournalsRow.laid W) : (∀ g, Tryz.prog.globalNamed "strconv.ErrRange" = some g → g < nGlob) ∧ ∃ tp p, W.var? Tryz.prog "strconv.ErrRange" = some #[.iface tp p] := by
  rw [MakeChecks.laidMetH_plain _ _ _ (by kernel_rfl)] at h
  obtain ⟨ps, ⟨_, _, _, _, _, _, _, _, _, _, ⟨_, _, _, _, _, _, _, _, _, _, ⟨_, _, _, _, _, _, _, _, _, _, ⟨g, t, cs, fu, p, q, hg, hty, hvar, hd, _, _⟩, _⟩, _⟩, _⟩, _, _⟩ := h
  have g1 : Tryz.prog.globalNamed "strconv.ErrRange" = some 2 := by kernel_rfl
  have t1 : (Tryz.prog.globals[2]?).map (·.type) = some 94 := by kernel_rfl
  obtain rfl := Option.some.inj (g1.symm.trans hg)
  obtain rfl := Option.some.inj (t1.symm.trans hty)
  refine ⟨fun g hg' => ?_, ?_⟩
  · obtain rfl := Option.some.inj (g1.symm.trans hg')
    decide
  · obtain ⟨_, u, v, hc, _, _⟩ := iface_of_trod Tryz.underlying94 hd
    exact ⟨u, v, hvar.trans (congrArg some (Array.ext' hc))⟩
theorem ifc_4 {W : World} (h : laidMetH Tryz.prog Rows.fnJournalsRow.laid W) : (∀ g, Tryz.prog.globalNamed "strconv.ErrSyntax" = some g → g < nGlob) ∧ ∃ tp p, W.var? Tryz.prog "strconv.ErrSyntax" = some #[.iface tp p] := by
  rw [MakeChecks.laidMetH_plain _ _ _ (by kernel_rfl)] at h
  obtain ⟨ps, ⟨_, _, _, _, _, _, _, _, _, _, ⟨_, _, _, _, _, _, _, _, _, _, ⟨_, _, _, _, _, _, _, _, _, _, ⟨_, _, _, _, _, _, _, _, _, _, ⟨g, t, cs, fu, p, q, hg, hty, hvar, hd, _, _⟩, _⟩, _⟩, _⟩, _⟩, _, _⟩ := h
  have g1 : Tryz.prog.globalNamed "strconv.ErrSyntax" = some 1 := by kernel_rfl
  have t1 : (Tryz.prog.globals[1]?).map (·.type) = some 94 := by kernel_rfl
  obtain rfl := Option.some.inj (g1.symm.trans hg)
  obtain rfl := Option.some.inj (t1.symm.trans hty)
  refine ⟨fun g hg' => ?_, ?_⟩
  · obtain rfl := Option.some.inj (g1.symm.trans hg')
    decide
  · obtain ⟨_, u, v, hc, _, _⟩ := iface_of_trod Tryz.underlying94 hd
    exact ⟨u, v, hvar.trans (congrArg some (Array.ext' hc))⟩
theorem tabs_of_laid {W : World} (h : laidMetH Tryz.prog Rows.fnJournalsRow.laid W) (hs : W.heap.size ≥ nGlob) : Tabs Tryz.prog W := by
  refine ⟨fun q hq => ?_, hs, fun q hq => (by cases hq), fun q hq => ?_⟩
  rotate_left
  · simp only [ifcList, List.mem_cons, List.not_mem_nil, or_false] at hq
    rcases hq with rfl | rfl
    · first | exact ifc_3 h | exact ifc_4 h
    · first | exact ifc_3 h | exact ifc_4 h
  have hq1 : q = ("internal/strconv.uint64pow10", (Lib.pow10Tab.map fun z => Value.int .u64 z).toArray) := by simpa [tabList] using hq
  subst hq1
  rw [MakeChecks.laidMetH_plain _ _ _ (by kernel_rfl)] at h
  obtain ⟨ps, ⟨_, _, _, _, _, _, _, _, _, _, ⟨_, _, _, _, _, _, _, _, _, _, ⟨g, t, cs, fu, p, q, hg, hty, hvar, hd, _, _⟩, _⟩, _⟩, _, _⟩ := h
  have g1 : Tryz.prog.globalNamed "internal/strconv.uint64pow10" = some 3 := by kernel_rfl
  have t1 : (Tryz.prog.globals[3]?).map (·.type) = some 141 := by kernel_rfl
  obtain rfl := Option.some.inj (g1.symm.trans hg)
  obtain rfl := Option.some.inj (t1.symm.trans hty)
  refine ⟨fun g hg' => ?_, ?_⟩
  · obtain rfl := Option.some.inj (g1.symm.trans hg')
    decide
  · have hz : (Rows.laid_internal_strconv_uint64pow10 : DataW Unit) = Lib.tabData .u64 Lib.pow10Tab := by kernel_rfl
    rw [hz] at hd
    show W.var? Tryz.prog "internal/strconv.uint64pow10" = some (Lib.pow10Tab.map fun z => Value.int .u64 z).toArray
    rw [hvar, ← Lib.cells_of_tab (show Tryz.prog.underlying 141 = some (.array 20 51) by kernel_rfl) (show Tryz.prog.underlying 51 = some (.int .u64) by kernel_rfl) (by kernel_rfl) (by kernel_rfl) hd]
theorem door_met (os : Os) (args : Array Value) : laidMetH Tryz.prog Rows.fnJournalsRow.laid ((World.doorLaid Tryz.prog 400 os).forCall (fun _ _ => 0) ⟨#[], args, []⟩).memory :=
  laidMetH_of_parts3 (fuel := 8) (laidMet_of_run' 8 (by kernel_rfl) (by kernel_rfl)) (by kernel_rfl) (by kernel_rfl)
theorem big_of_laid {W : World} (h : laidMetH Tryz.prog Rows.fnJournalsRow.laid W) : W.heap.size ≥ nGlob := by
  rw [MakeChecks.laidMetH_plain _ _ _ (by kernel_rfl)] at h
  obtain ⟨ps, ⟨_, _, _, _, _, _, _, _, _, _, ⟨g, t, cs, fu, p, q, hg, hty, hvar, hd, _, _⟩, _⟩, _, _⟩ := h
  have g1 : Tryz.prog.globalNamed "math/bits.deBruijn64tab" = some 5 := by kernel_rfl
  unfold World.var? at hvar
  rw [g1] at hvar
  simp only [Option.bind_some] at hvar
  have : 5 < W.heap.size := by
    rcases Nat.lt_or_ge 5 W.heap.size with h' | h'
    · exact h'
    · rw [Array.getElem?_eq_none h'] at hvar; cases hvar
  unfold nGlob
  omega
set_option maxRecDepth 100000 in
theorem lifted (os : Os) (started : os.Started) (H : Type) (enc : TypeId × Value → H) :
    ReturnsInHanded {} Tryz.checked os 3 .any (fun w args => (Rows.fnJournalsSpec.pre enc Tryz.prog Tryz.f3 [] false w args ∧ laidMetH Tryz.prog Rows.fnJournalsRow.laid w) ∧ sizedMet enc Tryz.prog Tryz.f3 (OpenSpec.ofChange Rows.fnJournalsSpec) false w args)
      (Rows.fnJournalsSpec.post enc Tryz.prog Tryz.f3 false Rows.fnJournalsRow.fresh Rows.fnJournalsRow.handsOn Rows.fnJournalsRow.again) := by
  refine returnsInHanded_of_change_and (C := Tryz.checked) (X := fun w _ => laidMetH Tryz.prog Rows.fnJournalsRow.laid w) (fun _ _ _ hh h => h.of_heap hh) Tryz.own started (by kernel_rfl) Tryz.func3
    (ChangeSpec.witness_shaped (enc := enc) (C := Tryz.checked) (os := os) (X := fun w _ => laidMetH Tryz.prog Rows.fnJournalsRow.laid w) false (World.doorLaid Tryz.prog 400 os) #[.slice none 0 0, .slice none 0 0] 8 rfl (World.shaped_of_RefB (by kernel_rfl) (by kernel_rfl)) (by kernel_rfl) (by kernel_rfl) (by kernel_rfl) (door_met os _)) ?_
  intro W base args ds gs before hval0 hW _ _ hL _
  exact row_of_con (m := 49) (tb := 4) con_laws_FnJournals Tryz.laidOut (by kernel_rfl) (by kernel_rfl) (by kernel_rfl) rfl (fun ds h => by
    match ds, h with
    | [d1, d2], _ => rfl) (by kernel_rfl) rfl rfl (fun x hx => ⟨true, law_FnJournals x.1 x.2 hx.1.1 hx.2.1.1 (fun b hb => byte_wf (hx.1.2 b hb)) (fun b hb => byte_wf (hx.2.1.2 b hb)), rfl⟩) hval0 hW (tabs_of_laid hL (big_of_laid hL))
theorem FnJournals_holds : Rows.FnJournalsSaid :=
  OpenClaim.holds_of_wide 3 Tryz.f3 rfl rfl rfl rfl rfl rfl rfl ⟨rfl, rfl, rfl, rfl, rfl⟩ rfl rfl rfl rfl rfl (by kernel_rfl) Tryz.func3 (by kernel_rfl)
    (of_decide_eq_true (by kernel_rfl)) (by unfold Func.isWrapper; first | (rw [if_pos (by decide +kernel)]; kernel_rfl) | (rw [if_neg (by decide +kernel)]; exact ⟨rfl, rfl⟩))
    (fun os started H enc _ => lifted os started H enc)
theorem FnJournals_card : Rows.FnJournalsCardSaid :=
  Claim7.holds_tied_plain_at .later [] [.data, .data, .data, .sentinel, .sentinel] true (true, "e61292e957863a46aca24adbea67e7ed1d5b41579a9a393ab692c5a4d3b665b7") true
    FnJournals_holds (fun _ h => by cases h) (by kernel_rfl) (fun _ h => by cases h) fnJournals_row_tie rfl ⟨rfl, rfl⟩ (by kernel_rfl) rfl
    (fun f fn hf hfn => by
      obtain rfl : f = 3 := Option.some.inj ((show Tryz.prog.funcNamed "loop.example/g01008/laws.FnJournals" = some 3 by kernel_rfl).symm.trans hf) |>.symm
      obtain rfl : fn = Tryz.f3 := (Option.some.inj (Tryz.func3.symm.trans hfn)).symm
      exact ⟨by kernel_rfl, fun j t ht => by
        have hm : t ∈ Tryz.f3.params.toList := by simpa using Array.mem_of_getElem? ht
        have hall : (Tryz.f3.params.toList.all fun u => !Tryz.prog.wantsStandIn u) = true := by kernel_rfl
        exact (show Tryz.prog.wantsStandIn t = false by simpa using List.all_eq_true.1 hall t hm)⟩)
    (by kernel_rfl)
end Go.Proofs.YtjmagdcgniklgaaGreatDoor
