/- The law FnExactImportSign returns true for every input and leaves its arguments as they were; its tied card. No conditions. -/
import Derived.Test.YtklfnbckoaphpaaGreatDoorPl
import Derived.Test.YtklfnbckoaphpaaGreatDoorCards
import Derived.Test.YtklfnbckoaphpaaGreatDoorTie
import Derived.ProofKit
import Derived.LaidMore
import Derived.LaidLaws
import Derived.Lay
import Derived.Shelf.Vars
import Derived.OpenShut
import Derived.Stop.Joined
import Derived.SevenTiedAt
import Derived.Lib.LaidTab
namespace Go.Proofs.YtklfnbckoaphpaaGreatDoor
open Go Go.ChangeShapes Go.WideShapes Go.ChangeAt Go.RowKit
theorem Tryz.own : ownKnob Tryz.prog.godebug = none := by kernel_rfl
theorem Tryz.laidOut : laidOutB Tryz.prog = true := by kernel_rfl
theorem ifc_4 {W : World} (h : laidMetH Tryz.prog Rows.fnExactImportSignRow.laid W) : (∀ g, Tryz.prog.globalNamed "strconv.ErrRange" = some g → g < nGlob) ∧ ∃ tp p, W.var? Tryz.prog "strconv.ErrRange" = some #[.iface tp p] := by
  rw [MakeChecks.laidMetH_plain _ _ _ (by kernel_rfl)] at h
  obtain ⟨ps, ⟨_, _, _, _, _, _, _, _, _, _, ⟨_, _, _, _, _, _, _, _, _, _, ⟨_, _, _, _, _, _, _, _, _, _, ⟨_, _, _, _, _, _, _, _, _, _, ⟨g, t, cs, fu, p, q, hg, hty, hvar, hd, _, _⟩, _⟩, _⟩, _⟩, _⟩, _, _⟩ := h
  have g1 : Tryz.prog.globalNamed "strconv.ErrRange" = some 4 := by kernel_rfl
  have t1 : (Tryz.prog.globals[4]?).map (·.type) = some 217 := by kernel_rfl
  obtain rfl := Option.some.inj (g1.symm.trans hg)
  obtain rfl := Option.some.inj (t1.symm.trans hty)
  refine ⟨fun g hg' => ?_, ?_⟩
  · obtain rfl := Option.some.inj (g1.symm.trans hg')
    decide
  · obtain ⟨_, u, v, hc, _, _⟩ := iface_of_trod Tryz.underlying217 hd
    exact ⟨u, v, hvar.trans (congrArg some (Array.ext' hc))⟩
theorem ifc_5 {W : World} (h : laidMetH Tryz.prog Rows.fnExactImportSignRow.laid W) : (∀ g, Tryz.prog.globalNamed "strconv.ErrSyntax" = some g → g < nGlob) ∧ ∃ tp p, W.var? Tryz.prog "strconv.ErrSyntax" = some #[.iface tp p] := by
  rw [MakeChecks.laidMetH_plain _ _ _ (by kernel_rfl)] at h
  obtain ⟨ps, ⟨_, _, _, _, _, _, _, _, _, _, ⟨_, _, _, _, _, _, _, _, _, _, ⟨_, _, _, _, _, _, _, _, _, _, ⟨_, _, _, _, _, _, _, _, _, _, ⟨_, _, _, _, _, _, _, _, _, _, ⟨g, t, cs, fu, p, q, hg, hty, hvar, hd, _, _⟩, _⟩, _⟩, _⟩, _⟩, _⟩, _, _⟩ := h
  have g1 : Tryz.prog.globalNamed "strconv.ErrSyntax" = some 3 := by kernel_rfl
  have t1 : (Tryz.prog.globals[3]?).map (·.type) = some 217 := by kernel_rfl
  obtain rfl := Option.some.inj (g1.symm.trans hg)
  obtain rfl := Option.some.inj (t1.symm.trans hty)
  refine ⟨fun g hg' => ?_, ?_⟩
  · obtain rfl := Option.some.inj (g1.symm.trans hg')
    decide
  · obtain ⟨_, u, v, hc, _, _⟩ := iface_of_trod Tryz.underlying217 hd
    exact ⟨u, v, hvar.trans (congrArg some (Array.ext' hc))⟩
theorem int_of_shape {W : World} (h : W.ShapedOpen Tryz.prog) {q : String} (hq : q ∈ intList) : (∀ g, Tryz.prog.globalNamed q = some g → g < nGlob) ∧ ∃ m, W.var? Tryz.prog q = some #[.int .i64 m] := by
  obtain ⟨m, hm⟩ := cell_of_shapedOpen_int (P := Tryz.prog) (g := 0) (t := 3) (zero := #[.int .i64 0]) h (of_decide_eq_true (by kernel_rfl)) (by kernel_rfl) rfl (by kernel_rfl) (by kernel_rfl) Tryz.underlying3
  have hg : Tryz.prog.globalNamed "internal/bytealg.MaxLen" = some 0 := by kernel_rfl
  have h0 : ((begin Tryz.prog (fun _ _ => 0) default).world.heap[0]?).bind Obj.row? = some (#[.int .i64 0], 3) := by kernel_rfl
  obtain ⟨cs, hh, hs, _⟩ := h.1 0 #[.int .i64 0] 3 (of_decide_eq_true (by kernel_rfl)) h0
  have hq1 : q = "internal/bytealg.MaxLen" := by simpa [intList] using hq
  subst hq1
  refine ⟨fun g hg' => ?_, m, ?_⟩
  · obtain rfl := Option.some.inj (hg.symm.trans hg')
    decide
  · unfold World.var?
    rw [hg]
    simp only [Option.bind_some]
    rw [hh]
    rw [cell_of_row W 0 0 cs 3 (0, 0) hh] at hm
    have h1 : cs.size = 1 := hs
    obtain ⟨l⟩ := cs
    match l, h1, hm with
    | [u], _, hm => simpa using hm
theorem tabs_of_laid {W : World} (h : laidMetH Tryz.prog Rows.fnExactImportSignRow.laid W) (hs : W.heap.size ≥ nGlob) (hS : W.ShapedOpen Tryz.prog) : Tabs Tryz.prog W := by
  refine ⟨fun q hq => ?_, hs, fun q hq => int_of_shape hS hq, fun q hq => ?_⟩
  rotate_left
  · simp only [ifcList, List.mem_cons, List.not_mem_nil, or_false] at hq
    rcases hq with rfl | rfl
    · first | exact ifc_4 h | exact ifc_5 h
    · first | exact ifc_4 h | exact ifc_5 h
  have hq1 : q = ("internal/strconv.uint64pow10", (Lib.pow10Tab.map fun z => Value.int .u64 z).toArray) := by simpa [tabList] using hq
  subst hq1
  rw [MakeChecks.laidMetH_plain _ _ _ (by kernel_rfl)] at h
  obtain ⟨ps, ⟨_, _, _, _, _, _, _, _, _, _, ⟨_, _, _, _, _, _, _, _, _, _, ⟨g, t, cs, fu, p, q, hg, hty, hvar, hd, _, _⟩, _⟩, _⟩, _, _⟩ := h
  have g1 : Tryz.prog.globalNamed "internal/strconv.uint64pow10" = some 5 := by kernel_rfl
  have t1 : (Tryz.prog.globals[5]?).map (·.type) = some 318 := by kernel_rfl
  obtain rfl := Option.some.inj (g1.symm.trans hg)
  obtain rfl := Option.some.inj (t1.symm.trans hty)
  refine ⟨fun g hg' => ?_, ?_⟩
  · obtain rfl := Option.some.inj (g1.symm.trans hg')
    decide
  · have hz : (Rows.laid_internal_strconv_uint64pow10 : DataW Unit) = Lib.tabData .u64 Lib.pow10Tab := by kernel_rfl
    rw [hz] at hd
    show W.var? Tryz.prog "internal/strconv.uint64pow10" = some (Lib.pow10Tab.map fun z => Value.int .u64 z).toArray
    rw [hvar, ← Lib.cells_of_tab (show Tryz.prog.underlying 318 = some (.array 20 179) by kernel_rfl) (show Tryz.prog.underlying 179 = some (.int .u64) by kernel_rfl) (by kernel_rfl) (by kernel_rfl) hd]
theorem big_of_laid {W : World} (h : laidMetH Tryz.prog Rows.fnExactImportSignRow.laid W) : W.heap.size ≥ nGlob := by
  rw [MakeChecks.laidMetH_plain _ _ _ (by kernel_rfl)] at h
  obtain ⟨ps, ⟨_, _, _, _, _, _, _, _, _, _, ⟨g, t, cs, fu, p, q, hg, hty, hvar, hd, _, _⟩, _⟩, _, _⟩ := h
  have g1 : Tryz.prog.globalNamed "math/bits.deBruijn64tab" = some 7 := by kernel_rfl
  unfold World.var? at hvar
  rw [g1] at hvar
  simp only [Option.bind_some] at hvar
  have : 7 < W.heap.size := by
    rcases Nat.lt_or_ge 7 W.heap.size with h' | h'
    · exact h'
    · rw [Array.getElem?_eq_none h'] at hvar; cases hvar
  unfold nGlob
  omega
theorem returned_shaped {H : Type} {enc : TypeId × Value → H} {a : Assume} {C : Checked} {os : Os} {f : FuncId} {fn : Func} {s : ChangeSpec} {conds : List PathCond} {apart fresh handsOn again : Bool} {laid : List (String × DataW Unit)}
    (own : ownKnob C.prog.godebug = none) (started : os.Started) (noInit : C.prog.inits.idxOf? f = none) (hfn : C.prog.funcs[f]? = some fn)
    (witness : ∃ (w : World) (tape : Tape) (i : Input), w.os = os ∧ (w.forCall tape i).Shaped C.prog ∧ i.vars = [] ∧ Input.okWide C.prog (w.forCall tape i) .any w.heap.size f i ∧
      ((s.pre enc C.prog fn conds apart (w.forCall tape i).memory i.args ∧ laidMetH C.prog laid (w.forCall tape i).memory) ∧ sizedMet enc C.prog fn (OpenSpec.ofChange s) apart (w.forCall tape i).memory i.args) ∧ a.holds C.prog (lone (Frame.enter C.prog f i.args .normal) [] (w.forCall tape i)))
    (contract : ∀ (W : World) (base : Nat) (args : Array Value) (ds gs : List (DataW H)) (before : List MemPlace),
      (∀ (j : Nat) t v, fn.params[j]? = some t → args[j]? = some v → Value.okWide C.prog W .any base t v) →
      DataW.Whole enc C.prog fn.params.toList s.vars apart W args.toList ds gs before →
      W.ShapedOpen C.prog → laidMetH C.prog laid W →
      Calls C.prog f args W fun e W' => ∃ v, e = .returned v ∧ s.post enc C.prog fn apart fresh handsOn again W args v W') :
    ReturnsInHanded a C os f .any (fun w args => (s.pre enc C.prog fn conds apart w args ∧ laidMetH C.prog laid w) ∧ sizedMet enc C.prog fn (OpenSpec.ofChange s) apart w args) (s.post enc C.prog fn apart fresh handsOn again) := by
  refine returnsInHanded_of_calls own started noInit witness ?_
  intro w tape i _ hsh _ hok hpre hholds
  obtain ⟨_, _, _, fn', hfn', _, _, _, _, hval⟩ := hok
  have e : fn' = fn := Option.some.inj (hfn'.symm.trans hfn)
  subst e
  obtain ⟨⟨⟨ds, gs, before, hw, hc⟩, hx⟩, hz⟩ := hpre
  have hw' := DataW.Whole.of_heap (w' := w.forCall tape i) (by rfl) hw
  have hx' : laidMetH C.prog laid (w.forCall tape i) := laidMetH.of_heap (by rfl) hx
  refine (contract (w.forCall tape i) w.heap.size i.args ds gs before hval hw' hsh hx').mono fun e W' ⟨v, he, hp⟩ => ?_
  subst he
  exact ChangeSpec.post_blind hp
set_option maxRecDepth 100000 in
theorem lifted (os : Os) (started : os.Started) (H : Type) (enc : TypeId × Value → H) :
    ReturnsInHanded {} Tryz.checked os 6 .any (fun w args => (Rows.fnExactImportSignSpec.pre enc Tryz.prog Tryz.f6 [] false w args ∧ laidMetH Tryz.prog Rows.fnExactImportSignRow.laid w) ∧ sizedMet enc Tryz.prog Tryz.f6 (OpenSpec.ofChange Rows.fnExactImportSignSpec) false w args)
      (Rows.fnExactImportSignSpec.post enc Tryz.prog Tryz.f6 false Rows.fnExactImportSignRow.fresh Rows.fnExactImportSignRow.handsOn Rows.fnExactImportSignRow.again) := by
  refine returned_shaped (C := Tryz.checked) (laid := Rows.fnExactImportSignRow.laid) Tryz.own started (by kernel_rfl) Tryz.func6
    (ChangeSpec.witness_shaped (enc := enc) (C := Tryz.checked) (os := os) (X := fun w _ => laidMetH Tryz.prog Rows.fnExactImportSignRow.laid w) false (World.laidAll Tryz.prog os Rows.fnExactImportSignRow.laid) #[.string ⟨#[]⟩, .string ⟨#[]⟩] 8 (World.laidAll_os _ _ _)
      (World.shaped_of_ZipB (by kernel_rfl) (by kernel_rfl)) (by kernel_rfl) (by kernel_rfl) (by kernel_rfl)
      (by rw [MakeChecks.laidMetH_plain _ _ _ (by kernel_rfl)]; exact laidMet_laidAll _ (by kernel_rfl) (by kernel_rfl))) ?_
  intro W base args ds gs before hval0 hW hS hL
  exact row_of_con (m := 49) (tb := 4) con_laws_FnExactImportSign Tryz.laidOut (by kernel_rfl) (by kernel_rfl) (by kernel_rfl) rfl (fun ds h => by
    match ds, h with
    | [d1, d2], _ => rfl) (by kernel_rfl) rfl rfl (fun x hx => ⟨true, law_ImportSign x, rfl⟩) hval0 hW (tabs_of_laid hL (big_of_laid hL) hS)
theorem and2 {a b : Bool} (h : a = true) (k : b = true) : (a && b) = true := by rw [h, k]; rfl
theorem fact_0 : Rows.fnExactImportSignRow.wf (OpenSpec.ofChange Rows.fnExactImportSignSpec) = true := by kernel_rfl
theorem fact_1 : laidOutB Tryz.prog = true := by kernel_rfl
theorem fact_2 : mapsRowed Tryz.prog = true := by kernel_rfl
theorem fact_6 : (Tryz.prog.stops == []) = true := by kernel_rfl
theorem fact_8 : (Tryz.prog.stopKnobs == []) = true := by kernel_rfl
theorem fact_9 : (Rows.fnExactImportSignRow.inPlace == Tryz.prog.inPlace 6) = true := by kernel_rfl
theorem fact_10 : (Rows.fnExactImportSignRow.unfollowed == Tryz.prog.unfollowed 6) = true := by kernel_rfl
theorem fact_11 : (Rows.fnExactImportSignRow.recurses == Tryz.prog.recurses 6) = true := by kernel_rfl
theorem fact_12 : (Rows.fnExactImportSignRow.named == Tryz.prog.varsNamed 6) = true := by kernel_rfl
theorem fact_22 : (Rows.fnExactImportSignRow.plainKeys == Tryz.prog.plainKeys) = true := by kernel_rfl
theorem fact_24 : Tryz.prog.stopsHeard = true := by kernel_rfl
theorem fact_25 : Tryz.prog.mayEnter = true := by kernel_rfl
theorem fact_26 : (Rows.fnExactImportSignRow.lifted == Tryz.prog.liftsFinal) = true := by kernel_rfl
theorem fact_27 : (Tryz.prog.make == some Rows.fnExactImportSignRow.make) = true := by kernel_rfl
theorem fact_29 : (Rows.fnExactImportSignRow.pinned == Rows.fnExactImportSignRow.pinnedBy) = true := by kernel_rfl
theorem fact_closed : joinedFacts Tryz.prog 6 Tryz.f6 Rows.fnExactImportSignSpec Rows.fnExactImportSignRow = true := by
  unfold joinedFacts
  exact (and2 (and2 (and2 (and2 (and2 (and2 (and2 (and2 (and2 (and2 (and2 (and2 (and2 (and2 (and2 (and2 (and2 (and2 (and2 (and2 (and2 (and2 (and2 (and2 (and2 (and2 (and2 (and2 (and2 (and2 (and2 fact_0 fact_1) fact_2) (by kernel_rfl)) (by kernel_rfl)) (by kernel_rfl)) fact_6) (by kernel_rfl)) fact_8) fact_9) fact_10) fact_11) fact_12) (by kernel_rfl)) (by kernel_rfl)) (by kernel_rfl)) (by kernel_rfl)) (by kernel_rfl)) (by kernel_rfl)) (by kernel_rfl)) (by kernel_rfl)) (by kernel_rfl)) fact_22) (by kernel_rfl)) fact_24) fact_25) fact_26) fact_27) (by kernel_rfl)) fact_29) (by kernel_rfl)) (by kernel_rfl))
theorem fact_main : Tryz.prog.mainIs = some (true, "fdad223fbf689f9d9bd41b3572e15602274361acad064c20d9e7941220070897".toList) := by kernel_rfl
theorem fact_looks : true = Tryz.prog.looks [] := by kernel_rfl
theorem goes_none {P : Program} (h : P.funcs.any Func.goes = false) (f : FuncId) : P.goes f = false := by
  unfold Program.goes
  rw [h, Bool.and_false, Bool.or_false, List.any_eq_false]
  intro g _
  cases hg : P.funcs[g]? with
  | none => simp
  | some fn =>
    obtain ⟨hlt, rfl⟩ := Array.getElem?_eq_some_iff.1 hg
    have := Array.any_eq_false.1 h g hlt
    simpa using this
theorem goesBy_none {P : Program} (h : P.funcs.any Func.goes = false) (c : OpenClaim) : false = c.goesBy P := by
  have e : P.goes = fun _ => false := funext fun f => goes_none h f
  unfold OpenClaim.goesBy Program.goesAt Program.goesFrom
  rw [e]
  cases P.funcNamed c.func <;> cases c.start <;> simp
theorem fact_allgo : Tryz.prog.funcs.any Func.goes = false := by kernel_rfl
theorem fact_goes : false = Rows.fnExactImportSignRow.goesBy Tryz.prog := goesBy_none fact_allgo _
theorem fact_wft : Rows.fnExactImportSignRow.wfByText (OpenSpec.ofChange Rows.fnExactImportSignSpec) = true := by kernel_rfl
theorem fact_fn : Tryz.prog.funcNamed "loop.example/g01008/laws.FnExactImportSign" = some 6 := by kernel_rfl
theorem fact_wants : (Tryz.f6.params.toList.all fun u => !Tryz.prog.wantsStandIn u) = true := by kernel_rfl
theorem FnExactImportSign_holds : Rows.FnExactImportSignSaid :=
  OpenClaim.holds_of_wide 6 Tryz.f6 rfl rfl rfl rfl rfl rfl rfl ⟨rfl, rfl, rfl, rfl, rfl⟩ rfl rfl rfl rfl rfl fact_fn Tryz.func6 fact_closed
    (of_decide_eq_true (by kernel_rfl)) (by unfold Func.isWrapper; first | (rw [if_pos (by decide +kernel)]; kernel_rfl) | (rw [if_neg (by decide +kernel)]; exact ⟨rfl, rfl⟩))
    (fun os started H enc _ => lifted os started H enc)
theorem FnExactImportSign_card : Rows.FnExactImportSignCardSaid :=
  Claim7.holds_tied_plain_at .later [] [.data, .data, .data, .data, .sentinel, .sentinel, .pinned] true (true, "fdad223fbf689f9d9bd41b3572e15602274361acad064c20d9e7941220070897") true
    FnExactImportSign_holds (fun _ h => by cases h) fact_wft (fun _ h => by cases h) fnExactImportSign_row_tie rfl ⟨rfl, rfl⟩ fact_main rfl
    (fun f fn hf hfn => by
      obtain rfl : f = 6 := Option.some.inj (fact_fn.symm.trans hf) |>.symm
      obtain rfl : fn = Tryz.f6 := (Option.some.inj (Tryz.func6.symm.trans hfn)).symm
      exact ⟨fact_looks, fun j t ht => by
        have hm : t ∈ Tryz.f6.params.toList := by simpa using Array.mem_of_getElem? ht
        have hall := fact_wants
        exact (show Tryz.prog.wantsStandIn t = false by simpa using List.all_eq_true.1 hall t hm)⟩)
    fact_goes
end Go.Proofs.YtklfnbckoaphpaaGreatDoor
