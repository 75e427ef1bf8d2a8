/- Contracts of functions that put a row in order in place, from proved calls (slices.Sort). No conditions. -/
import Derived.Test.YtjmagdcgniklgaaGreatDoorEvZl
import Derived.Sort.Grow
set_option linter.unusedVariables false
set_option linter.unusedSimpArgs false
namespace Go.Proofs.YtjmagdcgniklgaaGreatDoor
open Go Go.RowKit Go.Sort

section
variable {α : Type} [Inhabited α]

/-- a row of this call's, one cell an element, in the sort's words -/
theorem row_holds {P : Program} {d : Bool} {e : Ty} (hs : e.scal = true) (h1 : e.cells = 1) {enc : α → Value} {to : e.den → α} (henc : ∀ x, e.vals x = [enc (to x)]) {w : World} {Z F : Nat → Prop} {v : Value} {xs : List e.den} (h : RowOf P false d e w Z F v xs) :
    ∃ A cap, v = .slice A xs.length cap ∧ xs.length ≤ cap ∧ (cap = 0 ∨ ∃ g cur ety, A = some ⟨g, 0, none⟩ ∧ F g ∧ w.heap[g]? = some (.cells cur ety (0, 0)) ∧ cap ≤ cur.size ∧ Sort.Holds enc w g 0 (xs.map to).toArray) := by
  obtain ⟨A, cap, rfl, hcap, hm⟩ := h
  refine ⟨A, cap, rfl, hcap, ?_⟩
  rcases hm with h0 | ⟨g, cur, ety, rfl, hF, hh, hsz, Fs, f1, f2, f3⟩
  · exact .inl h0
  · rw [h1, Nat.mul_one] at hsz
    refine .inr ⟨g, cur, ety, rfl, hF, hh, hsz, fun j hj => ?_⟩
    have hj' : j < xs.length := by simpa using hj
    have hel := f3 j hj'
    rw [h1] at hel
    have hv := (OwC.scal e hs _ _).1 hel
    rw [henc] at hv
    refine ⟨?_, by simp [World.frozen?, hh, mkOf]⟩
    have hc : cur[j]? = some (enc (to xs[j])) := by
      have : ((cur.toList.drop (j * 1)).take 1)[0]? = some (enc (to xs[j])) := by rw [hv]; rfl
      simpa [List.getElem?_take, List.getElem?_drop] using this
    simp only [World.cell?, hh, Nat.zero_add]
    simp only [Option.isSome_none, Bool.false_eq_true, if_false]
    rw [hc]
    simp [getElem!_pos, hj']

/-- the world behind: the row holds what was laid, nothing else that was there has turned -/
theorem laid_row {enc : α → Value} {w : World} {n : Nat} {os : Array Obj} {g : Nat} {cur : Array Value} {ety : TypeId} {d : Array α} (hh : w.heap[g]? = some (.cells cur ety (0, 0))) (hg : nGlob ≤ g) :
    Fr (fun b => b = g) w (grow (putRow enc (Sort.ahead w n) g 0 d) os) ∧ (grow (putRow enc (Sort.ahead w n) g 0 d) os).heap[g]? = some (.cells (putCells enc 0 d cur) ety (0, 0)) := by
  have hlt : g < w.heap.size := lt_of_block hh
  have hs : (putRow enc (Sort.ahead w n) g 0 d).heap.size = w.heap.size := by simp [putRow, mapBlock, Sort.ahead]
  have hold : ∀ b, b < w.heap.size → b ≠ g → (grow (putRow enc (Sort.ahead w n) g 0 d) os).heap[b]? = w.heap[b]? := by
    intro b hb hne
    show ((putRow enc (Sort.ahead w n) g 0 d).heap ++ os)[b]? = _
    rw [Array.getElem?_append_left (by rw [hs]; exact hb)]
    simp [putRow, mapBlock, Sort.ahead, Array.getElem?_modify, Ne.symm hne]
  refine ⟨⟨rfl, rfl, rfl, ?_, fun b hb hne => hold b hb hne, fun b hb hlt' => hold b hlt' (by omega)⟩, ?_⟩
  · show _ ≤ ((putRow enc (Sort.ahead w n) g 0 d).heap ++ os).size
    rw [Array.size_append, hs]; omega
  · show ((putRow enc (Sort.ahead w n) g 0 d).heap ++ os)[g]? = _
    rw [Array.getElem?_append_left (by rw [hs]; exact hlt)]
    simp [putRow, mapBlock, Sort.ahead, Array.getElem?_modify, hh, onCells]

theorem putCells_chunk {enc : α → Value} {d : Array α} {cur : Array Value} (hle : d.size ≤ cur.size) {i : Nat} (hi : i < d.size) : ((putCells enc 0 d cur).toList.drop i).take 1 = [enc d[i]] := by
  have hc : (putCells enc 0 d cur)[i]? = some (enc d[i]) := by
    simp only [putCells, Array.getElem?_mapIdx]
    rw [Array.getElem?_eq_getElem (by omega), Option.map_some, if_pos ⟨Nat.zero_le _, by omega⟩]
    simp [getElem!_pos, hi]
  apply List.ext_getElem?
  intro k
  cases k with
  | zero => simpa [List.getElem?_take, List.getElem?_drop] using hc
  | succ k => simp [List.getElem?_take]

noncomputable def F_sort (e : Ty) (to : e.den → α) (of : α → e.den) (srt : List α → List α) (x : List e.den) : Option (List e.den) := bif decide (x.length < 4611686018427387904) then some ((srt (x.map to)).map of) else none

/-- a function that puts a row in order in place -/
theorem con_sort {P : Program} {f : FuncId} (he : Enters P f) (e : Ty) (hs : e.scal = true) (h1 : e.cells = 1) (enc : α → Value) (to : e.den → α) (of : α → e.den) (henc : ∀ x, e.vals x = [enc (to x)]) (hof : ∀ a, to (of a) = a)
    (srt : List α → List α) (hlen : ∀ l, (srt l).length = l.length)
    (hnone : ∀ (A : Option Addr) (w : World), Calls P f #[.slice A 0 0] w fun e w' => e = .returned (.tuple #[]) ∧ Fr NoB w w')
    (hcalls : ∀ (g cap : Nat) (zs : List α) (w : World), Sort.Holds enc w g 0 zs.toArray → g < w.heap.size → zs.length < 4611686018427387904 →
      Calls P f #[.slice (some ⟨g, 0, none⟩) zs.length cap] w fun e w' => e = .returned (.tuple #[]) ∧ ∃ n os, w' = grow (putRow enc (Sort.ahead w n) g 0 (srt zs).toArray) os) :
    ConOK P f { ps := [(.io true, .slice e)], rs := [], F := F_sort e to of srt } := by
  refine ⟨he, fun w Z X vals (x : List e.den) (y : List e.den) hy hXZ hXlt hold htabs hXbig => ?_⟩
  have hy : F_sort e to of srt x = some y := hy
  unfold F_sort at hy
  obtain ⟨hg, hy⟩ := bif_none hy
  have hg := of_decide_eq_true hg
  obtain rfl : (srt (x.map to)).map of = y := Option.some.inj hy
  obtain ⟨v, r, F1, F2, rfl, s1, s2, s3, how, hr⟩ := hold
  obtain rfl : r = [] := hr
  have how : RowOf P false true e w Z F1 v x := how
  obtain ⟨A, cap, rfl, hcap, hm⟩ := row_holds hs h1 henc how
  have done : ∀ (w' : World) (v' : Value), v' = .slice A x.length cap → Fr F1 w w' → RowOf P false true e w' (fun b => Z b ∨ (w.heap.size ≤ b ∧ ¬ NoB b ∧ ¬ F1 b)) F1 v' ((srt (x.map to)).map of) →
      ∃ v vs, ∃ F G : Nat → Prop, Ending.returned (.tuple #[]) = .returned v ∧ Tupled vs v ∧ vs.length = 0 ∧ Fr X w w' ∧
        (∀ b, F b → (w.heap.size ≤ b ∨ (X b ∧ Sig.ios [(PK.io true, Ty.slice e)] = [])) ∧ b < w'.heap.size) ∧ (∀ b, G b → (X b ∨ w.heap.size ≤ b) ∧ b < w'.heap.size) ∧ (∀ b, F b → ¬ G b) ∧
        Holds P w' (fun b => Z b ∨ (w.heap.size ≤ b ∧ ¬ F b ∧ ¬ G b)) G (Sig.ios [(PK.io true, Ty.slice e)]) (ioVals [(PK.io true, Ty.slice e)] [.slice A x.length cap]) (Sig.fst (Sig.ios [(PK.io true, Ty.slice e)]) [] ((srt (x.map to)).map of)) ∧
        Holds P w' (fun b => Z b ∨ (w.heap.size ≤ b ∧ ¬ F b ∧ ¬ G b)) F [] vs (Sig.snd (Sig.ios [(PK.io true, Ty.slice e)]) [] ((srt (x.map to)).map of)) := by
    intro w' v' hv' hfr hrow
    subst hv'
    exact ⟨_, [], NoB, F1, rfl, rfl, rfl, ⟨hfr.os, hfr.tape, hfr.output, hfr.size, fun b hb hn => hfr.block b hb fun hf => hn (s1 b hf), hfr.glob⟩, fun _ f => f.elim, fun b hb => ⟨.inl (s1 b hb), Nat.lt_of_lt_of_le (hXlt b (s1 b hb)) hfr.size⟩, fun _ f => f.elim,
      ⟨_, [], F1, NoB, rfl, fun _ h => h, fun _ f => f.elim, fun _ _ f => f, hrow, rfl⟩, rfl⟩
  rcases hm with h0 | ⟨g, cur, ety, rfl, hF, hh, hsz, hH⟩
  · subst h0
    have hx : x.length = 0 := by omega
    have hx0 : x = [] := List.eq_nil_of_length_eq_zero hx
    subst hx0
    refine (hnone A w).mono ?_
    rintro e' w' ⟨rfl, hfr⟩
    have hnil : (srt (([] : List e.den).map to)).map of = [] := List.eq_nil_of_length_eq_zero (by simp [hlen])
    exact done w' _ rfl hfr.le ⟨A, 0, by rw [hnil], by rw [hnil]; simp, .inl rfl⟩
  · have hzl : (x.map to).length = x.length := by simp
    have := hcalls g cap (x.map to) w hH (lt_of_block hh) (by rw [hzl]; exact hg)
    rw [hzl] at this
    refine this.mono ?_
    rintro e' w' ⟨rfl, n, os, rfl⟩
    obtain ⟨hfr, hh'⟩ := laid_row (enc := enc) (n := n) (os := os) (d := (srt (x.map to)).toArray) hh (hXbig g (s1 g hF))
    have hyl : ((srt (x.map to)).map of).length = x.length := by simp [hlen]
    have hdl : (srt (x.map to)).toArray.size = x.length := by simp [hlen]
    refine done _ _ rfl ⟨hfr.os, hfr.tape, hfr.output, hfr.size, fun b hb hn => hfr.block b hb fun e => hn (by subst e; exact hF), hfr.glob⟩ ⟨some ⟨g, 0, none⟩, cap, by rw [hyl], by rw [hyl]; exact hcap, .inr ⟨g, _, ety, rfl, hF, hh', ?_, fun _ => NoB, fun _ _ f => f.elim, fun _ _ _ _ f => f.elim, fun i hi => ?_⟩⟩
    · rw [h1, Nat.mul_one]
      simpa [putCells] using hsz
    · have hi' : i < (srt (x.map to)).toArray.size := by rw [hdl]; omega
      have hch := putCells_chunk (enc := enc) (cur := cur) (show (srt (x.map to)).toArray.size ≤ cur.size by rw [hdl]; omega) hi'
      refine (OwC.scal e hs _ _).2 ?_
      rw [h1, Nat.mul_one, hch, List.getElem_map, henc, hof]
      simp
end
end Go.Proofs.YtjmagdcgniklgaaGreatDoor
