/- Rows of elements of several cells, in the words of the library's sort. No conditions. -/
import Derived.Test.YtklfnbckoaphpaaGreatDoorEvZk
import Derived.Shelf.GgSortFunc.RowK
import Derived.Shelf.GgSortFunc.InsertionK
import Derived.Sort.Grow
set_option linter.unusedVariables false
set_option linter.unusedSimpArgs false
namespace Go.Proofs.YtklfnbckoaphpaaGreatDoor
open Go Go.RowKit Go.Sort

theorem vals_len {e : Ty} (hs : e.scal = true) (x : e.den) : (e.vals x).length = e.cells ∧ ∀ v ∈ e.vals x, v.oneCell' = true :=
  RdC.cells (P := { (default : Program) with }) (w := default) (Z := NoB) e _ x ((RdC.scal e hs _ _).2 rfl)
/-- a row of this call's, in the sort's words -/
theorem row_holdsK {P : Program} {d : Bool} {e : Ty} (hs : e.scal = true) [Inhabited e.den] {w : World} {Z F : Nat → Prop} {v : Value} {xs : List e.den} (h : RowOf P false d e w Z F v xs) :
    ∃ A cap, v = .slice A xs.length cap ∧ xs.length ≤ cap ∧ (cap = 0 ∨ ∃ g cur ety, A = some ⟨g, 0, none⟩ ∧ F g ∧ w.heap[g]? = some (.cells cur ety (0, 0)) ∧ cap * e.cells ≤ cur.size ∧ HoldsK e.vals e.cells w g 0 xs.toArray) := by
  obtain ⟨A, cap, rfl, hcap, hm⟩ := h
  refine ⟨A, cap, rfl, hcap, ?_⟩
  rcases hm with h0 | ⟨g, cur, ety, rfl, hF, hh, hsz, Fs, f1, f2, f3⟩
  · exact .inl h0
  · refine .inr ⟨g, cur, ety, rfl, hF, hh, hsz, fun t ht => ?_⟩
    have ht' : t < xs.length * e.cells := by simpa using ht
    have k0 : 0 < e.cells := by rcases Nat.eq_zero_or_pos e.cells with h | h; · rw [h] at ht'; simp at ht'
                                · exact h
    have hi : t / e.cells < xs.length := Nat.div_lt_of_lt_mul (by rw [Nat.mul_comm]; exact ht')
    have hr : t % e.cells < e.cells := Nat.mod_lt _ k0
    have hv := (OwC.scal e hs _ _).1 (f3 _ hi)
    refine ⟨?_, by simp [World.frozen?, hh, mkOf]⟩
    have hc : cur[t]? = (e.vals xs[t / e.cells])[t % e.cells]? := by
      rw [← hv, List.getElem?_take, if_pos hr, List.getElem?_drop]
      rw [show t / e.cells * e.cells + t % e.cells = t by rw [Nat.mul_comm]; exact Nat.div_add_mod _ _]
      simp
    rw [Nat.zero_add, cell_of_row w g t _ _ _ hh, hc]
    have hl := (vals_len hs xs[t / e.cells]).1
    rw [List.getElem?_eq_getElem (by rw [hl]; exact hr)]
    show some _ = some ((flatK e.vals e.cells xs.toArray)[t]!)
    rw [get_flatK _ _ _ t (by simpa using ht')]
    congr 1
    have e1 : xs.toArray[t / e.cells]! = xs[t / e.cells] := by rw [getElem!_pos _ _ (by simpa using hi)]; simp
    rw [e1, getElem!_pos _ _ (by rw [hl]; exact hr)]

/-- the world behind: the row holds what was laid, nothing else that was there has turned -/
theorem laid_rowK {α : Type} {enc : α → List Value} [Inhabited α] {k : Nat} {w : World} {n : Nat} {os : Array Obj} {g : Nat} {cur : Array Value} {ety : TypeId} {d : Array α} (hh : w.heap[g]? = some (.cells cur ety (0, 0))) (hg : nGlob ≤ g) :
    Fr (fun b => b = g) w (sortWorldK enc k w g 0 n d os) ∧ (sortWorldK enc k w g 0 n d os).heap[g]? = some (.cells (putCells id 0 (flatK enc k d) cur) ety (0, 0)) := by
  have hlt : g < w.heap.size := lt_of_block hh
  have e0 : sortWorldK enc k w g 0 n d os = grow (putRow id (Sort.ahead w n) g 0 (flatK enc k d)) os := rfl
  rw [e0]
  generalize flatK enc k d = d'
  have hs : (putRow id (Sort.ahead w n) g 0 d').heap.size = w.heap.size := by simp [putRow, mapBlock, Sort.ahead]
  have hold : ∀ b, b < w.heap.size → b ≠ g → (grow (putRow id (Sort.ahead w n) g 0 d') os).heap[b]? = w.heap[b]? := by
    intro b hb hne
    show ((putRow id (Sort.ahead w n) g 0 d').heap ++ os)[b]? = _
    rw [Array.getElem?_append_left (by rw [hs]; exact hb)]
    simp [putRow, mapBlock, Sort.ahead, Array.getElem?_modify, Ne.symm hne]
  refine ⟨⟨rfl, rfl, rfl, ?_, fun b hb hne => hold b hb hne, fun b hb hlt' => hold b hlt' (by omega)⟩, ?_⟩
  · show _ ≤ ((putRow id (Sort.ahead w n) g 0 d').heap ++ os).size
    rw [Array.size_append, hs]; omega
  · show ((putRow id (Sort.ahead w n) g 0 d').heap ++ os)[g]? = _
    rw [Array.getElem?_append_left (by rw [hs]; exact hlt)]
    simp [putRow, mapBlock, Sort.ahead, Array.getElem?_modify, hh, onCells]

theorem putK_chunk {e : Ty} (hs : e.scal = true) [Inhabited e.den] {d : Array e.den} {cur : Array Value} (hle : d.size * e.cells ≤ cur.size) {i : Nat} (hi : i < d.size) :
    ((putCells id 0 (flatK e.vals e.cells d) cur).toList.drop (i * e.cells)).take e.cells = e.vals d[i] := by
  have hl := (vals_len hs d[i]).1
  apply List.ext_getElem?
  intro r
  by_cases hr : r < e.cells
  · have hb : i * e.cells + r < d.size * e.cells := by
      have : (i + 1) * e.cells ≤ d.size * e.cells := Nat.mul_le_mul_right _ hi
      rw [Nat.add_mul, Nat.one_mul] at this
      omega
    rw [List.getElem?_take, if_pos hr, List.getElem?_drop, Array.getElem?_toList]
    simp only [putCells, Array.getElem?_mapIdx]
    rw [Array.getElem?_eq_getElem (show i * e.cells + r < cur.size by omega), Option.map_some, if_pos ⟨Nat.zero_le _, by rw [size_flatK]; omega⟩, Nat.sub_zero, get_flatK _ _ _ _ hb]
    have k0 : 0 < e.cells := by omega
    have e1 : (i * e.cells + r) / e.cells = i := by rw [Nat.mul_comm, Nat.mul_add_div k0, Nat.div_eq_of_lt hr, Nat.add_zero]
    have e2 : (i * e.cells + r) % e.cells = r := by rw [Nat.mul_comm, Nat.mul_add_mod, Nat.mod_eq_of_lt hr]
    rw [e1, e2, getElem!_pos d i hi, List.getElem?_eq_getElem (by rw [hl]; exact hr), getElem!_pos _ _ (by rw [hl]; exact hr)]
    rfl
  · rw [List.getElem?_take, if_neg hr, List.getElem?_eq_none (by rw [hl]; omega)]
theorem row_of_laid {P : Program} {e : Ty} (hs : e.scal = true) [Inhabited e.den] {d : Array e.den} {cur : Array Value} {w : World} {Z F : Nat → Prop} {g cap : Nat} {ety : TypeId} (hF : F g) (hh : w.heap[g]? = some (.cells (putCells id 0 (flatK e.vals e.cells d) cur) ety (0, 0)))
    (hcap : d.size ≤ cap) (hsz : cap * e.cells ≤ cur.size) : RowOf P false true e w Z F (.slice (some ⟨g, 0, none⟩) d.size cap) d.toList := by
  refine ⟨some ⟨g, 0, none⟩, cap, by simp, by simpa using hcap, .inr ⟨g, _, ety, rfl, hF, hh, ?_, fun _ => NoB, fun _ _ f => f.elim, fun _ _ _ _ f => f.elim, fun i hi => ?_⟩⟩
  · simpa [putCells] using hsz
  · have hi' : i < d.size := by simpa using hi
    refine (OwC.scal e hs _ _).2 ?_
    have hle : d.size * e.cells ≤ cur.size := Nat.le_trans (Nat.mul_le_mul_right _ hcap) hsz
    rw [putK_chunk hs hle hi']
    simp
end Go.Proofs.YtklfnbckoaphpaaGreatDoor
