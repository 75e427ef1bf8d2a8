/- The contract of slices.Insert of one string into an own row of strings, from proved calls. No conditions. -/
import Derived.Test.YtnfngofcdhaaaaaGreatEvZn
import Derived.Laws.IdiomCopy
set_option linter.unusedVariables false
set_option linter.unusedSimpArgs false
namespace Go.Proofs.YtnfngofcdhaaaaaGreat
open Go Go.RowKit Go.Sort

theorem setRow_same (w : World) (g : Nat) (cur : Array Value) (ety : TypeId) (fz : Nat × Nat) (hh : w.heap[g]? = some (.cells cur ety fz)) : w.setRow g cur = w := by
  have : (w.setRow g cur).heap = w.heap := by
    unfold World.setRow
    apply Array.ext_getElem?
    intro k
    rw [Array.getElem?_modify]
    split
    · rename_i e
      subst e
      rw [hh]; rfl
    · rfl
  show { w with heap := (w.setRow g cur).heap } = w
  rw [this]
theorem setCell_row (w : World) (g o : Nat) (v : Value) (cur : Array Value) (ety : TypeId) (fz : Nat × Nat) (hh : w.heap[g]? = some (.cells cur ety fz)) : w.setCell ⟨g, o, none⟩ v = w.setRow g (cur.setIfInBounds o v) := by
  unfold World.setRow World.setCell
  congr 1
  apply Array.ext_getElem?
  intro k
  rw [Array.getElem?_modify, Array.getElem?_modify]
  split
  · rename_i e
    subst e
    rw [hh]; rfl
  · rfl
/-- cells laid side by side in one block -/
theorem setCells_row (g : Nat) (ety : TypeId) (fz : Nat × Nat) : ∀ (vs : List Value) (o : Nat) (cur : Array Value) (w : World), w.heap[g]? = some (.cells cur ety fz) → o + vs.length ≤ cur.size →
    w.setCells g o vs = w.setRow g (cur.toList.take o ++ vs ++ cur.toList.drop (o + vs.length)).toArray
  | [], o, cur, w, hh, _ => by
    rw [World.setCells]
    simp only [List.append_nil, List.length_nil, Nat.add_zero, List.take_append_drop]
    exact (setRow_same w g cur ety fz hh).symm
  | v :: r, o, cur, w, hh, hl => by
    have hl' : o + (r.length + 1) ≤ cur.size := hl
    rw [World.setCells, setCell_row w g o v cur ety fz hh, setCells_row g ety fz r (o + 1) (cur.setIfInBounds o v) _ (setRow_heap w g cur _ ety fz hh) (by simp; omega), setRow_setRow]
    congr 1
    apply Array.ext'
    simp only [Array.toList_setIfInBounds, List.length_cons]
    have h1 : (cur.toList.set o v).take (o + 1) = cur.toList.take o ++ [v] := by
      rw [List.take_set, List.take_add_one, List.set_append_right _ _ (by simp; omega)]
      have : cur.toList[o]? = some (cur.toList[o]'(by simp; omega)) := List.getElem?_eq_getElem (by simp; omega)
      rw [this]
      simp [show o - min o cur.size = 0 by omega]
    rw [h1, List.drop_set, if_pos (by omega), show o + 1 + r.length = o + (r.length + 1) by omega]
    simp

/-- the row behind one more string -/
def insRow (cur : Array Value) (n i : Nat) (u : Value) : Array Value := (cur.toList.take i ++ u :: (cur.toList.drop i).take (n - i) ++ cur.toList.drop (n + 1)).toArray
theorem ins_size {cur : Array Value} {n i : Nat} {u : Value} (hi : i ≤ n) (hn : n + 1 ≤ cur.size) : (insRow cur n i u).size = cur.size := by
  simp [insRow]; omega
theorem ins_take {cur : Array Value} {n i : Nat} {u : Value} (hi : i ≤ n) (hn : n + 1 ≤ cur.size) : (insRow cur n i u).toList.take (n + 1) = (cur.toList.take n).take i ++ u :: (cur.toList.take n).drop i := by
  have hl : (cur.toList.take i ++ u :: (cur.toList.drop i).take (n - i)).length = n + 1 := by simp; omega
  unfold insRow
  rw [← hl]
  simp only [List.take_left']
  rw [List.take_take, Nat.min_eq_left hi, List.drop_take]

/-- new memory in which one more string has been laid -/
theorem grow_world {w : World} (hgl : nGlob ≤ w.heap.size) (row : Array Value) (t : TypeId) (i : Nat) (u : Value) (rest : List Value) (h : i + 1 + rest.length ≤ row.size) {w' : World}
    (hw' : w' = (((w.alloc (.cells row t)).drew.setCells w.heap.size i [u]).drew).setCells w.heap.size (i + 1) rest) :
    ∃ cur', w'.heap[w.heap.size]? = some (.cells cur' t (0, 0)) ∧ cur'.size = row.size ∧ cur'.toList.take (i + 1 + rest.length) = row.toList.take i ++ u :: rest ∧ Fr NoB w w' := by
  have h0 : (w.alloc (.cells row t)).drew.heap[w.heap.size]? = some (.cells row t (0, 0)) := by
    show (w.heap.push _)[w.heap.size]? = _
    rw [Array.getElem?_push, if_pos rfl]
  have h1 := setCells_row w.heap.size t (0, 0) [u] i row _ h0 (by simp; omega)
  have hs1 : (row.toList.take i ++ [u] ++ row.toList.drop (i + [u].length)).toArray.size = row.size := by simp; omega
  have h2 := setRow_heap (w.alloc (.cells row t)).drew w.heap.size row (row.toList.take i ++ [u] ++ row.toList.drop (i + [u].length)).toArray t (0, 0) h0
  rw [h1] at hw'
  rw [setCells_row w.heap.size t (0, 0) rest (i + 1) _ ((w.alloc (.cells row t)).drew.setRow w.heap.size (row.toList.take i ++ [u] ++ row.toList.drop (i + [u].length)).toArray).drew h2 (by rw [hs1]; omega)] at hw'
  have e1 : (row.toList.take i ++ [u] ++ row.toList.drop (i + [u].length)).take (i + 1) = row.toList.take i ++ [u] := by
    have hl : (row.toList.take i ++ [u]).length = i + 1 := by simp; omega
    rw [← hl]
    exact List.take_left
  have hs : w.heap.size < (w.alloc (.cells row t)).heap.size := by show _ < (w.heap.push _).size; rw [Array.size_push]; omega
  refine ⟨((row.toList.take i ++ [u] ++ row.toList.drop (i + [u].length)).toArray.toList.take (i + 1) ++ rest ++ (row.toList.take i ++ [u] ++ row.toList.drop (i + [u].length)).toArray.toList.drop (i + 1 + rest.length)).toArray, ?_, ?_, ?_, ?_⟩
  · rw [hw']
    exact setRow_heap _ _ _ _ t (0, 0) h2
  · simp; omega
  · have hl : (row.toList.take i ++ [u] ++ rest).length = i + 1 + rest.length := by simp; omega
    simp only [e1]
    rw [← hl, List.take_left]
    simp
  · rw [hw']
    refine ⟨rfl, rfl, rfl, ?_, fun b hb _ => ?_, fun b hb hlt => ?_⟩
    · have e : (((w.alloc (.cells row t)).drew.setRow w.heap.size (row.toList.take i ++ [u] ++ row.toList.drop (i + [u].length)).toArray).drew.setRow w.heap.size ((row.toList.take i ++ [u] ++ row.toList.drop (i + [u].length)).toArray.toList.take (i + 1) ++ rest ++ (row.toList.take i ++ [u] ++ row.toList.drop (i + [u].length)).toArray.toList.drop (i + 1 + rest.length)).toArray).heap.size = ((w.alloc (.cells row t)).drew.setRow w.heap.size (row.toList.take i ++ [u] ++ row.toList.drop (i + [u].length)).toArray).heap.size := setRow_size _ _ _
      rw [e, setRow_size]
      exact Nat.le_of_lt hs
    · rw [setRow_other _ _ _ _ (by omega)]
      show ((w.alloc (.cells row t)).drew.setRow w.heap.size _).heap[b]? = _
      rw [setRow_other _ _ _ _ (by omega)]
      show (w.heap.push _)[b]? = _
      rw [Array.getElem?_push, if_neg (by omega)]
    · rw [setRow_other _ _ _ _ (by omega)]
      show ((w.alloc (.cells row t)).drew.setRow w.heap.size _).heap[b]? = _
      rw [setRow_other _ _ _ _ (by omega)]
      show (w.heap.push _)[b]? = _
      rw [Array.getElem?_push, if_neg (by omega)]

noncomputable def F_insert (x : List ByteArray × Int × List ByteArray) : Option (List ByteArray) := bif (decide (0 ≤ x.2.1) && decide (x.2.1 ≤ (x.1.length : Int)) && decide (x.2.2.length = 1) && decide ((x.1.length + 1) * 16 ≤ 140737488355328)) then some (x.1.take x.2.1.toNat ++ x.2.2 ++ x.1.drop x.2.1.toNat) else none

/-- slices.Insert of one string: the row and the row of one are handed over for good -/
theorem con_insert {P : Program} {f : FuncId} (he : Enters P f)
    (hin : ∀ (g n c i vg vc : Nat) (cur curv : Array Value) (ety etv : TypeId) (u : Value) (w : World), w.heap[g]? = some (.cells cur ety (0, 0)) → w.heap[vg]? = some (.cells curv etv (0, 0)) → vg ≠ g → i ≤ n → n + 1 ≤ c → c ≤ cur.size → n + 1 ≤ 9223372036854775807 →
      (∀ u ∈ cur.toList.take n, u.oneCell' = true) → curv[0]? = some u → u.oneCell' = true →
      Calls P f #[.slice (some ⟨g, 0, none⟩) n c, .int .i64 i, .slice (some ⟨vg, 0, none⟩) 1 vc] w fun e w' => e = .returned (.slice (some ⟨g, 0, none⟩) (n + 1) c) ∧ ∃ w0 : World, (w0 = w ∨ w0 = w.drew) ∧ w' = w0.setRow g (insRow cur n i u))
    (hgrow : ∀ (A : Option Addr) (n c i vg vc : Nat) (cs : List Value) (u : Value) (w : World), nGlob ≤ w.heap.size → i ≤ n → n ≤ c → c < n + 1 → (n + 1) * 16 ≤ 140737488355328 → cs.length = n →
      (n = 0 ∨ ∃ g, A = some ⟨g, 0, none⟩ ∧ ∀ j v, cs[j]? = some v → w.cell? ⟨g, j, none⟩ = some v) → w.cell? ⟨vg, 0, none⟩ = some u → (∀ v ∈ cs, v.oneCell' = true) → u.oneCell' = true →
      Calls P f #[.slice A n c, .int .i64 i, .slice (some ⟨vg, 0, none⟩) 1 vc] w fun e w' => ∃ cap' cur' ety', e = .returned (.slice (some ⟨w.heap.size, 0, none⟩) (n + 1) cap') ∧ n + 1 ≤ cap' ∧ w'.heap[w.heap.size]? = some (.cells cur' ety' (0, 0)) ∧ cap' ≤ cur'.size ∧
        cur'.toList.take (n + 1) = cs.take i ++ u :: cs.drop i ∧ Fr NoB w w') :
    ConOK P f { ps := [(.eat true, .slice .str), (.val, .int .i64), (.eat true, .slice .str)], rs := [(.io true, .slice .str)], F := F_insert } := by
  refine ⟨he, fun w Z X vals (x : List ByteArray × Int × List ByteArray) (y : List ByteArray) hy hXZ hXlt hold htabs hXbig => ?_⟩
  have hy : F_insert x = some y := hy
  obtain ⟨xs, i0, zs⟩ := x
  unfold F_insert at hy
  obtain ⟨hg, hy⟩ := bif_none hy
  obtain ⟨hg, h16⟩ := and_b hg
  obtain ⟨hg, hz1⟩ := and_b hg
  obtain ⟨hi0, hin0⟩ := and_b hg
  have h16 : (xs.length + 1) * 16 ≤ 140737488355328 := of_decide_eq_true h16
  have hz1' : zs.length = 1 := of_decide_eq_true hz1
  have hi0 : 0 ≤ i0 := of_decide_eq_true hi0
  have hin0 : i0 ≤ (xs.length : Int) := of_decide_eq_true hin0
  obtain ⟨i, rfl⟩ : ∃ i : Nat, i0 = i := ⟨i0.toNat, by omega⟩
  have hile : i ≤ xs.length := by omega
  obtain ⟨z, rfl⟩ : ∃ z, zs = [z] := List.length_eq_one_iff.1 hz1'
  simp only [Int.toNat_natCast] at hy
  obtain rfl : xs.take i ++ [z] ++ xs.drop i = y := Option.some.inj hy
  obtain ⟨v, r, F1, F2, rfl, s1, s2, s3, how, v1, r1, rfl, hv1, v2, r2, F3, F4, rfl, s4, s5, s6, hov, hr⟩ := hold
  obtain rfl : r2 = [] := hr
  have how : RowOf P false true .str w Z F1 v xs := how
  have hov : RowOf P false true .str w Z F3 v2 [z] := hov
  obtain ⟨c1, b1, q1⟩ := hv1
  obtain rfl : v1 = .int .i64 i := by
    have b1 : c1 = [v1] := b1
    have q1 : c1 = [.int .i64 (i : Int)] := q1
    rw [b1] at q1
    simpa using q1
  obtain ⟨A, cap, rfl, hcap, hm⟩ := row_holds (α := ByteArray) (enc := Value.string) (to := id) rfl rfl (fun _ => rfl) how
  obtain ⟨vA, vcap, rfl, hvcap, hvm⟩ := row_holds (α := ByteArray) (enc := Value.string) (to := id) rfl rfl (fun _ => rfl) hov
  have hvcap : 1 ≤ vcap := hvcap
  obtain ⟨vg, curv, etv, rfl, hvF, hvh, hvsz, hvH⟩ : ∃ g cur ety, vA = some ⟨g, 0, none⟩ ∧ F3 g ∧ w.heap[g]? = some (.cells cur ety (0, 0)) ∧ vcap ≤ cur.size ∧ Sort.Holds Value.string w g 0 ([z].map id).toArray := by
    rcases hvm with h | h
    · omega
    · exact h
  have hvc : w.cell? ⟨vg, 0, none⟩ = some (.string z) := by
    have := (hvH 0 (by simp)).1
    simpa using this
  have hvc0 : curv[0]? = some (.string z) := by rw [cell_of_row w vg 0 _ _ _ hvh] at hvc; exact hvc
  have hzl : (xs.take i ++ [z] ++ xs.drop i).length = xs.length + 1 := by simp; omega
  have done : ∀ (w' : World) (g : Nat) (cap' : Nat) (cur' : Array Value) (ety' : TypeId), (w.heap.size ≤ g ∨ X g) → xs.length + 1 ≤ cap' → w'.heap[g]? = some (.cells cur' ety' (0, 0)) → cap' ≤ cur'.size → cur'.toList.take (xs.length + 1) = (xs.take i ++ [z] ++ xs.drop i).map Value.string → Fr (fun b => b = g) w w' →
      (X g ∨ Fr NoB w w') →
      ∃ v vs, ∃ F G : Nat → Prop, Ending.returned (.slice (some ⟨g, 0, none⟩) (xs.length + 1) cap') = .returned v ∧ Tupled vs v ∧ vs.length = 1 ∧ Fr X w w' ∧
        (∀ b, F b → (w.heap.size ≤ b ∨ (X b ∧ Sig.ios [(PK.eat true, Ty.slice .str), (PK.val, Ty.int .i64), (PK.eat true, Ty.slice .str)] = [])) ∧ b < w'.heap.size) ∧ (∀ b, G b → (X b ∨ w.heap.size ≤ b) ∧ b < w'.heap.size) ∧ (∀ b, F b → ¬ G b) ∧
        Holds P w' (fun b => Z b ∨ (w.heap.size ≤ b ∧ ¬ F b ∧ ¬ G b)) G (Sig.ios [(PK.eat true, Ty.slice .str), (PK.val, Ty.int .i64), (PK.eat true, Ty.slice .str)]) (ioVals [(PK.eat true, Ty.slice .str), (PK.val, Ty.int .i64), (PK.eat true, Ty.slice .str)] [.slice A xs.length cap, .int .i64 i, .slice (some ⟨vg, 0, none⟩) 1 vcap]) (Sig.fst (Sig.ios [(PK.eat true, Ty.slice .str), (PK.val, Ty.int .i64), (PK.eat true, Ty.slice .str)]) [(PK.io true, Ty.slice .str)] (xs.take i ++ [z] ++ xs.drop i)) ∧
        Holds P w' (fun b => Z b ∨ (w.heap.size ≤ b ∧ ¬ F b ∧ ¬ G b)) F [(PK.io true, Ty.slice .str)] vs (Sig.snd (Sig.ios [(PK.eat true, Ty.slice .str), (PK.val, Ty.int .i64), (PK.eat true, Ty.slice .str)]) [(PK.io true, Ty.slice .str)] (xs.take i ++ [z] ++ xs.drop i)) := by
    intro w' g cap' cur' ety' hg hcap' hh' hsz' hel hfr hx
    have hlt : g < w'.heap.size := lt_of_block hh'
    refine ⟨_, [_], fun b => b = g, NoB, rfl, rfl, rfl, ?_, fun b hb => ⟨?_, by rw [hb]; exact hlt⟩, fun _ f => f.elim, fun _ _ f => f, rfl, ⟨_, [], fun b => b = g, NoB, rfl, fun _ h => h, fun _ f => f.elim, fun _ _ f => f, ?_, rfl⟩⟩
    · refine ⟨hfr.os, hfr.tape, hfr.output, hfr.size, fun b hb hn => ?_, hfr.glob⟩
      rcases hx with hx | hx
      · exact hfr.block b hb fun e => hn (by rw [e]; exact hx)
      · exact hx.block b hb fun f => f
    · rw [hb]
      exact hg.imp id fun h => ⟨h, rfl⟩
    · refine ⟨some ⟨g, 0, none⟩, cap', by show _ = Value.slice _ (xs.take i ++ [z] ++ xs.drop i).length _; rw [hzl], by show (xs.take i ++ [z] ++ xs.drop i).length ≤ _; rw [hzl]; exact hcap', .inr ⟨g, cur', ety', rfl, rfl, hh', by simpa [Ty.cells] using hsz', fun _ => NoB, fun _ _ f => f.elim, fun _ _ _ _ f => f.elim, fun j hj => ?_⟩⟩
      refine (OwC.scal .str rfl _ _).2 ?_
      have hj' : j < xs.length + 1 := by rw [← hzl]; exact hj
      show (cur'.toList.drop (j * 1)).take 1 = [.string (xs.take i ++ [z] ++ xs.drop i)[j]]
      rw [Nat.mul_one]
      have hc : cur'.toList[j]? = some (.string (xs.take i ++ [z] ++ xs.drop i)[j]) := by
        have h1 : (cur'.toList.take (xs.length + 1))[j]? = cur'.toList[j]? := by rw [List.getElem?_take, if_pos hj']
        have hjj : j < (xs.take i ++ [z] ++ xs.drop i).length := hj
        have h2 : (xs.take i ++ [z] ++ xs.drop i)[j]? = some (xs.take i ++ [z] ++ xs.drop i)[j] := List.getElem?_eq_getElem hjj
        rw [← h1, hel, List.getElem?_map, h2]
        rfl
      apply List.ext_getElem?
      intro k
      cases k with
      | zero => simpa [List.getElem?_take, List.getElem?_drop] using hc
      | succ k => simp [List.getElem?_take]
  have hgl : nGlob ≤ w.heap.size := htabs.2.1
  rcases Nat.lt_or_ge cap (xs.length + 1) with hroom | hroom
  · -- no room
    have hA : xs.length = 0 ∨ ∃ g, A = some ⟨g, 0, none⟩ ∧ ∀ j v, (xs.map Value.string)[j]? = some v → w.cell? ⟨g, j, none⟩ = some v := by
      rcases hm with h0 | ⟨g, cur, ety, rfl, hF, hh, hsz, hH⟩
      · exact .inl (by omega)
      · refine .inr ⟨g, rfl, fun j v hj => ?_⟩
        rw [List.getElem?_map] at hj
        cases hq : xs[j]? with
        | none => rw [hq] at hj; cases hj
        | some b =>
          rw [hq] at hj
          obtain rfl := Option.some.inj hj
          have hjl : j < xs.length := (List.getElem?_eq_some_iff.1 hq).1
          have := (hH j (by simpa using hjl)).1
          rw [Nat.zero_add] at this
          rw [this]
          have e : xs[j] = b := (List.getElem?_eq_some_iff.1 hq).2
          simp [hjl, e]
    refine (hgrow A xs.length cap i vg vcap (xs.map Value.string) (.string z) w hgl hile hcap hroom (of_decide_eq_true h16) (by simp) hA hvc (fun v hv => by obtain ⟨b, _, rfl⟩ := List.mem_map.1 hv; rfl) rfl).mono ?_
    rintro e' w' ⟨cap', cur', ety', rfl, h1, h2, h3, h4, h5⟩
    refine done w' _ cap' cur' ety' (.inl (Nat.le_refl _)) h1 h2 h3 (by rw [h4]; simp) h5.le (.inr h5)
  · -- room
    obtain ⟨g, cur, ety, rfl, hF, hh, hsz, hH⟩ : ∃ g cur ety, A = some ⟨g, 0, none⟩ ∧ F1 g ∧ w.heap[g]? = some (.cells cur ety (0, 0)) ∧ cap ≤ cur.size ∧ Sort.Holds Value.string w g 0 (xs.map id).toArray := by
      rcases hm with h | h
      · omega
      · exact h
    have hne : vg ≠ g := fun e => s3 g hF (s4 g (e ▸ hvF))
    have htk : cur.toList.take xs.length = xs.map Value.string := by
      apply List.ext_getElem?
      intro j
      rw [List.getElem?_take]
      split
      · rename_i hj
        have := (hH j (by simpa using hj)).1
        rw [Nat.zero_add, cell_of_row w g j _ _ _ hh] at this
        rw [Array.getElem?_toList, this]
        simp [hj]
      · rw [List.getElem?_eq_none (by simp; omega)]
    refine (hin g xs.length cap i vg vcap cur curv ety etv (.string z) w hh hvh hne hile hroom hsz (by omega) (fun u hu => by rw [htk] at hu; obtain ⟨b, _, rfl⟩ := List.mem_map.1 hu; rfl) hvc0 rfl).mono ?_
    rintro e' w' ⟨rfl, w0, hw0, rfl⟩
    have hgl' : nGlob ≤ g := hXbig g (s1 g hF)
    have hfr0 : Fr (fun b => b = g) w (w0.setRow g (insRow cur xs.length i (.string z))) := by
      have := setRow_fr w0 g (insRow cur xs.length i (.string z)) hgl'
      rcases hw0 with rfl | rfl
      · exact this
      · exact ⟨this.os, this.tape, this.output, this.size, this.block, this.glob⟩
    have hh' : (w0.setRow g (insRow cur xs.length i (.string z))).heap[g]? = some (.cells (insRow cur xs.length i (.string z)) ety (0, 0)) := by
      rcases hw0 with rfl | rfl
      · exact setRow_heap _ g cur _ ety _ hh
      · exact setRow_heap w.drew g cur _ ety _ hh
    refine done _ g cap _ ety (.inr (s1 g hF)) hroom hh' (by rw [ins_size hile (by omega)]; exact hsz) ?_ hfr0 (.inl (s1 g hF))
    rw [ins_take hile (by omega), htk]
    simp
end Go.Proofs.YtnfngofcdhaaaaaGreat
