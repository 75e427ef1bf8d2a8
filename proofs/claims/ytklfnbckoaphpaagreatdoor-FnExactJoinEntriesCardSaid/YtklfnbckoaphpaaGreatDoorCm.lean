/- impl.compareEntries says how two entries stand: an own walk. No conditions. -/
import Derived.Test.YtklfnbckoaphpaaGreatDoorEvD
import Derived.Test.YtklfnbckoaphpaaGreatDoorShelf
import Derived.StillTailTactics
import Derived.Sort.Grow
set_option linter.unusedVariables false
set_option linter.unusedSimpArgs false
namespace Go.Proofs.YtklfnbckoaphpaaGreatDoor
open Go Go.RowKit Go.Lib Go.Sort
abbrev HandT := (Int × (Int × (Int × (Int × (Int × Bool))))) × ((Int × Int) × ((Int × (Int × Bool)) × (ByteArray × Int)))
abbrev EntryT := ByteArray × ((HandT × (Bool × HandT)) × (Int × Int))
abbrev tyHd : Ty := .st (.pair (.st (.pair (.int .i64) (.pair (.int .i64) (.pair (.int .i64) (.pair (.int .i64) (.pair (.int .i64) .bool)))))) (.pair (.st (.pair (.int .i64) (.int .i64))) (.pair (.st (.pair (.int .i64) (.pair (.int .i64) .bool))) (.st (.pair .str (.int .i64))))))
abbrev tyEn : Ty := .st (.pair .str (.pair (.st (.pair tyHd (.pair .bool tyHd))) (.pair (.int .i64) (.int .i64))))
def orI (a b : Int) : Int := bif a == 0 then b else a
def cfE (x y : EntryT) : Int := orI (Lib.compareBytes x.1.data.toList y.1.data.toList) (Lib.compareInt x.2.2.1 y.2.2.1)
set_option maxHeartbeats 1000000 in
theorem or2 (a b : Int) (g c : Nat) (W : World) (h0 : W.cell? ⟨g, 0, none⟩ = some (.int .i64 a)) (h1 : W.cell? ⟨g, 1, none⟩ = some (.int .i64 b)) :
    Calls Tryz.prog 72 #[.slice (some ⟨g, 0, none⟩) 2 c] W fun e w' => e = .returned (.int .i64 (orI a b)) ∧ w' = W := by
  go_enter Tryz.func72, Tryz.ntmps72
  go_wp2
  refine wp_loop_rounds 3 ?_
  rw [rounds_succ]
  by_cases ha : a = 0
  · subst ha
    go_wp2
    rw [rounds_succ]
    by_cases hb : b = 0
    · subst hb
      go_wp2
      rw [rounds_succ]
      go_wp2
      go_ret
      exact ⟨rfl, rfl⟩
    · go_wp2
      go_ret
      exact ⟨rfl, rfl⟩
  · go_wp2
    go_ret
    have hb0 : (a == 0) = false := beq_eq_false_iff_ne.2 ha
    unfold orI
    rw [hb0]
    exact ⟨rfl, rfl⟩
theorem cell_new3 (W : World) (A B : Obj) (cs : Array Value) (t : TypeId) (i : Nat) : ((((W.alloc A).alloc B).drew).alloc (.cells cs t)).cell? ⟨W.heap.size + 1 + 1, i, none⟩ = cs[i]? := by
  have e : (((W.alloc A).alloc B).drew).heap.size = W.heap.size + 1 + 1 := by simp
  have h : ((((W.alloc A).alloc B).drew).alloc (.cells cs t)).heap[W.heap.size + 1 + 1]? = some (.cells cs t (0, 0)) := by
    show ((((W.alloc A).alloc B).drew).heap.push (.cells cs t))[W.heap.size + 1 + 1]? = _
    rw [Array.getElem?_push, if_pos e.symm]
  rw [cell_of_row _ _ _ _ _ _ h]
theorem grow_drew (w : World) (os : Array Obj) : (grow w os).drew = grow w.drew os := rfl
theorem wp_still_tail_drew {P : Program} {id : Nat} {Q : Exit → Act → World → Prop} {a : Act} {w : World} {l : List Oper} (n : Nat) (hm : P.follows .mixedOrders = true) (hB : Region.lexTailB .any l.toArray n = true)
    (h : wpStill P l.toArray w.drew (fun a' => wpList P l.toArray Q (l.drop n) a' w.drew) (l.take n) a) : (Code.region id l.toArray true).wp P Q a w := wp_region_still_tail n hm hB h
set_option maxHeartbeats 4000000 in
set_option maxRecDepth 1000000 in
theorem cmpE (x y : EntryT) (W : World) : Calls Tryz.prog 38 #[.agg (tyEn.vals x).toArray, .agg (tyEn.vals y).toArray] W fun e w' => e = .returned (.int .i64 (cfE x y)) ∧ ∃ q os', w' = grow (W.drewN q) os' := by
  have hS := fun W' => Tryz.strings_Compare x.1 y.1 W'
  have hI := fun W' => Tryz.cmp_Compare_int x.2.2.1 y.2.2.1 W'
  have mixed : Tryz.prog.follows .mixedOrders = true := by kernel_rfl
  change Calls Tryz.prog 38 #[.agg #[.string x.1, .int .i64 x.2.1.1.1.1, .int .i64 x.2.1.1.1.2.1, .int .i64 x.2.1.1.1.2.2.1, .int .i64 x.2.1.1.1.2.2.2.1, .int .i64 x.2.1.1.1.2.2.2.2.1, .bool x.2.1.1.1.2.2.2.2.2, .int .i64 x.2.1.1.2.1.1, .int .i64 x.2.1.1.2.1.2, .int .i64 x.2.1.1.2.2.1.1, .int .i64 x.2.1.1.2.2.1.2.1, .bool x.2.1.1.2.2.1.2.2, .string x.2.1.1.2.2.2.1, .int .i64 x.2.1.1.2.2.2.2, .bool x.2.1.2.1, .int .i64 x.2.1.2.2.1.1, .int .i64 x.2.1.2.2.1.2.1, .int .i64 x.2.1.2.2.1.2.2.1, .int .i64 x.2.1.2.2.1.2.2.2.1, .int .i64 x.2.1.2.2.1.2.2.2.2.1, .bool x.2.1.2.2.1.2.2.2.2.2, .int .i64 x.2.1.2.2.2.1.1, .int .i64 x.2.1.2.2.2.1.2, .int .i64 x.2.1.2.2.2.2.1.1, .int .i64 x.2.1.2.2.2.2.1.2.1, .bool x.2.1.2.2.2.2.1.2.2, .string x.2.1.2.2.2.2.2.1, .int .i64 x.2.1.2.2.2.2.2.2, .int .i64 x.2.2.1, .int .i64 x.2.2.2], .agg #[.string y.1, .int .i64 y.2.1.1.1.1, .int .i64 y.2.1.1.1.2.1, .int .i64 y.2.1.1.1.2.2.1, .int .i64 y.2.1.1.1.2.2.2.1, .int .i64 y.2.1.1.1.2.2.2.2.1, .bool y.2.1.1.1.2.2.2.2.2, .int .i64 y.2.1.1.2.1.1, .int .i64 y.2.1.1.2.1.2, .int .i64 y.2.1.1.2.2.1.1, .int .i64 y.2.1.1.2.2.1.2.1, .bool y.2.1.1.2.2.1.2.2, .string y.2.1.1.2.2.2.1, .int .i64 y.2.1.1.2.2.2.2, .bool y.2.1.2.1, .int .i64 y.2.1.2.2.1.1, .int .i64 y.2.1.2.2.1.2.1, .int .i64 y.2.1.2.2.1.2.2.1, .int .i64 y.2.1.2.2.1.2.2.2.1, .int .i64 y.2.1.2.2.1.2.2.2.2.1, .bool y.2.1.2.2.1.2.2.2.2.2, .int .i64 y.2.1.2.2.2.1.1, .int .i64 y.2.1.2.2.2.1.2, .int .i64 y.2.1.2.2.2.2.1.1, .int .i64 y.2.1.2.2.2.2.1.2.1, .bool y.2.1.2.2.2.2.1.2.2, .string y.2.1.2.2.2.2.2.1, .int .i64 y.2.1.2.2.2.2.2.2, .int .i64 y.2.2.1, .int .i64 y.2.2.2]] W _
  go_enter Tryz.func38, Tryz.ntmps38
  go_wp2
  refine wp_still_tail_drew 10 mixed (by kernel_rfl) ?_
  simp only [List.take_succ_cons, List.take_zero, List.drop_succ_cons, List.drop_zero]
  still_step
  still_step
  still_step
  still_step
  still_call (hS _)
  still_step
  still_step
  still_step
  still_step
  still_call (hI _)
  refine wpStill_nil ?_
  go_wp2_with (go_at_call 72; refine (or2 _ _ _ _ _ ((cell_new3 _ _ _ _ _ 0).trans rfl) ((cell_new3 _ _ _ _ _ 1).trans rfl)).mono ?_; rintro e w' ⟨rfl, rfl⟩)
  go_ret
  exact ⟨rfl, 1, _, by (rw [alloc_eq_grow, alloc_eq_grow, alloc_eq_grow]; (repeat (first | rw [grow_drew] | rw [grow_grow])); rfl)⟩
/-! ### The order -/
theorem cb_is : ∀ a b : List UInt8, (Lib.compareBytes a b < 0 ↔ a < b) ∧ (Lib.compareBytes a b = 0 ↔ a = b)
  | [], [] => ⟨⟨fun h => absurd h (by decide), fun h => absurd h (List.lt_irrefl _)⟩, ⟨fun _ => rfl, fun _ => rfl⟩⟩
  | [], b :: lb => ⟨⟨fun _ => List.nil_lt_cons _ _, fun _ => (by decide : (-1 : Int) < 0)⟩, ⟨fun h => absurd (show (-1 : Int) = 0 from h) (by decide), fun h => by cases h⟩⟩
  | a :: la, [] => ⟨⟨fun h => absurd (show (1 : Int) < 0 from h) (by decide), fun h => absurd h (List.not_lt_nil _)⟩, ⟨fun h => absurd (show (1 : Int) = 0 from h) (by decide), fun h => by cases h⟩⟩
  | a :: la, b :: lb => by
    obtain ⟨h1, h2⟩ := cb_is la lb
    unfold Lib.compareBytes
    rw [List.cons_lt_cons_iff]
    by_cases hab : a < b
    · rw [if_pos hab]
      have hne : a ≠ b := fun e => by subst e; exact absurd hab (UInt8.lt_irrefl _)
      exact ⟨⟨fun _ => .inl hab, fun _ => by decide⟩, ⟨fun h => absurd h (by decide), fun h => absurd (List.cons.inj h).1 hne⟩⟩
    · rw [if_neg hab]
      by_cases hba : b < a
      · rw [if_pos hba]
        have hne : a ≠ b := fun e => by subst e; exact absurd hba (UInt8.lt_irrefl _)
        exact ⟨⟨fun h => absurd h (by decide), fun h => by rcases h with h | ⟨h, _⟩; exact absurd h hab; exact absurd h hne⟩, ⟨fun h => absurd h (by decide), fun h => absurd (List.cons.inj h).1 hne⟩⟩
      · rw [if_neg hba]
        have he : a = b := UInt8.le_antisymm (UInt8.not_lt.1 hba) (UInt8.not_lt.1 hab)
        subst he
        refine ⟨⟨fun h => .inr ⟨rfl, h1.1 h⟩, fun h => by rcases h with h | ⟨_, h⟩; exact absurd h hab; exact h1.2 h⟩, ⟨fun h => by rw [h2.1 h], fun h => h2.2 (List.cons.inj h).2⟩⟩
def keyLt (x y : List UInt8 × Int) : Prop := x.1 < y.1 ∨ (x.1 = y.1 ∧ x.2 < y.2)
def keyE (x : EntryT) : List UInt8 × Int := (x.1.data.toList, x.2.2.1)
theorem ci_neg (a b : Int) : Lib.compareInt a b < 0 ↔ a < b := by
  unfold Lib.compareInt
  by_cases h1 : a < b
  · simp [h1]
  · by_cases h2 : a > b <;> simp [h1, h2]
theorem cfE_neg (x y : EntryT) : cfE x y < 0 ↔ keyLt (keyE x) (keyE y) := by
  obtain ⟨h1, h2⟩ := cb_is x.1.data.toList y.1.data.toList
  unfold cfE orI keyLt keyE
  by_cases h0 : Lib.compareBytes x.1.data.toList y.1.data.toList = 0
  · have e := h2.1 h0
    rw [h0]
    simp only [BEq.rfl, cond_true, ci_neg]
    exact ⟨fun h => .inr ⟨e, h⟩, fun h => by rcases h with h | ⟨_, h⟩; rw [e] at h; exact absurd h (List.lt_irrefl _); exact h⟩
  · rw [beq_eq_false_iff_ne.2 h0, cond_false, h1]
    exact ⟨.inl, fun h => by rcases h with h | ⟨h, _⟩; exact h; exact absurd (h2.2 h) h0⟩
theorem tri (a b : List UInt8) : a < b ∨ a = b ∨ b < a := by
  by_cases h : a < b
  · exact .inl h
  · by_cases k : b < a
    · exact .inr (.inr k)
    · exact .inr (.inl (List.le_antisymm (List.not_lt.1 k) (List.not_lt.1 h)))
theorem keyLt_trans {x y z : List UInt8 × Int} (h : keyLt x y) (k : keyLt y z) : keyLt x z := by
  rcases h with h | ⟨h, h'⟩ <;> rcases k with k | ⟨k, k'⟩
  · exact .inl (List.lt_trans h k)
  · exact .inl (by rw [← k]; exact h)
  · exact .inl (by rw [h]; exact k)
  · exact .inr ⟨h.trans k, by omega⟩
theorem keyLt_irrefl (x : List UInt8 × Int) : ¬ keyLt x x := fun h => by
  rcases h with h | ⟨_, h⟩
  · exact List.lt_irrefl _ h
  · omega
theorem keyLt_tri (x y : List UInt8 × Int) : keyLt x y ∨ x = y ∨ keyLt y x := by
  obtain ⟨a, b⟩ := x
  obtain ⟨c, d⟩ := y
  rcases tri a c with h | rfl | h
  · exact .inl (.inl h)
  · rcases Int.lt_trichotomy b d with h | rfl | h
    · exact .inl (.inr ⟨rfl, h⟩)
    · exact .inr (.inl rfl)
    · exact .inr (.inr (.inr ⟨rfl, h⟩))
  · exact .inr (.inr (.inl h))
theorem ltOf_key (x y : EntryT) : ltOf cfE x y = true ↔ keyLt (keyE x) (keyE y) := by
  unfold ltOf
  rw [decide_eq_true_eq, cfE_neg]
theorem swoE : SWO (ltOf cfE) where
  irrefl x := by
    cases h : ltOf cfE x x with
    | false => rfl
    | true => exact absurd ((ltOf_key x x).1 h) (keyLt_irrefl _)
  trans x y z h k := (ltOf_key x z).2 (keyLt_trans ((ltOf_key x y).1 h) ((ltOf_key y z).1 k))
  ntrans x y z h k := by
    cases hc : ltOf cfE x z with
    | false => rfl
    | true =>
      exfalso
      have hxz := (ltOf_key x z).1 hc
      have nxy : ¬ keyLt (keyE x) (keyE y) := fun q => by rw [(ltOf_key x y).2 q] at h; cases h
      have nyz : ¬ keyLt (keyE y) (keyE z) := fun q => by rw [(ltOf_key y z).2 q] at k; cases k
      rcases keyLt_tri (keyE x) (keyE y) with q | q | q
      · exact nxy q
      · rw [q] at hxz; exact nyz hxz
      · exact nyz (keyLt_trans q hxz)
end Go.Proofs.YtklfnbckoaphpaaGreatDoor
