/- Operations that make or write memory. No conditions. -/
import Derived.Test.YtklfnbckoaphpaaGreatDoorEvM
set_option linter.unusedVariables false
set_option linter.unusedSimpArgs false
namespace Go.Proofs.YtklfnbckoaphpaaGreatDoor
open Go

theorem OwC.ofRd {P : Program} {w : World} {Z F : Nat → Prop} {dp : Bool} : ∀ (t : Ty) (vs : List Value) (x : t.den), (!dp || t.scal) = true → RdC P t w Z vs x → OwC P dp t w Z F vs x
  | .pair a b, vs, x, hd, h => by
    obtain ⟨v1, v2, e, h1, h2⟩ := h
    have ha : (!dp || a.scal) = true := by cases dp <;> simp_all [Ty.scal]
    have hb : (!dp || b.scal) = true := by cases dp <;> simp_all [Ty.scal]
    exact ⟨v1, v2, NoB, NoB, e, fun _ h => h.elim, fun _ h => h.elim, fun _ h => h.elim, OwC.ofRd a v1 x.1 ha h1, OwC.ofRd b v2 x.2 hb h2⟩
  | .st a, vs, x, hd, h => OwC.ofRd a vs x (by simpa [Ty.scal] using hd) h
  | .slice e, vs, x, hd, h => by
    have : dp = false := by cases dp <;> simp_all [Ty.scal]
    subst this
    exact h
  | .int _, vs, x, hd, h => h
  | .bool, vs, x, hd, h => h
  | .str, vs, x, hd, h => h
  | .unit, vs, x, hd, h => h
  | .ptr _, vs, x, hd, h => h
  | .fn _ _, vs, x, hd, h => h
  | .map _ _, vs, x, hd, h => h

theorem wp_val {P : Program} {o : Oper} {a : Act} {w w' : World} {v : Value} {K : Act → World → Prop} {Q : Exit → Act → World → Prop} (hrun : (execOp a.eval o).run P w = .ok (.value v) w') (hk : K (a.put o.dst v) w') : o.wp P a w K Q := by
  unfold Oper.wp
  rw [hrun]
  exact hk
theorem wp_skip' {P : Program} {o : Oper} {a : Act} {w w' : World} {K : Act → World → Prop} {Q : Exit → Act → World → Prop} (hrun : (execOp a.eval o).run P w = .ok .skip w') (hk : K (a.put o.dst undef) w') : o.wp P a w K Q := by
  unfold Oper.wp
  rw [hrun]
  exact hk

theorem put_defers (a : Act) (d : Option Tmp) (v : Value) : (a.put d v).defers = a.defers := by cases d <;> rfl

section
variable {B : Base} {E : Env} {σ : St} {a : Act} {w : World} {H : Nat → Option Value} {φ : Nat → Nat → Prop}

/-- a new variable -/
theorem Rel.newBox {tm : Array Value} (h : Rel B σ tm w H φ) {n : Nat} (hn : look n σ.blks = none) (hio : B.io n = none) {cs : List Cell} {us : Array Value} (ety : TypeId) (ha : All2 (CellRel (B.at σ w H φ)) cs us.toList) :
    ∃ H' φ', Rel B (σ.setBlk n (.box cs)) tm (w.alloc (.cells us ety)) H' φ' ∧ H' n = some (.pointer (some ⟨w.heap.size, 0, none⟩)) :=
  ⟨_, _, Rel.fresh (R1 := B.R) h (fun _ h => h) hn hio (b := .box cs) (v := .pointer (some ⟨w.heap.size, 0, none⟩)) (F := fun i => i = w.heap.size) (alloc_fr w _).le (fun i hi => by subst hi; exact ⟨.inl (Nat.le_refl _), by simp⟩)
    (fun C' hle hw hP _ => ⟨w.heap.size, us, ety, rfl, rfl, by rw [hw]; exact heap_alloc_new w _, ha.mono (CellRel.le hle)⟩), by simp⟩

/-- a new row -/
theorem Rel.newRow {tm : Array Value} (h : Rel B σ tm w H φ) {n : Nat} (hn : look n σ.blks = none) (hio : B.io n = none) {w' : World} (hw : Fr NoB w w') {dd : Bool} {t : Ty} {xs : List t.den} {g cap : Nat} {cur : Array Value} {ety : TypeId} (hg : w.heap.size ≤ g)
    (hh : w'.heap[g]? = some (.cells cur ety (0, 0))) (hcap : xs.length ≤ cap) (hsz : cap * t.cells ≤ cur.size) (hd : (!dd || t.scal) = true) (hm : mkd dd t = false)
    (hel : ∀ i (hi : i < xs.length), RdC B.P t w (zone B w φ) ((cur.toList.drop (i * t.cells)).take t.cells) xs[i]) :
    ∃ H' φ', Rel B (σ.setBlk n (.row dd t xs)) tm w' H' φ' ∧ H' n = some (.slice (some ⟨g, 0, none⟩) xs.length cap) :=
  ⟨_, _, Rel.fresh (R1 := B.R) h (fun _ h => h) hn hio (b := .row dd t xs) (v := .slice (some ⟨g, 0, none⟩) xs.length cap) (F := fun i => i = g) hw.le
    (fun i hi => by subst hi; exact ⟨.inl hg, (Array.getElem?_eq_some_iff.1 hh).1⟩)
    (fun C' hle hw' hP _ => ⟨some ⟨g, 0, none⟩, cap, rfl, hcap, .inr ⟨g, cur, ety, rfl, rfl, by rw [hw', hm]; exact hh, hsz, fun _ => NoB, fun _ _ f => f.elim, fun _ _ _ _ f => f.elim, fun i hi => by
      have h1 := RdC.agree hle.agree hle.Z t _ _ (hel i hi)
      have h2 : RdC C'.P t C'.w C'.Z ((cur.toList.drop (i * t.cells)).take t.cells) xs[i] := by rw [hP]; exact h1
      exact OwC.ofRd t _ _ hd h2⟩⟩), by simp⟩

theorem Rel.own {tm : Array Value} {n : Nat} {v : Value} {C : Cx} (hH : C.H n = some v) {A : Option Addr} {l c : Nat} (hv : v = .slice A l c) : ARel C (.c (.own n)) v := ⟨hH, A, l, c, hv⟩

/-- one cell after another, as data -/
theorem unflatL_rel {C : Cx} {Zr : Nat → Prop} (hR : Reads C [] Zr) (t : Ty) : ∀ (n : Nat) (cs : List Cell) (xs : List t.den) (us : List Value), unflatL t n cs = some xs → All2 (CellRel C) cs us →
    xs.length = n ∧ us.length = n * t.cells ∧ ∀ i (hi : i < xs.length), RdC C.P t C.w Zr ((us.drop (i * t.cells)).take t.cells) xs[i]
  | 0, [], xs, us, h, ha => by
    simp only [unflatL, Option.some.injEq] at h
    subst h
    cases us with
    | nil => exact ⟨rfl, by simp, fun i hi => absurd hi (by simp)⟩
    | cons _ _ => exact ha.elim
  | 0, _ :: _, xs, us, h, ha => by simp [unflatL] at h
  | n + 1, cs, xs, us, h, ha => by
    have h' : (match t.unflat [] cs with | some (x, r) => (match unflatL t n r with | some l => some (x :: l) | none => none) | none => none) = some xs := by
      cases cs <;> exact h
    split at h'
    · rename_i x r hu
      split at h'
      · rename_i l hl
        simp only [Option.some.injEq] at h'
        subst h'
        obtain ⟨u1, u2, rfl, k1, k2⟩ := unflat_rel hR t cs x r us hu ha
        obtain ⟨i1, i2, i3⟩ := unflatL_rel hR t n r l u2 hl k2
        have hc := (RdC.cells t u1 x k1).1
        refine ⟨by simp [i1], by simp [hc, i2, Nat.add_mul]; omega, fun i hi => ?_⟩
        cases i with
        | zero =>
          simp only [Nat.zero_mul, List.drop_zero, List.getElem_cons_zero]
          rw [← hc, List.take_left]
          exact k1
        | succ j =>
          have e : (u1 ++ u2).drop ((j + 1) * t.cells) = u2.drop (j * t.cells) := by
            rw [Nat.add_mul, Nat.one_mul, List.drop_append, ← hc]
            have : u1.drop (j * u1.length + u1.length) = [] := List.drop_eq_nil_of_le (by omega)
            rw [this, List.nil_append]
            congr 1
            omega
          rw [e]
          exact i3 j (by simpa using hi)
      · cases h'
    · cases h'

theorem take_drop_splice (l vs : List Value) (s i off : Nat) (hfit : off + vs.length ≤ s) (hl : i * s + s ≤ l.length) (j : Nat) :
    ((l.take (i * s + off) ++ vs ++ l.drop (i * s + off + vs.length)).drop (j * s)).take s =
      if j = i then ((l.drop (i * s)).take s).take off ++ vs ++ ((l.drop (i * s)).take s).drop (off + vs.length) else (l.drop (j * s)).take s := by
  apply List.ext_getElem?
  intro k
  have hlen : (l.take (i * s + off)).length = i * s + off := by simp; omega
  by_cases hk : k < s
  · rw [List.getElem?_take, if_pos hk, List.getElem?_drop]
    split
    · rename_i e
      subst e
      by_cases h1 : k < off
      · rw [List.append_assoc, List.getElem?_append_left (by rw [hlen]; omega), List.append_assoc, List.getElem?_append_left (by simp; omega)]
        simp only [List.getElem?_take, List.getElem?_drop]
        rw [if_pos (by omega), if_pos h1, if_pos hk]
      · by_cases h2 : k < off + vs.length
        · rw [List.append_assoc, List.getElem?_append_right (by rw [hlen]; omega), List.getElem?_append_left (by rw [hlen]; omega), hlen]
          have ho : (((l.drop (j * s)).take s).take off).length = off := by simp; omega
          rw [List.append_assoc, List.getElem?_append_right (by rw [ho]; omega), List.getElem?_append_left (by rw [ho]; omega), ho]
          congr 1
          omega
        · rw [List.getElem?_append_right (by simp; omega)]
          have ho : (((l.drop (j * s)).take s).take off ++ vs).length = off + vs.length := by simp; omega
          rw [List.getElem?_append_right (by rw [ho]; omega), ho]
          simp only [List.getElem?_drop, List.getElem?_take, List.length_append, List.length_take]
          rw [if_pos (by omega)]
          congr 1
          omega
    · rename_i e
      rw [List.getElem?_take, if_pos hk, List.getElem?_drop]
      rcases Nat.lt_or_gt_of_ne e with h' | h'
      · have : j * s + s ≤ i * s := by rw [← Nat.succ_mul]; exact Nat.mul_le_mul_right _ h'
        rw [List.append_assoc, List.getElem?_append_left (by rw [hlen]; omega), List.getElem?_take, if_pos (by omega)]
      · have : i * s + s ≤ j * s := by rw [← Nat.succ_mul]; exact Nat.mul_le_mul_right _ h'
        rw [List.getElem?_append_right (by simp; omega), List.getElem?_drop]
        congr 1
        simp only [List.length_append, List.length_take]
        omega
  · rw [List.getElem?_take, if_neg hk]
    split
    · rename_i e
      subst e
      symm
      apply List.getElem?_eq_none
      simp
      omega
    · rw [List.getElem?_take, if_neg hk]

theorem firstCells_zero (P : Program) (size : Nat) (base : Option Addr) (cap : Nat) (w : World) : (Builtin.firstCells size 0 (.slice base 0 cap)).run P w = .ok #[] w := by
  cases base <;> simp [Builtin.firstCells, loadCells, loadCellsFrom]

/-- append of nothing to a slice without cells -/
theorem run_append_none {P : Program} {w : World} {t t' ty e : TypeId} {i : TypeInfo} {d' : TypeDesc} (ht : P.underlying t = some (.slice e)) (ht' : P.underlying t' = some d') (hd' : (∃ e', d' = .slice e') ∨ d' = .string)
    (hi : P.info? e = some i) {base : Option Addr} {x : Value} (hx : ∀ w', Stay w w' → (Builtin.lenOf x).run P w' = .ok 0 w' ∧ (Builtin.firstCells i.size 0 x).run P w' = .ok #[] w') :
    (Builtin.append_ #[t, t'] ty #[.slice base 0 0, x]).run P w = .ok (.slice base 0 0) w := by
  have hu := run_underlying ht
  have hu' := run_underlying ht'
  have hx0 := hx w (Fr.refl _ _)
  have hx1 := hx0.1
  have hx2 := hx0.2
  cases base with
  | none => rcases hd' with ⟨e', rfl⟩ | rfl <;> simp [Builtin.append_, sizeOf, typeInfo, hi, hu, hu', hx1, hx2]
  | some a => rcases hd' with ⟨e', rfl⟩ | rfl <;> simp [Builtin.append_, sizeOf, typeInfo, hi, hu, hu', hx1, hx2, storeCells]

/-- append where there is room: in place -/
theorem run_append_in {P : Program} {w : World} {t t' ty e : TypeId} {i : TypeInfo} {d' : TypeDesc} (ht : P.underlying t = some (.slice e)) (ht' : P.underlying t' = some d') (hd' : (∃ e', d' = .slice e') ∨ d' = .string)
    (hi : P.info? e = some i) {g sLen sCap : Nat} {x : Value} {n : Nat} {news : List Value} {cur : Array Value} {ety : TypeId}
    (hx : ∀ w', Stay w w' → (Builtin.lenOf x).run P w' = .ok n w' ∧ (Builtin.firstCells i.size n x).run P w' = .ok news.toArray w') (hl : news.length = n * i.size) (h1 : ∀ u ∈ news, u.oneCell' = true)
    (hg : w.heap[g]? = some (.cells cur ety (0, 0))) (hroom : sLen + n ≤ sCap) (hsz : sCap * i.size ≤ cur.size) :
    (Builtin.append_ #[t, t'] ty #[.slice (some ⟨g, 0, none⟩) sLen sCap, x]).run P w = .ok (.slice (some ⟨g, 0, none⟩) (sLen + n) sCap) (w.setRow g (cur.toList.take (sLen * i.size) ++ news ++ cur.toList.drop (sLen * i.size + news.length)).toArray) := by
  have hu := run_underlying ht
  have hu' := run_underlying ht'
  have hx0 := hx w (Fr.refl _ _)
  have hfit : sLen * i.size + 0 + news.length ≤ cur.size := by
    have : (sLen + n) * i.size ≤ sCap * i.size := Nat.mul_le_mul_right _ hroom
    rw [Nat.add_mul] at this
    omega
  have hst := run_storeCells_at P g (sLen * i.size) ety news 0 cur w hg hfit h1
  simp only [Nat.add_zero] at hst
  have hadd : (⟨g, 0, none⟩ : Addr).add (sLen * i.size) = ⟨g, sLen * i.size, none⟩ := by rw [add_at]; simp
  have hx1 := hx0.1
  have hx2 := hx0.2
  rcases hd' with ⟨e', rfl⟩ | rfl <;> simp [Builtin.append_, sizeOf, typeInfo, hi, hu, hu', hx1, hx2, hroom, hadd, hst]

/-- append: what comes of it, in place or in new memory -/
theorem run_append_gen {P : Program} {w : World} {t t' ty e : TypeId} {i : TypeInfo} {z : Value} {d' : TypeDesc} (ht : P.underlying t = some (.slice e)) (ht' : P.underlying t' = some d') (hd' : (∃ e', d' = .slice e') ∨ d' = .string)
    (hi : P.info? e = some i) (hz : i.zero = some z) (hzs : z.cells.size = i.size) {base : Option Addr} {sLen sCap : Nat} {x : Value} {n : Nat} {news olds : List Value}
    (hx : ∀ w', Stay w w' → (Builtin.lenOf x).run P w' = .ok n w' ∧ (Builtin.firstCells i.size n x).run P w' = .ok news.toArray w') (hl : news.length = n * i.size) (h1 : ∀ u ∈ news, u.oneCell' = true)
    (hdst : (sLen = 0 ∧ sCap = 0 ∧ olds = []) ∨ ∃ g cur ety, base = some ⟨g, 0, none⟩ ∧ nGlob ≤ g ∧ w.heap[g]? = some (.cells cur ety (0, 0)) ∧ sLen ≤ sCap ∧ sCap * i.size ≤ cur.size ∧ olds = cur.toList.take (sLen * i.size))
    (h63 : sLen + n ≤ 9223372036854775807) (hb : (sLen + n) * i.bytes ≤ 140737488355328) :
    ∃ v' w' A' cap', (Builtin.append_ #[t, t'] ty #[.slice base sLen sCap, x]).run P w = .ok v' w' ∧ v' = .slice A' (sLen + n) cap' ∧ sLen + n ≤ cap' ∧
      ((cap' = 0 ∧ w' = w) ∨ ∃ g' cur' ety', A' = some ⟨g', 0, none⟩ ∧ w'.heap[g']? = some (.cells cur' ety' (0, 0)) ∧ cap' * i.size ≤ cur'.size ∧ cur'.toList.take ((sLen + n) * i.size) = olds ++ news ∧
        ((base = some ⟨g', 0, none⟩ ∧ sCap ≠ 0 ∧ Fr (fun b => b = g') w w') ∨ (w.heap.size ≤ g' ∧ Fr NoB w w'))) := by
  have hu := run_underlying ht
  have hu' := run_underlying ht'
  have hx0 := hx w (Fr.refl _ _)
  have holds : olds.length = sLen * i.size := by
    rcases hdst with ⟨rfl, rfl, rfl⟩ | ⟨g, cur, ety, rfl, hgl, hg, h2, h3, rfl⟩
    · simp
    · have : sLen * i.size ≤ sCap * i.size := Nat.mul_le_mul_right _ h2
      simp; omega
  by_cases hroom : sLen + n ≤ sCap
  · rcases hdst with ⟨rfl, rfl, rfl⟩ | ⟨g, cur, ety, rfl, hgl, hg, h2, h3, rfl⟩
    · have hn : n = 0 := by omega
      subst hn
      have hnews : news = [] := List.eq_nil_of_length_eq_zero (by simpa using hl)
      subst hnews
      refine ⟨.slice base 0 0, w, base, 0, ?_, rfl, by omega, .inl ⟨rfl, rfl⟩⟩
      have hx1 := hx0.1
      have hx2 := hx0.2
      cases base with
      | none =>
        rcases hd' with ⟨e', rfl⟩ | rfl <;> simp [Builtin.append_, sizeOf, typeInfo, hi, hu, hu', hx1, hx2]
      | some a =>
        rcases hd' with ⟨e', rfl⟩ | rfl <;> simp [Builtin.append_, sizeOf, typeInfo, hi, hu, hu', hx1, hx2, storeCells]
    · have hfit : sLen * i.size + 0 + news.length ≤ cur.size := by
        have : (sLen + n) * i.size ≤ sCap * i.size := Nat.mul_le_mul_right _ hroom
        rw [Nat.add_mul] at this
        omega
      have hst := run_storeCells_at P g (sLen * i.size) ety news 0 cur w hg hfit h1
      by_cases hc0 : sCap = 0
      · subst hc0
        have hn : n = 0 := by omega
        have hs : sLen = 0 := by omega
        subst hn; subst hs
        have hnews : news = [] := List.eq_nil_of_length_eq_zero (by simpa using hl)
        subst hnews
        refine ⟨.slice (some ⟨g, 0, none⟩) 0 0, w, some ⟨g, 0, none⟩, 0, ?_, rfl, by omega, .inl ⟨rfl, rfl⟩⟩
        have hx1 := hx0.1
        have hx2 := hx0.2
        rcases hd' with ⟨e', rfl⟩ | rfl <;> simp [Builtin.append_, sizeOf, typeInfo, hi, hu, hu', hx1, hx2, storeCells]
      · refine ⟨.slice (some ⟨g, 0, none⟩) (sLen + n) sCap, w.setRow g (cur.toList.take (sLen * i.size + 0) ++ news ++ cur.toList.drop (sLen * i.size + 0 + news.length)).toArray, some ⟨g, 0, none⟩, sCap, ?_, rfl, hroom, .inr ⟨g, _, ety, rfl, setRow_heap w g cur _ ety _ hg, ?_, ?_, .inl ⟨rfl, hc0, setRow_fr _ _ _ hgl⟩⟩⟩
        · have hadd : (⟨g, 0, none⟩ : Addr).add (sLen * i.size) = ⟨g, sLen * i.size, none⟩ := by rw [add_at]; simp
          have hx1 := hx0.1
          have hx2 := hx0.2
          rcases hd' with ⟨e', rfl⟩ | rfl <;> simp [Builtin.append_, sizeOf, typeInfo, hi, hu, hu', hx1, hx2, hroom, hadd, hst]
        · simp only [List.size_toArray, List.length_append, List.length_take, List.length_drop, Array.length_toList]
          omega
        · simp only [Nat.add_zero]
          have hlen : (cur.toList.take (sLen * i.size) ++ news).length = (sLen + n) * i.size := by rw [List.length_append, holds, hl, Nat.add_mul]
          rw [← hlen]
          exact List.take_left
  · have h63' : ¬ ((sLen : Int) + (n : Int) > 9223372036854775807) := by omega
    have hfit := growslice_fits (bytes := i.bytes) (show sCap < sLen + n by omega) hb
    have hfit' : ¬ (281474976710656 < Builtin.nextslicecap (sLen + n) sCap * i.bytes) := by omega
    have hge := grownCap_ge w (sLen + n) sCap e
    have hxd := (hx w.drew (drew_fr w)).2
    have hold : (Builtin.firstCells i.size sLen (.slice base sLen sCap)).run P w.drew = .ok olds.toArray w.drew := by
      rcases hdst with ⟨rfl, rfl, rfl⟩ | ⟨g, cur, ety, rfl, hgl, hg, h2, h3, rfl⟩
      · exact firstCells_zero _ _ _ _ _
      · refine run_firstCells_some w.drew i.size sLen ⟨g, 0, none⟩ sLen sCap _ holds fun j v hv => ?_
        rw [add_at]
        have := take_drop_at cur 0 (sLen * i.size) w g ety _ hg j v (by simpa using hv)
        exact this
    refine ⟨.slice (some ⟨w.heap.size, 0, none⟩) (sLen + n) (grownCap w (sLen + n) sCap e), w.drew.alloc (.cells (olds.toArray ++ news.toArray ++ Builtin.zeroCells z.cells (grownCap w (sLen + n) sCap e - (sLen + n))) e), some ⟨w.heap.size, 0, none⟩, _, ?_, rfl, hge, .inr ⟨w.heap.size, _, e, rfl, heap_alloc_new w.drew _, ?_, ?_, .inr ⟨Nat.le_refl _, ⟨rfl, rfl, rfl, by simp, fun k hk _ => heap_alloc_old w.drew _ k hk, fun k _ hk => heap_alloc_old w.drew _ k hk⟩⟩⟩⟩
    · have hzw : (zeroValue e).run P w.drew = .ok z w.drew := by simp [zeroValue, typeInfo, hi, hz]
      have hgc : (Question.appendCap (sLen + n) sCap e).cut (w.tape w.drawn (.appendCap (sLen + n) sCap e)) = grownCap w (sLen + n) sCap e := rfl
      have hx1 := hx0.1
      rcases hd' with ⟨e', rfl⟩ | rfl <;> simp [Builtin.append_, sizeOf, typeInfo, hi, hu, hu', hx1, hxd, hroom, hold, hzw, hgc, hfit', h63', IntKind.max, IntKind.signed, IntKind.bits, Question.forced, Go.newRow, ← List.append_toArray]
    · simp only [Array.size_append, List.size_toArray, size_zeroCells, hzs, holds, hl, ← Nat.add_mul]
      apply Nat.le_of_eq
      congr 1
      omega
    · simp only [Array.toList_append, List.append_assoc]
      have hlen : (olds ++ news).length = (sLen + n) * i.size := by rw [List.length_append, holds, hl, Nat.add_mul]
      rw [← List.append_assoc, ← hlen]
      exact List.take_left

end
end Go.Proofs.YtklfnbckoaphpaaGreatDoor
