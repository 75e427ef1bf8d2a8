/- A range over lines: where it begins, and what it leaves. No conditions. -/
import Derived.Test.YtldeplpiokdmpaaDoorEvZs
set_option linter.unusedVariables false
set_option linter.unusedSimpArgs false
namespace Go.Proofs.YtldeplpiokdmpaaDoor
open Go Go.RowKit

section
variable {B : Base} {σ σ' : St} {tm : Array Value} {w : World} {H : Nat → Option Value} {φ : Nat → Nat → Prop}
theorem Rel.perm (h : Rel B σ tm w H φ) (ht : σ'.tmps = σ.tmps) (hl : ∀ n, look n σ'.blks = look n σ.blks) : Rel B σ' tm w H φ := by
  have hL : lenOf σ'.blks = lenOf σ.blks := by funext n; simp only [lenOf, hl n]
  refine ⟨⟨h.mem.fr, fun n hn => h.mem.hdom n (by rw [← hl n]; exact hn), fun n hn => h.mem.fdom n (by rw [← hl n]; exact hn), h.mem.fsub, h.mem.fdis, h.mem.rdis, h.mem.rsub, h.mem.keep, fun n b hb => ?_⟩, ?_⟩
  · rw [hL]
    exact h.mem.blk n b (by rw [← hl n]; exact hb)
  · rw [ht, hL]; exact h.tmp
end

theorem set_same {tm : Array Value} {i : Nat} {v : Value} (h : tm[i]? = some v) : tm.setIfInBounds i v = tm := by
  apply Array.ext
  · simp
  · intro j h1 h2
    rw [Array.getElem_setIfInBounds]
    split
    · rename_i e
      subst e
      rw [Array.getElem?_eq_getElem h2] at h
      exact (Option.some.inj h).symm
    · rfl
theorem any_rel {C : Cx} : ∀ (vs : List Value), All2 (ARel C) (List.replicate vs.length A.any) vs
  | [] => trivial
  | v :: vs => ⟨trivial, any_rel vs⟩

/-- nothing is named yet; X: what will be -/
def baseL (P : Program) (Sp X : Nat → Prop) (par : List Nat) (w : World) (hpk : ∀ n, par.contains n = true → 62 ≤ n % 64) (ht : Tabs P w) (hx : ∀ b, X b → nGlob ≤ b) : Base :=
  { P := P, Z0 := fun b => ¬ Sp b, X0 := X, w0 := w, par := par, R := NoB, io := fun _ => none, iok := (fun _ _ h => by cases h), parok := hpk, tabs := ht, x0 := hx }
theorem rel_start {P : Program} {Sp X : Nat → Prop} {par : List Nat} {w : World} {hpk ht hx} (tm : Array Value) (hX : ∀ b, X b → b < w.heap.size) :
    Rel ((baseL P Sp X par w hpk ht hx).on X) { tmps := List.replicate tm.size .any, blks := [] } tm w (fun _ => none) (fun _ _ => False) := by
  refine ⟨⟨Fr.refl _ _, fun _ _ => rfl, fun _ _ _ f => f, fun _ _ f => f.elim, fun _ _ _ _ f => f.elim, fun _ _ f => f.elim, fun b hb => ⟨.inl hb, hX b hb⟩, (fun _ _ h => by cases h), fun n b hb => by simp [look] at hb⟩, ?_⟩
  have := any_rel (C := ((baseL P Sp X par w hpk ht hx).on X).cx w (fun _ => none) (fun _ _ => False) (lenOf [])) tm.toList
  simpa using this

/-- a variable of a slice, nil; its row -/
theorem lm_start1 {P : Program} {Sp : Nat → Prop} {n₀ : Nat} {tm : Array Value} {w : World} {ty : Ty} {t b4 : Nat} {e4 : TypeId} (ht : Tabs P w) (hn0 : nGlob ≤ n₀) (h4 : w.heap[b4]? = some (.cells #[.slice none 0 0] e4 (0, 0))) (h4n : n₀ ≤ b4 ∧ ¬ Sp b4) (htm : tm[t]? = some (.pointer (some ⟨b4, 0, none⟩)))
    {σ : St} (hσt : σ.tmps = (List.replicate tm.size A.any).set t (.c (.ptr 62 0))) (hσb : σ.blks = [(62, .box [.own 126]), (126, .row true ty [])]) : LM P [62, 126] Sp n₀ σ tm w := by
  have hb4 : b4 < w.heap.size := (Array.getElem?_eq_some_iff.1 h4).1
  have r0 := rel_start (P := P) (Sp := Sp) (X := fun b => b = b4) (par := [62, 126]) (w := w) (hpk := fun n h => by simp at h; omega) (ht := ht) (hx := fun b hb => by subst hb; omega) tm (fun b hb => by subst hb; exact hb4)
  have r1 := Rel.fresh (B := (baseL P Sp (fun b => b = b4) [62, 126] w (fun n h => by simp at h; omega) ht (fun b hb => by subst hb; omega)).on (fun b => b = b4)) (R1 := fun b => b = b4) r0 (fun _ h => h) (n := 126) rfl rfl (w' := w) (b := .row true ty []) (v := .slice none 0 0) (F := NoB) (Fr.refl _ w) (fun i f => f.elim) (fun C' _ _ _ _ => ⟨none, 0, rfl, by simp, .inl rfl⟩)
  have r2 := Rel.fresh (B := baseL P Sp (fun b => b = b4) [62, 126] w (fun n h => by simp at h; omega) ht (fun b hb => by subst hb; omega)) (R1 := fun b => b = b4) r1 (fun _ h => h.elim) (n := 62) rfl rfl (w' := w) (b := .box [.own 126]) (v := .pointer (some ⟨b4, 0, none⟩)) (F := fun b => b = b4) (Fr.refl _ w)
    (fun i hi => by subst hi; exact ⟨.inr ⟨rfl, fun f => f, .inl ⟨rfl, rfl⟩⟩, hb4⟩)
    (fun C' hle hw hP _ => ⟨b4, #[.slice none 0 0], e4, rfl, rfl, by rw [hw]; exact h4, ⟨hle.H 126 _ rfl, none, 0, 0, rfl⟩, trivial⟩)
  have r3 := Rel.set r2 t (x := .c (.ptr 62 0)) (v := .pointer (some ⟨b4, 0, none⟩)) ⟨b4, rfl, rfl⟩
  rw [set_same htm] at r3
  refine ⟨⟨_, _, _, rfl, rfl, rfl, fun _ => rfl, rfl, fun _ => Iff.rfl, fun b hb => by obtain rfl : b = b4 := hb; exact h4n, Rel.perm r3 ?_ ?_⟩⟩
  · rw [hσt]; rfl
  · intro n
    rw [hσb]
    by_cases e1 : n = 62
    · subst e1; rfl
    · by_cases e2 : n = 126
      · subst e2; rfl
      · have a1 : (62 == n) = false := beq_eq_false_iff_ne.2 (Ne.symm e1)
        have a2 : (126 == n) = false := beq_eq_false_iff_ne.2 (Ne.symm e2)
        simp [look, St.set, St.setBlk, blkSet, a1, a2]

theorem lm_start2 {P : Program} {Sp : Nat → Prop} {n₀ : Nat} {tm : Array Value} {w : World} {ty : Ty} {t b4 t6 b6 : Nat} {e4 e6 : TypeId} {z : Int} (ht : Tabs P w) (hn0 : nGlob ≤ n₀) (h4 : w.heap[b4]? = some (.cells #[.slice none 0 0] e4 (0, 0))) (h4n : n₀ ≤ b4 ∧ ¬ Sp b4) (htm : tm[t]? = some (.pointer (some ⟨b4, 0, none⟩)))
    (h6 : w.heap[b6]? = some (.cells #[.int .i64 z] e6 (0, 0))) (h6n : n₀ ≤ b6 ∧ ¬ Sp b6) (htm6 : tm[t6]? = some (.pointer (some ⟨b6, 0, none⟩))) (h46 : b4 ≠ b6)
    {σ : St} (hσt : σ.tmps = ((List.replicate tm.size A.any).set t (.c (.ptr 62 0))).set t6 (.c (.ptr 190 0))) (hσb : σ.blks = [(62, .box [.own 126]), (126, .row true ty []), (190, .box [.int .i64 z])]) : LM P [62, 126, 190] Sp n₀ σ tm w := by
  have hb4 : b4 < w.heap.size := (Array.getElem?_eq_some_iff.1 h4).1
  have hb6 : b6 < w.heap.size := (Array.getElem?_eq_some_iff.1 h6).1
  have hpk : ∀ n, ([62, 126, 190] : List Nat).contains n = true → 62 ≤ n % 64 := fun n h => by simp at h; omega
  have hx : ∀ b, (b = b4 ∨ b = b6) → nGlob ≤ b := fun b hb => by rcases hb with rfl | rfl <;> omega
  have r0 := rel_start (P := P) (Sp := Sp) (X := fun b => b = b4 ∨ b = b6) (par := [62, 126, 190]) (w := w) (hpk := hpk) (ht := ht) (hx := hx) tm (fun b hb => by rcases hb with rfl | rfl <;> assumption)
  have r1 := Rel.fresh (B := (baseL P Sp (fun b => b = b4 ∨ b = b6) [62, 126, 190] w hpk ht hx).on (fun b => b = b4 ∨ b = b6)) (R1 := fun b => b = b4 ∨ b = b6) r0 (fun _ h => h) (n := 126) rfl rfl (w' := w) (b := .row true ty []) (v := .slice none 0 0) (F := NoB) (Fr.refl _ w) (fun i f => f.elim) (fun C' _ _ _ _ => ⟨none, 0, rfl, by simp, .inl rfl⟩)
  have r2 := Rel.fresh (B := (baseL P Sp (fun b => b = b4 ∨ b = b6) [62, 126, 190] w hpk ht hx).on (fun b => b = b6)) (R1 := fun b => b = b4 ∨ b = b6) r1 (fun _ h => .inr h) (n := 62) rfl rfl (w' := w) (b := .box [.own 126]) (v := .pointer (some ⟨b4, 0, none⟩)) (F := fun b => b = b4) (Fr.refl _ w)
    (fun i hi => by subst hi; exact ⟨.inr ⟨.inl rfl, h46, .inl ⟨rfl, .inl rfl⟩⟩, hb4⟩)
    (fun C' hle hw hP _ => ⟨b4, #[.slice none 0 0], e4, rfl, rfl, by rw [hw]; exact h4, ⟨hle.H 126 _ rfl, none, 0, 0, rfl⟩, trivial⟩)
  have r3 := Rel.fresh (B := baseL P Sp (fun b => b = b4 ∨ b = b6) [62, 126, 190] w hpk ht hx) (R1 := fun b => b = b6) r2 (fun _ h => h.elim) (n := 190) rfl rfl (w' := w) (b := .box [.int .i64 z]) (v := .pointer (some ⟨b6, 0, none⟩)) (F := fun b => b = b6) (Fr.refl _ w)
    (fun i hi => by subst hi; exact ⟨.inr ⟨rfl, fun f => f, .inl ⟨rfl, .inr rfl⟩⟩, hb6⟩)
    (fun C' hle hw hP _ => ⟨b6, #[.int .i64 z], e6, rfl, rfl, by rw [hw]; exact h6, rfl, trivial⟩)
  have r4 := Rel.set r3 t (x := .c (.ptr 62 0)) (v := .pointer (some ⟨b4, 0, none⟩)) ⟨b4, rfl, rfl⟩
  rw [set_same htm] at r4
  have r5 := Rel.set r4 t6 (x := .c (.ptr 190 0)) (v := .pointer (some ⟨b6, 0, none⟩)) ⟨b6, rfl, rfl⟩
  rw [set_same htm6] at r5
  refine ⟨⟨_, _, _, rfl, rfl, rfl, fun _ => rfl, rfl, fun _ => Iff.rfl, fun b hb => by rcases hb with rfl | rfl <;> assumption, Rel.perm r5 ?_ ?_⟩⟩
  · rw [hσt]; rfl
  · intro n
    rw [hσb]
    by_cases e1 : n = 62
    · subst e1; rfl
    · by_cases e2 : n = 126
      · subst e2; rfl
      · by_cases e3 : n = 190
        · subst e3; rfl
        · have a1 : (62 == n) = false := beq_eq_false_iff_ne.2 (Ne.symm e1)
          have a2 : (126 == n) = false := beq_eq_false_iff_ne.2 (Ne.symm e2)
          have a3 : (190 == n) = false := beq_eq_false_iff_ne.2 (Ne.symm e3)
          simp [look, St.set, St.setBlk, blkSet, a1, a2, a3]

/-- what a variable of a slice holds in the end -/
theorem lm_slice {P : Program} {par : List Nat} {Sp : Nat → Prop} {n₀ : Nat} {σ : St} {tm : Array Value} {w : World} (h : LM P par Sp n₀ σ tm w) {t : Nat} {ty : Ty} (hsc : ty.scal = true) {xs : List ty.den} (hσ : σ.tmps[t]? = some (.c (.ptr 62 0))) (h62 : look 62 σ.blks = some (.box [.own 126])) (h126 : look 126 σ.blks = some (.row true ty xs)) :
    ∃ b v e, tm[t]? = some (.pointer (some ⟨b, 0, none⟩)) ∧ w.heap[b]? = some (.cells #[v] e (0, 0)) ∧ n₀ ≤ b ∧ ¬ Sp b ∧ ∃ F : Nat → Prop, (∀ b, F b → n₀ ≤ b ∧ ¬ Sp b ∧ b < w.heap.size) ∧ RowOf P false true ty w NoB F v xs := by
  obtain ⟨B, H, φ, hP, _, hR, _, hw0, _, hX, hr⟩ := h.ex
  have hφ : ∀ n b, φ n b → n₀ ≤ b ∧ ¬ Sp b := fun n b hb => by
    rcases (hr.mem.fsub n b hb).1 with ⟨_, hx⟩ | hge
    · exact hX b hx
    · rw [hw0] at hge
      have := (hr.mem.fsub n b hb).2
      omega
  obtain ⟨v, hv, g, hg, e1⟩ := All2.get hr.tmp t _ hσ
  obtain ⟨v1, hv1, g', us, ety, e2, hF, hh, hal⟩ := hr.mem.blk 62 _ h62
  obtain rfl : g' = g := by
    have hg : H _ = _ := hg
    rw [hv1, e2] at hg
    have := Option.some.inj hg
    simpa using this
  obtain ⟨v2, hv2, hrow⟩ := hr.mem.blk 126 _ h126
  obtain ⟨us⟩ := us
  match us, hal with
  | [u], hal =>
    obtain ⟨hu, _⟩ := hal.1
    obtain rfl : v2 = u := Option.some.inj (hv2.symm.trans hu)
    have hrd : RowOf B.P false true ty w NoB (φ 126) v2 xs := RowOf.flag (Z' := NoB) (dp' := true) hsc hrow
    rw [hP] at hrd
    exact ⟨g', v2, ety, by rw [← e1]; simpa using hv, hh, (hφ _ _ hF).1, (hφ _ _ hF).2, φ 126, fun b hb => ⟨(hφ _ b hb).1, (hφ _ b hb).2, (hr.mem.fsub _ b hb).2⟩, hrd⟩
theorem lm_int {P : Program} {par : List Nat} {Sp : Nat → Prop} {n₀ : Nat} {σ : St} {tm : Array Value} {w : World} (h : LM P par Sp n₀ σ tm w) {t n : Nat} {z : Int} (hσ : σ.tmps[t]? = some (.c (.ptr n 0))) (hn : look n σ.blks = some (.box [.int .i64 z])) :
    ∃ b e, tm[t]? = some (.pointer (some ⟨b, 0, none⟩)) ∧ w.heap[b]? = some (.cells #[.int .i64 z] e (0, 0)) := by
  obtain ⟨B, H, φ, hP, _, hR, _, hw0, _, hX, hr⟩ := h.ex
  obtain ⟨v, hv, g, hg, e1⟩ := All2.get hr.tmp t _ hσ
  obtain ⟨v1, hv1, g', us, ety, e2, hF, hh, hal⟩ := hr.mem.blk n _ hn
  obtain rfl : g' = g := by
    have hg : H _ = _ := hg
    rw [hv1, e2] at hg
    have := Option.some.inj hg
    simpa using this
  obtain ⟨us⟩ := us
  match us, hal with
  | [u], hal =>
    obtain rfl : u = .int .i64 z := hal.1
    exact ⟨g', ety, by rw [← e1]; simpa using hv, hh⟩
end Go.Proofs.YtldeplpiokdmpaaDoor
