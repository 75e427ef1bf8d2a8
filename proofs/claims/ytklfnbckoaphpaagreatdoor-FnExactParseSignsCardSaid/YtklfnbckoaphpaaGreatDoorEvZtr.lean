/- A range over lines: where it begins, and what it leaves. No conditions. -/
import Derived.Test.YtklfnbckoaphpaaGreatDoorEvZsr
set_option linter.unusedVariables false
set_option linter.unusedSimpArgs false
namespace Go.Proofs.YtklfnbckoaphpaaGreatDoor
open Go Go.RowKit

section
variable {B : Base} {σ σ' : St} {tm : Array Value} {w : World} {H : Nat → Option Value} {φ : Nat → Nat → Prop}
theorem Rel.perm (h : Rel B σ tm w H φ) (ht : σ'.tmps = σ.tmps) (hl : ∀ n, look n σ'.blks = look n σ.blks) : Rel B σ' tm w H φ := by
  have hL : lenOf σ'.blks = lenOf σ.blks := by funext n; simp only [lenOf, hl n]
  refine ⟨⟨h.mem.fr, fun n hn => h.mem.hdom n (by rw [← hl n]; exact hn), fun n hn => h.mem.fdom n (by rw [← hl n]; exact hn), h.mem.fsub, h.mem.fdis, h.mem.rdis, h.mem.rsub, h.mem.keep, fun n b hb => ?_⟩, ?_⟩
  · rw [hL]
    exact h.mem.blk n b (by rw [← hl n]; exact hb)
  · rw [ht, hL]; exact h.tmp
end

theorem set_same {tm : Array Value} {i : Nat} {v : Value} (h : tm[i]? = some v) : tm.setIfInBounds i v = tm := by
  apply Array.ext
  · simp
  · intro j h1 h2
    rw [Array.getElem_setIfInBounds]
    split
    · rename_i e
      subst e
      rw [Array.getElem?_eq_getElem h2] at h
      exact (Option.some.inj h).symm
    · rfl
theorem any_rel {C : Cx} : ∀ (vs : List Value), All2 (ARel C) (List.replicate vs.length A.any) vs
  | [] => trivial
  | v :: vs => ⟨trivial, any_rel vs⟩

/-- nothing is named yet; X: what will be -/
def baseL (P : Program) (Sp X : Nat → Prop) (par : List Nat) (w : World) (hpk : ∀ n, par.contains n = true → 62 ≤ n % 64) (ht : Tabs P w) (hx : ∀ b, X b → nGlob ≤ b) : Base :=
  { P := P, Z0 := fun b => ¬ Sp b, X0 := X, w0 := w, par := par, R := NoB, io := fun _ => none, iok := (fun _ _ h => by cases h), parok := hpk, tabs := ht, x0 := hx }
theorem rel_start {P : Program} {Sp X : Nat → Prop} {par : List Nat} {w : World} {hpk ht hx} (tm : Array Value) (hX : ∀ b, X b → b < w.heap.size) :
    Rel ((baseL P Sp X par w hpk ht hx).on X) (St.of (List.replicate tm.size .any) []) tm w (fun _ => none) (fun _ _ => False) := by
  refine ⟨⟨Fr.refl _ _, fun _ _ => rfl, fun _ _ _ f => f, fun _ _ f => f.elim, fun _ _ _ _ f => f.elim, fun _ _ f => f.elim, fun b hb => ⟨.inl hb, hX b hb⟩, (fun _ _ h => by cases h), fun n b hb => by simp [St.of, look] at hb⟩, ?_⟩
  have := any_rel (C := ((baseL P Sp X par w hpk ht hx).on X).cx w (fun _ => none) (fun _ _ => False) (lenOf [])) tm.toList
  rw [Array.length_toList] at this
  exact this

/-- three variables: one of a slice (nil, its row), one of a slice that stays nil, one of a bool -/
theorem lm_start3 {P : Program} {Sp : Nat → Prop} {n₀ : Nat} {tm : Array Value} {w : World} {ty : Ty} {t b4 t6 b6 t7 b7 : Nat} {e4 e6 e7 : TypeId} {z : Bool} (ht : Tabs P w) (hn0 : nGlob ≤ n₀) (h4 : w.heap[b4]? = some (.cells #[.slice none 0 0] e4 (0, 0))) (h4n : n₀ ≤ b4 ∧ ¬ Sp b4) (htm : tm[t]? = some (.pointer (some ⟨b4, 0, none⟩)))
    (h6 : w.heap[b6]? = some (.cells #[.slice none 0 0] e6 (0, 0))) (h6n : n₀ ≤ b6 ∧ ¬ Sp b6) (htm6 : tm[t6]? = some (.pointer (some ⟨b6, 0, none⟩))) (h7 : w.heap[b7]? = some (.cells #[.bool z] e7 (0, 0))) (h7n : n₀ ≤ b7 ∧ ¬ Sp b7) (htm7 : tm[t7]? = some (.pointer (some ⟨b7, 0, none⟩))) (h46 : b4 ≠ b6) (h47 : b4 ≠ b7) (h67 : b6 ≠ b7)
    {σ : St} (hσt : σ.tmps = (((List.replicate tm.size A.any).set t (.c (.ptr 62 0))).set t6 (.c (.ptr 190 0))).set t7 (.c (.ptr 254 0))) (hσb : σ.blks = [(62, .box [.own 126]), (126, .row true ty []), (190, .box [.nil]), (254, .box [.bool z])]) : LM P [62, 126, 190, 254] Sp n₀ σ tm w := by
  have hb4 : b4 < w.heap.size := (Array.getElem?_eq_some_iff.1 h4).1
  have hb6 : b6 < w.heap.size := (Array.getElem?_eq_some_iff.1 h6).1
  have hb7 : b7 < w.heap.size := (Array.getElem?_eq_some_iff.1 h7).1
  have hpk : ∀ n, ([62, 126, 190, 254] : List Nat).contains n = true → 62 ≤ n % 64 := fun n h => by simp at h; omega
  have hx : ∀ b, (b = b4 ∨ b = b6 ∨ b = b7) → nGlob ≤ b := fun b hb => by rcases hb with rfl | rfl | rfl <;> omega
  have r0 := rel_start (P := P) (Sp := Sp) (X := fun b => b = b4 ∨ b = b6 ∨ b = b7) (par := [62, 126, 190, 254]) (w := w) (hpk := hpk) (ht := ht) (hx := hx) tm (fun b hb => by rcases hb with rfl | rfl | rfl <;> assumption)
  have r1 := Rel.fresh (B := (baseL P Sp (fun b => b = b4 ∨ b = b6 ∨ b = b7) [62, 126, 190, 254] w hpk ht hx).on (fun b => b = b4 ∨ b = b6 ∨ b = b7)) (R1 := fun b => b = b4 ∨ b = b6 ∨ b = b7) r0 (fun _ h => h) (n := 126) rfl rfl (w' := w) (b := .row true ty []) (v := .slice none 0 0) (F := NoB) (Fr.refl _ w) (fun i f => f.elim) (fun C' _ _ _ _ => ⟨none, 0, rfl, by simp, .inl rfl⟩)
  have r2 := Rel.fresh (B := (baseL P Sp (fun b => b = b4 ∨ b = b6 ∨ b = b7) [62, 126, 190, 254] w hpk ht hx).on (fun b => b = b6 ∨ b = b7)) (R1 := fun b => b = b4 ∨ b = b6 ∨ b = b7) r1 (fun _ h => .inr h) (n := 62) rfl rfl (w' := w) (b := .box [.own 126]) (v := .pointer (some ⟨b4, 0, none⟩)) (F := fun b => b = b4) (Fr.refl _ w)
    (fun i hi => by subst hi; exact ⟨.inr ⟨.inl rfl, fun q => by rcases q with q | q; exact h46 q; exact h47 q, .inl ⟨rfl, .inl rfl⟩⟩, hb4⟩)
    (fun C' hle hw hP _ => ⟨b4, #[.slice none 0 0], e4, rfl, rfl, by rw [hw]; exact h4, ⟨hle.H 126 _ rfl, none, 0, 0, rfl⟩, trivial⟩)
  have r3 := Rel.fresh (B := (baseL P Sp (fun b => b = b4 ∨ b = b6 ∨ b = b7) [62, 126, 190, 254] w hpk ht hx).on (fun b => b = b7)) (R1 := fun b => b = b6 ∨ b = b7) r2 (fun _ h => .inr h) (n := 190) rfl rfl (w' := w) (b := .box [.nil]) (v := .pointer (some ⟨b6, 0, none⟩)) (F := fun b => b = b6) (Fr.refl _ w)
    (fun i hi => by subst hi; exact ⟨.inr ⟨.inl rfl, fun q => h67 q, .inl ⟨rfl, .inr (.inl rfl)⟩⟩, hb6⟩)
    (fun C' hle hw hP _ => ⟨b6, #[.slice none 0 0], e6, rfl, rfl, by rw [hw]; exact h6, ⟨none, rfl⟩, trivial⟩)
  have r3' := Rel.fresh (B := baseL P Sp (fun b => b = b4 ∨ b = b6 ∨ b = b7) [62, 126, 190, 254] w hpk ht hx) (R1 := fun b => b = b7) r3 (fun _ h => h.elim) (n := 254) rfl rfl (w' := w) (b := .box [.bool z]) (v := .pointer (some ⟨b7, 0, none⟩)) (F := fun b => b = b7) (Fr.refl _ w)
    (fun i hi => by subst hi; exact ⟨.inr ⟨rfl, fun f => f, .inl ⟨rfl, .inr (.inr rfl)⟩⟩, hb7⟩)
    (fun C' hle hw hP _ => ⟨b7, #[.bool z], e7, rfl, rfl, by rw [hw]; exact h7, rfl, trivial⟩)
  have r4 := Rel.set r3' t (x := .c (.ptr 62 0)) (v := .pointer (some ⟨b4, 0, none⟩)) ⟨b4, rfl, rfl⟩
  rw [set_same htm] at r4
  have r5 := Rel.set r4 t6 (x := .c (.ptr 190 0)) (v := .pointer (some ⟨b6, 0, none⟩)) ⟨b6, rfl, rfl⟩
  rw [set_same htm6] at r5
  have r6 := Rel.set r5 t7 (x := .c (.ptr 254 0)) (v := .pointer (some ⟨b7, 0, none⟩)) ⟨b7, rfl, rfl⟩
  rw [set_same htm7] at r6
  refine ⟨⟨_, _, _, rfl, rfl, rfl, fun _ => rfl, rfl, fun _ => Iff.rfl, fun b hb => by rcases hb with rfl | rfl | rfl <;> assumption, Rel.perm r6 ?_ ?_⟩⟩
  · rw [hσt]; repeat rw [St.set_tmps]
    rfl
  · intro n
    rw [hσb]
    by_cases e1 : n = 62
    · subst e1; rfl
    · by_cases e2 : n = 126
      · subst e2; rfl
      · by_cases e3 : n = 190
        · subst e3; rfl
        · by_cases e4 : n = 254
          · subst e4; rfl
          · have a1 : (62 == n) = false := beq_eq_false_iff_ne.2 (Ne.symm e1)
            have a2 : (126 == n) = false := beq_eq_false_iff_ne.2 (Ne.symm e2)
            have a3 : (190 == n) = false := beq_eq_false_iff_ne.2 (Ne.symm e3)
            have a4 : (254 == n) = false := beq_eq_false_iff_ne.2 (Ne.symm e4)
            simp [look, St.of, St.set, St.setBlk, blkSet, a1, a2, a3, a4]

/-- what the three hold in the end; the row lies apart from the variables -/
theorem lm_end3 {P : Program} {par : List Nat} {Sp : Nat → Prop} {n₀ : Nat} {σ : St} {tm : Array Value} {w : World} (h : LM P par Sp n₀ σ tm w) {t t6 t7 : Nat} {ty : Ty} {z : Bool} (hsc : ty.scal = true) {xs : List ty.den} (hσ : σ.tmps[t]? = some (.c (.ptr 62 0))) (h62 : look 62 σ.blks = some (.box [.own 126])) (h126 : look 126 σ.blks = some (.row true ty xs))
    (hσ6 : σ.tmps[t6]? = some (.c (.ptr 190 0))) (h190 : look 190 σ.blks = some (.box [.nil])) (hσ7 : σ.tmps[t7]? = some (.c (.ptr 254 0))) (h254 : look 254 σ.blks = some (.box [.bool z])) :
    ∃ b v e b6 e6 A6 b7 e7, tm[t]? = some (.pointer (some ⟨b, 0, none⟩)) ∧ w.heap[b]? = some (.cells #[v] e (0, 0)) ∧ tm[t6]? = some (.pointer (some ⟨b6, 0, none⟩)) ∧ w.heap[b6]? = some (.cells #[.slice A6 0 0] e6 (0, 0)) ∧ tm[t7]? = some (.pointer (some ⟨b7, 0, none⟩)) ∧ w.heap[b7]? = some (.cells #[.bool z] e7 (0, 0)) ∧
      ∃ F : Nat → Prop, (∀ b, F b → n₀ ≤ b ∧ ¬ Sp b ∧ b < w.heap.size) ∧ ¬ F b6 ∧ ¬ F b7 ∧ RowOf P false true ty w NoB F v xs := by
  obtain ⟨B, H, φ, hP, _, hR, _, hw0, _, hX, hr⟩ := h.ex
  have hφ : ∀ n b, φ n b → n₀ ≤ b ∧ ¬ Sp b := fun n b hb => by
    rcases (hr.mem.fsub n b hb).1 with ⟨_, hx⟩ | hge
    · exact hX b hx
    · rw [hw0] at hge
      have := (hr.mem.fsub n b hb).2
      omega
  have one : ∀ {t n : Nat} {c : Cell}, σ.tmps[t]? = some (.c (.ptr n 0)) → look n σ.blks = some (.box [c]) → ∃ b u e, tm[t]? = some (.pointer (some ⟨b, 0, none⟩)) ∧ w.heap[b]? = some (.cells #[u] e (0, 0)) ∧ φ n b ∧ CellRel (B.cx w H φ (lenOf σ.blks)) c u := by
    intro t n c hσ hn
    obtain ⟨v, hv, g, hg, e1⟩ := All2.get hr.tmp t _ hσ
    obtain ⟨v1, hv1, g', us, ety, e2, hF, hh, hal⟩ := hr.mem.blk n _ hn
    obtain rfl : g' = g := by
      have hg : H _ = _ := hg
      rw [hv1, e2] at hg
      have := Option.some.inj hg
      simpa using this
    obtain ⟨us⟩ := us
    match us, hal with
    | [u], hal => exact ⟨g', u, ety, by rw [← e1]; simpa using hv, hh, hF, hal.1⟩
  obtain ⟨b, v, e, p1, p2, p3, p4⟩ := one hσ h62
  obtain ⟨b6, v6, e6, q1, q2, q3, q4⟩ := one hσ6 h190
  obtain ⟨b7, v7, e7, s1, s2, s3, s4⟩ := one hσ7 h254
  obtain ⟨A6, q4⟩ := q4
  subst q4
  obtain rfl : v7 = .bool z := s4
  obtain ⟨v2, hv2, hrow⟩ := hr.mem.blk 126 _ h126
  obtain ⟨hu, _⟩ := p4
  obtain rfl : v2 = v := Option.some.inj (hv2.symm.trans hu)
  have hrd : RowOf B.P false true ty w NoB (φ 126) v2 xs := RowOf.flag (Z' := NoB) (dp' := true) hsc hrow
  rw [hP] at hrd
  exact ⟨b, v2, e, b6, e6, A6, b7, e7, p1, p2, q1, q2, s1, s2, φ 126, fun b hb => ⟨(hφ _ b hb).1, (hφ _ b hb).2, (hr.mem.fsub _ b hb).2⟩, fun f => hr.mem.fdis 126 190 (by decide) b6 f q3, fun f => hr.mem.fdis 126 254 (by decide) b7 f s3, hrd⟩
theorem results_cell2 {fn : Func} {p u : Tmp} {t1 t2 : TypeId} (h : fn.results = #[.cell p t1, .cell u t2]) (tmps : Array Value) (P : Program) (w : World) :
    (results fn tmps).run P w =
      ((asAddr (tmps.getD p undef)).run P w).andThen fun a w₁ => ((loadVar t1 a).run P w₁).andThen fun v w₂ => ((asAddr (tmps.getD u undef)).run P w₂).andThen fun a' w₃ => ((loadVar t2 a').run P w₃).andThen fun v' w₄ => .ok (.tuple #[v, v']) w₄ := by
  simp only [results, h]
  simp [Sem.run_bind, Result.andThen]
end Go.Proofs.YtklfnbckoaphpaaGreatDoor
