/- What a row's argument reads, as data. No conditions. -/
import Derived.Test.YtklfnbckoaphpaaGreatDoorEvZf
import Derived.ProofKit
set_option linter.unusedVariables false
set_option linter.unusedSimpArgs false
namespace Go.Proofs.YtklfnbckoaphpaaGreatDoor
open Go Go.ChangeShapes Go.WideShapes

def layFs (P : Program) (lay : Nat → Option Ty) : Nat → List Field → Option Ty
  | _, [] => some .unit
  | off, [f] => match lay f.type with
    | some a => bif f.offset == off && a.cells == P.cellsOf f.type then some a else none
    | none => none
  | off, f :: g :: r => match lay f.type with
    | some a => bif f.offset == off && a.cells == P.cellsOf f.type then
        (match layFs P lay (off + a.cells) (g :: r) with | some b => some (.pair a b) | none => none) else none
    | none => none
/-- the data of a Go type that are laid out one after another -/
def layD (P : Program) : Nat → Nat → Option Ty
  | 0, _ => none
  | n + 1, t => match P.underlying t with
    | some (.int k) => some (.int k)
    | some .bool => some .bool
    | some .string => some .str
    | some (.slice e) => match layD P n e with
      | some ty => bif ty.cells == P.cellsOf e && decide (0 < ty.cells) then some (.slice ty) else none
      | none => none
    | some (.struct fs) => match layFs P (layD P n) 0 fs.toList with
      | some ty => bif ty.cells == P.cellsOf t then some (.st ty) else none
      | none => none
    | _ => none

/-- data that a Go program can hold -/
def Ty.wf : (t : Ty) → t.den → Prop
  | .int k, n => (Lit.int k n).wf = true
  | .bool, _ => True
  | .str, s => s.size ≤ maxLen
  | .unit, _ => True
  | .slice e, xs => xs.length ≤ maxLen ∧ ∀ x ∈ xs, e.wf x
  | .st a, x => a.wf x
  | .pair a b, x => a.wf x.1 ∧ b.wf x.2
  | .ptr a, x => a.wf x
  | .fn _ _, _ => True
  | .map _ _, _ => True

theorem exists_list {α : Type} {Q : Nat → α → Prop} : ∀ n : Nat, (∀ i, i < n → ∃ y, Q i y) → ∃ l : List α, l.length = n ∧ ∀ i (h : i < l.length), Q i l[i]
  | 0, _ => ⟨[], rfl, fun i h => absurd h (by simp)⟩
  | n + 1, h => by
    obtain ⟨l, hl, hq⟩ := exists_list n fun i hi => h i (by omega)
    obtain ⟨y, hy⟩ := h n (by omega)
    refine ⟨l ++ [y], by simp [hl], fun i hi => ?_⟩
    by_cases e : i < l.length
    · rw [List.getElem_append_left e]; exact hq i e
    · have : i = n := by simp at hi; omega
      subst this
      rw [List.getElem_append_right (by omega)]
      simp only [hl, Nat.sub_self, List.getElem_cons_zero]
      exact hy

section
variable {H : Type} {enc : TypeId × Value → H} {P : Program} {W : World} {sp : Nat → Bool} {held : Bool}

theorem cells_at {b o c : Nat} {us : List Value} (h : W.cells? 0 ⟨b, o, none⟩ c = some us) : us.length = c ∧ At W b o us := by
  unfold World.cells? at h
  rw [if_pos (Nat.zero_le _)] at h
  refine ⟨by simpa using mapM_some_length h, fun j u hj => ?_⟩
  have hjl : j < c := by
    have := mapM_some_length h
    simp at this
    have := (List.getElem?_eq_some_iff.1 hj).1
    omega
  have := mapM_some_get h j j (by simp [hjl])
  rw [hj, add_at] at this
  exact this

theorem cells_spot {a : Addr} {c : Nat} {us : List Value} (hc : 0 < c) (h : W.cells? 0 (a.add 0) c = some us) : a.spot = none := by
  unfold World.cells? at h
  rw [if_pos (Nat.zero_le _)] at h
  have := mapM_some_get h 0 0 (by simp [hc])
  have hl := mapM_some_length h
  simp at hl
  have e : (a.add 0).add 0 = a := by simp [Addr.add]
  rw [e, List.getElem?_eq_getElem (by omega)] at this
  cases hs : a.spot with
  | none => rfl
  | some s => unfold World.cell? at this; rw [hs] at this; split at this <;> simp at this

theorem trod_rd : ∀ (n : Nat) (t : Nat) (ty : Ty), layD P n t = some ty → ∀ (fuel : Nat) (cs : List Value) (r : DataW H × List MemPlace), DataW.trod enc P W 0 sp held fuel t cs = some r → ∃ x : ty.den, RdC P ty W (fun _ => True) cs x ∧ ty.wf x
  | 0, t, ty, h, _, _, _, _ => by simp [layD] at h
  | n + 1, t, ty, h, fuel, cs, r, hr => by
    simp only [layD] at h
    split at h
    · rename_i k hu
      simp only [Option.some.injEq] at h
      subst h
      cases fuel with
      | zero => simp [DataW.trod] at hr
      | succ m =>
        unfold DataW.trod at hr
        rw [hu] at hr
        split at hr <;> simp_all
        obtain ⟨⟨hk, hw⟩, _⟩ := hr
        rename_i hq _
        subst hq
        exact ⟨_, rfl, hw⟩
    · rename_i hu
      simp only [Option.some.injEq] at h
      subst h
      cases fuel with
      | zero => simp [DataW.trod] at hr
      | succ m =>
        unfold DataW.trod at hr
        rw [hu] at hr
        split at hr <;> first | (refine ⟨_, rfl, trivial⟩; done) | (simp_all; done)
    · rename_i hu
      simp only [Option.some.injEq] at h
      subst h
      cases fuel with
      | zero => simp [DataW.trod] at hr
      | succ m =>
        unfold DataW.trod at hr
        rw [hu] at hr
        split at hr <;> simp_all
        exact ⟨_, rfl, hr.1⟩
    · rename_i e hu
      split at h
      · rename_i te he
        have h0 := bif_none h
        clear h
        obtain ⟨hg, h⟩ := h0
        simp only [Option.some.injEq] at h
        subst h
        obtain ⟨hc, hpos⟩ := and_b hg
        have hc : te.cells = P.cellsOf e := by simpa using hc
        have hpos : 0 < te.cells := of_decide_eq_true hpos
        rcases DataW.trod_slice hu hr with ⟨rfl, rfl⟩ | ⟨a, len, cap, elems, rest, m, rfl, rfl, rfl, hb, hl, hcap, hel, hi, _, _⟩
        · exact ⟨[], ⟨none, 0, rfl, Nat.le_refl _, fun h => absurd h (by simp)⟩, by simp, fun x hx => by cases hx⟩
        · have hsp : 0 < len → a.spot = none := fun h0 => by
            have := hi 0 h0
            rw [List.getElem?_eq_getElem (by omega)] at this
            obtain ⟨us, h1, _⟩ := Option.bind_eq_some_iff.1 this
            rw [Nat.zero_mul] at h1
            exact cells_spot (by omega) h1
          have each : ∀ i, i < len → ∃ y : te.den, (∃ us, us.length = te.cells ∧ RdC P te W (fun _ => True) us y ∧ At W a.block (a.off + i * te.cells) us) ∧ te.wf y := fun i hil => by
            have := hi i hil
            rw [List.getElem?_eq_getElem (by omega)] at this
            obtain ⟨us, h1, h2⟩ := Option.bind_eq_some_iff.1 this
            obtain ⟨y, hy1, hy2⟩ := trod_rd n e te he m us _ h2
            have ha : a = ⟨a.block, a.off, none⟩ := by
              have := hsp (by omega)
              cases a; simp_all
            rw [ha, add_at, ← hc] at h1
            obtain ⟨k1, k2⟩ := cells_at h1
            exact ⟨y, ⟨us, k1, hy1, k2⟩, hy2⟩
          obtain ⟨xs, hxl, hxs⟩ := exists_list len each
          refine ⟨xs, ⟨some a, cap, by rw [hxl], by omega, fun h0 => ?_⟩, by rw [hxl]; omega, fun x hx => ?_⟩
          · have ha : a = ⟨a.block, a.off, none⟩ := by
              have := hsp (by omega)
              cases a; simp_all
            refine ⟨a.block, a.off, by rw [← ha], ?_, trivial, fun i hi => (hxs i hi).1⟩
            obtain ⟨us, q1, q2, q3⟩ := (hxs 0 h0).1
            cases us with
            | nil => simp at q1; omega
            | cons u us =>
              have := q3 0 u rfl
              have q := World.block_lt_of_cell? W _ this
              exact q
          · obtain ⟨i, hi, rfl⟩ := List.getElem_of_mem hx
            exact (hxs i hi).2
      · cases h
    · rename_i fs hu
      split at h
      · rename_i tf hf
        have h0 := bif_none h
        clear h
        obtain ⟨hg, h⟩ := h0
        simp only [Option.some.injEq] at h
        subst h
        have hc : tf.cells = P.cellsOf t := by simpa using hg
        obtain ⟨xs, m, rfl, rfl, hcl, hxl, hx⟩ := DataW.trod_struct hu hr
        have fields : ∀ f ∈ fs.toList, ∃ z, DataW.trod enc P W 0 sp held m f.type ((cs.drop f.offset).take (P.cellsOf f.type)) = some z := fun f hfm => by
          obtain ⟨i, hi, rfl⟩ := List.getElem_of_mem hfm
          have := hx i (fs.toList[i]) (by simp at hi ⊢)
          exact ⟨xs[i]'(by simp at hi; omega), by rw [this, List.getElem?_eq_getElem]⟩
        have walk : ∀ (l : List Field) (off : Nat) (tf : Ty), layFs P (layD P n) off l = some tf → (∀ f ∈ l, f ∈ fs.toList) → ∃ x : tf.den, RdC P tf W (fun _ => True) ((cs.drop off).take tf.cells) x ∧ tf.wf x := by
          intro l
          induction l with
          | nil =>
            intro off tf h _
            simp only [layFs, Option.some.injEq] at h
            subst h
            exact ⟨(), by simp [RdC, Ty.cells], trivial⟩
          | cons f l ih =>
            intro off tf h hsub
            obtain ⟨z, hz⟩ := fields f (hsub f (by simp))
            cases l with
            | nil =>
              simp only [layFs] at h
              split at h
              · rename_i ta hta
                have h0 := bif_none h
                clear h
                obtain ⟨hg, h⟩ := h0
                simp only [Option.some.injEq] at h
                subst h
                obtain ⟨e1, e2⟩ := and_b hg
                have e1 : f.offset = off := by simpa using e1
                have e2 : ta.cells = P.cellsOf f.type := by simpa using e2
                rw [e2, ← e1]
                exact trod_rd n f.type ta hta m _ _ hz
              · cases h
            | cons g r =>
              simp only [layFs] at h
              split at h
              · rename_i ta hta
                have h0 := bif_none h
                clear h
                obtain ⟨hg, h⟩ := h0
                obtain ⟨e1, e2⟩ := and_b hg
                have e1 : f.offset = off := by simpa using e1
                have e2 : ta.cells = P.cellsOf f.type := by simpa using e2
                split at h
                · rename_i tb htb
                  simp only [Option.some.injEq] at h
                  subst h
                  obtain ⟨y, hy, hyw⟩ := ih (off + ta.cells) tb htb fun q hq => hsub q (List.mem_cons_of_mem _ hq)
                  obtain ⟨x, hx, hxw⟩ := trod_rd n f.type ta hta m _ _ hz
                  refine ⟨(x, y), ⟨(cs.drop off).take ta.cells, (cs.drop (off + ta.cells)).take tb.cells, ?_, ?_, hy⟩, hxw, hyw⟩
                  · simp only [Ty.cells]
                    rw [List.take_add, List.drop_drop]
                  · rw [e2, ← e1]; exact hx
                · cases h
              · cases h
        obtain ⟨x, hx, hxw⟩ := walk fs.toList 0 tf hf (fun _ h => h)
        refine ⟨x, ?_, hxw⟩
        have e : (cs.drop 0).take tf.cells = cs := by
          rw [List.drop_zero, hc, ← hcl, List.take_length]
        rw [e] at hx
        exact hx
      · cases h
    · cases h

end
end Go.Proofs.YtklfnbckoaphpaaGreatDoor
