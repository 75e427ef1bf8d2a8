/- Contracts of functions that copy a row (slices.Clone), from proved calls. No conditions. -/
import Derived.Test.YtklfnbckoaphpaaGreatDoorEvZk
import Derived.Laws.AppendOwn
set_option linter.unusedVariables false
set_option linter.unusedSimpArgs false
namespace Go.Proofs.YtklfnbckoaphpaaGreatDoor
open Go Go.RowKit

theorem fr_below {w w' : World} (h : Below w.heap.size w w') : Fr NoB w w' := ⟨h.os, h.tape, h.output, h.size, fun b hb _ => h.block b hb, fun b _ hb => h.block b hb⟩

/-- the cells of a slice that is read -/
theorem row_cells {P : Program} {w : World} {Z : Nat → Prop} {ty : Ty} {v : Value} {xs : List ty.den} (h : RdC P (.slice ty) w Z [v] xs) :
    ∃ (A : Option Addr) (cap : Nat), v = .slice A xs.length cap ∧ (xs.length = 0 ∨ ∃ (b o : Nat) (news : List Value), A = some ⟨b, o, none⟩ ∧ news.length = xs.length * ty.cells ∧ (∀ j u, news[j]? = some u → w.cell? ⟨b, o + j, none⟩ = some u) ∧ (∀ u ∈ news, u.oneCell' = true) ∧
      ∀ i (hi : i < xs.length), RdC P ty w Z ((news.drop (i * ty.cells)).take ty.cells) xs[i]) := by
  obtain ⟨A, cap, e, hcap, hrow⟩ := h
  simp only [List.cons.injEq, and_true] at e
  refine ⟨A, cap, e, ?_⟩
  rcases Nat.eq_zero_or_pos xs.length with h0 | hp
  · exact .inl h0
  · obtain ⟨b, o, rfl, hb, hz, hel⟩ := hrow hp
    right
    let news := (List.range (xs.length * ty.cells)).map fun j => (w.cell? ⟨b, o + j, none⟩).getD undef
    have hlen : news.length = xs.length * ty.cells := by simp [news]
    have hchunk : ∀ i (hi : i < xs.length) us, us.length = ty.cells → At w b (o + i * ty.cells) us → (news.drop (i * ty.cells)).take ty.cells = us := by
      intro i hi us hu hat
      apply List.ext_getElem?
      intro k
      by_cases hk : k < ty.cells
      · have h1 : i * ty.cells + k < xs.length * ty.cells := by
          have : (i + 1) * ty.cells ≤ xs.length * ty.cells := Nat.mul_le_mul_right _ hi
          rw [Nat.add_mul] at this
          omega
        rw [List.getElem?_take, if_pos hk, List.getElem?_drop]
        have h2 : us[k]? = some (us[k]'(by omega)) := List.getElem?_eq_getElem (by omega)
        have h3 := hat k _ h2
        have h4 : o + i * ty.cells + k = o + (i * ty.cells + k) := by omega
        rw [h4] at h3
        simp [news, List.getElem?_map, List.getElem?_range h1, h3, h2]
      · rw [List.getElem?_take, if_neg hk, List.getElem?_eq_none (by omega)]
    refine ⟨b, o, news, rfl, hlen, fun j v hv => ?_, fun u hu => ?_, fun i hi => ?_⟩
    · have hj : j < news.length := by
        rcases Nat.lt_or_ge j news.length with h' | h'
        · exact h'
        · rw [List.getElem?_eq_none h'] at hv; cases hv
      rw [hlen] at hj
      have hs : 0 < ty.cells := by
        rcases Nat.eq_zero_or_pos ty.cells with h | h
        · rw [h] at hj; omega
        · exact h
      have hi : j / ty.cells < xs.length := by rw [Nat.div_lt_iff_lt_mul hs]; exact hj
      obtain ⟨us, k1, k2, k3⟩ := hel _ hi
      have hm := Nat.mod_lt j hs
      have h2 : us[j % ty.cells]? = some (us[j % ty.cells]'(by omega)) := List.getElem?_eq_getElem (by omega)
      have h3 := k3 _ _ h2
      have h4 : o + j / ty.cells * ty.cells + j % ty.cells = o + j := by have := Nat.div_add_mod' j ty.cells; omega
      rw [h4] at h3
      have h5 : v = us[j % ty.cells]'(by omega) := by
        simp only [news, List.getElem?_map, List.getElem?_range hj, Option.map_some, h3, Option.getD_some, Option.some.injEq] at hv
        exact hv.symm
      rw [h5]; exact h3
    · obtain ⟨i, hi, hm⟩ := mem_chunk hlen hu
      obtain ⟨us, k1, k2, k3⟩ := hel i hi
      rw [hchunk i hi us k1 k3] at hm
      exact (RdC.cells ty us _ k2).2 u hm
    · obtain ⟨us, k1, k2, k3⟩ := hel i hi
      rw [hchunk i hi us k1 k3]
      exact k2

noncomputable def F_clone (ty : Ty) (bytes : Nat) (x : List ty.den) : Option (List ty.den) := bif decide (x.length * bytes ≤ 140737488355328) then some x else none
noncomputable def c_clone (d : Bool) (ty : Ty) (bytes : Nat) : Con := { ps := [(.val, .slice ty)], rs := [(.io d, .slice ty)], F := F_clone ty bytes }

theorem con_clone {P : Program} {f : FuncId} (he : Enters P f) (ty : Ty) (d : Bool) (hd : (!d || ty.scal) = true) (bytes : Nat) (et : TypeId)
    (hnil : ∀ (n c : Nat) (w : World), Calls P f #[.slice none n c] w fun e w' => e = .returned (.slice none 0 0) ∧ w' = w)
    (hsome : ∀ (ad : Addr) (n c : Nat) (news : List Value) (w : World), news.length = n * ty.cells → (∀ j u, news[j]? = some u → w.cell? (ad.add j) = some u) → (∀ u ∈ news, u.oneCell' = true) → n * bytes ≤ 140737488355328 →
      Calls P f #[.slice (some ad) n c] w fun e w' => ∃ v', e = .returned v' ∧ w'.ownsRow w.heap.size et ty.cells v' n news ∧ Below w.heap.size w w') : ConOK P f (c_clone d ty bytes) := by
  refine ⟨he, fun w Z X vals (x : List ty.den) (y : List ty.den) hy hXZ hXlt hold htabs hXbig => ?_⟩
  have hy : F_clone ty bytes x = some y := hy
  unfold F_clone at hy
  obtain ⟨hg, hy⟩ := bif_none hy
  have hg := of_decide_eq_true hg
  obtain ⟨v, r, rfl, ⟨cs, hbox, hrd⟩, hr⟩ := hold
  obtain rfl : r = [] := hr
  have hbox : cs = [v] := hbox
  subst hbox
  have hrd : RdC P (.slice ty) w Z [v] x := hrd
  obtain rfl : x = y := Option.some.inj hy
  obtain ⟨A, cap, rfl, hcs⟩ := row_cells hrd
  have done : ∀ (w' : World) (F : Nat → Prop) (v' : Value), Fr NoB w w' → (∀ b, F b → w.heap.size ≤ b ∧ b < w'.heap.size) → RowOf P false d ty w' (fun b => Z b ∨ (w.heap.size ≤ b ∧ ¬ F b ∧ ¬ NoB b)) F v' x →
      ∃ v vs, ∃ F G : Nat → Prop, Ending.returned v' = .returned v ∧ Tupled vs v ∧ vs.length = (c_clone d ty bytes).rs.length ∧ Fr X w w' ∧
        (∀ b, F b → (w.heap.size ≤ b ∨ (X b ∧ Sig.ios (c_clone d ty bytes).ps = [])) ∧ b < w'.heap.size) ∧ (∀ b, G b → (X b ∨ w.heap.size ≤ b) ∧ b < w'.heap.size) ∧ (∀ b, F b → ¬ G b) ∧
        Holds P w' (fun b => Z b ∨ (w.heap.size ≤ b ∧ ¬ F b ∧ ¬ G b)) G (Sig.ios (c_clone d ty bytes).ps) (ioVals (c_clone d ty bytes).ps [.slice A x.length cap]) (Sig.fst (Sig.ios (c_clone d ty bytes).ps) (c_clone d ty bytes).rs x) ∧
        Holds P w' (fun b => Z b ∨ (w.heap.size ≤ b ∧ ¬ F b ∧ ¬ G b)) F (c_clone d ty bytes).rs vs (Sig.snd (Sig.ios (c_clone d ty bytes).ps) (c_clone d ty bytes).rs x) := by
    intro w' F v' hfr hF hrow
    exact ⟨v', [v'], F, NoB, rfl, rfl, rfl, hfr.le, fun b hb => ⟨.inl (hF b hb).1, (hF b hb).2⟩, fun _ f => f.elim, fun _ _ f => f, rfl, v', [], F, NoB, rfl, fun _ h => h, fun _ f => f.elim, fun _ _ f => f, hrow, rfl⟩
  cases A with
  | none =>
    have h0 : x.length = 0 := by
      rcases hcs with h0 | ⟨b, o, news, e, _⟩
      · exact h0
      · cases e
    refine (hnil x.length cap w).mono ?_
    rintro e w' ⟨rfl, rfl⟩
    exact done w' NoB _ (Fr.refl _ _) (fun _ f => f.elim) ⟨none, 0, by rw [h0], by omega, .inl rfl⟩
  | some ad =>
    obtain ⟨news, n1, n2, n3, n4⟩ : ∃ news : List Value, news.length = x.length * ty.cells ∧ (∀ j u, news[j]? = some u → w.cell? (ad.add j) = some u) ∧ (∀ u ∈ news, u.oneCell' = true) ∧ ∀ i (hi : i < x.length), RdC P ty w Z ((news.drop (i * ty.cells)).take ty.cells) x[i] := by
      rcases hcs with h0 | ⟨b, o, news, e, n1, n2, n3, n4⟩
      · exact ⟨[], by simp [h0], by simp, by simp, fun i hi => by omega⟩
      · obtain rfl := Option.some.inj e
        exact ⟨news, n1, fun j u hj => by rw [add_at]; exact n2 j u hj, n3, n4⟩
    refine (hsome ad x.length cap news w n1 n2 n3 hg).mono ?_
    rintro e w' ⟨v', rfl, hown, hb⟩
    have hfr := fr_below hb
    obtain ⟨hl, hrow⟩ := hown
    rcases hrow with ⟨rfl, h0⟩ | ⟨g, cap', cur, rfl, hge, hg', hle, hmax, hsz, htake⟩
    · exact done w' NoB _ hfr (fun _ f => f.elim) ⟨none, 0, by rw [h0], by omega, .inl rfl⟩
    · refine done w' (fun b => b = g) _ hfr (fun b hb => by subst hb; exact ⟨hge, (Array.getElem?_eq_some_iff.1 hg').1⟩) ⟨some ⟨g, 0, none⟩, cap', rfl, hle, .inr ⟨g, cur, et, rfl, rfl, hg', by omega, fun _ => NoB, fun _ _ f => f.elim, fun _ _ _ _ f => f.elim, fun i hi => ?_⟩⟩
      have hch : (cur.toList.drop (i * ty.cells)).take ty.cells = (news.drop (i * ty.cells)).take ty.cells := by
        rw [chunk_take cur.toList x.length ty.cells i hi, htake]
      show OwC P d ty w' _ NoB ((cur.toList.drop (i * ty.cells)).take ty.cells) x[i]
      rw [hch]
      exact OwC.ofRd ty _ _ hd (RdC.agree (hfr.agree Z fun _ _ _ f => f) (fun b _ hz => .inl hz) ty _ _ (n4 i hi))
end Go.Proofs.YtklfnbckoaphpaaGreatDoor
