/- append, literals, make: the relation behind them. No conditions. -/
import Derived.Test.YtklfnbckoaphpaaGreatDoorEvN
set_option linter.unusedVariables false
set_option linter.unusedSimpArgs false
namespace Go.Proofs.YtklfnbckoaphpaaGreatDoor
open Go

/-- what append takes its cells from -/
def SrcOK (P : Program) (C : Cx) (ty : Ty) (v : Value) (ys : List ty.den) : Prop := ∃ news : List Value, news.length = ys.length * ty.cells ∧ (∀ u ∈ news, u.oneCell' = true) ∧
  (∀ w', Stay C.w w' → (Builtin.lenOf v).run P w' = .ok ys.length w' ∧ (Builtin.firstCells ty.cells ys.length v).run P w' = .ok news.toArray w') ∧
  ∀ i (h : i < ys.length), RdC P ty C.w C.Z ((news.drop (i * ty.cells)).take ty.cells) ys[i]

theorem mem_chunk {l : List Value} {s n : Nat} (hl : l.length = n * s) {u : Value} (hu : u ∈ l) : ∃ i, i < n ∧ u ∈ (l.drop (i * s)).take s := by
  obtain ⟨j, hj, rfl⟩ := List.getElem_of_mem hu
  have hs : 0 < s := by
    rcases Nat.eq_zero_or_pos s with h | h
    · rw [h, Nat.mul_zero] at hl; omega
    · exact h
  refine ⟨j / s, ?_, ?_⟩
  · rw [Nat.div_lt_iff_lt_mul hs, ← hl]; exact hj
  · refine List.mem_iff_getElem?.2 ⟨j % s, ?_⟩
    rw [List.getElem?_take, if_pos (Nat.mod_lt _ hs), List.getElem?_drop]
    have : j / s * s + j % s = j := Nat.div_add_mod' j s
    rw [this, List.getElem?_eq_getElem hj]

theorem src_of {P : Program} {C : Cx} {ty : Ty} {ys : List ty.den} {A : Option Addr} {cap : Nat} (h : 0 < ys.length → ∃ b o, A = some ⟨b, o, none⟩ ∧ ∀ i (h : i < ys.length), ∃ us, us.length = ty.cells ∧ RdC P ty C.w C.Z us ys[i] ∧ At C.w b (o + i * ty.cells) us) :
    SrcOK P C ty (.slice A ys.length cap) ys := by
  by_cases hl : ys.length = 0
  · refine ⟨[], by simp [hl], by simp, fun w' _ => ⟨by simp [Builtin.lenOf], ?_⟩, fun i hi => by omega⟩
    rw [hl]
    exact firstCells_zero P ty.cells A cap w'
  · obtain ⟨b, o, rfl, hel⟩ := h (by omega)
    let news := (List.range (ys.length * ty.cells)).map fun j => (C.w.cell? ⟨b, o + j, none⟩).getD undef
    have hlen : news.length = ys.length * ty.cells := by simp [news]
    have hchunk : ∀ i (hi : i < ys.length) us, us.length = ty.cells → At C.w b (o + i * ty.cells) us → (news.drop (i * ty.cells)).take ty.cells = us := by
      intro i hi us hu hat
      apply List.ext_getElem?
      intro k
      by_cases hk : k < ty.cells
      · have h1 : i * ty.cells + k < ys.length * ty.cells := by
          have : (i + 1) * ty.cells ≤ ys.length * ty.cells := Nat.mul_le_mul_right _ hi
          rw [Nat.add_mul] at this
          omega
        rw [List.getElem?_take, if_pos hk, List.getElem?_drop]
        have h2 : us[k]? = some (us[k]'(by omega)) := List.getElem?_eq_getElem (by omega)
        have h3 := hat k _ h2
        have h4 : o + i * ty.cells + k = o + (i * ty.cells + k) := by omega
        rw [h4] at h3
        simp [news, List.getElem?_map, List.getElem?_range h1, h3, h2]
      · rw [List.getElem?_take, if_neg hk, List.getElem?_eq_none (by omega)]
    refine ⟨news, hlen, fun u hu => ?_, fun w' hw' => ⟨by simp [Builtin.lenOf], ?_⟩, fun i hi => ?_⟩
    · obtain ⟨i, hi, hm⟩ := mem_chunk hlen hu
      obtain ⟨us, k1, k2, k3⟩ := hel i hi
      rw [hchunk i hi us k1 k3] at hm
      exact (RdC.cells ty us _ k2).2 u hm
    · refine run_firstCells_some w' ty.cells ys.length ⟨b, o, none⟩ ys.length cap news hlen fun j v hv => ?_
      have hj : j < news.length := by
        rcases Nat.lt_or_ge j news.length with h' | h'
        · exact h'
        · rw [List.getElem?_eq_none h'] at hv; cases hv
      rw [hlen] at hj
      have hs : 0 < ty.cells := by
        rcases Nat.eq_zero_or_pos ty.cells with h | h
        · rw [h] at hj; omega
        · exact h
      have hi : j / ty.cells < ys.length := by rw [Nat.div_lt_iff_lt_mul hs]; exact hj
      obtain ⟨us, k1, k2, k3⟩ := hel _ hi
      have hm := Nat.mod_lt j hs
      have h2 : us[j % ty.cells]? = some (us[j % ty.cells]'(by omega)) := List.getElem?_eq_getElem (by omega)
      have h3 := k3 _ _ h2
      have h4 : o + j / ty.cells * ty.cells + j % ty.cells = o + j := by have := Nat.div_add_mod' j ty.cells; omega
      rw [h4] at h3
      have h5 : v = us[j % ty.cells]'(by omega) := by
        simp only [news, List.getElem?_map, List.getElem?_range hj, Option.map_some, h3, Option.getD_some, Option.some.injEq] at hv
        exact hv.symm
      rw [add_at, h5]
      have hb := World.block_lt_of_cell? C.w _ h3
      rw [World.cell?_of_block (w := C.w) ((hw'.all fun _ => True).2 b hb trivial)]
      exact h3
    · obtain ⟨us, k1, k2, k3⟩ := hel i hi
      rw [hchunk i hi us k1 k3]
      exact k2

theorem chunk_take (l : List Value) (N s i : Nat) (hi : i < N) : (l.drop (i * s)).take s = ((l.take (N * s)).drop (i * s)).take s := by
  have h1 : (i + 1) * s ≤ N * s := Nat.mul_le_mul_right _ hi
  rw [Nat.add_mul, Nat.one_mul] at h1
  apply List.ext_getElem?
  intro k
  simp only [List.getElem?_take, List.getElem?_drop]
  by_cases hk : k < s
  · rw [if_pos hk, if_pos hk, if_pos (by omega)]
  · rw [if_neg hk, if_neg hk]
theorem chunk_left (l m : List Value) (N s i : Nat) (hl : l.length = N * s) (hi : i < N) : ((l ++ m).drop (i * s)).take s = (l.drop (i * s)).take s := by
  have h1 : (i + 1) * s ≤ N * s := Nat.mul_le_mul_right _ hi
  rw [Nat.add_mul, Nat.one_mul] at h1
  rw [List.drop_append_of_le_length (by omega), List.take_append_of_le_length (by simp; omega)]
theorem chunk_right (l m : List Value) (N s i : Nat) (hl : l.length = N * s) (hi : N ≤ i) : ((l ++ m).drop (i * s)).take s = (m.drop ((i - N) * s)).take s := by
  have h1 : N * s ≤ i * s := Nat.mul_le_mul_right _ hi
  have h2 : l.drop (i * s) = [] := List.drop_eq_nil_of_le (by omega)
  rw [List.drop_append, h2, List.nil_append, hl, Nat.sub_mul]

section
variable {B : Base} {E : Env} {σ : St} {a : Act} {w : World} {H : Nat → Option Value} {φ : Nat → Nat → Prop}

/-- the memory that append leaves, as a row under a name -/
theorem Rel.appended {R1 : Nat → Prop} {tm : Array Value} (h : Rel (B.on R1) σ tm w H φ) (hR : ∀ b, B.R b → R1 b) {n : Nat} (hn : look n σ.blks = none) (hio : B.io n = none) {w' : World} {ty : Ty} {xs ys : List ty.den} {olds news : List Value} {A' : Option Addr} {cap' : Nat}
    (hcap : xs.length + ys.length ≤ cap') (hol : olds.length = xs.length * ty.cells) (hnl : news.length = ys.length * ty.cells)
    (hmem : (cap' = 0 ∧ w' = w) ∨ ∃ g' cur' ety', A' = some ⟨g', 0, none⟩ ∧ w'.heap[g']? = some (.cells cur' ety' (0, 0)) ∧ cap' * ty.cells ≤ cur'.size ∧ cur'.toList.take ((xs.length + ys.length) * ty.cells) = olds ++ news ∧
      ((R1 g' ∧ ¬ B.R g' ∧ ((B.par.contains n = true ∧ B.X0 g') ∨ B.w0.heap.size ≤ g') ∧ Fr (fun b => b = g') w w') ∨ (w.heap.size ≤ g' ∧ Fr NoB w w')))
    {d : Bool} (hd : (!d || ty.scal) = true) (hm : mkd d ty = false)
    (ho : ∀ i (hi : i < xs.length), RdC B.P ty w (zone (B.on R1) w φ) ((olds.drop (i * ty.cells)).take ty.cells) xs[i])
    (hnw : ∀ i (hi : i < ys.length), RdC B.P ty w (zone (B.on R1) w φ) ((news.drop (i * ty.cells)).take ty.cells) ys[i]) :
    ∃ H' φ', Rel B (σ.setBlk n (.row d ty (xs ++ ys))) tm w' H' φ' ∧ H' n = some (.slice A' (xs.length + ys.length) cap') := by
  have hlen : (xs ++ ys).length = xs.length + ys.length := List.length_append
  rcases hmem with ⟨rfl, rfl⟩ | ⟨g', cur', ety', rfl, hh, hsz, htake, hwhere⟩
  · refine ⟨_, _, h.fresh hR hn hio (b := .row d ty (xs ++ ys)) (v := .slice A' (xs.length + ys.length) 0) (F := NoB) (Fr.refl _ _) (fun i f => f.elim) (fun C' hle hw hP _ => ⟨A', 0, by rw [hlen], by rw [hlen]; exact hcap, .inl rfl⟩), by simp⟩
  · refine ⟨_, _, h.fresh hR hn hio (b := .row d ty (xs ++ ys)) (v := .slice (some ⟨g', 0, none⟩) (xs.length + ys.length) cap') (F := fun i => i = g') ?_ (fun i hi => ?_) (fun C' hle hw hP _ => ⟨_, cap', by rw [hlen], by rw [hlen]; exact hcap, .inr ⟨g', cur', ety', rfl, rfl, by rw [hw, hm]; exact hh, hsz, fun _ => NoB, fun _ _ f => f.elim, fun _ _ _ _ f => f.elim, fun i hi => ?_⟩⟩), by simp⟩
    · rcases hwhere with ⟨h1, h2, h3, h4⟩ | ⟨h1, h2⟩
      · exact ⟨h4.os, h4.tape, h4.output, h4.size, fun b hb hn => h4.block b hb fun e => hn (by subst e; exact ⟨h1, h2⟩), h4.glob⟩
      · exact h2.le
    · subst hi
      refine ⟨?_, (Array.getElem?_eq_some_iff.1 hh).1⟩
      rcases hwhere with ⟨h1, h2, h3, h4⟩ | ⟨h1, h2⟩
      · exact .inr ⟨h1, h2, h3⟩
      · exact .inl h1
    · have key : RdC B.P ty w (zone (B.on R1) w φ) ((cur'.toList.drop (i * ty.cells)).take ty.cells) (xs ++ ys)[i] := by
        rw [hlen] at hi
        rw [chunk_take cur'.toList (xs.length + ys.length) ty.cells i hi, htake]
        by_cases hx : i < xs.length
        · rw [chunk_left olds news xs.length ty.cells i hol hx]
          rw [List.getElem_append_left hx]
          exact ho i hx
        · rw [chunk_right olds news xs.length ty.cells i hol (by omega)]
          rw [List.getElem_append_right (by omega)]
          exact hnw (i - xs.length) (by omega)
      have h1 := RdC.agree hle.agree hle.Z ty _ _ key
      have h2 : RdC C'.P ty C'.w C'.Z ((cur'.toList.drop (i * ty.cells)).take ty.cells) (xs ++ ys)[i] := by rw [hP]; exact h1
      exact OwC.ofRd ty _ _ hd h2

/-- a row whose elements hold nothing that is owned, seen as cells -/
theorem RowOf.cellsAt {P : Program} {mk dd : Bool} {t : Ty} {w : World} {Z F : Nat → Prop} {v : Value} {xs : List t.den} (hd : (!dd || t.scal) = true) (h : RowOf P mk dd t w Z F v xs) :
    ∃ A cap, v = .slice A xs.length cap ∧ xs.length ≤ cap ∧ (0 < xs.length → ∃ b o, A = some ⟨b, o, none⟩ ∧ ∀ i (h : i < xs.length), ∃ us, us.length = t.cells ∧ RdC P t w Z us xs[i] ∧ At w b (o + i * t.cells) us) := by
  obtain ⟨A, cap, rfl, hl, h⟩ := h
  refine ⟨A, cap, rfl, hl, fun hp => ?_⟩
  rcases h with h | ⟨g, cur, ety, eA, hg, hh1, hs, Fs, h1, h2, h3⟩
  · omega
  · refine ⟨g, 0, eA, fun i hi => ?_⟩
    have hr := OwC.flatOK hd (h3 i hi)
    exact ⟨_, (RdC.cells t _ _ hr).1, hr, by rw [Nat.zero_add]; exact take_drop_at cur _ _ w g ety _ hh1⟩

end
end Go.Proofs.YtklfnbckoaphpaaGreatDoor
