/- Operations that leave memory alone: what the evaluator says is what the machine does. No conditions. -/
import Derived.Test.YtklfnbckoaphpaaGreatDoorEvG
import Derived.Laws.Strings
import Derived.Tactics
set_option linter.unusedVariables false
set_option linter.unusedSimpArgs false
namespace Go.Proofs.YtklfnbckoaphpaaGreatDoor
open Go

theorem tinf_spec {P : Program} {t : Nat} {i : TInf} (h : tinf P t = some i) : ∃ inf, P.info? t = some inf ∧ inf.size = i.size ∧ inf.bytes = i.bytes ∧ inf.zero = i.zero ∧ P.underlying t = some i.desc := by
  unfold tinf at h
  split at h
  · rename_i inf d h1 h2
    simp only [Option.some.injEq] at h
    subst h
    exact ⟨inf, h1, rfl, rfl, rfl, h2⟩
  · cases h
theorem EnvOK.under {P : Program} {E : Env} (hE : EnvOK P E) {t : Nat} {i : TInf} (h : E.T t = some i) (w : World) : (underlying t).run P w = .ok i.desc w := by
  obtain ⟨inf, _, _, _, _, h5⟩ := tinf_spec (hE.T t i h)
  exact run_underlying h5 w
theorem EnvOK.size {P : Program} {E : Env} (hE : EnvOK P E) {t : Nat} {i : TInf} (h : E.T t = some i) (w : World) : (sizeOf t).run P w = .ok i.size w := by
  obtain ⟨inf, h1, h2, _, _, _⟩ := tinf_spec (hE.T t i h)
  simp [sizeOf, typeInfo, h1, h2]
theorem EnvOK.zero {P : Program} {E : Env} (hE : EnvOK P E) {t : Nat} {i : TInf} (h : E.T t = some i) {z : Value} (hz : i.zero = some z) (w : World) : (zeroValue t).run P w = .ok z w := by
  obtain ⟨inf, h1, h2, h3, h4, _⟩ := tinf_spec (hE.T t i h)
  simp [zeroValue, typeInfo, h1, h4, hz]
theorem EnvOK.isAgg {P : Program} {E : Env} (hE : EnvOK P E) {t : Nat} {i : TInf} (h : E.T t = some i) (w : World) : (isAgg t).run P w = .ok (isAggD i.desc) w := by
  unfold Go.isAgg
  rw [Sem.run_bind, hE.under h w]
  simp only [Result.andThen_ok]
  cases i.desc <;> rfl

theorem add_at (b o n : Nat) : (⟨b, o, none⟩ : Addr).add n = ⟨b, o + n, none⟩ := by unfold Addr.add; split <;> simp_all

/-- the machine's worlds in which a quiet operation may be met: nothing that was there has turned -/
abbrev Stay (w w' : World) : Prop := Fr NoB w w'
theorem Stay.all {w w' : World} (h : Stay w w') (Z : Nat → Prop) : Agree Z w w' := h.agree Z fun _ _ _ f => f

/-- what one operation is said to do -/
def ValOK (P : Program) (C : Cx) (a : Act) (o : Oper) (x : A) : Prop := ∃ v, ARel C x v ∧ ∀ w', (memRead o.op = true → Stay C.w w') → (execOp a.eval o).run P w' = .ok (.value v) w'

theorem EnvOK.fieldAddr {P : Program} {E : Env} (hE : EnvOK P E) {s f off : Nat} {j : TInf} (h : fieldOff E s f = some (off, j)) (b o : Nat) (w : World) :
    (Instr.fieldAt s (.pointer (some ⟨b, o, none⟩)) f).run P w = .ok (.pointer (some ⟨b, o + off, none⟩)) w := by
  unfold fieldOff at h
  split at h
  · cases h
  rename_i i hi
  split at h
  · rename_i fs hd
    split at h
    · cases h
    rename_i fl hf
    split at h
    · cases h
    rename_i j' hj
    cases hs : (j'.size == 0) with
    | true => simp [hs] at h
    | false =>
      simp only [hs, cond_false, Option.some.injEq, Prod.mk.injEq] at h
      obtain ⟨rfl, rfl⟩ := h
      have hne : j'.size ≠ 0 := by simpa using hs
      simp [Instr.fieldAt, hE.under hi, hd, hf, Instr.sureAddr, fieldPlace, hE.size hj, hne, add_at]
  · cases h

/-! ### Data laid out as cells -/
theorem flat_rel {C : Cx} : ∀ (t : Ty) (x : t.den) (us : List Value) (r : List Cell) (rs : List Value), RdC C.P t C.w C.Z us x → All2 (CellRel C) r rs → All2 (CellRel C) (t.flat x r) (us ++ rs)
  | .int k, n, us, r, rs, h, hr => by subst h; exact ⟨rfl, hr⟩
  | .bool, b, us, r, rs, h, hr => by subst h; exact ⟨rfl, hr⟩
  | .str, s, us, r, rs, h, hr => by subst h; exact ⟨rfl, hr⟩
  | .unit, _, us, r, rs, h, hr => by subst h; exact hr
  | .st a, x, us, r, rs, h, hr => flat_rel a x us r rs h hr
  | .pair a b, x, us, r, rs, h, hr => by
    obtain ⟨v1, v2, rfl, h1, h2⟩ := h
    rw [List.append_assoc]
    exact flat_rel a x.1 v1 _ _ h1 (flat_rel b x.2 v2 r rs h2 hr)
  | .slice e, xs, us, r, rs, h, hr => by
    obtain ⟨A, c, rfl, h1⟩ := id h
    exact ⟨h, hr⟩
  | .ptr a, x, us, r, rs, h, hr => by
    obtain ⟨b, o, vs, rfl, hb, hz, hl, h1, h2⟩ := h
    exact ⟨⟨b, o, by simp, hb, hz, vs, hl, h1, h2⟩, hr⟩
  | .fn a b, φ, us, r, rs, h, hr => by
    obtain ⟨v, rfl, h1⟩ := id h
    exact ⟨h, hr⟩
  | .map k v, es, us, r, rs, h, hr => by
    obtain ⟨b, ents, clock, rfl, h1⟩ := id h
    exact ⟨h, hr⟩

theorem flat_rel' {C : Cx} {t : Ty} {x : t.den} {us : List Value} (h : RdC C.P t C.w C.Z us x) : All2 (CellRel C) (t.flat x []) us := by
  have := flat_rel t x us [] [] h trivial
  simpa using this

/-- data as a value -/
theorem toA_rel {C : Cx} {t : Ty} {x : t.den} {v : Value} (h : RdV C.P t C.w C.Z v x) : ARel C (t.toA x) v := by
  obtain ⟨cs, hb, hr⟩ := h
  cases t with
  | st a =>
    obtain rfl := hb
    have hr' : RdC C.P a C.w C.Z cs x := hr
    exact ⟨_, rfl, by simpa using flat_rel' hr'⟩
  | unit => trivial
  | pair a b => trivial
  | int k => obtain rfl := hb; simpa [Ty.toA, ARel, CellRel, RdC] using hr
  | bool => obtain rfl := hb; simpa [Ty.toA, ARel, CellRel, RdC] using hr
  | str => obtain rfl := hb; simpa [Ty.toA, ARel, CellRel, RdC] using hr
  | slice e => obtain rfl := hb; exact hr
  | ptr e =>
    obtain rfl := hb
    obtain ⟨b, o, vs, e, hb, hz, hl, h1, h2⟩ := hr
    simp only [List.cons.injEq, and_true] at e
    exact ⟨b, o, by simpa using e, hb, hz, vs, hl, h1, h2⟩
  | fn e f => obtain rfl := hb; exact hr
  | map e f => obtain rfl := hb; exact hr

theorem OwC.shallow {P : Program} {w : World} {Z : Nat → Prop} : ∀ (t : Ty) (F : Nat → Prop) (vs : List Value) (x : t.den), OwC P false t w Z F vs x → RdC P t w Z vs x
  | .pair a b, F, vs, x, h => by
    obtain ⟨v1, v2, F1, F2, e, _, _, _, h1, h2⟩ := h
    exact ⟨v1, v2, e, OwC.shallow a F1 v1 x.1 h1, OwC.shallow b F2 v2 x.2 h2⟩
  | .st a, F, vs, x, h => OwC.shallow a F vs x h
  | .slice e, F, vs, x, h => h
  | .int _, F, vs, x, h => h
  | .bool, F, vs, x, h => h
  | .str, F, vs, x, h => h
  | .unit, F, vs, x, h => h
  | .ptr _, F, vs, x, h => h
  | .fn _ _, F, vs, x, h => h
  | .map _ _, F, vs, x, h => h
theorem OwC.flatOK {P : Program} {dp : Bool} {w : World} {Z F : Nat → Prop} {t : Ty} {vs : List Value} {x : t.den} (hd : (!dp || t.scal) = true) (h : OwC P dp t w Z F vs x) : RdC P t w Z vs x := by
  cases dp with
  | false => exact OwC.shallow t F vs x h
  | true =>
    have ht : t.scal = true := by simpa using hd
    exact (RdC.scal t ht vs x).2 ((OwC.scal t ht vs x).1 h)

theorem takeN_eq : ∀ (n : Nat) (l : List Cell), takeN n l = l.take n
  | 0, _ => by simp [takeN]
  | n + 1, [] => by simp [takeN]
  | n + 1, x :: l => by simp [takeN, takeN_eq n l]
theorem dropN_eq : ∀ (n : Nat) (l : List Cell), dropN n l = l.drop n
  | 0, _ => by simp [dropN]
  | n + 1, [] => by simp [dropN]
  | n + 1, x :: l => by simp [dropN, dropN_eq n l]
theorem All2.take {α β : Type} {R : α → β → Prop} : ∀ {l : List α} {m : List β} (n : Nat), All2 R l m → All2 R (l.take n) (m.take n)
  | [], [], n, _ => by simp [All2]
  | _ :: _, _ :: _, 0, h => by simp [All2]
  | _ :: _, _ :: _, n + 1, h => ⟨h.1, All2.take n h.2⟩
theorem All2.drop {α β : Type} {R : α → β → Prop} : ∀ {l : List α} {m : List β} (n : Nat), All2 R l m → All2 R (l.drop n) (m.drop n)
  | [], [], n, _ => by simp [All2]
  | _ :: _, _ :: _, 0, h => h
  | _ :: _, _ :: _, n + 1, h => All2.drop n h.2

theorem At.drop {w : World} {b o : Nat} {us : List Value} (h : At w b o us) (n : Nat) : At w b (o + n) (us.drop n) := by
  intro j u hj
  have := h (n + j) u (by simpa using hj)
  simpa [Nat.add_assoc] using this
theorem At.take {w : World} {b o : Nat} {us : List Value} (h : At w b o us) (n : Nat) : At w b o (us.take n) := by
  intro j u hj
  rw [List.getElem?_take] at hj
  split at hj
  · exact h j u hj
  · cases hj

/-- the cells from an address on -/
theorem memCells_rel {B : Base} {σ : St} {tm : Array Value} {w : World} {H : Nat → Option Value} {φ : Nat → Nat → Prop} (h : Rel B σ tm w H φ) {c : Cell} {cs : List Cell} (hm : memCells σ c = some cs) {v : Value} (hr : CellRel (B.cx w H φ (lenOf σ.blks)) c v) :
    ∃ b o us, v = .pointer (some ⟨b, o, none⟩) ∧ All2 (CellRel (B.cx w H φ (lenOf σ.blks))) cs us ∧ b < w.heap.size ∧ At w b o us := by
  cases c <;> simp only [memCells] at hm <;> try (cases hm; done)
  case ptr n off =>
    split at hm
    · rename_i bcs hl
      simp only [Option.some.injEq] at hm
      subst hm
      obtain ⟨v', hv, g, us, ety, rfl, hg, hh, ha⟩ := h.mem.blk n _ hl
      obtain ⟨g', hg', rfl⟩ := hr
      have e : H n = some _ := hg'
      rw [hv] at e
      simp only [Option.some.injEq, Value.pointer.injEq, Addr.mk.injEq, and_true] at e
      subst e
      refine ⟨g, off, us.toList.drop off, rfl, by rw [dropN_eq]; exact ha.drop off, (Array.getElem?_eq_some_iff.1 hh).1, ?_⟩
      intro j u hj
      rw [cell_of_row w g _ us ety _ hh]
      simpa using hj
    · cases hm
  case dptr t x off =>
    simp only [Option.some.injEq] at hm
    subst hm
    obtain ⟨b, o', rfl, hb, hz, us, hl, h1, h2⟩ := hr
    exact ⟨b, o' + off, us.drop off, rfl, by rw [dropN_eq]; exact (flat_rel' h1).drop off, hb, h2.drop off⟩
  case eptr n i off =>
    split at hm
    · rename_i d t xs hl
      cases hd : (!d || t.scal) with
      | false => simp [hd] at hm
      | true =>
        simp only [hd, cond_true, Option.some.injEq] at hm
        subst hm
        obtain ⟨v', hv, hrow⟩ := h.mem.blk n _ hl
        obtain ⟨g, L, s, c, e1, e2, e3, rfl⟩ := hr
        have eL : lenOf σ.blks n = some (L, s) := e1
        simp only [lenOf, hl, Option.some.injEq, Prod.mk.injEq] at eL
        obtain ⟨rfl, rfl⟩ := eL
        have eH : H n = some _ := e3
        rw [hv] at eH
        obtain rfl := Option.some.inj eH
        obtain ⟨A, cap, eA, hcap, hrow⟩ := hrow
        simp only [Value.slice.injEq, true_and] at eA
        obtain ⟨rfl, rfl⟩ := eA
        rcases hrow with h0 | ⟨g', cur, ety, eg, hF, hh, hsz, Fs, f1, f2, f3⟩
        · omega
        · simp only [Option.some.injEq, Addr.mk.injEq, and_true] at eg
          subst eg
          have hel := OwC.flatOK hd (f3 i e2)
          have hgd : xs.getD i t.dflt = xs[i] := by simp [List.getD, List.getElem?_eq_getElem e2]
          refine ⟨g, i * t.cells + off, _, rfl, ?_, (Array.getElem?_eq_some_iff.1 hh).1, (take_drop_at cur (i * t.cells) t.cells w g ety _ hh).drop off⟩
          rw [dropN_eq, hgd]
          exact (flat_rel' hel).drop off
    · cases hm

theorem loadA_ok {B : Base} {E : Env} (hE : EnvOK B.P E) {σ : St} {tm : Array Value} {w : World} {H : Nat → Option Value} {φ : Nat → Nat → Prop} (h : Rel B σ tm w H φ) {t : Nat} {c : Cell} {x : A} (hl : loadA E σ t c = some x) {u : Value} (hr : CellRel (B.cx w H φ (lenOf σ.blks)) c u) :
    ∃ b o v, u = .pointer (some ⟨b, o, none⟩) ∧ ARel (B.cx w H φ (lenOf σ.blks)) x v ∧ ∀ w', Stay w w' → (loadVar t ⟨b, o, none⟩).run B.P w' = .ok v w' := by
  unfold loadA at hl
  split at hl
  · cases hl
  rename_i i hi
  split at hl
  · cases hl
  rename_i cs hm
  obtain ⟨b, o, us, rfl, ha, hb, hat⟩ := memCells_rel h hm hr
  rw [takeN_eq] at hl
  obtain ⟨hlen, hl⟩ := bif_none hl
  · have hlen' : (cs.take i.size).length = i.size := by simpa using hlen
    have hat' := ha.take i.size
    have hus : (us.take i.size).length = i.size := by rw [← hat'.length]; exact hlen'
    have hatt := hat.take i.size
    have hld : ∀ w', Stay w w' → (loadCells ⟨b, o, none⟩ i.size).run B.P w' = .ok (us.take i.size).toArray w' := by
      intro w' hw'
      have h2 : At w' b o (us.take i.size) := At.agree (Z := fun _ => True) hatt trivial (hw'.all _)
      have := run_loadCells_list (P := B.P) w' ⟨b, o, none⟩ (us.take i.size) (fun j v hv => by rw [add_at]; exact h2 j v hv)
      rwa [hus] at this
    cases hagg : isAggD i.desc with
    | true =>
      simp only [hagg, cond_true, Option.some.injEq] at hl
      subst hl
      refine ⟨b, o, .agg (us.take i.size).toArray, rfl, ⟨_, rfl, by simpa using hat'⟩, fun w' hw' => ?_⟩
      simp [loadVar, hE.isAgg hi, hagg, hE.size hi, hld w' hw']
    | false =>
      simp only [hagg, cond_false] at hl
      split at hl
      · rename_i y hy
        simp only [Option.some.injEq] at hl
        subst hl
        rw [hy] at hat'
        obtain ⟨v, hv⟩ : ∃ v, us.take i.size = [v] := by
          cases hu : us.take i.size with
          | nil => rw [hu] at hat'; exact hat'.elim
          | cons v r =>
            cases r with
            | nil => exact ⟨v, rfl⟩
            | cons _ _ => rw [hu] at hat'; exact hat'.2.elim
        rw [hv] at hat' hatt
        refine ⟨b, o, v, rfl, hat'.1, fun w' hw' => ?_⟩
        have h2 : At w' b o [v] := At.agree (Z := fun _ => True) hatt trivial (hw'.all _)
        have h3 := h2 0 v rfl
        simp only [Nat.add_zero] at h3
        simp [loadVar, hE.isAgg hi, hagg, h3]
      · cases hl

end Go.Proofs.YtklfnbckoaphpaaGreatDoor
