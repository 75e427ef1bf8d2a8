/- Operations that leave memory alone, one by one. No conditions. -/
import Derived.Test.YtklfnbckoaphpaaGreatDoorEvI
import Derived.Laws.Slices
set_option linter.unusedVariables false
set_option linter.unusedSimpArgs false
namespace Go.Proofs.YtklfnbckoaphpaaGreatDoor
open Go

section
variable {B : Base} {E : Env} {σ : St} {a : Act} {w : World} {H : Nat → Option Value} {φ : Nat → Nat → Prop}

abbrev Base.at (B : Base) (σ : St) (w : World) (H : Nat → Option Value) (φ : Nat → Nat → Prop) : Cx := B.cx w H φ (lenOf σ.blks)

theorem ov_move (h : Rel B σ a.tmps w H φ) {o : Oper} {x : Operand} (ho : o.op = .move x) : ValOK B.P (B.at σ w H φ) a o (σ.eval x) :=
  ⟨a.eval x, h.eval x, fun w' _ => by simp [execOp, ho]⟩
theorem ov_assign (h : Rel B σ a.tmps w H φ) {o : Oper} {x : Operand} (ho : o.op = .assign x) : ValOK B.P (B.at σ w H φ) a o (σ.eval x) :=
  ⟨a.eval x, h.eval x, fun w' _ => by simp [execOp, ho]⟩

theorem ov_fieldAddr (hE : EnvOK B.P E) (h : Rel B σ a.tmps w H φ) {o : Oper} {t f : Nat} {x : Operand} (ho : o.op = .fieldAddr t x f) {y : A} (hv : opVal E σ (.fieldAddr t x f) = some (true, y)) : ValOK B.P (B.at σ w H φ) a o y := by
  simp only [opVal] at hv
  split at hv
  · cases hv
  rename_i off j hf
  have hx := h.eval x
  split at hv
  · rename_i n o' e
    simp only [Option.some.injEq, Prod.mk.injEq, true_and] at hv
    subst hv
    rw [e] at hx
    obtain ⟨g, hg, ea⟩ := hx
    refine ⟨_, ⟨g, hg, rfl⟩, fun w' _ => ?_⟩
    simp [execOp, ho, ea, hE.fieldAddr hf]
  · rename_i ty d o' e
    simp only [Option.some.injEq, Prod.mk.injEq, true_and] at hv
    subst hv
    rw [e] at hx
    obtain ⟨b, o'', ea, hb, hz, us, hl, h1, h2⟩ := hx
    refine ⟨_, ⟨b, o'', rfl, hb, hz, us, hl, h1, h2⟩, fun w' _ => ?_⟩
    simp [execOp, ho, ea, hE.fieldAddr hf, Nat.add_assoc]
  · rename_i n i o' e
    simp only [Option.some.injEq, Prod.mk.injEq, true_and] at hv
    subst hv
    rw [e] at hx
    obtain ⟨g, L, s, c, h1, h2, h3, ea⟩ := hx
    refine ⟨_, ⟨g, L, s, c, h1, h2, h3, rfl⟩, fun w' _ => ?_⟩
    simp [execOp, ho, ea, hE.fieldAddr hf, Nat.add_assoc]
  · cases hv

theorem fieldOff_spec {s f off : Nat} {j : TInf} (h : fieldOff E s f = some (off, j)) : ∃ i fs fl, E.T s = some i ∧ i.desc = .struct fs ∧ fs[f]? = some fl ∧ fl.offset = off ∧ E.T fl.type = some j := by
  unfold fieldOff at h
  split at h
  · cases h
  rename_i i hi
  split at h
  · rename_i fs hd
    split at h
    · cases h
    rename_i fl hf
    split at h
    · cases h
    rename_i j' hj
    cases hs : (j'.size == 0) with
    | true => simp [hs] at h
    | false =>
      simp only [hs, cond_false, Option.some.injEq, Prod.mk.injEq] at h
      obtain ⟨rfl, rfl⟩ := h
      exact ⟨i, fs, fl, hi, hd, hf, rfl, hj⟩
  · cases h

/-- a part of an aggregate -/
theorem part_ok (hE : EnvOK B.P E) {C : Cx} {t off : Nat} {j : TInf} (hj : E.T t = some j) {cs : List Cell} {us : Array Value} (ha : All2 (CellRel C) cs us.toList) {y : A}
    (hlen : ((takeN j.size (dropN off cs)).length == j.size) = true)
    (hy : (bif isAggD j.desc then some (true, A.agg (takeN j.size (dropN off cs))) else match takeN j.size (dropN off cs) with | [y] => some (true, .c y) | _ => none) = some (true, y)) :
    ∃ v, ARel C y v ∧ ∀ w', (part t us off).run B.P w' = .ok v w' := by
  rw [takeN_eq, dropN_eq] at hlen hy
  have hlen' : ((cs.drop off).take j.size).length = j.size := by simpa using hlen
  have hat := (ha.drop off).take j.size
  have hus : ((us.toList.drop off).take j.size).length = j.size := by rw [← hat.length]; exact hlen'
  have hext : (us.extract off (off + j.size)).toList = (us.toList.drop off).take j.size := by simp [List.take_drop]
  cases hagg : isAggD j.desc with
  | true =>
    simp only [hagg, cond_true, Option.some.injEq, Prod.mk.injEq, true_and] at hy
    subst hy
    refine ⟨.agg (us.extract off (off + j.size)), ⟨_, rfl, by rw [hext]; exact hat⟩, fun w' => ?_⟩
    simp [part, hE.isAgg hj, hagg, hE.size hj]
  | false =>
    simp only [hagg, cond_false] at hy
    split at hy
    · rename_i z hz
      simp only [Option.some.injEq, Prod.mk.injEq, true_and] at hy
      subst hy
      rw [hz] at hat hlen'
      obtain ⟨v, hv⟩ : ∃ v, (us.toList.drop off).take j.size = [v] := by
        cases hu : (us.toList.drop off).take j.size with
        | nil => rw [hu] at hat; exact hat.elim
        | cons v r =>
          cases r with
          | nil => exact ⟨v, rfl⟩
          | cons _ _ => rw [hu] at hat; exact hat.2.elim
      rw [hv] at hat
      have h0 : us[off]? = some v := by
        have : ((us.toList.drop off).take j.size)[0]? = some v := by rw [hv]; rfl
        rw [List.getElem?_take] at this
        split at this
        · simpa using this
        · cases this
      refine ⟨v, hat.1, fun w' => ?_⟩
      simp [part, hE.isAgg hj, hagg, h0]
    · cases hy

theorem ov_field (hE : EnvOK B.P E) (h : Rel B σ a.tmps w H φ) {o : Oper} {t f : Nat} {x : Operand} (ho : o.op = .field t x f) {y : A} (hv : opVal E σ (.field t x f) = some (true, y)) : ValOK B.P (B.at σ w H φ) a o y := by
  simp only [opVal] at hv
  split at hv
  · cases hv
  rename_i off j hf
  have hx := h.eval x
  split at hv
  · rename_i cs e
    obtain ⟨hlen, hv⟩ := bif_none hv
    rw [e] at hx
    obtain ⟨us, ea, hal⟩ := hx
    obtain ⟨i, fs, fl, h1, h2, h3, rfl, h5⟩ := fieldOff_spec hf
    obtain ⟨v, hr, hrun⟩ := part_ok hE h5 hal hlen hv
    refine ⟨v, hr, fun w' _ => ?_⟩
    simp [execOp, ho, ea, Instr.field, hE.under h1, h2, h3, asAgg, hrun]
  · cases hv

theorem ov_load (hE : EnvOK B.P E) (h : Rel B σ a.tmps w H φ) {o : Oper} {t : Nat} {x : Operand} (ho : o.op = .load t x) {y : A} (hv : opVal E σ (.load t x) = some (true, y)) : ValOK B.P (B.at σ w H φ) a o y := by
  simp only [opVal] at hv
  split at hv
  · rename_i v hl
    simp only [Option.some.injEq, Prod.mk.injEq, true_and] at hv
    subst hv
    have hx := h.eval x
    cases e : σ.eval x with
    | c z =>
      rw [e] at hx hl
      obtain ⟨b, o', u, ea, hr, hrun⟩ := loadA_ok hE h hl hx
      refine ⟨u, hr, fun w' hw0 => ?_⟩
      have hw' := hw0 (by rw [ho]; rfl)
      simp [execOp, ho, ea, Instr.loadAt, Instr.sureAddr, hrun w' hw']
    | any => rw [e] at hl; simp [asCell, loadA, memCells] at hl; split at hl <;> cases hl
    | agg cs => rw [e] at hl; simp [asCell, loadA, memCells] at hl; split at hl <;> cases hl
    | tup xs => rw [e] at hl; simp [asCell, loadA, memCells] at hl; split at hl <;> cases hl
  · cases hv

theorem Rel.int {k : IntKind} {i : Int} {x : Operand} (h : Rel B σ a.tmps w H φ) (e : σ.eval x = .c (.int k i)) : a.eval x = .int k i := by
  have := h.eval x
  rw [e] at this
  exact this
theorem Rel.bool {b : Bool} {x : Operand} (h : Rel B σ a.tmps w H φ) (e : σ.eval x = .c (.bool b)) : a.eval x = .bool b := by
  have := h.eval x
  rw [e] at this
  exact this
theorem Rel.str {s : ByteArray} {x : Operand} (h : Rel B σ a.tmps w H φ) (e : σ.eval x = .c (.str s)) : a.eval x = .string s := by
  have := h.eval x
  rw [e] at this
  exact this

theorem run_indexAt_slice (hE : EnvOK B.P E) {t e : Nat} {ti te : TInf} (ht : E.T t = some ti) (hd : ti.desc = .slice e) (he : E.T e = some te) (b o len cap : Nat) (k : IntKind) (i : Int) (h0 : 0 ≤ i) (h1 : i < (len : Int)) (w : World) :
    (Instr.indexAt t (.slice (some ⟨b, o, none⟩) len cap) (.int k i)).run B.P w = .ok (.pointer (some ⟨b, o + i.toNat * te.size, none⟩)) w := by
  simp [Instr.indexAt, asIntOf, hE.under ht, hd, h0, h1, hE.size he, add_at]

theorem splitGo_ok {ρ : Type} {j : Int} {f : Nat → Option ρ} {r : ρ} : ∀ (c m : Nat), splitGo j f c m = some r → ∃ q, m ≤ q ∧ q < m + c ∧ j = (q : Int) ∧ f q = some r
  | 0, m, h => by cases h
  | c + 1, m, h => by
    unfold splitGo at h
    cases hj : (j == (m : Int)) with
    | true =>
      rw [hj] at h
      exact ⟨m, Nat.le_refl _, by omega, by simpa using hj, h⟩
    | false =>
      rw [hj] at h
      obtain ⟨q, h1, h2, h3, h4⟩ := splitGo_ok c (m + 1) h
      exact ⟨q, by omega, by omega, h3, h4⟩
theorem run_indexAt_array (hE : EnvOK B.P E) {t e len : Nat} {ti te : TInf} (ht : E.T t = some ti) (hd : ti.desc = .array len e) (he : E.T e = some te) (b o : Nat) (k : IntKind) (q : Nat) (h1 : q < len) (w : World) :
    (Instr.indexAt t (.pointer (some ⟨b, o, none⟩)) (.int k (q : Int))).run B.P w = .ok (.pointer (some ⟨b, o + q * te.size, none⟩)) w := by
  simp [Instr.indexAt, Instr.sureAddr, asIntOf, hE.under ht, hd, h1, hE.size he, add_at]
theorem splitIdx_ok {ρ : Type} (hE : EnvOK B.P E) (h : Rel B σ a.tmps w H φ) {o : Oper} {t : Nat} {x i : Operand} (ho : o.op = .indexAddr t x i) {f : A → Option ρ} {r : ρ} (hv : splitIdx E σ t x i f = some r) : ∃ y, f y = some r ∧ ValOK B.P (B.at σ w H φ) a o y := by
  unfold splitIdx at hv
  split at hv
  · rename_i ti k j ht ei
    have hi := h.int ei
    split at hv
    · rename_i len e hd
      split at hv
      · rename_i te he
        have hx := h.eval x
        split at hv
        · rename_i n o' e
          obtain ⟨q, _, h2, rfl, h4⟩ := splitGo_ok _ _ hv
          rw [e] at hx
          obtain ⟨g, hg, ea⟩ := hx
          refine ⟨_, h4, _, ⟨g, hg, rfl⟩, fun w' _ => ?_⟩
          simp [execOp, ho, ea, hi, run_indexAt_array hE ht hd he _ _ _ _ (show q < len by omega)]
        · rename_i ty d o' e
          obtain ⟨q, _, h2, rfl, h4⟩ := splitGo_ok _ _ hv
          rw [e] at hx
          obtain ⟨b, o'', ea, hb, hz, us, hl, h1, h2'⟩ := hx
          refine ⟨_, h4, _, ⟨b, o'', rfl, hb, hz, us, hl, h1, h2'⟩, fun w' _ => ?_⟩
          simp [execOp, ho, ea, hi, run_indexAt_array hE ht hd he _ _ _ _ (show q < len by omega), Nat.add_assoc]
        · cases hv
      · cases hv
    · cases hv
  · cases hv

theorem ov_indexAddr (hE : EnvOK B.P E) (h : Rel B σ a.tmps w H φ) {o : Oper} {t : Nat} {x i : Operand} (ho : o.op = .indexAddr t x i) {y : A} (hv : opVal E σ (.indexAddr t x i) = some (true, y)) : ValOK B.P (B.at σ w H φ) a o y := by
  simp only [opVal] at hv
  split at hv
  · rename_i ti k j ht ei
    have hi := h.int ei
    split at hv
    · rename_i e hd
      split at hv
      · cases hv
      rename_i te he
      have hx := h.eval x
      split at hv
      · rename_i ty xs ex
        obtain ⟨hsz, hv⟩ := bif_none hv
        have hsz' : te.size = ty.cells := by simpa using hsz
        simp only [Option.some.injEq, Prod.mk.injEq] at hv
        obtain ⟨hg, rfl⟩ := hv
        have hg' : 0 ≤ j ∧ j < (xs.length : Int) := by simpa using hg
        rw [ex] at hx
        obtain ⟨A, cap, ea, hcap, hrow⟩ := hx
        simp only [List.cons.injEq, and_true] at ea
        obtain ⟨b, o', rfl, hb, hz, hel⟩ := hrow (by omega)
        have hj : j.toNat < xs.length := by omega
        obtain ⟨us, hl, hr, hat⟩ := hel j.toNat hj
        have hgd : xs.getD j.toNat ty.dflt = xs[j.toNat] := by simp [List.getD, List.getElem?_eq_getElem hj]
        refine ⟨.pointer (some ⟨b, o' + j.toNat * te.size, none⟩), ⟨b, o' + j.toNat * ty.cells, by rw [hsz']; rfl, hb, hz, us, hl, by rw [hgd]; exact hr, hat⟩, fun w' _ => ?_⟩
        simp [execOp, ho, ea, hi, run_indexAt_slice hE ht hd he _ _ _ _ _ _ hg'.1 hg'.2]
      · simp at hv
      · rename_i n ex
        split at hv
        · rename_i d ty xs hl
          obtain ⟨hsz, hv⟩ := bif_none hv
          have hsz' : te.size = ty.cells := by simpa using hsz
          simp only [Option.some.injEq, Prod.mk.injEq] at hv
          obtain ⟨hg, rfl⟩ := hv
          have hg' : 0 ≤ j ∧ j < (xs.length : Int) := by simpa using hg
          rw [ex] at hx
          obtain ⟨v', hv', hrow⟩ := h.mem.blk n _ hl
          have eH : H n = some (a.eval x) := hx.1
          rw [hv'] at eH
          obtain rfl := Option.some.inj eH
          obtain ⟨A, cap, eA, hcap, hrow⟩ := hrow
          rcases hrow with h0 | ⟨g, cur, ety, rfl, hF, hh, hsz2, Fs, f1, f2, f3⟩
          · omega
          · refine ⟨.pointer (some ⟨g, 0 + j.toNat * te.size, none⟩), ⟨g, xs.length, ty.cells, cap, by simp [Base.at, Base.cx, lenOf, hl], by omega, by rw [← eA]; exact hv', by simp [hsz']⟩, fun w' _ => ?_⟩
            simp [execOp, ho, eA, hi, run_indexAt_slice hE ht hd he _ _ _ _ _ _ hg'.1 hg'.2]
        · rename_i ty xs kk hl
          obtain ⟨hsz, hv⟩ := bif_none hv
          have hsz' : te.size = ty.cells := by simpa using hsz
          simp only [Option.some.injEq, Prod.mk.injEq] at hv
          obtain ⟨hg, rfl⟩ := hv
          have hg' : 0 ≤ j ∧ j < (xs.length : Int) := by simpa using hg
          rw [ex] at hx
          obtain ⟨v', hv', hrow⟩ := h.mem.blk n _ hl
          have eH : H n = some (a.eval x) := hx.1
          rw [hv'] at eH
          obtain rfl := Option.some.inj eH
          obtain ⟨A, cap, eA, hcap, hrow⟩ := hrow
          rcases hrow with h0 | ⟨g, cur, ety, rfl, hF, hh, hsz2, Fs, f1, f2, f3⟩
          · omega
          · refine ⟨.pointer (some ⟨g, 0 + j.toNat * te.size, none⟩), ⟨g, xs.length, ty.cells, cap, by simp [Base.at, Base.cx, lenOf, hl], by omega, by rw [← eA]; exact hv', by simp [hsz']⟩, fun w' _ => ?_⟩
            simp [execOp, ho, eA, hi, run_indexAt_slice hE ht hd he _ _ _ _ _ _ hg'.1 hg'.2]
        · rename_i ty xs ko i0 cs hl
          obtain ⟨hsz, hv⟩ := bif_none hv
          have hsz' : te.size = ty.cells := by simpa using hsz
          simp only [Option.some.injEq, Prod.mk.injEq] at hv
          obtain ⟨hg, rfl⟩ := hv
          have hg' : 0 ≤ j ∧ j < (xs.length : Int) := by simpa using hg
          rw [ex] at hx
          obtain ⟨v', hv', hrow⟩ := h.mem.blk n _ hl
          have eH : H n = some (a.eval x) := hx.1
          rw [hv'] at eH
          obtain rfl := Option.some.inj eH
          obtain ⟨g, cap, cur, ety, Fs, eA, _⟩ := hrow
          refine ⟨.pointer (some ⟨g, 0 + j.toNat * te.size, none⟩), ⟨g, xs.length, ty.cells, cap, by simp [Base.at, Base.cx, lenOf, hl], by omega, by rw [← eA]; exact hv', by simp [hsz']⟩, fun w' _ => ?_⟩
          simp [execOp, ho, eA, hi, run_indexAt_slice hE ht hd he _ _ _ _ _ _ hg'.1 hg'.2]
        · cases hv
      · rename_i n off len ex
        split at hv
        · rename_i d ty xs hl
          obtain ⟨hsz, hv⟩ := bif_none hv
          have hsz' : te.size = ty.cells := by simpa using hsz
          simp only [Option.some.injEq, Prod.mk.injEq] at hv
          obtain ⟨hg, rfl⟩ := hv
          have hg' : 0 ≤ j ∧ j < (len : Int) := by simpa using hg
          rw [ex] at hx
          obtain ⟨A, c, L, s, e1, e2, e3, A', c', ea, hc', hp, _⟩ := hx
          have eL : lenOf σ.blks n = some (L, s) := e1
          simp only [lenOf, hl, Option.some.injEq, Prod.mk.injEq] at eL
          obtain ⟨rfl, rfl⟩ := eL
          obtain ⟨g, rfl, rfl⟩ := hp (by omega)
          refine ⟨.pointer (some ⟨g, off * ty.cells + j.toNat * te.size, none⟩), ⟨g, xs.length, ty.cells, c, e1, by omega, e2, ?_⟩, fun w' _ => ?_⟩
          · simp [hsz', Nat.add_mul]
          · simp [execOp, ho, ea, hi, run_indexAt_slice hE ht hd he _ _ _ _ _ _ hg'.1 hg'.2]
        · cases hv
      · cases hv
    · cases hv
  · cases hv

theorem strsOf_rel {C : Cx} : ∀ {cs : List Cell} {l : List ByteArray} {us : List Value}, strsOf cs = some l → All2 (CellRel C) cs us → ∀ i, i < us.length → us[i]? = some (.string (l.getD i ByteArray.empty))
  | [], l, [], h, _, i, hi => by simp at hi
  | [], l, _ :: _, h, ha, i, hi => ha.elim
  | .str s :: r, l, [], h, ha, i, hi => ha.elim
  | .str s :: r, l, u :: us, h, ha, i, hi => by
    simp only [strsOf] at h
    split at h
    · rename_i l' hl
      simp only [Option.some.injEq] at h
      subst h
      have hu : u = .string s := ha.1
      subst hu
      cases i with
      | zero => rfl
      | succ i => simpa [List.getD] using strsOf_rel hl ha.2 i (by simpa using hi)
    · cases h
  | .any :: r, l, us, h, ha, i, hi => by simp [strsOf] at h
  | .int _ _ :: r, l, us, h, ha, i, hi => by simp [strsOf] at h
  | .bool _ :: r, l, us, h, ha, i, hi => by simp [strsOf] at h
  | .sl _ _ :: r, l, us, h, ha, i, hi => by simp [strsOf] at h
  | .nil :: r, l, us, h, ha, i, hi => by simp [strsOf] at h
  | .own _ :: r, l, us, h, ha, i, hi => by simp [strsOf] at h
  | .sub _ _ _ :: r, l, us, h, ha, i, hi => by simp [strsOf] at h
  | .ptr _ _ :: r, l, us, h, ha, i, hi => by simp [strsOf] at h
  | .dptr _ _ _ :: r, l, us, h, ha, i, hi => by simp [strsOf] at h
  | .eptr _ _ _ :: r, l, us, h, ha, i, hi => by simp [strsOf] at h
  | .fn _ _ :: r, l, us, h, ha, i, hi => by simp [strsOf] at h
  | .clo _ _ _ :: r, l, us, h, ha, i, hi => by simp [strsOf] at h
  | .mp _ :: r, l, us, h, ha, i, hi => by simp [strsOf] at h
  | .mdat _ _ _ :: r, l, us, h, ha, i, hi => by simp [strsOf] at h
theorem boolsOf_rel {C : Cx} : ∀ {cs : List Cell} {l : List Bool} {us : List Value}, boolsOf cs = some l → All2 (CellRel C) cs us → ∀ i, i < us.length → us[i]? = some (.bool (l.getD i false))
  | [], l, [], h, _, i, hi => by simp at hi
  | [], l, _ :: _, h, ha, i, hi => ha.elim
  | .bool s :: r, l, [], h, ha, i, hi => ha.elim
  | .bool s :: r, l, u :: us, h, ha, i, hi => by
    simp only [boolsOf] at h
    split at h
    · rename_i l' hl
      simp only [Option.some.injEq] at h
      subst h
      have hu : u = .bool s := ha.1
      subst hu
      cases i with
      | zero => rfl
      | succ i => simpa [List.getD] using boolsOf_rel hl ha.2 i (by simpa using hi)
    · cases h
  | .any :: r, l, us, h, ha, i, hi => by simp [boolsOf] at h
  | .int _ _ :: r, l, us, h, ha, i, hi => by simp [boolsOf] at h
  | .str _ :: r, l, us, h, ha, i, hi => by simp [boolsOf] at h
  | .sl _ _ :: r, l, us, h, ha, i, hi => by simp [boolsOf] at h
  | .nil :: r, l, us, h, ha, i, hi => by simp [boolsOf] at h
  | .own _ :: r, l, us, h, ha, i, hi => by simp [boolsOf] at h
  | .sub _ _ _ :: r, l, us, h, ha, i, hi => by simp [boolsOf] at h
  | .ptr _ _ :: r, l, us, h, ha, i, hi => by simp [boolsOf] at h
  | .dptr _ _ _ :: r, l, us, h, ha, i, hi => by simp [boolsOf] at h
  | .eptr _ _ _ :: r, l, us, h, ha, i, hi => by simp [boolsOf] at h
  | .fn _ _ :: r, l, us, h, ha, i, hi => by simp [boolsOf] at h
  | .clo _ _ _ :: r, l, us, h, ha, i, hi => by simp [boolsOf] at h
  | .mp _ :: r, l, us, h, ha, i, hi => by simp [boolsOf] at h
  | .mdat _ _ _ :: r, l, us, h, ha, i, hi => by simp [boolsOf] at h
theorem intsOf_rel {C : Cx} {k : IntKind} : ∀ {cs : List Cell} {l : List Int} {us : List Value}, intsOf k cs = some l → All2 (CellRel C) cs us → ∀ i, i < us.length → us[i]? = some (.int k (l.getD i 0))
  | [], l, [], h, _, i, hi => by simp at hi
  | [], l, _ :: _, h, ha, i, hi => ha.elim
  | .int k' n :: r, l, [], h, ha, i, hi => ha.elim
  | .int k' n :: r, l, u :: us, h, ha, i, hi => by
    simp only [intsOf] at h
    split at h
    · rename_i e l' he hl
      simp only [Option.some.injEq] at h
      subst h
      obtain ⟨ek⟩ := e
      subst ek
      have hu : u = .int k' n := ha.1
      subst hu
      cases i with
      | zero => rfl
      | succ i => simpa [List.getD] using intsOf_rel hl ha.2 i (by simpa using hi)
    · cases h
  | .any :: r, l, us, h, ha, i, hi => by simp [intsOf] at h
  | .str _ :: r, l, us, h, ha, i, hi => by simp [intsOf] at h
  | .bool _ :: r, l, us, h, ha, i, hi => by simp [intsOf] at h
  | .sl _ _ :: r, l, us, h, ha, i, hi => by simp [intsOf] at h
  | .nil :: r, l, us, h, ha, i, hi => by simp [intsOf] at h
  | .own _ :: r, l, us, h, ha, i, hi => by simp [intsOf] at h
  | .sub _ _ _ :: r, l, us, h, ha, i, hi => by simp [intsOf] at h
  | .ptr _ _ :: r, l, us, h, ha, i, hi => by simp [intsOf] at h
  | .dptr _ _ _ :: r, l, us, h, ha, i, hi => by simp [intsOf] at h
  | .eptr _ _ _ :: r, l, us, h, ha, i, hi => by simp [intsOf] at h
  | .fn _ _ :: r, l, us, h, ha, i, hi => by simp [intsOf] at h
  | .clo _ _ _ :: r, l, us, h, ha, i, hi => by simp [intsOf] at h
  | .mp _ :: r, l, us, h, ha, i, hi => by simp [intsOf] at h
  | .mdat _ _ _ :: r, l, us, h, ha, i, hi => by simp [intsOf] at h

theorem ov_index (hE : EnvOK B.P E) (h : Rel B σ a.tmps w H φ) {o : Oper} {t : Nat} {x i : Operand} (ho : o.op = .index t x i) {y : A} (hv : opVal E σ (.index t x i) = some (true, y)) : ValOK B.P (B.at σ w H φ) a o y := by
  simp only [opVal] at hv
  split at hv
  · rename_i ti k j ht ei
    have hi := h.int ei
    split at hv
    · rename_i hd
      split at hv
      · rename_i s ex
        have hx := h.str ex
        simp only [Option.some.injEq, Prod.mk.injEq] at hv
        obtain ⟨hg, rfl⟩ := hv
        have hg' : 0 ≤ j ∧ j < (s.size : Int) := by simpa using hg
        have hj : j.toNat < s.size := by omega
        have hget : s[j.toNat]? = some (s[j.toNat]'hj) := by simp [hj]
        refine ⟨.int .u8 (byteAt s j.toNat), rfl, fun w' _ => ?_⟩
        have hb : byteAt s j.toNat = ((s[j.toNat]'hj).toNat : Int) := by
          have hj' : j.toNat < s.data.size := hj
          simp only [byteAt, List.getD]
          rw [Array.getElem?_toList, Array.getElem?_eq_getElem hj']
          rfl
        simp [execOp, ho, hi, hx, Instr.index, asIntOf, hE.under ht, hd, hg'.1, hget, hb]
      · cases hv
    · rename_i len e hd
      split at hv
      · rename_i te cs he ex
        have hx := h.eval x
        rw [ex] at hx
        obtain ⟨us, eu, hal⟩ := hx
        obtain ⟨hg0, hv⟩ := bif_none hv
        obtain ⟨hsz, hlen⟩ := and_b hg0
        have hsz : te.size = 1 := by simpa using hsz
        have hlen : cs.length = len := by simpa using hlen
        have hul : us.size = len := by have := hal.length; simp at this; omega
        have key : ∀ (v : Value), isAggD te.desc = false → 0 ≤ j → j < (len : Int) → us[j.toNat]? = some v → ∀ w', (execOp a.eval o).run B.P w' = .ok (.value v) w' := by
          intro v hag h0 h1 hv' w'
          have hlt : 0 ≤ j ∧ j < (len : Int) := ⟨h0, h1⟩
          simp [execOp, ho, hi, eu, Instr.index, asIntOf, hE.under ht, hd, hlt, hE.size he, hsz, part, hE.isAgg he, hag, hv']
        split at hv
        · rename_i hd2
          split at hv
          · rename_i l hl
            simp only [Option.some.injEq, Prod.mk.injEq] at hv
            obtain ⟨hg, rfl⟩ := hv
            have hg' : 0 ≤ j ∧ j < (len : Int) := by simpa using hg
            have hj : j.toNat < us.size := by omega
            have hu := strsOf_rel hl hal j.toNat (by simpa using hj)
            exact ⟨_, rfl, fun w' _ => key _ (by rw [hd2]; rfl) hg'.1 hg'.2 (by rw [← hu]; simp) w'⟩
          · cases hv
        · rename_i k' hd2
          split at hv
          · rename_i l hl
            simp only [Option.some.injEq, Prod.mk.injEq] at hv
            obtain ⟨hg, rfl⟩ := hv
            have hg' : 0 ≤ j ∧ j < (len : Int) := by simpa using hg
            have hj : j.toNat < us.size := by omega
            have hu := intsOf_rel hl hal j.toNat (by simpa using hj)
            exact ⟨_, rfl, fun w' _ => key _ (by rw [hd2]; rfl) hg'.1 hg'.2 (by rw [← hu]; simp) w'⟩
          · cases hv
        · rename_i hd2
          split at hv
          · rename_i l hl
            simp only [Option.some.injEq, Prod.mk.injEq] at hv
            obtain ⟨hg, rfl⟩ := hv
            have hg' : 0 ≤ j ∧ j < (len : Int) := by simpa using hg
            have hj : j.toNat < us.size := by omega
            have hu := boolsOf_rel hl hal j.toNat (by simpa using hj)
            exact ⟨_, rfl, fun w' _ => key _ (by rw [hd2]; rfl) hg'.1 hg'.2 (by rw [← hu]; simp) w'⟩
          · cases hv
        · cases hv
      · cases hv
    · cases hv
  · cases hv

theorem run_eqGuard_plain (P : Program) (op : BinOp) (t : TypeId) (x y : Operand) (u v : Value) (w : World) (h1 : u ≠ .nilIface ∨ v ≠ .nilIface) (h2 : (∀ c, u ≠ .agg c) ∨ (∀ c, v ≠ .agg c)) : (eqGuard op t x y u v).run P w = .ok () w := by
  unfold eqGuard
  cases op <;> simp <;> (split <;> first | (rename_i e1 e2; simp_all; done) | rfl | simp_all)

end
end Go.Proofs.YtklfnbckoaphpaaGreatDoor
