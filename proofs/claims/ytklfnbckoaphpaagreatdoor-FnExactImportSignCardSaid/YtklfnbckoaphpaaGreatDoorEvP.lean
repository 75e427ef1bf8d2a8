/- Operations that make or write memory are what the evaluator says. No conditions. -/
import Derived.Test.YtklfnbckoaphpaaGreatDoorEvO
set_option linter.unusedVariables false
set_option linter.unusedSimpArgs false
namespace Go.Proofs.YtklfnbckoaphpaaGreatDoor
open Go

section
variable {ρ : Type} {B : Base} {E : Env} {σ : St} {a : Act} {w : World} {H : Nat → Option Value} {φ : Nat → Nat → Prop}

/-- what is asked behind an operation -/
abbrev Next (B : Base) (k : St → Option ρ) (r : ρ) : Act → World → Prop := fun a' w' => ∃ σ', k σ' = some r ∧ RelA B σ' a' w'

/-- what is set aside stays as it is -/
def KeepR (B : Base) (w w' : World) : Prop := w.heap.size ≤ w'.heap.size ∧ ∀ b, b < w.heap.size → B.R b → w'.heap[b]? = w.heap[b]?
theorem Fr.keepR {w w' : World} (h : Fr NoB w w') (B : Base) : KeepR B w w' := ⟨h.size, fun b hb _ => h.block b hb (fun f => f)⟩

theorem ownRel {n : Nat} {v : Value} {C : Cx} (hH : C.H n = some v) {A : Option Addr} {l c : Nat} (hv : v = .slice A l c) : ARel C (.c (.own n)) v := ⟨hH, A, l, c, hv⟩
theorem src_rel (h : Rel B σ a.tmps w H φ) {ty : Ty} {y : Cell} {v : Value} {ys : List ty.den} (hs : srcL σ.blks ty y = some ys) (hr : CellRel (B.at σ w H φ) y v) : SrcOK B.P (B.at σ w H φ) ty v ys := by
  cases y <;> simp only [srcL] at hs <;> try (cases hs; done)
  case nil =>
    simp only [Option.some.injEq] at hs
    subst hs
    obtain ⟨A, rfl⟩ := hr
    exact src_of (ys := []) (fun h => absurd h (by simp))
  case sl t zs =>
    obtain ⟨rfl, rfl⟩ := Ty.castL?_spec hs
    obtain ⟨A, cap, e, _, h2⟩ := hr
    simp only [List.cons.injEq, and_true] at e
    subst e
    exact src_of fun hp => let ⟨b, o, e, hb, hz, h3⟩ := h2 hp; ⟨b, o, e, h3⟩
  case own n =>
    split at hs
    · rename_i dd t zs hl
      obtain ⟨hd, hs⟩ := bif_none hs
      obtain ⟨rfl, rfl⟩ := Ty.castL?_spec hs
      obtain ⟨v', hv', hrow⟩ := h.mem.blk n _ hl
      have eH : H n = some v := hr.1
      have eq : v' = v := by rw [hv'] at eH; exact Option.some.inj eH
      subst eq
      obtain ⟨A, cap, rfl, _, h2⟩ := RowOf.cellsAt hd hrow
      exact src_of h2
    · cases hs
  case sub n o l =>
    split at hs
    · rename_i dd t zs hl
      obtain ⟨hd, hs⟩ := bif_none hs
      obtain ⟨rfl, rfl⟩ := Ty.castL?_spec hs
      obtain ⟨v', hv', hrow⟩ := h.mem.blk n _ hl
      obtain ⟨A, cap, eA, _, h2⟩ := RowOf.cellsAt hd hrow
      obtain ⟨A2, c, L, s, e1, e2, e3, A', c', rfl, hc', hp, _⟩ := hr
      have eL : lenOf σ.blks n = some (L, s) := e1
      simp only [lenOf, hl, Option.some.injEq, Prod.mk.injEq] at eL
      obtain ⟨rfl, rfl⟩ := eL
      have eH : H n = some _ := e2
      rw [hv', eA] at eH
      simp only [Option.some.injEq, Value.slice.injEq, true_and] at eH
      obtain ⟨rfl, rfl⟩ := eH
      have hlen : ((zs.drop o).take l).length = l := by simp; omega
      have := src_of (P := B.P) (C := B.at σ w H φ) (ty := t) (ys := (zs.drop o).take l) (A := A') (cap := c') (fun hpos => by
        rw [hlen] at hpos
        obtain ⟨g, e4, e5⟩ := hp hpos
        obtain ⟨b, o2, e6, h7⟩ := h2 (by omega)
        rw [e4] at e6
        simp only [Option.some.injEq, Addr.mk.injEq, and_true] at e6
        obtain ⟨rfl, rfl⟩ := e6
        refine ⟨g, o * t.cells, e5, fun i hi => ?_⟩
        rw [hlen] at hi
        obtain ⟨us, k1, k2, k3⟩ := h7 (o + i) (by omega)
        refine ⟨us, k1, ?_, ?_⟩
        · have : ((zs.drop o).take l)[i]'(by rw [hlen]; exact hi) = zs[o + i]'(by omega) := by simp
          rw [this]; exact k2
        · have : 0 + (o + i) * t.cells = o * t.cells + i * t.cells := by rw [Nat.zero_add, Nat.add_mul]
          rw [← this]; exact k3)
      rw [hlen] at this
      exact this
    · cases hs
  case str s =>
    obtain ⟨rfl, rfl⟩ := Ty.castL?_spec hs
    obtain rfl : v = .string s := hr
    have hl : (strBytes s).length = s.size := by simp [strBytes]
    refine ⟨(strBytes s).map fun n => Value.int .u8 n, by simp [Ty.cells], by simp [Value.oneCell'], fun w' _ => ⟨by simp [Builtin.lenOf, hl], ?_⟩, fun i hi => ?_⟩
    · have : s.extract 0 (strBytes s).length = s := by rw [hl]; exact ByteArray.extract_zero_size
      simp [Builtin.firstCells, this]
      apply Array.ext'
      simp [strBytes]
    · have hi' : i < (strBytes s).length := hi
      have : (((strBytes s).map fun n => Value.int .u8 n).drop (i * (Ty.int .u8).cells)).take (Ty.int .u8).cells = [.int .u8 (strBytes s)[i]] := by
        simp only [Ty.cells, Nat.mul_one]
        apply List.ext_getElem?
        intro k
        cases k with
        | zero => simp [List.getElem?_take, List.getElem?_drop, List.getElem?_map, List.getElem?_eq_getElem hi']
        | succ k => simp [List.getElem?_take]
      exact this

/-- some elements of a row of this call's, one after another, are written anew -/
theorem Rel.splice {tm : Array Value} (h : Rel B σ tm w H φ) {n : Nat} {dd : Bool} {ty : Ty} {xs : List ty.den} (hl : look n σ.blks = some (.row dd ty xs)) (hdd : (!dd || ty.scal) = true) {g c : Nat} {cur : Array Value} {ety : TypeId}
    (hv : H n = some (.slice (some ⟨g, 0, none⟩) xs.length c)) (hF : φ n g) (hh : w.heap[g]? = some (.cells cur ety (0, 0))) (hmk : mkd dd ty = false) (hcap : xs.length ≤ c) (hsz : c * ty.cells ≤ cur.size)
    {Fs : Nat → Nat → Prop} (f1 : ∀ i b, Fs i b → φ n b ∧ b ≠ g) (f2 : ∀ i j, i ≠ j → ∀ b, Fs i b → ¬ Fs j b) (f3 : ∀ i (hi : i < xs.length), RdC B.P ty w (zone B w φ) ((cur.toList.drop (i * ty.cells)).take ty.cells) xs[i])
    {o : Nat} {ys : List ty.den} (hom : o + ys.length ≤ xs.length) {news : List Value} (hnl : news.length = ys.length * ty.cells) (hy : ∀ i (hi : i < ys.length), RdC B.P ty w (zone B w φ) ((news.drop (i * ty.cells)).take ty.cells) ys[i]) :
    Rel B (σ.setBlk n (.row dd ty (xs.take o ++ ys ++ xs.drop (o + ys.length)))) tm (w.setRow g (cur.toList.take (o * ty.cells) ++ news ++ cur.toList.drop (o * ty.cells + news.length)).toArray) H φ := by
  have hcL : xs.length * ty.cells ≤ cur.size := Nat.le_trans (Nat.mul_le_mul_right _ hcap) hsz
  have hoL : (o + ys.length) * ty.cells ≤ xs.length * ty.cells := Nat.mul_le_mul_right _ hom
  rw [Nat.add_mul] at hoL
  have htl : (cur.toList.take (o * ty.cells)).length = o * ty.cells := by simp; omega
  have hlen : (xs.take o ++ ys ++ xs.drop (o + ys.length)).length = xs.length := by simp; omega
  have hsame : (cur.toList.take (o * ty.cells) ++ news ++ cur.toList.drop (o * ty.cells + news.length)).toArray.size = cur.size := by
    simp only [List.size_toArray, List.length_append, List.length_take, List.length_drop, Array.length_toList]
    omega
  refine h.write (b := .row dd ty (xs.take o ++ ys ++ xs.drop (o + ys.length))) hl ?_ ?_ (fun v1 C' hv1 hle hw hP => ?_)
  · have := setRow_fr w g (cur.toList.take (o * ty.cells) ++ news ++ cur.toList.drop (o * ty.cells + news.length)).toArray (h.mem.big hF)
    exact ⟨this.os, this.tape, this.output, this.size, fun b hb hn => this.block b hb fun e => hn (by subst e; exact hF), this.glob⟩
  · simp only [lenOf, look_set_same, hl, hlen]
  · rw [hv] at hv1
    obtain rfl := Option.some.inj hv1
    refine ⟨some ⟨g, 0, none⟩, c, by rw [hlen], by rw [hlen]; exact hcap, .inr ⟨g, _, ety, rfl, hF, by rw [hw, hmk]; exact setRow_heap w g cur _ ety _ hh, ?_, Fs, f1, f2, fun j hj => ?_⟩⟩
    · rw [hsame]; exact hsz
    · have hj' : j < xs.length := by rw [hlen] at hj; exact hj
      have key : RdC B.P ty w (zone B w φ) (((cur.toList.take (o * ty.cells) ++ news ++ cur.toList.drop (o * ty.cells + news.length)).drop (j * ty.cells)).take ty.cells) (xs.take o ++ ys ++ xs.drop (o + ys.length))[j] := by
        have hol : (xs.take o).length = o := by simp; omega
        have hon : (cur.toList.take (o * ty.cells) ++ news).length = (o + ys.length) * ty.cells := by rw [List.length_append, htl, hnl, Nat.add_mul]
        by_cases h1 : j < o
        · rw [List.append_assoc, chunk_left _ _ o ty.cells j htl h1, ← chunk_take cur.toList o ty.cells j h1]
          have e : (xs.take o ++ ys ++ xs.drop (o + ys.length))[j] = xs[j] := by
            rw [List.getElem_append_left (by simp; omega), List.getElem_append_left (by omega), List.getElem_take]
          rw [e]
          exact f3 j hj'
        · by_cases h2 : j < o + ys.length
          · rw [chunk_left _ _ (o + ys.length) ty.cells j hon h2, chunk_right _ _ o ty.cells j htl (by omega)]
            have e : (xs.take o ++ ys ++ xs.drop (o + ys.length))[j] = ys[j - o]'(by omega) := by
              rw [List.getElem_append_left (by simp; omega), List.getElem_append_right (by omega)]
              simp only [hol]
            rw [e]
            exact hy (j - o) (by omega)
          · rw [chunk_right _ _ (o + ys.length) ty.cells j hon (by omega), List.drop_drop]
            have e : (xs.take o ++ ys ++ xs.drop (o + ys.length))[j] = xs[j] := by
              rw [List.getElem_append_right (by simp; omega), List.getElem_drop]
              congr 1
              simp
              omega
            have e2 : (o * ty.cells + news.length) + (j - (o + ys.length)) * ty.cells = j * ty.cells := by
              rw [hnl, ← Nat.add_mul, ← Nat.add_mul]
              congr 1
              omega
            rw [e, e2]
            exact f3 j hj'
      have h2 := RdC.agree hle.agree hle.Z ty _ _ key
      rw [← hP] at h2
      exact OwC.ofRd ty _ _ hdd h2

theorem eo_append (hE : EnvOK B.P E) (hA : RelA B σ a w) {o : Oper} {t t' d e : Nat} {x y : Operand} {ti ti' : TInf} (ho : o.op = .call { callee := .builtin .append, args := #[x, y], argTypes := #[t, t'] }) (hd : o.dst = some d)
    (ht : E.T t = some ti) (ht' : E.T t' = some ti') (hdesc : ti.desc = .slice e) (hsrc : isSrcD ti'.desc = true) {k : St → Option ρ} {r : ρ}
    (hv : appendTo E d e (asCell (σ.eval x)) (asCell (σ.eval y)) σ (fun v σ' => k (σ'.set d v)) = some r) (Q : Exit → Act → World → Prop) : o.wp B.P a w (fun a' w' => Next B k r a' w' ∧ KeepR B w w' ∧ (asCell (σ.eval x) = .nil → Fr NoB w w')) Q := by
  obtain ⟨hdef, H, φ, h⟩ := hA
  unfold appendTo at hv
  split at hv
  · rename_i te ty he hty
    split at hv
    · cases hv
    rename_i ys hs
    obtain ⟨hg, hv⟩ := bif_none hv
    obtain ⟨hg, hz⟩ := and_b hg
    obtain ⟨hg, hby⟩ := and_b hg
    have hsz : te.size = ty.cells := by simpa using hg
    have hby' : 0 < te.bytes := of_decide_eq_true hby
    obtain ⟨inf, i1, i2, i3, i4, _⟩ := tinf_spec (hE.T e te he)
    obtain ⟨_, _, _, _, _, u1⟩ := tinf_spec (hE.T t ti ht)
    obtain ⟨_, _, _, _, _, u2⟩ := tinf_spec (hE.T t' ti' ht')
    rw [hdesc] at u1
    have hd' : (∃ e', ti'.desc = .slice e') ∨ ti'.desc = .string := by
      cases hq : ti'.desc <;> simp_all [isSrcD]
    unfold zeroOk at hz
    split at hz
    · rename_i z hz'
      have hzs : z.cells.size = te.size := by simpa using hz
      have hy : CellRel (B.at σ w H φ) (asCell (σ.eval y)) (a.eval y) := by
        have := h.eval y
        cases e1 : σ.eval y with
        | c c => rw [e1] at this; exact this
        | any => rw [e1] at hs; simp [asCell, srcL] at hs
        | agg _ => rw [e1] at hs; simp [asCell, srcL] at hs
        | tup _ => rw [e1] at hs; simp [asCell, srcL] at hs
      obtain ⟨news, n1, n2, n3, n4⟩ := src_rel h hs hy
      have run : ∀ {base : Option Addr} {sLen sCap : Nat} {olds : List Value},
          a.eval x = .slice base sLen sCap → ((sLen = 0 ∧ sCap = 0 ∧ olds = []) ∨ ∃ g cur ety, base = some ⟨g, 0, none⟩ ∧ nGlob ≤ g ∧ w.heap[g]? = some (.cells cur ety (0, 0)) ∧ sLen ≤ sCap ∧ sCap * ty.cells ≤ cur.size ∧ olds = cur.toList.take (sLen * ty.cells)) →
          (sLen + ys.length) * te.bytes ≤ 140737488355328 →
          ∃ v' w' A' cap', (execOp a.eval o).run B.P w = .ok (.value v') w' ∧ v' = .slice A' (sLen + ys.length) cap' ∧ sLen + ys.length ≤ cap' ∧
            ((cap' = 0 ∧ w' = w) ∨ ∃ g' cur' ety', A' = some ⟨g', 0, none⟩ ∧ w'.heap[g']? = some (.cells cur' ety' (0, 0)) ∧ cap' * ty.cells ≤ cur'.size ∧ cur'.toList.take ((sLen + ys.length) * ty.cells) = olds ++ news ∧
              ((base = some ⟨g', 0, none⟩ ∧ sCap ≠ 0 ∧ Fr (fun b => b = g') w w') ∨ (w.heap.size ≤ g' ∧ Fr NoB w w'))) := by
        intro base sLen sCap olds ex hdst hb
        have h63 : sLen + ys.length ≤ 9223372036854775807 := by
          have : (sLen + ys.length) * 1 ≤ (sLen + ys.length) * te.bytes := Nat.mul_le_mul_left _ hby'
          omega
        have := run_append_gen (P := B.P) (w := w) (t := t) (t' := t') (ty := o.type) (e := e) (i := inf) (z := z) u1 u2 hd' i1 (by rw [i4]; exact hz') (by rw [hzs, i2]) (base := base) (sLen := sLen) (sCap := sCap) (x := a.eval y) (n := ys.length) (news := news) (olds := olds)
          (by rw [i2, hsz]; exact n3) (by rw [i2, hsz]; exact n1) n2 (by rw [i2, hsz]; exact hdst) h63 (by rw [i3]; exact hb)
        rw [i2, hsz] at this
        obtain ⟨v', w', A', cap', r1, r2, r3, r4⟩ := this
        refine ⟨v', w', A', cap', ?_, r2, r3, r4⟩
        simp [execOp, ho, resolve, invoke, builtin, ex, r1]
      split at hv
      · rename_i ex0
        obtain ⟨hlen, hv⟩ := bif_none hv
        have hlen' := of_decide_eq_true hlen
        have hx := h.eval x
        cases e1 : σ.eval x with
        | c c =>
          rw [e1] at ex0 hx
          simp only [asCell] at ex0
          subst ex0
          obtain ⟨A, eA⟩ := hx
          obtain ⟨v', w', A', cap', r1, r2, r3, r4⟩ := run eA (olds := []) (.inl ⟨rfl, rfl, rfl⟩) (by simpa using hlen')
          obtain ⟨H', φ', hk, hkn, hkH, hkl, hkφ⟩ := h.kill (d * 64)
          have hmono : ∀ b, b < w.heap.size → zone B w φ b → zone B w φ' b := fun b _ hz => ⟨hz.1, hz.2.1, hz.2.2.1, fun m hm => hz.2.2.2 m (hkφ m b hm)⟩
          obtain ⟨H2, φ2, hn, hH2⟩ := Rel.appended (R1 := B.R) hk (fun _ h => h) hkn (B.io64 d) (ty := ty) (xs := []) (ys := ys) (olds := []) (news := news) (A' := A') (cap' := cap') (w' := w') (by simpa using r3) (by simp) n1
            (by
              rcases r4 with r4 | ⟨g', cur', ety', q1, q2, q3, q4, q5⟩
              · exact .inl r4
              · refine .inr ⟨g', cur', ety', q1, q2, q3, by simpa using q4, ?_⟩
                rcases q5 with ⟨_, q6, _⟩ | q5
                · exact absurd rfl q6
                · exact .inr q5) (d := ty.scal) (by cases ty.scal <;> rfl) (mkd_scal ty) (fun i hi => absurd hi (by simp)) (fun i hi => RdC.mono hmono (n4 i hi))
          have hkeep : KeepR B w w' := by
            rcases r4 with ⟨_, rfl⟩ | ⟨g', cur', ety', _, _, _, _, q5⟩
            · exact (Fr.refl _ _).keepR B
            · rcases q5 with ⟨_, q6, _⟩ | q5
              · exact absurd rfl q6
              · exact q5.2.keepR B
          have hfrn : Fr NoB w w' := by
            rcases r4 with ⟨_, rfl⟩ | ⟨g', cur', ety', _, _, _, _, q5⟩
            · exact Fr.refl _ _
            · rcases q5 with ⟨_, q6, _⟩ | q5
              · exact absurd rfl q6
              · exact q5.2
          refine wp_val r1 ⟨⟨_, hv, by rw [put_defers]; exact hdef, H2, φ2, ?_⟩, hkeep, fun _ => hfrn⟩
          rw [hd]
          have r2' : v' = .slice A' ys.length cap' := by simpa using r2
          have hH2' : H2 (d * 64) = some v' := by rw [r2']; simpa using hH2
          exact Rel.set hn d (ownRel hH2' r2' : ARel (B.at _ w' H2 φ2) (.c (.own (d * 64))) v')
        | any => rw [e1] at ex0; simp [asCell] at ex0
        | agg _ => rw [e1] at ex0; simp [asCell] at ex0
        | tup _ => rw [e1] at ex0; simp [asCell] at ex0
      · rename_i n ex0
        split at hv
        · rename_i dd t0 xs hl
          have hv0 := bif_none hv
          clear hv
          obtain ⟨hdd, hv⟩ := hv0
          obtain ⟨hdd, hn63⟩ := and_b hdd
          obtain ⟨hdd, hdm⟩ := and_b hdd
          have hio : B.io n = none := by
            cases hq : B.io n with
            | none => rfl
            | some v => have := B.iok _ _ hq; simp [this] at hn63
          split at hv
          · rename_i xs hc
            obtain ⟨rfl, rfl⟩ := Ty.castL?_spec hc
            obtain ⟨hlen, hv⟩ := bif_none hv
            have hlen' := of_decide_eq_true hlen
            have hx := h.eval x
            cases e1 : σ.eval x with
            | c c =>
              rw [e1] at ex0 hx
              simp only [asCell] at ex0
              subst ex0
              obtain ⟨v0, hv0, hrow⟩ := h.mem.blk n _ hl
              have eH : H n = some (a.eval x) := hx.1
              have eq : v0 = a.eval x := by rw [hv0] at eH; exact Option.some.inj eH
              subst eq
              have hrow : RowOf B.P (mkd dd t0) dd t0 w (zone B w φ) (φ n) (a.eval x) xs := hrow
              rw [mkd_of hdm] at hrow
              obtain ⟨A, cap, eA, hcap, hmem⟩ := id hrow
              have hdst : ∃ olds : List Value, olds.length = xs.length * t0.cells ∧ ((xs.length = 0 ∧ cap = 0 ∧ olds = []) ∨ ∃ g cur ety, A = some ⟨g, 0, none⟩ ∧ nGlob ≤ g ∧ w.heap[g]? = some (.cells cur ety (0, 0)) ∧ xs.length ≤ cap ∧ cap * t0.cells ≤ cur.size ∧ olds = cur.toList.take (xs.length * t0.cells)) ∧
                  (cap ≠ 0 → ∀ g, A = some ⟨g, 0, none⟩ → φ n g) ∧ ∀ i (hi : i < xs.length), RdC B.P t0 w (zone B w φ) ((olds.drop (i * t0.cells)).take t0.cells) xs[i] := by
                rcases hmem with rfl | ⟨g, cur, ety, rfl, hF, hh, hsz2, Fs, f1, f2, f3⟩
                · have h0 : xs.length = 0 := by omega
                  exact ⟨[], by simp [h0], .inl ⟨h0, rfl, rfl⟩, fun h => absurd rfl h, fun i hi => by omega⟩
                · refine ⟨cur.toList.take (xs.length * t0.cells), ?_, .inr ⟨g, cur, ety, rfl, h.mem.big hF, hh, hcap, hsz2, rfl⟩, fun _ g' e => ?_, fun i hi => ?_⟩
                  · have : xs.length * t0.cells ≤ cap * t0.cells := Nat.mul_le_mul_right _ hcap
                    simp; omega
                  · simp only [Option.some.injEq, Addr.mk.injEq, and_true] at e
                    subst e
                    exact hF
                  · rw [← chunk_take cur.toList xs.length t0.cells i hi]
                    exact OwC.flatOK hdd (f3 i hi)
              obtain ⟨olds, o1, o2, o3, o4⟩ := hdst
              obtain ⟨v', w', A', cap', r1, r2, r3, r4⟩ := run eA o2 hlen'
              have hk := h.killR n hl
              have hkn : look n (σ.kill n).blks = none := by
                have e : σ.kill n = σ.swap n fun _ => .any := by simp [St.kill, hl]
                rw [e]; simp only [St.swap]; rw [look_swap]; simp
              have hmono : ∀ b, b < w.heap.size → zone B w φ b → zone (B.on fun i => B.R i ∨ φ n i) w (fun m b => m ≠ n ∧ φ m b) b := fun b _ hz => ⟨hz.1, hz.2.1, fun hr => hr.elim hz.2.2.1 (hz.2.2.2 n), fun m hm => hz.2.2.2 m hm.2⟩
              obtain ⟨H2, φ2, hn, hH2⟩ := Rel.appended (R1 := fun i => B.R i ∨ φ n i) hk (fun _ h => .inl h) hkn hio (ty := t0) (xs := xs) (ys := ys) (olds := olds) (news := news) (A' := A') (cap' := cap') (w' := w') r3 o1 n1
                (by
                  rcases r4 with r4 | ⟨g', cur', ety', q1, q2, q3, q4, q5⟩
                  · exact .inl r4
                  · refine .inr ⟨g', cur', ety', q1, q2, q3, q4, ?_⟩
                    rcases q5 with ⟨q6, q7, q8⟩ | q5
                    · have hF := o3 q7 g' q6
                      exact .inl ⟨.inr hF, h.mem.rdis n g' hF, (h.mem.fsub n g' hF).1, q8⟩
                    · exact .inr q5) (d := t0.scal) (by cases t0.scal <;> rfl) (mkd_scal t0) (fun i hi => RdC.mono hmono (o4 i hi)) (fun i hi => RdC.mono hmono (n4 i hi))
              have hkeep : KeepR B w w' := by
                rcases r4 with ⟨_, rfl⟩ | ⟨g', cur', ety', _, _, _, _, q5⟩
                · exact (Fr.refl _ _).keepR B
                · rcases q5 with ⟨q6, q7, q8⟩ | q5
                  · have hF := o3 q7 g' q6
                    exact ⟨q8.size, fun b hb hR => q8.block b hb fun e => h.mem.rdis n g' hF (e ▸ hR)⟩
                  · exact q5.2.keepR B
              refine wp_val r1 ⟨⟨_, hv, by rw [put_defers]; exact hdef, H2, φ2, ?_⟩, hkeep, fun e => by simp [asCell] at e⟩
              rw [hd]
              exact Rel.set hn d (ownRel (by rw [r2]; exact hH2) r2 : ARel (B.at _ w' H2 φ2) (.c (.own n)) v')
            | any => rw [e1] at ex0; simp [asCell] at ex0
            | agg _ => rw [e1] at ex0; simp [asCell] at ex0
            | tup _ => rw [e1] at ex0; simp [asCell] at ex0
          · cases hv
        · cases hv
      · rename_i n o' l ex0
        split at hv
        · rename_i dd t0 xs hl
          have hv0 := bif_none hv
          clear hv
          obtain ⟨hg3, hv⟩ := hv0
          have ho0 : o' = 0 := of_decide_eq_true (and_b hg3).2
          have hdd := (and_b (and_b hg3).1).1
          have hdm := (and_b (and_b hg3).1).2
          clear hg3
          subst ho0
          split at hv
          · rename_i xs hc
            obtain ⟨rfl, rfl⟩ := Ty.castL?_spec hc
            obtain ⟨hlen, hv⟩ := bif_none hv
            have hlen' := of_decide_eq_true hlen
            have hx := h.eval x
            cases e1 : σ.eval x with
            | c c =>
              rw [e1] at ex0 hx
              simp only [asCell] at ex0
              subst ex0
              obtain ⟨A, cc, L, s, q1, q2, q3, A', c', ea, q4, _, q5, q6, q7, q8⟩ := hx
              have eL : lenOf σ.blks n = some (L, s) := q1
              simp only [lenOf, hl, Option.some.injEq, Prod.mk.injEq] at eL
              obtain ⟨rfl, rfl⟩ := eL
              have q2 : H n = some (.slice A _ cc) := q2
              obtain rfl := q8 rfl
              have hc' : c' = cc := by omega
              subst hc'
              obtain ⟨v0, hv0, hrow⟩ := h.mem.blk n _ hl
              rw [hv0] at q2
              obtain rfl := Option.some.inj q2
              have hrow : RowOf B.P (mkd dd t0) dd t0 w (zone B w φ) (φ n) (.slice A' xs.length c') xs := hrow
              have hmk := mkd_of hdm
              rw [hmk] at hrow
              have hflag : dd = t0.scal := by
                clear hsz hv hs hlen hrow hl
                revert hdd hdm
                cases dd <;> cases t0.scal <;> simp
              obtain ⟨A0, cap, eA, hcap, hmem⟩ := hrow
              simp only [Value.slice.injEq, true_and] at eA
              obtain ⟨rfl, rfl⟩ := eA
              rcases hmem with h0 | ⟨g, cur, ety, rfl, hF, hh, hsz2, Fs, f1, f2, f3⟩
              · -- no cells at all
                have hys : ys.length = 0 := by omega
                have hl0 : l = 0 := by omega
                have hys' : ys = [] := List.eq_nil_of_length_eq_zero hys
                subst hys'
                subst hl0
                subst h0
                have hxs : xs = [] := List.eq_nil_of_length_eq_zero (by omega)
                subst hxs
                have hnews : news = [] := List.eq_nil_of_length_eq_zero (by simpa using n1)
                subst hnews
                have hap := run_append_none (P := B.P) (w := w) (t := t) (t' := t') (ty := o.type) (e := e) (i := inf) u1 u2 hd' i1 (base := A') (x := a.eval y) (by rw [i2, hsz]; exact n3)
                have hrun : (execOp a.eval o).run B.P w = .ok (.value (.slice A' 0 0)) w := by
                  simp [execOp, ho, resolve, invoke, builtin, ea, hap]
                have e0 : σ.setBlk n (.row t0.scal t0 (List.take 0 [] ++ [] ++ List.drop (0 + ([] : List t0.den).length) [])) = σ := by
                  unfold St.setBlk
                  rw [← hflag]
                  have := blkSet_self hl
                  simp only [List.take_nil, List.drop_nil, List.append_nil]
                  rw [this]
                rw [e0] at hv
                refine wp_val hrun ⟨⟨_, hv, by rw [put_defers]; exact hdef, H, φ, ?_⟩, (Fr.refl _ _).keepR B, fun e => by simp [asCell] at e⟩
                rw [hd]
                exact Rel.set h d ⟨A', 0, 0, t0.cells, by show lenOf _ n = _; simp [lenOf, hl], hv0, by simp, A', 0, rfl, by simp, fun h => absurd h (by simp), by simp, by simp, fun h => absurd h (by simp), fun _ => rfl⟩
              · obtain ⟨inf2, j1, j2, j3, j4, _⟩ := tinf_spec (hE.T e te he)
                have hap := run_append_in (P := B.P) (w := w) (t := t) (t' := t') (ty := o.type) (e := e) (i := inf2) u1 u2 hd' j1 (g := g) (sLen := l) (sCap := c') (x := a.eval y) (n := ys.length) (news := news) (cur := cur) (ety := ety)
                  (by rw [j2, hsz]; exact n3) (by rw [j2, hsz]; exact n1) n2 hh (by omega) (by rw [j2, hsz]; exact hsz2)
                rw [j2, hsz] at hap
                have hsp := Rel.splice (B := B) h hl hdd hv0 hF hh hmk hcap hsz2 f1 f2 (fun i hi => OwC.flatOK hdd (f3 i hi)) (o := l) (ys := ys) (by omega) n1 n4
                have hrun : (execOp a.eval o).run B.P w = .ok (.value (.slice (some ⟨g, 0, none⟩) (l + ys.length) c')) (w.setRow g (cur.toList.take (l * t0.cells) ++ news ++ cur.toList.drop (l * t0.cells + news.length)).toArray) := by
                  simp [execOp, ho, resolve, invoke, builtin, ea, hap]
                rw [hflag] at hsp
                refine wp_val hrun ⟨⟨_, hv, by rw [put_defers]; exact hdef, H, φ, ?_⟩, ⟨by simp, fun b hb hR => setRow_other w g b _ (fun e => h.mem.rdis n g hF (e ▸ hR))⟩, fun e => by simp [asCell] at e⟩
                rw [hd]
                refine Rel.set hsp d ?_
                refine ⟨some ⟨g, 0, none⟩, c', xs.length, t0.cells, ?_, hv0, by omega, some ⟨g, 0, none⟩, c', rfl, by omega, fun _ => ⟨g, rfl, by simp⟩, by omega, hcap, fun _ => ⟨g, rfl, by simp⟩, fun _ => rfl⟩
                show lenOf _ n = _
                simp [lenOf, St.setBlk, look_set_same]
                omega
            | any => rw [e1] at ex0; simp [asCell] at ex0
            | agg _ => rw [e1] at ex0; simp [asCell] at ex0
            | tup _ => rw [e1] at ex0; simp [asCell] at ex0
          · cases hv
        · cases hv
      · cases hv
    · cases hz
  · cases hv

end
end Go.Proofs.YtklfnbckoaphpaaGreatDoor
