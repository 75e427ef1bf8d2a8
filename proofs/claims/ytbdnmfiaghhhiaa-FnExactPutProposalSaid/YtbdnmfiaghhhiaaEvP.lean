/- Operations that make or write memory are what the evaluator says. No conditions. -/
import Derived.Test.YtbdnmfiaghhhiaaEvO
set_option linter.unusedVariables false
set_option linter.unusedSimpArgs false
namespace Go.Proofs.Ytbdnmfiaghhhiaa
open Go

section
variable {ρ : Type} {B : Base} {E : Env} {σ : St} {a : Act} {w : World} {H : Nat → Option Value} {φ : Nat → Nat → Prop}

/-- what is asked behind an operation -/
abbrev Next (B : Base) (k : St → Option ρ) (r : ρ) : Act → World → Prop := fun a' w' => ∃ σ', k σ' = some r ∧ RelA B σ' a' w'

theorem ownRel {n : Nat} {v : Value} {C : Cx} (hH : C.H n = some v) {A : Option Addr} {l c : Nat} (hv : v = .slice A l c) : ARel C (.c (.own n)) v := ⟨hH, A, l, c, hv⟩
theorem zone_of (B : Base) (w : World) (φ : Nat → Nat → Prop) (H : Nat → Option Value) : (B.at σ w H φ).Z = zone B w φ := rfl

theorem src_rel (h : Rel B σ a.tmps w H φ) {ty : Ty} {y : Cell} {v : Value} {ys : List ty.den} (hs : srcL σ.blks ty y = some ys) (hr : CellRel (B.at σ w H φ) y v) : SrcOK B.P (B.at σ w H φ) ty v ys := by
  cases y <;> simp only [srcL] at hs <;> try (cases hs; done)
  case nil =>
    simp only [Option.some.injEq] at hs
    subst hs
    obtain ⟨A, rfl⟩ := hr
    exact src_of (ys := []) (fun h => absurd h (by simp))
  case sl t zs =>
    obtain ⟨rfl, rfl⟩ := Ty.castL?_spec hs
    obtain ⟨A, cap, e, _, h2⟩ := hr
    simp only [List.cons.injEq, and_true] at e
    subst e
    exact src_of fun hp => let ⟨b, o, e, hb, hz, h3⟩ := h2 hp; ⟨b, o, e, h3⟩
  case own n =>
    split at hs
    · rename_i dd t zs hl
      obtain ⟨hd, hs⟩ := bif_none hs
      obtain ⟨rfl, rfl⟩ := Ty.castL?_spec hs
      obtain ⟨v', hv', hrow⟩ := h.mem.blk n _ hl
      have eH : H n = some v := hr.1
      have eq : v' = v := by rw [hv'] at eH; exact Option.some.inj eH
      subst eq
      obtain ⟨A, cap, rfl, _, h2⟩ := RowOf.cellsAt hd hrow
      exact src_of h2
    · cases hs
  case sub n o l =>
    split at hs
    · rename_i dd t zs hl
      obtain ⟨hd, hs⟩ := bif_none hs
      obtain ⟨rfl, rfl⟩ := Ty.castL?_spec hs
      obtain ⟨v', hv', hrow⟩ := h.mem.blk n _ hl
      obtain ⟨A, cap, eA, _, h2⟩ := RowOf.cellsAt hd hrow
      obtain ⟨A2, c, L, s, e1, e2, e3, A', c', rfl, hc', hp⟩ := hr
      have eL : lenOf σ.blks n = some (L, s) := e1
      simp only [lenOf, hl, Option.some.injEq, Prod.mk.injEq] at eL
      obtain ⟨rfl, rfl⟩ := eL
      have eH : H n = some _ := e2
      rw [hv', eA] at eH
      simp only [Option.some.injEq, Value.slice.injEq, true_and] at eH
      obtain ⟨rfl, rfl⟩ := eH
      have hlen : ((zs.drop o).take l).length = l := by simp; omega
      have := src_of (P := B.P) (C := B.at σ w H φ) (ty := t) (ys := (zs.drop o).take l) (A := A') (cap := c') (fun hpos => by
        rw [hlen] at hpos
        obtain ⟨g, e4, e5⟩ := hp hpos
        obtain ⟨b, o2, e6, h7⟩ := h2 (by omega)
        rw [e4] at e6
        simp only [Option.some.injEq, Addr.mk.injEq, and_true] at e6
        obtain ⟨rfl, rfl⟩ := e6
        refine ⟨g, o * t.cells, e5, fun i hi => ?_⟩
        rw [hlen] at hi
        obtain ⟨us, k1, k2, k3⟩ := h7 (o + i) (by omega)
        refine ⟨us, k1, ?_, ?_⟩
        · have : ((zs.drop o).take l)[i]'(by rw [hlen]; exact hi) = zs[o + i]'(by omega) := by simp
          rw [this]; exact k2
        · have : 0 + (o + i) * t.cells = o * t.cells + i * t.cells := by rw [Nat.zero_add, Nat.add_mul]
          rw [← this]; exact k3)
      rw [hlen] at this
      exact this
    · cases hs
  case str s =>
    obtain ⟨rfl, rfl⟩ := Ty.castL?_spec hs
    obtain rfl : v = .string s := hr
    have hl : (strBytes s).length = s.size := by simp [strBytes]
    refine ⟨(strBytes s).map fun n => Value.int .u8 n, by simp [Ty.cells], by simp [Value.oneCell'], fun w' _ => ⟨by simp [Builtin.lenOf, hl], ?_⟩, fun i hi => ?_⟩
    · have : s.extract 0 (strBytes s).length = s := by rw [hl]; exact ByteArray.extract_zero_size
      simp [Builtin.firstCells, this]
      apply Array.ext'
      simp [strBytes]
    · have hi' : i < (strBytes s).length := hi
      have : (((strBytes s).map fun n => Value.int .u8 n).drop (i * (Ty.int .u8).cells)).take (Ty.int .u8).cells = [.int .u8 (strBytes s)[i]] := by
        simp only [Ty.cells, Nat.mul_one]
        apply List.ext_getElem?
        intro k
        cases k with
        | zero => simp [List.getElem?_take, List.getElem?_drop, List.getElem?_map, List.getElem?_eq_getElem hi']
        | succ k => simp [List.getElem?_take]
      exact this

theorem eo_append (hE : EnvOK B.P E) (hR0 : B.R = NoB) (hA : RelA B σ a w) {o : Oper} {t t' d e : Nat} {x y : Operand} {ti ti' : TInf} (ho : o.op = .call { callee := .builtin .append, args := #[x, y], argTypes := #[t, t'] }) (hd : o.dst = some d)
    (ht : E.T t = some ti) (ht' : E.T t' = some ti') (hdesc : ti.desc = .slice e) (hsrc : isSrcD ti'.desc = true) {k : St → Option ρ} {r : ρ}
    (hv : appendTo E d e (asCell (σ.eval x)) (asCell (σ.eval y)) σ (fun v σ' => k (σ'.set d v)) = some r) (Q : Exit → Act → World → Prop) : o.wp B.P a w (Next B k r) Q := by
  obtain ⟨hdef, H, φ, h⟩ := hA
  unfold appendTo at hv
  split at hv
  · rename_i te ty he hty
    split at hv
    · cases hv
    rename_i ys hs
    obtain ⟨hg, hv⟩ := bif_none hv
    obtain ⟨hg, hz⟩ := and_b hg
    obtain ⟨hg, hby⟩ := and_b hg
    have hsz : te.size = ty.cells := by simpa using hg
    have hby' : 0 < te.bytes := of_decide_eq_true hby
    obtain ⟨inf, i1, i2, i3, i4, _⟩ := tinf_spec (hE.T e te he)
    obtain ⟨_, _, _, _, _, u1⟩ := tinf_spec (hE.T t ti ht)
    obtain ⟨_, _, _, _, _, u2⟩ := tinf_spec (hE.T t' ti' ht')
    rw [hdesc] at u1
    have hd' : (∃ e', ti'.desc = .slice e') ∨ ti'.desc = .string := by
      cases hq : ti'.desc <;> simp_all [isSrcD]
    unfold zeroOk at hz
    split at hz
    · rename_i z hz'
      have hzs : z.cells.size = te.size := by simpa using hz
      have hy : CellRel (B.at σ w H φ) (asCell (σ.eval y)) (a.eval y) := by
        have := h.eval y
        cases e1 : σ.eval y with
        | c c => rw [e1] at this; exact this
        | any => rw [e1] at hs; simp [asCell, srcL] at hs
        | agg _ => rw [e1] at hs; simp [asCell, srcL] at hs
        | tup _ => rw [e1] at hs; simp [asCell, srcL] at hs
      obtain ⟨news, n1, n2, n3, n4⟩ := src_rel h hs hy
      have run : ∀ {base : Option Addr} {sLen sCap : Nat} {olds : List Value},
          a.eval x = .slice base sLen sCap → ((sLen = 0 ∧ sCap = 0 ∧ olds = []) ∨ ∃ g cur ety, base = some ⟨g, 0, none⟩ ∧ nGlob ≤ g ∧ w.heap[g]? = some (.cells cur ety (0, 0)) ∧ sLen ≤ sCap ∧ sCap * ty.cells ≤ cur.size ∧ olds = cur.toList.take (sLen * ty.cells)) →
          (sLen + ys.length) * te.bytes ≤ 140737488355328 →
          ∃ v' w' A' cap', (execOp a.eval o).run B.P w = .ok (.value v') w' ∧ v' = .slice A' (sLen + ys.length) cap' ∧ sLen + ys.length ≤ cap' ∧
            ((cap' = 0 ∧ w' = w) ∨ ∃ g' cur' ety', A' = some ⟨g', 0, none⟩ ∧ w'.heap[g']? = some (.cells cur' ety' (0, 0)) ∧ cap' * ty.cells ≤ cur'.size ∧ cur'.toList.take ((sLen + ys.length) * ty.cells) = olds ++ news ∧
              ((base = some ⟨g', 0, none⟩ ∧ sCap ≠ 0 ∧ Fr (fun b => b = g') w w') ∨ (w.heap.size ≤ g' ∧ Fr NoB w w'))) := by
        intro base sLen sCap olds ex hdst hb
        have h63 : sLen + ys.length ≤ 9223372036854775807 := by
          have : (sLen + ys.length) * 1 ≤ (sLen + ys.length) * te.bytes := Nat.mul_le_mul_left _ hby'
          omega
        have := run_append_gen (P := B.P) (w := w) (t := t) (t' := t') (ty := o.type) (e := e) (i := inf) (z := z) u1 u2 hd' i1 (by rw [i4]; exact hz') (by rw [hzs, i2]) (base := base) (sLen := sLen) (sCap := sCap) (x := a.eval y) (n := ys.length) (news := news) (olds := olds)
          (by rw [i2, hsz]; exact n3) (by rw [i2, hsz]; exact n1) n2 (by rw [i2, hsz]; exact hdst) h63 (by rw [i3]; exact hb)
        rw [i2, hsz] at this
        obtain ⟨v', w', A', cap', r1, r2, r3, r4⟩ := this
        refine ⟨v', w', A', cap', ?_, r2, r3, r4⟩
        simp [execOp, ho, resolve, invoke, builtin, ex, r1]
      split at hv
      · rename_i ex0
        obtain ⟨hlen, hv⟩ := bif_none hv
        have hlen' := of_decide_eq_true hlen
        have hx := h.eval x
        cases e1 : σ.eval x with
        | c c =>
          rw [e1] at ex0 hx
          simp only [asCell] at ex0
          subst ex0
          obtain ⟨A, eA⟩ := hx
          obtain ⟨v', w', A', cap', r1, r2, r3, r4⟩ := run eA (olds := []) (.inl ⟨rfl, rfl, rfl⟩) (by simpa using hlen')
          obtain ⟨H', φ', hk, hkn, hkH, hkl, hkφ⟩ := h.kill (d * 64)
          have hmono : ∀ b, b < w.heap.size → zone B w φ b → zone B w φ' b := fun b _ hz => ⟨hz.1, hz.2.1, hz.2.2.1, fun m hm => hz.2.2.2 m (hkφ m b hm)⟩
          obtain ⟨H2, φ2, hn, hH2⟩ := Rel.appended (R1 := B.R) hk (fun _ h => h) hkn (B.io64 d) (ty := ty) (xs := []) (ys := ys) (olds := []) (news := news) (A' := A') (cap' := cap') (w' := w') (by simpa using r3) (by simp) n1
            (by
              rcases r4 with r4 | ⟨g', cur', ety', q1, q2, q3, q4, q5⟩
              · exact .inl r4
              · refine .inr ⟨g', cur', ety', q1, q2, q3, by simpa using q4, ?_⟩
                rcases q5 with ⟨_, q6, _⟩ | q5
                · exact absurd rfl q6
                · exact .inr q5) (d := ty.scal) (by cases ty.scal <;> rfl) (mkd_scal ty) (fun i hi => absurd hi (by simp)) (fun i hi => RdC.mono hmono (n4 i hi))
          refine wp_val r1 ⟨_, hv, by rw [put_defers]; exact hdef, H2, φ2, ?_⟩
          rw [hd]
          have r2' : v' = .slice A' ys.length cap' := by simpa using r2
          have hH2' : H2 (d * 64) = some v' := by rw [r2']; simpa using hH2
          exact Rel.set hn d (ownRel hH2' r2' : ARel (B.at _ w' H2 φ2) (.c (.own (d * 64))) v')
        | any => rw [e1] at ex0; simp [asCell] at ex0
        | agg _ => rw [e1] at ex0; simp [asCell] at ex0
        | tup _ => rw [e1] at ex0; simp [asCell] at ex0
      · rename_i n ex0
        split at hv
        · rename_i dd t0 xs hl
          have hv0 := bif_none hv
          clear hv
          obtain ⟨hdd, hv⟩ := hv0
          obtain ⟨hdd, hn63⟩ := and_b hdd
          obtain ⟨hdd, hdm⟩ := and_b hdd
          have hio : B.io n = none := by
            cases hq : B.io n with
            | none => rfl
            | some v => have := B.iok _ _ hq; simp [this] at hn63
          split at hv
          · rename_i xs hc
            obtain ⟨rfl, rfl⟩ := Ty.castL?_spec hc
            obtain ⟨hlen, hv⟩ := bif_none hv
            have hlen' := of_decide_eq_true hlen
            have hx := h.eval x
            cases e1 : σ.eval x with
            | c c =>
              rw [e1] at ex0 hx
              simp only [asCell] at ex0
              subst ex0
              obtain ⟨v0, hv0, hrow⟩ := h.mem.blk n _ hl
              have eH : H n = some (a.eval x) := hx.1
              have eq : v0 = a.eval x := by rw [hv0] at eH; exact Option.some.inj eH
              subst eq
              have hrow : RowOf B.P (mkd dd t0) dd t0 w (zone B w φ) (φ n) (a.eval x) xs := hrow
              rw [mkd_of hdm] at hrow
              obtain ⟨A, cap, eA, hcap, hmem⟩ := id hrow
              have hdst : ∃ olds : List Value, olds.length = xs.length * t0.cells ∧ ((xs.length = 0 ∧ cap = 0 ∧ olds = []) ∨ ∃ g cur ety, A = some ⟨g, 0, none⟩ ∧ nGlob ≤ g ∧ w.heap[g]? = some (.cells cur ety (0, 0)) ∧ xs.length ≤ cap ∧ cap * t0.cells ≤ cur.size ∧ olds = cur.toList.take (xs.length * t0.cells)) ∧
                  (cap ≠ 0 → ∀ g, A = some ⟨g, 0, none⟩ → φ n g) ∧ ∀ i (hi : i < xs.length), RdC B.P t0 w (zone B w φ) ((olds.drop (i * t0.cells)).take t0.cells) xs[i] := by
                rcases hmem with rfl | ⟨g, cur, ety, rfl, hF, hh, hsz2, Fs, f1, f2, f3⟩
                · have h0 : xs.length = 0 := by omega
                  exact ⟨[], by simp [h0], .inl ⟨h0, rfl, rfl⟩, fun h => absurd rfl h, fun i hi => by omega⟩
                · refine ⟨cur.toList.take (xs.length * t0.cells), ?_, .inr ⟨g, cur, ety, rfl, h.mem.big hF, hh, hcap, hsz2, rfl⟩, fun _ g' e => ?_, fun i hi => ?_⟩
                  · have : xs.length * t0.cells ≤ cap * t0.cells := Nat.mul_le_mul_right _ hcap
                    simp; omega
                  · simp only [Option.some.injEq, Addr.mk.injEq, and_true] at e
                    subst e
                    exact hF
                  · rw [← chunk_take cur.toList xs.length t0.cells i hi]
                    exact OwC.flatOK hdd (f3 i hi)
              obtain ⟨olds, o1, o2, o3, o4⟩ := hdst
              obtain ⟨v', w', A', cap', r1, r2, r3, r4⟩ := run eA o2 hlen'
              have hk := h.killR n hl
              have hkn : look n (σ.kill n).blks = none := by
                have e : σ.kill n = σ.swap n fun _ => .any := by simp [St.kill, hl]
                rw [e]; simp only [St.swap]; rw [look_swap]; simp
              have hmono : ∀ b, b < w.heap.size → zone B w φ b → zone (B.on fun i => B.R i ∨ φ n i) w (fun m b => m ≠ n ∧ φ m b) b := fun b _ hz => ⟨hz.1, hz.2.1, fun hr => hr.elim hz.2.2.1 (hz.2.2.2 n), fun m hm => hz.2.2.2 m hm.2⟩
              obtain ⟨H2, φ2, hn, hH2⟩ := Rel.appended (R1 := fun i => B.R i ∨ φ n i) hk (fun _ h => .inl h) hkn hio (ty := t0) (xs := xs) (ys := ys) (olds := olds) (news := news) (A' := A') (cap' := cap') (w' := w') r3 o1 n1
                (by
                  rcases r4 with r4 | ⟨g', cur', ety', q1, q2, q3, q4, q5⟩
                  · exact .inl r4
                  · refine .inr ⟨g', cur', ety', q1, q2, q3, q4, ?_⟩
                    rcases q5 with ⟨q6, q7, q8⟩ | q5
                    · have hF := o3 q7 g' q6
                      exact .inl ⟨.inr hF, h.mem.rdis n g' hF, (h.mem.fsub n g' hF).1, q8⟩
                    · exact .inr q5) (d := t0.scal) (by cases t0.scal <;> rfl) (mkd_scal t0) (fun i hi => RdC.mono hmono (o4 i hi)) (fun i hi => RdC.mono hmono (n4 i hi))
              refine wp_val r1 ⟨_, hv, by rw [put_defers]; exact hdef, H2, φ2, ?_⟩
              rw [hd]
              exact Rel.set hn d (ownRel (by rw [r2]; exact hH2) r2 : ARel (B.at _ w' H2 φ2) (.c (.own n)) v')
            | any => rw [e1] at ex0; simp [asCell] at ex0
            | agg _ => rw [e1] at ex0; simp [asCell] at ex0
            | tup _ => rw [e1] at ex0; simp [asCell] at ex0
          · cases hv
        · cases hv
      · cases hv
    · cases hz
  · cases hv

end
end Go.Proofs.Ytbdnmfiaghhhiaa
