/- Conversions, slice expressions, literals, len, min and max. No conditions. -/
import Derived.Test.YtklfnbckoaphpaaGreatDoorEvK
set_option linter.unusedVariables false
set_option linter.unusedSimpArgs false
namespace Go.Proofs.YtklfnbckoaphpaaGreatDoor
open Go

section
variable {B : Base} {E : Env} {σ : St} {a : Act} {w : World} {H : Nat → Option Value} {φ : Nat → Nat → Prop}

/-- what may be read of this call's own rows: all of memory -/
theorem Rel.reads (h : Rel B σ a.tmps w H φ) : Reads (B.at σ w H φ) σ.blks (fun _ => True) :=
  ⟨fun _ _ _ => trivial, fun n b hb => let ⟨v, hv, hr⟩ := h.mem.blk n b hb; ⟨v, φ n, hv, hr, fun _ _ _ => trivial⟩, fun n d t xs hl => by show lenOf σ.blks n = _; simp [lenOf, hl]⟩

theorem foldl_push : ∀ (xs : List Int) (s : ByteArray), xs.foldl (fun b a => b.push (UInt8.ofNat a.toNat)) s = ⟨(s.data.toList ++ xs.map fun n => UInt8.ofNat n.toNat).toArray⟩
  | [], s => by simp
  | n :: ns, s => by rw [List.foldl_cons, foldl_push ns]; simp [ByteArray.push]

theorem run_bytesToString {P : Program} {Z : Nat → Prop} {w w' : World} {v : Value} {xs : List Int} (h : RdC P (.slice (.int .u8)) w Z [v] xs) (hw : Agree Z w w') : (Conv.bytesToString v).run P w' = .ok (.string (bytesStr xs)) w' := by
  obtain ⟨A, cap, e, hcap, hrow⟩ := h
  simp only [List.cons.injEq, and_true] at e
  subst e
  by_cases hl : xs.length = 0
  · have hx : xs = [] := List.eq_nil_of_length_eq_zero hl
    subst hx
    cases A with
    | none => rfl
    | some b =>
      simp [Conv.bytesToString, loadCells, loadCellsFrom, bytesStr]
      rfl
  · obtain ⟨b, o, rfl, hb, hz, hel⟩ := hrow (by omega)
    have hc : ∀ j u, (xs.map fun n => Value.int .u8 n)[j]? = some u → w'.cell? ((⟨b, o, none⟩ : Addr).add j) = some u := by
      intro j u hj
      have hj' : j < xs.length := by
        rcases Nat.lt_or_ge j xs.length with h' | h'
        · exact h'
        · rw [List.getElem?_eq_none (by simpa using h')] at hj; cases hj
      obtain ⟨us, hl1, hr, hat⟩ := hel j hj'
      have hus : us = [.int .u8 xs[j]] := hr
      subst hus
      have h1 := (hat.agree hz hw) 0 _ rfl
      rw [List.getElem?_map, List.getElem?_eq_getElem hj'] at hj
      simp only [Option.map_some, Option.some.injEq] at hj
      rw [add_at, ← hj]
      simpa [Ty.cells] using h1
    have hld := run_loadCells_list (P := P) w' ⟨b, o, none⟩ (xs.map fun n => Value.int .u8 n) hc
    simp only [List.length_map] at hld
    have hlp := bytes_loop P w' xs ByteArray.empty
    simp only [Conv.bytesToString, Sem.run_bind, hld, Result.andThen_ok]
    rw [← Array.forIn_toList]
    simp [bytesStr]
    simpa using foldl_push xs ByteArray.empty

theorem ov_convert (hE : EnvOK B.P E) (h : Rel B σ a.tmps w H φ) {o : Oper} {src dst : Nat} {x : Operand} (ho : o.op = .convert src dst x) {z : A} (hv : opVal E σ (.convert src dst x) = some (true, z)) : ValOK B.P (B.at σ w H φ) a o z := by
  simp only [opVal] at hv
  split at hv
  · rename_i ts td hs hd
    have us := fun w => hE.under hs w
    have ud := fun w => hE.under hd w
    split at hv
    · rename_i k k' n e1 ex
      have hx := h.int ex
      simp only [Option.some.injEq, Prod.mk.injEq, true_and] at hv
      subst hv
      refine ⟨.int k (k.wrap n), rfl, fun w' _ => ?_⟩
      simp only [execOp, ho, hx, Sem.run_bind, convert, us, ud, Result.andThen_ok, e1]
      simp [Conv.intToInt]
    · rename_i k n e1 ex
      have hx := h.int ex
      simp only [Option.some.injEq, Prod.mk.injEq, true_and] at hv
      subst hv
      refine ⟨.string (Utf8.encode n), rfl, fun w' _ => ?_⟩
      simp only [execOp, ho, hx, Sem.run_bind, convert, us, ud, Result.andThen_ok, e1]
      simp [Conv.intToString]
    · rename_i s e1 ex
      have hx := h.str ex
      simp only [Option.some.injEq, Prod.mk.injEq, true_and] at hv
      subst hv
      refine ⟨.string s, rfl, fun w' _ => ?_⟩
      simp only [execOp, ho, hx, Sem.run_bind, convert, us, ud, Result.andThen_ok, e1]
      simp
    · rename_i e y _ _ e1 e2 ex
      split at hv
      · rename_i te ht
        split at hv
        · rename_i e3
          split at hv
          · rename_i xs hr
            simp only [Option.some.injEq, Prod.mk.injEq, true_and] at hv
            subst hv
            have hx := h.eval x
            rw [ex] at hx
            obtain ⟨cs, hb, hrd⟩ := read_rel h.reads hr (show ARel (B.at σ w H φ) (.c y) (a.eval x) from hx)
            have hb' : cs = [a.eval x] := hb
            subst hb'
            have hA : ∃ A l c, a.eval x = .slice A l c := by
              obtain ⟨A, cap, e, _⟩ := hrd
              simp only [List.cons.injEq, and_true] at e
              exact ⟨A, _, cap, e⟩
            refine ⟨.string (bytesStr xs), rfl, fun w' hw0 => ?_⟩
            have hw' := hw0 (by rw [ho]; rfl)
            obtain ⟨A, l, c, eA⟩ := hA
            have hrun := run_bytesToString hrd (hw'.all _)
            rw [eA] at hrun
            simp only [execOp, ho, Sem.run_bind, convert, us, ud, Result.andThen_ok, e1, e2, eA, hE.under ht, e3]
            have hrun' : (Conv.bytesToString (.slice A l c)).run B.P w' = .ok (.string (bytesStr xs)) w' := hrun
            simp [hrun']
          · cases hv
        · cases hv
      · cases hv
    · cases hv
  · cases hv

/-- the bounds of a slice expression -/
theorem bounds_ok (P : Program) (h : Rel B σ a.tmps w H φ) {len cap : Nat} {lo hi : Option Operand} {l u : Nat} (hb : bounds σ len lo hi = some (true, l, u)) (hcap : len ≤ cap) (isS : Bool) :
    l ≤ u ∧ u ≤ len ∧ ∀ w', (Instr.sliceBounds isS len cap (lo.map a.eval) (hi.map a.eval) none).run P w' = .ok (l, u, cap) w' := by
  unfold bounds at hb
  split at hb
  · rename_i lv hv el eh
    simp only [Option.some.injEq, Prod.mk.injEq, Bool.and_eq_true, decide_eq_true_eq] at hb
    obtain ⟨⟨⟨h0, h1⟩, h2⟩, rfl, rfl⟩ := hb
    refine ⟨by omega, by omega, fun w' => ?_⟩
    cases hi with
    | none =>
      simp only [Option.some.injEq] at eh
      subst eh
      cases lo with
      | none =>
        simp only [Option.some.injEq] at el
        subst el
        simp [Instr.sliceBounds]
      | some x =>
        simp only at el
        split at el
        · rename_i k i ex
          simp only [Option.some.injEq] at el
          subst el
          have hx := h.int ex
          simp [Instr.sliceBounds, Instr.sliceBound, hx, asIntOf, h0, h1]
        · cases el
    | some y =>
      simp only at eh
      split at eh
      · rename_i k j ey
        simp only [Option.some.injEq] at eh
        subst eh
        have hy := h.int ey
        have hj0 : 0 ≤ j := by omega
        have hjc : j ≤ (cap : Int) := by omega
        cases lo with
        | none =>
          simp only [Option.some.injEq] at el
          subst el
          simp [Instr.sliceBounds, Instr.sliceBound, hy, asIntOf, hj0, hjc]
        | some x =>
          simp only at el
          split at el
          · rename_i k' i ex
            simp only [Option.some.injEq] at el
            subst el
            have hx := h.int ex
            have hm : max j 0 = j := by omega
            simp [Instr.sliceBounds, Instr.sliceBound, hx, hy, asIntOf, hj0, hjc, h0, h1, hm]
          · cases el
      · cases eh
  · cases hb

theorem boundsM_ok (P : Program) (h : Rel B σ a.tmps w H φ) {len mx cap : Nat} {lo hi : Option Operand} {l u : Nat} (hb : boundsM σ len mx lo hi = some (true, l, u)) (hcap : mx ≤ cap) :
    l ≤ u ∧ u ≤ mx ∧ ∀ w', (Instr.sliceBounds true len cap (lo.map a.eval) (hi.map a.eval) none).run P w' = .ok (l, u, cap) w' := by
  unfold boundsM at hb
  split at hb
  · rename_i lv hv el eh
    simp only [Option.some.injEq, Prod.mk.injEq, Bool.and_eq_true, decide_eq_true_eq] at hb
    obtain ⟨⟨⟨h0, h1⟩, h2⟩, rfl, rfl⟩ := hb
    refine ⟨by omega, by omega, fun w' => ?_⟩
    cases hi with
    | none =>
      simp only [Option.some.injEq] at eh
      subst eh
      cases lo with
      | none =>
        simp only [Option.some.injEq] at el
        subst el
        simp [Instr.sliceBounds]
      | some x =>
        simp only at el
        split at el
        · rename_i k i ex
          simp only [Option.some.injEq] at el
          subst el
          have hx := h.int ex
          simp [Instr.sliceBounds, Instr.sliceBound, hx, asIntOf, h0, h1]
        · cases el
    | some y =>
      simp only at eh
      split at eh
      · rename_i k j ey
        simp only [Option.some.injEq] at eh
        subst eh
        have hy := h.int ey
        have hj0 : 0 ≤ j := by omega
        have hjc : j ≤ (cap : Int) := by omega
        cases lo with
        | none =>
          simp only [Option.some.injEq] at el
          subst el
          simp [Instr.sliceBounds, Instr.sliceBound, hy, asIntOf, hj0, hjc]
        | some x =>
          simp only at el
          split at el
          · rename_i k' i ex
            simp only [Option.some.injEq] at el
            subst el
            have hx := h.int ex
            have hm : max j 0 = j := by omega
            simp [Instr.sliceBounds, Instr.sliceBound, hx, hy, asIntOf, hj0, hjc, h0, h1, hm]
          · cases el
      · cases eh
  · cases hb
/-- a slice's length is known -/
theorem lenC_ok (h : Rel B σ a.tmps w H φ) {y : Cell} {v : Value} {n : Nat} (hl : lenC σ.blks y = some n) (hr : CellRel (B.at σ w H φ) y v) : ∃ A cap, v = .slice A n cap ∧ n ≤ cap := by
  cases y <;> simp only [lenC] at hl <;> try (cases hl; done)
  case sl t xs =>
    obtain rfl := Option.some.inj hl
    obtain ⟨A, cap, e, hc, _⟩ := hr
    simp only [List.cons.injEq, and_true] at e
    exact ⟨A, cap, e, hc⟩
  case nil =>
    obtain rfl := Option.some.inj hl
    obtain ⟨A, e⟩ := hr
    exact ⟨A, 0, e, Nat.le_refl _⟩
  case own m =>
    split at hl
    · rename_i d t xs hm
      obtain rfl := Option.some.inj hl
      obtain ⟨v', hv', hrow⟩ := h.mem.blk m _ hm
      have eH : H m = some v := hr.1
      rw [hv'] at eH
      obtain rfl := Option.some.inj eH
      obtain ⟨A, cap, eA, hc, _⟩ := hrow
      exact ⟨A, cap, eA, hc⟩
    · cases hl
  case sub m o l =>
    obtain rfl := Option.some.inj hl
    obtain ⟨A, c, L, s, _, _, _, A', c', e, hc, _⟩ := hr
    exact ⟨A', c', e, hc⟩

theorem RdC.sub {P : Program} {w : World} {Z : Nat → Prop} {t : Ty} {A : Option Addr} {cap : Nat} {xs : List t.den} (h : RdC P (.slice t) w Z [.slice A xs.length cap] xs) {l u : Nat} (hlu : l ≤ u) (hu : u ≤ xs.length) :
    RdC P (.slice t) w Z [.slice (if cap = l then A else A.map (·.add (l * t.cells))) (u - l) (cap - l)] ((xs.drop l).take (u - l)) := by
  obtain ⟨A', cap', e, hcap, hrow⟩ := h
  simp only [List.cons.injEq, Value.slice.injEq, true_and, and_true] at e
  obtain ⟨rfl, rfl⟩ := e
  have hlen : ((xs.drop l).take (u - l)).length = u - l := by simp; omega
  refine ⟨_, cap - l, by rw [hlen], by rw [hlen]; omega, fun hp => ?_⟩
  rw [hlen] at hp
  obtain ⟨b, o, rfl, hb, hz, hel⟩ := hrow (by omega)
  rw [if_neg (by omega)]
  refine ⟨b, o + l * t.cells, by simp [add_at], hb, hz, fun i hi => ?_⟩
  rw [hlen] at hi
  obtain ⟨us, h1, h2, h3⟩ := hel (l + i) (by omega)
  refine ⟨us, h1, ?_, ?_⟩
  · have : ((xs.drop l).take (u - l))[i]'(by rw [hlen]; exact hi) = xs[l + i]'(by omega) := by simp
    rw [this]; exact h2
  · have : o + (l + i) * t.cells = o + l * t.cells + i * t.cells := by rw [Nat.add_mul, Nat.add_assoc]
    rw [← this]; exact h3

theorem run_sliceAt_slice (hE : EnvOK B.P E) {t e : Nat} {ti te : TInf} (ht : E.T t = some ti) (hd : ti.desc = .slice e) (he : E.T e = some te) (A : Option Addr) (len cap l u : Nat) (lo hi : Option Value) (w : World)
    (hb : (Instr.sliceBounds true len cap lo hi none).run B.P w = .ok (l, u, cap) w) :
    (Instr.sliceAt t (.slice A len cap) lo hi none).run B.P w = .ok (.slice (if cap = l then A else A.map (·.add (l * te.size))) (u - l) (cap - l)) w := by
  simp [Instr.sliceAt, Instr.slice, hE.under ht, hd, hb, hE.size he]

theorem ov_slice (hE : EnvOK B.P E) (h : Rel B σ a.tmps w H φ) {o : Oper} {t : Nat} {x : Operand} {lo hi mx : Option Operand} (ho : o.op = .slice t x lo hi mx) {z : A} (hv : opVal E σ (.slice t x lo hi mx) = some (true, z)) : ValOK B.P (B.at σ w H φ) a o z := by
  simp only [opVal] at hv
  split at hv
  · cases hv
  rename_i ti ht
  have hx := h.eval x
  split at hv
  · -- a string
    rename_i s hd ex
    have hs := h.str ex
    split at hv
    · rename_i g l u hb
      simp only [Option.some.injEq, Prod.mk.injEq] at hv
      obtain ⟨rfl, rfl⟩ := hv
      obtain ⟨h1, h2, h3⟩ := bounds_ok B.P h hb (Nat.le_refl _) false
      exact ⟨.string (s.extract l u), rfl, fun w' _ => by simp [execOp, ho, hs, Instr.sliceAt, Instr.slice, hE.under ht, hd, h3 w']⟩
    · cases hv
  · -- data
    rename_i e ty xs hd ex
    split at hv
    · rename_i te he
      obtain ⟨hsz, hv⟩ := bif_none hv
      have hsz' : te.size = ty.cells := by simpa using hsz
      split at hv
      · rename_i g l u hb
        simp only [Option.some.injEq, Prod.mk.injEq] at hv
        obtain ⟨rfl, rfl⟩ := hv
        rw [ex] at hx
        have hx' : RdC B.P (.slice ty) w (zone B w φ) [a.eval x] xs := hx
        obtain ⟨A, cap, ea, hcap, hrow⟩ := id hx'
        simp only [List.cons.injEq, and_true] at ea
        obtain ⟨h1, h2, h3⟩ := bounds_ok B.P h hb hcap true
        rw [ea] at hx'
        refine ⟨_, hx'.sub h1 h2, fun w' _ => ?_⟩
        have := run_sliceAt_slice hE ht hd he A xs.length cap l u _ _ w' (h3 w')
        rw [hsz'] at this
        simp [execOp, ho, ea, this]
      · cases hv
    · cases hv
  · -- nil
    rename_i e hd ex
    split at hv
    · rename_i te he
      split at hv
      · rename_i g l u hb
        simp only [Option.some.injEq, Prod.mk.injEq] at hv
        obtain ⟨rfl, rfl⟩ := hv
        rw [ex] at hx
        obtain ⟨A, ea⟩ := hx
        obtain ⟨h1, h2, h3⟩ := bounds_ok B.P h hb (Nat.le_refl _) true
        have hl : l = 0 := by omega
        have hu : u = 0 := by omega
        subst hl; subst hu
        refine ⟨.slice A 0 0, ⟨A, rfl⟩, fun w' _ => ?_⟩
        have := run_sliceAt_slice hE ht hd he A 0 0 0 0 _ _ w' (h3 w')
        simp [execOp, ho, ea, this]
      · cases hv
    · cases hv
  · -- a row of this call's
    rename_i e n hd ex
    split at hv
    · rename_i d ty xs te hl he
      obtain ⟨hsz, hv⟩ := bif_none hv
      have hsz' : te.size = ty.cells := by simpa using hsz
      split at hv
      · rename_i g l u hb
        simp only [Option.some.injEq, Prod.mk.injEq] at hv
        obtain ⟨rfl, rfl⟩ := hv
        rw [ex] at hx
        obtain ⟨v', hv', hrow⟩ := h.mem.blk n _ hl
        have eH : H n = some (a.eval x) := hx.1
        have eq : v' = a.eval x := by rw [hv'] at eH; exact Option.some.inj eH
        subst eq
        obtain ⟨A, cap, eA, hcap, hrow⟩ := hrow
        obtain ⟨h1, h2, h3⟩ := bounds_ok B.P h hb hcap true
        refine ⟨.slice (if cap = l then A else A.map (·.add (l * te.size))) (u - l) (cap - l), ⟨A, cap, xs.length, ty.cells, by simp [Base.at, Base.cx, lenOf, hl], by rw [← eA]; exact eH, by omega, _, _, rfl, by omega, fun hp => ?_, rfl, hcap, fun hp => ?_, fun hp => ?_⟩, fun w' _ => ?_⟩
        · rcases hrow with h0 | ⟨g, cur, ety, rfl, hF, hh, hsz2, Fs, f1, f2, f3⟩
          · omega
          · exact ⟨g, rfl, by rw [if_neg (by omega)]; simp [add_at, hsz']⟩
        · rcases hrow with h0 | ⟨g, cur, ety, rfl, hF, hh, hsz2, Fs, f1, f2, f3⟩
          · omega
          · exact ⟨g, rfl, by rw [if_neg (by omega)]; simp [add_at, hsz']⟩
        · subst hp
          rcases hrow with h0 | ⟨g, cur, ety, rfl, hF, hh, hsz2, Fs, f1, f2, f3⟩
          · rw [if_pos h0]
          · split
            · rfl
            · simp [add_at]
        · have := run_sliceAt_slice hE ht hd he A xs.length cap l u _ _ w' (h3 w')
          simp [execOp, ho, eA, this]
      · cases hv
    · cases hv
  · rename_i e n o' len hd ex
    split at hv
    · rename_i d ty xs te hl he
      obtain ⟨hsz, hv⟩ := bif_none hv
      have hsz' : te.size = ty.cells := by simpa using hsz
      split at hv
      · rename_i g l u hb
        simp only [Option.some.injEq, Prod.mk.injEq] at hv
        obtain ⟨rfl, rfl⟩ := hv
        rw [ex] at hx
        obtain ⟨A, c, L, s, e1, e2, e3, A', c', ea, hc', hp', q1, q2, q3, q4⟩ := hx
        have eL : lenOf σ.blks n = some (L, s) := e1
        simp only [lenOf, hl, Option.some.injEq, Prod.mk.injEq] at eL
        obtain ⟨rfl, rfl⟩ := eL
        obtain ⟨h1, h2, h3⟩ := boundsM_ok B.P h (cap := c') hb (by omega)
        refine ⟨.slice (if c' = l then A' else A'.map (·.add (l * te.size))) (u - l) (c' - l), ⟨A, c, _, _, e1, e2, by omega, _, _, rfl, by omega, fun hp => ?_, by omega, q2, fun hp => ?_, fun hp => ?_⟩, fun w' _ => ?_⟩
        · obtain ⟨g, rfl, rfl⟩ := q3 (by omega)
          exact ⟨g, rfl, by rw [if_neg (by omega)]; simp [add_at, hsz', Nat.add_mul]⟩
        · obtain ⟨g, rfl, rfl⟩ := q3 (by omega)
          exact ⟨g, rfl, by rw [if_neg (by omega)]; simp [add_at, hsz', Nat.add_mul]⟩
        · have ho0 : o' = 0 := by omega
          have hl0 : l = 0 := by omega
          subst ho0; subst hl0
          split
          · exact q4 rfl
          · obtain ⟨g, rfl, rfl⟩ := q3 (by omega)
            simp [add_at]
        · have := run_sliceAt_slice hE ht hd he A' len c' l u _ _ w' (h3 w')
          simp [execOp, ho, ea, this]
      · cases hv
    · cases hv
  · -- s[:0:0]
    rename_i e y m hd ex
    split at hv
    · rename_i hh
      split at hv
      · rename_i k1 hv1 k2 mv1 e1 e2
        obtain ⟨hg, hv⟩ := bif_none hv
        obtain ⟨hg, hT⟩ := and_b hg
        obtain ⟨hg, hm0⟩ := and_b hg
        obtain ⟨hs, hh0⟩ := and_b hg
        simp only [Option.some.injEq, Prod.mk.injEq, true_and] at hv
        subst hv
        have hh0 : hv1 = 0 := by simpa using hh0
        have hm0 : mv1 = 0 := by simpa using hm0
        subst hh0; subst hm0
        have i1 := h.int e1
        have i2 := h.int e2
        rw [ex] at hx
        have hsl : ∃ A l c, a.eval x = .slice A l c := by
          cases y <;> simp only [isSliceCell] at hs <;> try (cases hs; done)
          · obtain ⟨A, c, ea, _⟩ := hx
            simp only [List.cons.injEq, and_true] at ea
            exact ⟨A, _, c, ea⟩
          · obtain ⟨A, ea⟩ := hx
            exact ⟨A, 0, 0, ea⟩
          · exact hx.2
          · obtain ⟨A, c, L, s, e1, e2, e3, A', c', ea, _⟩ := hx
            exact ⟨A', _, c', ea⟩
        obtain ⟨A, l, c, ea⟩ := hsl
        cases hte : E.T e with
        | none => rw [hte] at hT; cases hT
        | some te =>
          refine ⟨.slice A 0 0, ⟨A, rfl⟩, fun w' _ => ?_⟩
          simp [execOp, ho, ea, i1, i2, Instr.sliceAt, Instr.slice, hE.under ht, hd, Instr.sliceBounds, Instr.sliceBound, asIntOf, hE.size hte]
      · cases hv
    · rename_i ll hh
      split at hv
      · rename_i k0 lv k1 hv1 k2 mv1 n e0 e1 e2 hlen
        obtain ⟨hT, hv⟩ := bif_none hv
        simp only [Option.some.injEq, Prod.mk.injEq, Bool.and_eq_true, decide_eq_true_eq] at hv
        obtain ⟨⟨⟨⟨g0, g1⟩, g2⟩, g3⟩, rfl⟩ := hv
        have i0 := h.int e0
        have i1 := h.int e1
        have i2 := h.int e2
        rw [ex] at hx
        obtain ⟨A, cap, ea, hcap⟩ := lenC_ok h hlen hx
        cases hte : E.T e with
        | none => rw [hte] at hT; cases hT
        | some te =>
          have b1 : 0 ≤ mv1 ∧ mv1 ≤ (cap : Int) := by omega
          have b2 : 0 ≤ hv1 ∧ hv1 ≤ (mv1.toNat : Int) := by omega
          have b3 : 0 ≤ lv ∧ lv ≤ (hv1.toNat : Int) := by omega
          refine ⟨.slice (if mv1.toNat = lv.toNat then A else A.map (·.add (lv.toNat * te.size))) (hv1.toNat - lv.toNat) (mv1.toNat - lv.toNat), trivial, fun w' _ => ?_⟩
          simp only [execOp, ho, ea, i0, i1, i2, Option.map_some, Instr.sliceAt, Instr.slice, Sem.run_bind, hE.under ht, hd, Result.andThen_ok, Instr.sliceBounds, Instr.sliceBound, asIntOf, Sem.run_pure, if_pos b1, if_pos b2, if_pos b3, hE.size hte]
      · cases hv
    · cases hv
  · cases hv

/-! ### Literals -/
theorem constCell_rel {C : Cx} : ∀ {v : Value} {c : Cell}, constCell v = some c → CellRel C c v := by
  intro v c h
  unfold constCell at h
  split at h <;> simp only [Option.some.injEq, reduceCtorEq] at h <;> subst h <;> first | rfl | exact ⟨none, rfl⟩
theorem constCells_rel {C : Cx} : ∀ {vs : List Value} {cs : List Cell}, constCells vs = some cs → All2 (CellRel C) cs vs
  | [], cs, h => by simp only [constCells, Option.some.injEq] at h; subst h; trivial
  | v :: vs, cs, h => by
    simp only [constCells] at h
    split at h
    · rename_i c r h1 h2
      simp only [Option.some.injEq] at h
      subst h
      exact ⟨constCell_rel h1, constCells_rel h2⟩
    · cases h

/-- cells laid over cells -/
theorem putN_rel {C : Cx} : ∀ {n : Nat} {vs l r : List Cell} {us ls : List Value}, putN n vs l = some r → All2 (CellRel C) vs us → All2 (CellRel C) l ls →
    n + us.length ≤ ls.length ∧ All2 (CellRel C) r (ls.take n ++ us ++ ls.drop (n + us.length))
  | 0, [], l, r, us, ls, h, hv, hl => by
    simp only [putN, Option.some.injEq] at h
    subst h
    cases us with
    | nil => exact ⟨by simp, by simpa using hl⟩
    | cons _ _ => exact hv.elim
  | 0, v :: vs, [], r, us, ls, h, hv, hl => by simp [putN] at h
  | 0, v :: vs, x :: l, r, [], ls, h, hv, hl => hv.elim
  | 0, v :: vs, x :: l, r, u :: us, [], h, hv, hl => hl.elim
  | 0, v :: vs, x :: l, r, u :: us, y :: ls, h, hv, hl => by
    simp only [putN] at h
    split at h
    · rename_i r' h'
      simp only [Option.some.injEq] at h
      subst h
      obtain ⟨h1, h2⟩ := putN_rel h' hv.2 hl.2
      refine ⟨by simp at h1 ⊢; omega, ?_⟩
      simp only [List.take_zero, List.nil_append, Nat.zero_add, List.length_cons, List.drop_succ_cons, List.cons_append] at h2 ⊢
      exact ⟨hv.1, h2⟩
    · cases h
  | n + 1, vs, [], r, us, ls, h, hv, hl => by cases vs <;> simp [putN] at h
  | n + 1, vs, x :: l, r, us, [], h, hv, hl => hl.elim
  | n + 1, vs, x :: l, r, us, y :: ls, h, hv, hl => by
    cases h1 : putN n vs l with
    | none => cases vs <;> simp [putN, h1] at h
    | some r' =>
      have h' : x :: r' = r := by cases vs <;> simpa [putN, h1] using h
      subst h'
      obtain ⟨h2, h3⟩ := putN_rel h1 hv hl.2
      refine ⟨by simp at h2 ⊢; omega, ?_⟩
      have : n + 1 + us.length = (n + us.length) + 1 := by omega
      simp only [this, List.take_succ_cons, List.drop_succ_cons, List.cons_append]
      exact ⟨hl.1, h3⟩

/-- Go's own filling in of an aggregate's parts -/
theorem foldl_zip_set : ∀ (vs : List Value) (i : Nat) (cs : Array Value) (off : Nat), off + i + vs.length ≤ cs.size →
    ((vs.zipIdx i).foldl (fun cs (c, j) => cs.setIfInBounds (off + j) c) cs).toList = cs.toList.take (off + i) ++ vs ++ cs.toList.drop (off + i + vs.length)
  | [], i, cs, off, h => by simp
  | v :: vs, i, cs, off, h => by
    simp only [List.length_cons] at h
    simp only [List.zipIdx_cons, List.foldl_cons]
    rw [foldl_zip_set vs (i + 1) _ off (by simp; omega)]
    have e := list_seg_step cs.toList (off + i) v vs (by simp; omega)
    simpa [Array.toList_setIfInBounds, Nat.add_assoc] using e

theorem plainA_spec {x : A} (h : plainA x = true) : (∀ xs, x ≠ .tup xs) ∧ x ≠ .any := by
  cases x <;> simp_all [plainA]

theorem fillA_rel (hE : EnvOK B.P E) (h : Rel B σ a.tmps w H φ) {fs : Array Field} : ∀ {parts : List (Nat × Operand)} {cs cs' : List Cell} {us : Array Value}, fillA E fs σ parts cs = some cs' → All2 (CellRel (B.at σ w H φ)) cs us.toList →
    ∀ (place : Nat → Option (Nat × Nat)), (∀ i fl j, fs[i]? = some fl → E.T fl.type = some j → place i = some (fl.offset, j.size)) →
    ∃ us', Instr.fill place us (parts.map fun p => (p.1, a.eval p.2)) = some us' ∧ All2 (CellRel (B.at σ w H φ)) cs' us'.toList
  | [], cs, cs', us, hf, hc, place, hpl => by
    simp only [fillA, Option.some.injEq] at hf
    subst hf
    exact ⟨us, rfl, hc⟩
  | (i, x) :: r, cs, cs', us, hf, hc, place, hpl => by
    simp only [fillA] at hf
    split at hf
    · cases hf
    rename_i fl hfl
    split at hf
    · cases hf
    rename_i j hj
    obtain ⟨hlen, hf⟩ := bif_none hf
    obtain ⟨hpl0, hlen⟩ := and_b hlen
    have hlen' : (σ.eval x).cells.length = j.size := by simpa using hlen
    split at hf
    · rename_i cs1 hput
      obtain ⟨p1, p2⟩ := plainA_spec hpl0
      have hx := ARel.cells (h.eval x) p1 p2
      obtain ⟨hb, hal⟩ := putN_rel hput hx hc
      have hsz : (a.eval x).cells.size = j.size := by rw [← hlen', hx.length]; simp
      have hfold := foldl_zip_set (a.eval x).cells.toList 0 us fl.offset (by simpa using hb)
      simp only [Nat.add_zero] at hfold
      obtain ⟨us', e1, e2⟩ := fillA_rel hE h (us := ((a.eval x).cells.toList.zipIdx.foldl (fun cs (c, j) => cs.setIfInBounds (fl.offset + j) c) us)) hf (by rw [hfold]; exact hal) place hpl
      refine ⟨us', ?_, e2⟩
      simp only [List.map_cons, Instr.fill, hpl i fl j hfl hj]
      have hle : ¬ (fl.offset + (a.eval x).cells.size > us.size) := by have := hb; simp at this; omega
      rw [if_neg (by simp [hsz]; simp [hsz] at hle; omega)]
      rw [← e1]
      congr 1
      rw [← Array.foldl_toList]
      simp
    · cases hf

theorem fillL_rel {zs : List Cell} (h : Rel B σ a.tmps w H φ) {size : Nat} : ∀ {parts : List (Nat × Operand)} {cs cs' : List Cell} {us : Array Value}, fillL σ size parts cs = some cs' → All2 (CellRel (B.at σ w H φ)) cs us.toList →
    ∃ us', Instr.fill (fun i => some (i * size, size)) us (parts.map fun p => (p.1, a.eval p.2)) = some us' ∧ All2 (CellRel (B.at σ w H φ)) cs' us'.toList
  | [], cs, cs', us, hf, hc => by
    simp only [fillL, Option.some.injEq] at hf
    subst hf
    exact ⟨us, rfl, hc⟩
  | (i, x) :: r, cs, cs', us, hf, hc => by
    simp only [fillL] at hf
    obtain ⟨hlen, hf⟩ := bif_none hf
    obtain ⟨hpl0, hlen⟩ := and_b hlen
    have hlen' : (σ.eval x).cells.length = size := by simpa using hlen
    split at hf
    · rename_i cs1 hput
      obtain ⟨p1, p2⟩ := plainA_spec hpl0
      have hx := ARel.cells (h.eval x) p1 p2
      obtain ⟨hb, hal⟩ := putN_rel hput hx hc
      have hsz : (a.eval x).cells.size = size := by rw [← hlen', hx.length]; simp
      have hfold := foldl_zip_set (a.eval x).cells.toList 0 us (i * size) (by simpa using hb)
      simp only [Nat.add_zero] at hfold
      obtain ⟨us', e1, e2⟩ := fillL_rel (zs := zs) h (us := ((a.eval x).cells.toList.zipIdx.foldl (fun cs (c, j) => cs.setIfInBounds (i * size + j) c) us)) hf (by rw [hfold]; exact hal)
      refine ⟨us', ?_, e2⟩
      simp only [List.map_cons, Instr.fill]
      have hle : ¬ (i * size + (a.eval x).cells.size > us.size) := by have := hb; simp at this; omega
      rw [if_neg (by simp [hsz]; simp [hsz] at hle; omega)]
      rw [← e1]
      congr 1
      rw [← Array.foldl_toList]
      simp
    · cases hf

theorem places_ok (hE : EnvOK B.P E) : ∀ (fs : List Field), (∀ fl ∈ fs, (E.T fl.type).isSome = true) → ∀ w, (fs.mapM fun f => (do pure (f.offset, ← sizeOf f.type) : Sem (Nat × Nat))).run B.P w = .ok (fs.map fun f => (f.offset, ((E.T f.type).map (·.size)).getD 0)) w
  | [], _, w => by simp
  | f :: fs, hf, w => by
    have h1 := hf f (by simp)
    obtain ⟨i, hi⟩ := Option.isSome_iff_exists.1 h1
    rw [List.mapM_cons]
    simp only [Sem.run_bind, hE.size hi, Result.andThen_ok, Sem.run_pure]
    rw [places_ok hE fs (fun fl hfl => hf fl (by simp [hfl])) w]
    simp [hi]

theorem ov_build (hE : EnvOK B.P E) (h : Rel B σ a.tmps w H φ) {o : Oper} {t : Nat} {parts : Array (Nat × Operand)} (ho : o.op = .build t parts) {z : A} (hv : opVal E σ (.build t parts) = some (true, z)) : ValOK B.P (B.at σ w H φ) a o z := by
  simp only [opVal] at hv
  split at hv
  · cases hv
  rename_i ti ht
  split at hv
  · rename_i fs zv hd hz
    split at hv
    · rename_i zs hzs
      obtain ⟨hall, hv⟩ := bif_none hv
      split at hv
      · rename_i cs hf
        simp only [Option.some.injEq, Prod.mk.injEq, true_and] at hv
        subst hv
        have hall' : ∀ fl ∈ fs.toList, (E.T fl.type).isSome = true := List.all_eq_true.1 hall
        have hzr : All2 (CellRel (B.at σ w H φ)) zs zv.cells.toList := constCells_rel hzs
        obtain ⟨us', e1, e2⟩ := fillA_rel hE h hf hzr ((fs.toList.map fun f => (f.offset, ((E.T f.type).map (·.size)).getD 0)).toArray[·]?) (fun i fl j hi hj => by
          have hi' : fs.toList[i]? = some fl := by simpa using hi
          simp [List.getElem?_map, hi, hj])
        refine ⟨.agg us', ⟨_, rfl, e2⟩, fun w' _ => ?_⟩
        have hpl := places_ok hE fs.toList hall' w'
        have hpl' : (fs.mapM fun f => (do pure (f.offset, ← sizeOf f.type) : Sem (Nat × Nat))).run B.P w' = .ok (fs.toList.map fun f => (f.offset, ((E.T f.type).map (·.size)).getD 0)).toArray w' := by
          rw [Array.mapM_eq_mapM_toList]
          simp only [Sem.run_map, hpl, Result.andThen_ok]
        simp only [execOp, ho, Sem.run_bind, Instr.build, hE.zero ht hz, Result.andThen_ok, hE.under ht, hd, hpl']
        have e1' : Instr.fill ((fs.toList.map fun f => (f.offset, ((E.T f.type).map (·.size)).getD 0)).toArray[·]?) zv.cells ((parts.map fun x => (x.1, a.eval x.2)).toList) = some us' := by
          simpa using e1
        simp only [e1']
        simp
      · cases hv
    · cases hv
  · rename_i len e zv hd hz
    split at hv
    · rename_i zs te hzs he
      split at hv
      · rename_i cs hf
        simp only [Option.some.injEq, Prod.mk.injEq, true_and] at hv
        subst hv
        have hzr : All2 (CellRel (B.at σ w H φ)) zs zv.cells.toList := constCells_rel hzs
        obtain ⟨us', e1, e2⟩ := fillL_rel (zs := zs) h hf hzr
        refine ⟨.agg us', ⟨_, rfl, e2⟩, fun w' _ => ?_⟩
        have e1' : Instr.fill (fun i => some (i * te.size, te.size)) zv.cells ((parts.map fun x => (x.1, a.eval x.2)).toList) = some us' := by
          simpa using e1
        simp only [execOp, ho, Sem.run_bind, Instr.build, hE.zero ht hz, Result.andThen_ok, hE.under ht, hd, hE.size he, e1']
        simp
      · cases hv
    · cases hv
  · cases hv

theorem foldInt_ok (P : Program) (C : Cx) (f : Int → Int → Int) (g : Value → Value → Sem Value) (hg : ∀ k x k' y w, (g (.int k x) (.int k' y)).run P w = .ok (.int k (f x y)) w) (k : IntKind) : ∀ (xs : List A) (vs : List Value) (x m : Int), foldInt f k x xs = some m → All2 (ARel C) xs vs → ∀ w, (vs.foldlM g (.int k x)).run P w = .ok (.int k m) w
  | [], [], x, m, h, _, w => by
    simp only [foldInt, Option.some.injEq] at h
    subst h
    simp
  | [], _ :: _, x, m, h, ha, w => ha.elim
  | x :: xs, [], y, m, h, ha, w => ha.elim
  | x :: xs, v :: vs, y, m, h, ha, w => by
    unfold foldInt at h
    split at h
    · rename_i heq; cases heq
    · rename_i k' z r heq
      simp only [List.cons.injEq] at heq
      obtain ⟨rfl, rfl⟩ := heq
      split at h
      · have hv : v = .int k' z := ha.1
        subst hv
        rw [List.foldlM_cons]
        simp only [Sem.run_bind, hg, Result.andThen_ok]
        exact foldInt_ok P C f g hg k xs vs _ m h ha.2 w
      · cases h
    · cases h

theorem ov_min (h : Rel B σ a.tmps w H φ) {o : Oper} {xs : Array Operand} {ts : Array TypeId} (ho : o.op = .call { callee := .builtin .min, args := xs, argTypes := ts }) {z : A} (hv : opVal E σ (.call { callee := .builtin .min, args := xs, argTypes := ts }) = some (true, z)) : ValOK B.P (B.at σ w H φ) a o z := by
  simp only [opVal] at hv
  split at hv
  · rename_i x r hxs
    split at hv
    · rename_i k n ex
      split at hv
      · rename_i m hm
        simp only [Option.some.injEq, Prod.mk.injEq, true_and] at hv
        subst hv
        have hx := h.int ex
        have hr := foldInt_ok B.P (B.at σ w H φ) minI Builtin.min2 (fun k x k' y w => by simp [Builtin.min2, minI]) k (r.map σ.eval) (r.map a.eval) n m hm (h.evals r)
        refine ⟨.int k m, rfl, fun w' _ => ?_⟩
        have e : xs = (x :: r).toArray := by rw [← hxs]
        simp [execOp, ho, resolve, invoke, builtin, Builtin.min_, e, hx, hr w']
      · cases hv
    · cases hv
  · cases hv
theorem ov_max (h : Rel B σ a.tmps w H φ) {o : Oper} {xs : Array Operand} {ts : Array TypeId} (ho : o.op = .call { callee := .builtin .max, args := xs, argTypes := ts }) {z : A} (hv : opVal E σ (.call { callee := .builtin .max, args := xs, argTypes := ts }) = some (true, z)) : ValOK B.P (B.at σ w H φ) a o z := by
  simp only [opVal] at hv
  split at hv
  · rename_i x r hxs
    split at hv
    · rename_i k n ex
      split at hv
      · rename_i m hm
        simp only [Option.some.injEq, Prod.mk.injEq, true_and] at hv
        subst hv
        have hx := h.int ex
        have hr := foldInt_ok B.P (B.at σ w H φ) maxI Builtin.max2 (fun k x k' y w => by simp [Builtin.max2, maxI]) k (r.map σ.eval) (r.map a.eval) n m hm (h.evals r)
        refine ⟨.int k m, rfl, fun w' _ => ?_⟩
        have e : xs = (x :: r).toArray := by rw [← hxs]
        simp [execOp, ho, resolve, invoke, builtin, Builtin.max_, e, hx, hr w']
      · cases hv
    · cases hv
  · cases hv

theorem ov_len (hE : EnvOK B.P E) (h : Rel B σ a.tmps w H φ) {o : Oper} {xs : Array Operand} {ts : Array TypeId} (ho : o.op = .call { callee := .builtin .len, args := xs, argTypes := ts }) {z : A} (hv : opVal E σ (.call { callee := .builtin .len, args := xs, argTypes := ts }) = some (true, z)) : ValOK B.P (B.at σ w H φ) a o z := by
  simp only [opVal] at hv
  split at hv
  · rename_i x t r hxs hts
    split at hv
    · cases hv
    rename_i ti ht
    have exs : xs = #[x] := by rw [← Array.toArray_toList (xs := xs), hxs]
    have ets : ts[0]? = some t := by rw [← Array.getElem?_toList, hts]; rfl
    have hx := h.eval x
    split at hv
    · rename_i s hd ex
      have hs := h.str ex
      simp only [Option.some.injEq, Prod.mk.injEq, true_and] at hv
      subst hv
      exact ⟨.int .i64 (s.size : Int), rfl, fun w' _ => by simp [execOp, ho, resolve, invoke, builtin, Builtin.len_, exs, ets, hs, hE.under ht, hd, goInt]⟩
    · rename_i e ty ys hd ex
      simp only [Option.some.injEq, Prod.mk.injEq, true_and] at hv
      subst hv
      rw [ex] at hx
      obtain ⟨A, cap, ea, _⟩ := hx
      simp only [List.cons.injEq, and_true] at ea
      exact ⟨.int .i64 (ys.length : Int), rfl, fun w' _ => by simp [execOp, ho, resolve, invoke, builtin, Builtin.len_, exs, ets, ea, hE.under ht, hd, goInt]⟩
    · rename_i e hd ex
      simp only [Option.some.injEq, Prod.mk.injEq, true_and] at hv
      subst hv
      rw [ex] at hx
      obtain ⟨A, ea⟩ := hx
      exact ⟨.int .i64 0, rfl, fun w' _ => by simp [execOp, ho, resolve, invoke, builtin, Builtin.len_, exs, ets, ea, hE.under ht, hd, goInt]⟩
    · rename_i e n off l hd ex
      simp only [Option.some.injEq, Prod.mk.injEq, true_and] at hv
      subst hv
      rw [ex] at hx
      obtain ⟨A, c, L, s, e1, e2, e3, A', c', ea, _⟩ := hx
      exact ⟨.int .i64 (l : Int), rfl, fun w' _ => by simp [execOp, ho, resolve, invoke, builtin, Builtin.len_, exs, ets, ea, hE.under ht, hd, goInt]⟩
    · rename_i e n hd ex
      split at hv
      · rename_i d ty ys hl
        simp only [Option.some.injEq, Prod.mk.injEq, true_and] at hv
        subst hv
        rw [ex] at hx
        obtain ⟨v', hv', hrow⟩ := h.mem.blk n _ hl
        have eH : H n = some (a.eval x) := hx.1
        have eq : v' = a.eval x := by rw [hv'] at eH; exact Option.some.inj eH
        subst eq
        obtain ⟨A, cap, ea, _⟩ := hrow
        exact ⟨.int .i64 (ys.length : Int), rfl, fun w' _ => by simp [execOp, ho, resolve, invoke, builtin, Builtin.len_, exs, ets, ea, hE.under ht, hd, goInt]⟩
      · cases hv
    · cases hv
  · cases hv

/-! ### Maps -/
theorem toA_valV {C : Cx} {t : Ty} (ht : t.scal = true) (y : t.den) : ARel C (t.toA y) (t.valV y) := by
  cases t with
  | st t => exact toA_rel ⟨_, rfl, (RdC.scal (.st t) ht _ y).2 (by simp [Ty.vals])⟩
  | int kk => exact toA_rel ⟨_, rfl, (RdC.scal (.int kk) ht _ y).2 rfl⟩
  | bool => exact toA_rel ⟨_, rfl, (RdC.scal .bool ht _ y).2 rfl⟩
  | str => exact toA_rel ⟨_, rfl, (RdC.scal .str ht _ y).2 rfl⟩
  | unit => trivial
  | pair _ _ => trivial
  | slice _ => simp [Ty.scal] at ht
  | ptr _ => simp [Ty.scal] at ht
  | fn _ _ => simp [Ty.scal] at ht
  | map _ _ => simp [Ty.scal] at ht

theorem RdV.valV {P : Program} {w : World} {Z : Nat → Prop} {t : Ty} (ht : t.scal = true) {v : Value} {x : t.den} (h : RdV P t w Z v x) : v = t.valV x := by
  obtain ⟨cs, h1, h2⟩ := h
  have e := (RdC.scal t ht cs x).1 h2
  subst e
  cases t with
  | st t => exact h1
  | int kk => simpa [Boxed, Ty.vals, Ty.valV, eq_comm] using h1
  | bool => simpa [Boxed, Ty.vals, Ty.valV, eq_comm] using h1
  | str => simpa [Boxed, Ty.vals, Ty.valV, eq_comm] using h1
  | unit => simp [Boxed, Ty.vals] at h1
  | pair a b =>
    have h1 : (Ty.pair a b).vals x = [v] := h1
    simp [Ty.valV, h1]
  | slice _ => simp [Ty.scal] at ht
  | ptr _ => simp [Ty.scal] at ht
  | fn _ _ => simp [Ty.scal] at ht
  | map _ _ => simp [Ty.scal] at ht


theorem tyOfD_key {T : Nat → Option TInf} : ∀ {n t : Nat} {kty : Ty}, tyOfD T n t = some kty → kty.isKey = true → ∃ i, T t = some i ∧ ((∃ kk, i.desc = .int kk ∧ kty = .int kk) ∨ (i.desc = .string ∧ kty = .str))
  | 0, t, kty, h, hk => by cases h
  | n + 1, t, kty, h, hk => by
    simp only [tyOfD] at h
    split at h
    · cases h
    rename_i i hi
    refine ⟨i, hi, ?_⟩
    split at h
    · rename_i k hd
      simp only [Option.some.injEq] at h
      exact .inl ⟨k, hd, h.symm⟩
    · simp only [Option.some.injEq] at h
      subst h
      simp [Ty.isKey] at hk
    · rename_i hd
      simp only [Option.some.injEq] at h
      exact .inr ⟨hd, h.symm⟩
    · simp only [Option.map_eq_some_iff] at h
      obtain ⟨_, _, rfl⟩ := h
      simp [Ty.isKey] at hk
    · simp only [Option.map_eq_some_iff] at h
      obtain ⟨_, _, rfl⟩ := h
      simp [Ty.isKey] at hk
    · simp only [Option.map_eq_some_iff] at h
      obtain ⟨_, _, rfl⟩ := h
      simp [Ty.isKey] at hk
    · split at h
      · simp only [Option.some.injEq] at h
        subst h
        simp [Ty.isKey] at hk
      · cases h
    · cases h

abbrev KeyD (kty : Ty) (d : TypeDesc) : Prop := (∃ kk, d = .int kk ∧ kty = .int kk) ∨ (d = .string ∧ kty = .str)
theorem keyD_isKey {kty : Ty} {d : TypeDesc} (hd : KeyD kty d) (a : kty.den) : MapKept.IsKey d (kty.valV a) := by
  rcases hd with ⟨kk, rfl, rfl⟩ | ⟨rfl, rfl⟩
  · exact rfl
  · exact trivial
theorem sameNow_key {kty : Ty} {d : TypeDesc} (hd : KeyD kty d) (a b : kty.den) : Instr.sameNow d (kty.valV a) (kty.valV b) = some (kty.keq a b) := by
  rcases hd with ⟨kk, rfl, rfl⟩ | ⟨rfl, rfl⟩
  · simp [Instr.sameNow, Ty.valV, Ty.vals, Ty.keq]
  · simp [Instr.sameNow, Ty.valV, Ty.vals, Ty.keq, beq_toListBytes]
theorem sameBits_key {kty : Ty} {d : TypeDesc} (hd : KeyD kty d) {a b : kty.den} (h : kty.keq a b = true) (n : Nat) : Instr.sameBits n (kty.valV b) (kty.valV a) = true := by
  rcases hd with ⟨kk, rfl, rfl⟩ | ⟨rfl, rfl⟩
  · have h' : a = b := by simpa [Ty.keq] using h
    subst h'
    simp [Instr.sameBits, Ty.valV, Ty.vals]
  · have h' : a.toList = b.toList := by simpa [Ty.keq] using h
    simp [Instr.sameBits, Ty.valV, Ty.vals, beq_toListBytes, h']

theorem findNow_rep {k v : Ty} {d : TypeDesc} (hs : ∀ a b : k.den, Instr.sameNow d (k.valV a) (k.valV b) = some (k.keq a b)) (key : k.den) : ∀ (es : List (k.den × v.den)) (ents : List MapEntry) (i : Nat), MapRep k v es ents →
    (mfind k v key es = none ∧ Instr.findNow d (k.valV key) ents i = some none ∧ ∀ y, mput k v key y es = es ++ [(key, y)]) ∨
    (∃ j p, es[j]? = some p ∧ k.keq key p.1 = true ∧ mfind k v key es = some p.2 ∧ Instr.findNow d (k.valV key) ents i = some (some (i + j, v.valV p.2)) ∧ ∀ y, mput k v key y es = es.set j (key, y))
  | [], [], i, _ => .inl ⟨rfl, rfl, fun _ => rfl⟩
  | [], _ :: _, i, h => h.elim
  | _ :: _, [], i, h => h.elim
  | p :: es, e :: ents, i, h => by
    have hk := hs key p.1
    rw [← h.1.1] at hk
    cases hq : k.keq key p.1 with
    | true =>
      rw [hq] at hk
      exact .inr ⟨0, p, rfl, hq, by simp [mfind, hq], by simp [Instr.findNow, hk, h.1.2], fun y => by simp [mput, hq]⟩
    | false =>
      rw [hq] at hk
      rcases findNow_rep hs key es ents (i + 1) h.2 with ⟨a1, a2, a3⟩ | ⟨j, q, b0, b1, b2, b3, b4⟩
      · exact .inl ⟨by simp [mfind, hq, a1], by simp [Instr.findNow, hk, a2], fun y => by simp [mput, hq, a3]⟩
      · exact .inr ⟨j + 1, q, by simpa using b0, b1, by simp [mfind, hq, b2], by simp [Instr.findNow, hk, b3]; omega, fun y => by simp [mput, hq, b4]⟩

theorem All2.modify {α β : Type} {R : α → β → Prop} {a : α} {f : β → β} (hf : ∀ x b, R x b → R a (f b)) : ∀ {l : List α} {m : List β} (j : Nat), All2 R l m → All2 R (l.set j a) (m.modify j f)
  | [], [], j, _ => by simp [All2]
  | [], _ :: _, _, h => h.elim
  | _ :: _, [], _, h => h.elim
  | x :: l, y :: m, 0, h => by simpa [All2] using ⟨hf x y h.1, h.2⟩
  | x :: l, y :: m, j + 1, h => by simpa [All2] using ⟨h.1, All2.modify hf j h.2⟩
theorem All2.snoc {α β : Type} {R : α → β → Prop} {l : List α} {m : List β} {a : α} {b : β} (h : All2 R l m) (hab : R a b) : All2 R (l ++ [a]) (m ++ [b]) := h.append ⟨hab, trivial⟩

/-- looking up -/
theorem run_lookup_rep {P : Program} {w : World} {b t kt vt : Nat} {ents : Array MapEntry} {clock : Nat} {kty vty : Ty} {d : TypeDesc} {es : List (kty.den × vty.den)} (ht : P.underlying t = some (.map kt vt)) (hk : P.underlying kt = some d) (hd : KeyD kty d)
    (hb : w.heap[b]? = some (.map ents clock)) (hr : MapRep kty vty es ents.toList) {dz : vty.den} (hz : (zeroValue vt).run P w = .ok (vty.valV dz) w) (key : kty.den) (ok : Bool) :
    (Instr.lookup t (.map (some b)) (kty.valV key) ok).run P w = .ok (if ok then .tuple #[vty.valV (mget kty vty key es dz), .bool (mhas kty vty key es)] else vty.valV (mget kty vty key es dz)) w := by
  have hc : ∀ e, (Instr.checkKey e 10000 kt (kty.valV key)).run P w = .ok () w := fun e => MapKept.run_checkKey hk (keyD_isKey hd key) e 9999
  rcases findNow_rep (sameNow_key hd) key es ents.toList 0 hr with ⟨a1, a2, _⟩ | ⟨j, p, _, _, b2, b3, _⟩
  · have hf := MapKept.run_findKey (w := w) hk a2
    simp only [Instr.lookup, Sem.run_bind, run_underlying ht, Result.andThen_ok, MapKept.run_getObj_map hb, Sem.run_pure, hc, hf, hz, mget, mhas, a1]
  · have hf := MapKept.run_findKey (w := w) hk b3
    simp only [Instr.lookup, Sem.run_bind, run_underlying ht, Result.andThen_ok, MapKept.run_getObj_map hb, Sem.run_pure, hc, hf, mget, mhas, b2]

/-- what an update leaves -/
theorem run_mapUpdate_rep {P : Program} {w : World} {b t kt vt : Nat} {ents : Array MapEntry} {clock : Nat} {kty vty : Ty} {d : TypeDesc} {es : List (kty.den × vty.den)} (ht : P.underlying t = some (.map kt vt)) (hk : P.underlying kt = some d) (hd : KeyD kty d)
    (hb : w.heap[b]? = some (.map ents clock)) (hr : MapRep kty vty es ents.toList) (key : kty.den) (y : vty.den) :
    ∃ ents' clock', (Instr.mapUpdate t (.map (some b)) (kty.valV key) (vty.valV y)).run P w = .ok () { w with heap := w.heap.setIfInBounds b (.map ents' clock') } ∧ MapRep kty vty (mput kty vty key y es) ents'.toList := by
  have hc : ∀ e, (Instr.checkKey e 10000 kt (kty.valV key)).run P w = .ok () w := fun e => MapKept.run_checkKey hk (keyD_isKey hd key) e 9999
  rcases findNow_rep (sameNow_key hd) key es ents.toList 0 hr with ⟨a1, a2, a3⟩ | ⟨j, p, b0, b1, b2, b3, b4⟩
  · have hf := MapKept.run_findKey (w := w) hk a2
    refine ⟨ents.push { key := kty.valV key, val := vty.valV y, born := clock }, clock + 1, ?_, ?_⟩
    · simp only [Instr.mapUpdate, Sem.run_bind, run_underlying ht, Result.andThen_ok, MapKept.run_getObj_map hb, hc, hf, MapKept.run_setObj_map _ hb]
    · rw [a3, Array.toList_push]
      exact All2.snoc hr ⟨rfl, rfl⟩
  · rw [Nat.zero_add] at b3
    have hf := MapKept.run_findKey (w := w) hk b3
    refine ⟨ents.modify j fun e => { e with key := kty.valV key, val := vty.valV y }, clock, ?_, ?_⟩
    · have hold : (((ents[j]?).map (·.key)).getD (kty.valV key)) = kty.valV p.1 := by
        obtain ⟨e, he, hrel⟩ := All2.get hr j p b0
        have : ents[j]? = some e := by simpa using he
        simp [this, hrel.1]
      have hs : Instr.sameBits 10000 (kty.valV p.1) (kty.valV key) = true := sameBits_key hd b1 10000
      have hst : (Instr.keyThatStays (kty.valV p.1) (kty.valV key)).run P w = .ok (kty.valV key) w := by
        simp only [Instr.keyThatStays, hs, if_true, Sem.run_pure]
      simp only [Instr.mapUpdate, Sem.run_bind, run_underlying ht, Result.andThen_ok, MapKept.run_getObj_map hb, hc, hf, hold, hst, MapKept.run_setObj_map _ hb]
    · rw [b4, Array.toList_modify]
      exact All2.modify (fun _ _ _ => ⟨rfl, rfl⟩) j hr

theorem constA_rel {C : Cx} (z : Value) : ARel C (constA z) z := by
  unfold constA
  split
  · rfl
  · rfl
  · rfl
  · exact ⟨none, rfl⟩
  · trivial
theorem zeroA_rel {C : Cx} (z : Value) : ARel C (zeroA z) z := by
  unfold zeroA
  split
  · rename_i cs
    split
    · rename_i zs hz
      exact ⟨cs, rfl, constCells_rel hz⟩
    · trivial
  · exact constA_rel _

theorem tyOfD_shape {T : Nat → Option TInf} : ∀ {n t : Nat} {ty : Ty}, tyOfD T n t = some ty → ∃ i, T t = some i ∧ ((isAggD i.desc = true ∧ ∃ a, ty = .st a) ∨ (isAggD i.desc = false ∧ ((∃ k, ty = .int k) ∨ ty = .bool ∨ ty = .str ∨ (∃ e, ty = .slice e) ∨ ∃ k v, ty = .map k v)))
  | 0, t, ty, h => by cases h
  | n + 1, t, ty, h => by
    simp only [tyOfD] at h
    split at h
    · cases h
    rename_i i hi
    refine ⟨i, hi, ?_⟩
    split at h
    · rename_i k hd
      simp only [Option.some.injEq] at h
      rw [hd]
      exact .inr ⟨rfl, .inl ⟨k, h.symm⟩⟩
    · rename_i hd
      simp only [Option.some.injEq] at h
      rw [hd]
      exact .inr ⟨rfl, .inr (.inl h.symm)⟩
    · rename_i hd
      simp only [Option.some.injEq] at h
      rw [hd]
      exact .inr ⟨rfl, .inr (.inr (.inl h.symm))⟩
    · rename_i e hd
      simp only [Option.map_eq_some_iff] at h
      obtain ⟨e, _, h⟩ := h
      rw [hd]
      exact .inr ⟨rfl, .inr (.inr (.inr (.inl ⟨e, h.symm⟩)))⟩
    · rename_i fs hd
      simp only [Option.map_eq_some_iff] at h
      obtain ⟨e, _, h⟩ := h
      rw [hd]
      exact .inl ⟨rfl, e, h.symm⟩
    · rename_i len e hd
      simp only [Option.map_eq_some_iff] at h
      obtain ⟨e, _, h⟩ := h
      rw [hd]
      exact .inl ⟨rfl, _, h.symm⟩
    · rename_i k v hd
      rw [hd]
      split at h
      · simp only [Option.some.injEq] at h
        exact .inr ⟨rfl, .inr (.inr (.inr (.inr ⟨_, _, h.symm⟩)))⟩
      · cases h
    · cases h

theorem ov_lookup (hE : EnvOK B.P E) (h : Rel B σ a.tmps w H φ) {o : Oper} {t : Nat} {x i : Operand} {ok : Bool} (ho : o.op = .lookup t x i ok) {y : A} (hv : opVal E σ (.lookup t x i ok) = some (true, y)) : ValOK B.P (B.at σ w H φ) a o y := by
  simp only [opVal] at hv
  split at hv
  · cases hv
  rename_i ti ht
  split at hv
  · rename_i kt vt hdesc
    split at hv
    · rename_i kty vty tv hkt hvt htv
      split at hv
      · rename_i es key z hes hkey hz
        split at hv
        · rename_i dz hdz
          obtain ⟨hg, hv⟩ := bif_none hv
          obtain ⟨hk1, hs⟩ := and_b hg
          obtain ⟨ik, hik, hd⟩ := tyOfD_key hkt hk1
          have hks : kty.scal = true := by rcases hd with ⟨kk, _, rfl⟩ | ⟨_, rfl⟩ <;> rfl
          obtain ⟨cs, hb, b, ents, clock, e0, hb1, _, hheap, hrep⟩ := read_rel h.reads hes (h.eval x)
          have hx : a.eval x = .map (some b) := by
            have hcs : cs = [a.eval x] := hb
            rw [hcs] at e0
            simpa using e0
          have hi : a.eval i = kty.valV key := RdV.valV hks (read_rel h.reads hkey (h.eval i))
          have hzv : z = vty.valV dz := RdV.valV hs (read_rel (C := B.at σ w H φ) Reads.nil hdz (zeroA_rel z))
          obtain ⟨_, _, _, _, _, hut⟩ := tinf_spec (hE.T t ti ht)
          obtain ⟨_, _, _, _, _, huk⟩ := tinf_spec (hE.T kt ik hik)
          rw [hdesc] at hut
          have hrun : ∀ w', Stay w w' → (Instr.lookup t (.map (some b)) (kty.valV key) ok).run B.P w' = .ok (if ok then .tuple #[vty.valV (mget kty vty key es dz), .bool (mhas kty vty key es)] else vty.valV (mget kty vty key es dz)) w' := fun w' hw' =>
            run_lookup_rep hut huk hd (by rw [hw'.block b hb1 (fun f => f)]; exact hheap) hrep (by rw [hE.zero htv hz, hzv]) key ok
          cases ok with
          | true =>
            simp only [cond_true, Option.some.injEq, Prod.mk.injEq, true_and] at hv
            subst hv
            refine ⟨.tuple #[vty.valV (mget kty vty key es dz), .bool (mhas kty vty key es)], ⟨_, rfl, ?_, rfl, trivial⟩, fun w' hw0 => ?_⟩
            · have hA := toA_valV (C := B.at σ w H φ) hs (mget kty vty key es dz)
              obtain ⟨iv, hiv, hsh⟩ := tyOfD_shape hvt
              rw [htv] at hiv
              obtain rfl := Option.some.inj hiv
              rcases hsh with ⟨q, a, rfl⟩ | ⟨q, ⟨k, rfl⟩ | rfl | rfl | ⟨e, rfl⟩ | ⟨k, v, rfl⟩⟩ <;> rw [q] <;> exact hA
            · have hw' := hw0 (by rw [ho]; rfl)
              simp [execOp, ho, hx, hi, hrun w' hw']
          | false =>
            simp only [cond_false, Option.some.injEq, Prod.mk.injEq, true_and] at hv
            subst hv
            refine ⟨vty.valV (mget kty vty key es dz), toA_valV hs _, fun w' hw0 => ?_⟩
            have hw' := hw0 (by rw [ho]; rfl)
            simp [execOp, ho, hx, hi, hrun w' hw']
        · cases hv
      · cases hv
    · cases hv
  · cases hv

/-- every operation that leaves memory alone -/
theorem opVal_ok (hE : EnvOK B.P E) (h : Rel B σ a.tmps w H φ) (o : Oper) {z : A} (hv : opVal E σ o.op = some (true, z)) : ValOK B.P (B.at σ w H φ) a o z := by
  generalize ho : o.op = op at hv
  unfold opVal at hv
  split at hv
  · simp only [Option.some.injEq, Prod.mk.injEq, true_and] at hv; subst hv; exact ov_move h ho
  · simp only [Option.some.injEq, Prod.mk.injEq, true_and] at hv; subst hv; exact ov_assign h ho
  · exact ov_fieldAddr hE h ho hv
  · exact ov_field hE h ho hv
  · exact ov_load hE h ho hv
  · exact ov_indexAddr hE h ho hv
  · exact ov_index hE h ho hv
  · exact ov_binOp hE h ho hv
  · exact ov_lookup hE h ho hv
  · exact ov_unOp (E := E) h ho hv
  · exact ov_convert hE h ho hv
  · exact ov_extract (E := E) h ho hv
  · exact ov_makeFunc (E := E) h ho hv
  · exact ov_nilCheck (E := E) h ho hv
  · exact ov_slice hE h ho hv
  · exact ov_build hE h ho hv
  · exact ov_len hE h ho hv
  · exact ov_min (E := E) h ho hv
  · exact ov_max (E := E) h ho hv
  · cases hv

end
end Go.Proofs.YtklfnbckoaphpaaGreatDoor
