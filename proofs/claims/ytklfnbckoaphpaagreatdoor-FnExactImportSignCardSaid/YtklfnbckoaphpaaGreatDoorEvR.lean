/- Slice literals and make are what the evaluator says; every operation. No conditions. -/
import Derived.Test.YtklfnbckoaphpaaGreatDoorEvQ
import Derived.Lib.ConvBytes
set_option linter.unusedVariables false
set_option linter.unusedSimpArgs false
namespace Go.Proofs.YtklfnbckoaphpaaGreatDoor
open Go

def constish : Cell → Bool
  | .int _ _ => true
  | .bool _ => true
  | .str _ => true
  | .nil => true
  | .any => true
  | _ => false
theorem constCell_ish {v : Value} {c : Cell} (h : constCell v = some c) : constish c = true := by
  unfold constCell at h
  split at h <;> simp only [Option.some.injEq, reduceCtorEq] at h <;> subst h <;> rfl
theorem constCells_ish : ∀ {vs : List Value} {cs : List Cell}, constCells vs = some cs → ∀ c ∈ cs, constish c = true
  | [], cs, h, c, hc => by simp only [constCells, Option.some.injEq] at h; subst h; cases hc
  | v :: vs, cs, h, c, hc => by
    simp only [constCells] at h
    split at h
    · rename_i c0 r h1 h2
      simp only [Option.some.injEq] at h
      subst h
      rcases List.mem_cons.1 hc with rfl | hc
      · exact constCell_ish h1
      · exact constCells_ish h2 c hc
    · cases h

/-- the zero of a type: no memory, so it is its owner's -/
theorem const_own {C : Cx} {dp : Bool} {F : Nat → Prop} : ∀ (t : Ty) (cs : List Cell) (x : t.den) (r : List Cell) (us : List Value), t.unflat [] cs = some (x, r) → (∀ c ∈ cs, constish c = true) → All2 (CellRel C) cs us →
    ∃ u1 u2, us = u1 ++ u2 ∧ OwC C.P dp t C.w C.Z F u1 x ∧ All2 (CellRel C) r u2 ∧ (∀ c ∈ r, constish c = true)
  | .pair a b, cs, x, r, us, h, hc, ha => by
    simp only [Ty.unflat] at h
    split at h
    · rename_i x1 r1 h1
      split at h
      · rename_i y r2 h2
        simp only [Option.some.injEq, Prod.mk.injEq] at h
        obtain ⟨rfl, rfl⟩ := h
        obtain ⟨u1, u2, rfl, k1, k2, k3⟩ := const_own (F := NoB) a cs x1 r1 us h1 hc ha
        obtain ⟨u3, u4, rfl, k4, k5, k6⟩ := const_own (F := NoB) b r1 y r2 u2 h2 k3 k2
        exact ⟨u1 ++ u3, u4, by simp, ⟨u1, u3, NoB, NoB, rfl, fun _ f => f.elim, fun _ f => f.elim, fun _ f => f.elim, k1, k4⟩, k5, k6⟩
      · cases h
    · cases h
  | .st a, cs, x, r, us, h, hc, ha => const_own a cs x r us (by simpa [Ty.unflat] using h) hc ha
  | .unit, cs, x, r, us, h, hc, ha => by
    simp [Ty.unflat] at h
    subst h
    exact ⟨[], us, rfl, rfl, ha, hc⟩
  | .slice e, cs, x, r, us, h, hc, ha => by
    cases cs with
    | nil => simp [Ty.unflat] at h
    | cons c cs =>
      cases us with
      | nil => exact ha.elim
      | cons u us =>
        have hcc := hc c (by simp)
        cases c <;> simp [constish] at hcc <;> simp only [Ty.unflat] at h <;> try (cases h; done)
        simp only [Option.some.injEq, Prod.mk.injEq] at h
        obtain ⟨rfl, rfl⟩ := h
        obtain ⟨A, e1⟩ := ha.1
        refine ⟨[u], us, rfl, ?_, ha.2, fun c hc' => hc c (by simp [hc'])⟩
        cases dp with
        | true => exact ⟨u, rfl, A, 0, e1, Nat.le_refl _, .inl rfl⟩
        | false => exact ⟨A, 0, by rw [e1]; rfl, Nat.le_refl _, fun h => absurd h (by simp)⟩
  | .int k, cs, x, r, us, h, hc, ha => by
    obtain ⟨u1, u2, e, k1, k2⟩ := unflat_rel Reads.nil (.int k) cs x r us h ha
    refine ⟨u1, u2, e, k1, k2, ?_⟩
    cases cs with
    | nil => simp [Ty.unflat] at h
    | cons c cs =>
      cases c <;> simp only [Ty.unflat] at h <;> try (cases h; done)
      split at h
      · simp only [Option.some.injEq, Prod.mk.injEq] at h
        obtain ⟨_, rfl⟩ := h
        exact fun c hc' => hc c (by simp [hc'])
      · cases h
  | .bool, cs, x, r, us, h, hc, ha => by
    obtain ⟨u1, u2, e, k1, k2⟩ := unflat_rel Reads.nil .bool cs x r us h ha
    refine ⟨u1, u2, e, k1, k2, ?_⟩
    cases cs with
    | nil => simp [Ty.unflat] at h
    | cons c cs =>
      cases c <;> simp only [Ty.unflat] at h <;> try (cases h; done)
      simp only [Option.some.injEq, Prod.mk.injEq] at h
      obtain ⟨_, rfl⟩ := h
      exact fun c hc' => hc c (by simp [hc'])
  | .str, cs, x, r, us, h, hc, ha => by
    obtain ⟨u1, u2, e, k1, k2⟩ := unflat_rel Reads.nil .str cs x r us h ha
    refine ⟨u1, u2, e, k1, k2, ?_⟩
    cases cs with
    | nil => simp [Ty.unflat] at h
    | cons c cs =>
      cases c <;> simp only [Ty.unflat] at h <;> try (cases h; done)
      simp only [Option.some.injEq, Prod.mk.injEq] at h
      obtain ⟨_, rfl⟩ := h
      exact fun c hc' => hc c (by simp [hc'])
  | .ptr a, cs, x, r, us, h, hc, ha => by
    cases cs with
    | nil => simp [Ty.unflat] at h
    | cons c cs =>
      have hcc := hc c (by simp)
      cases c <;> simp [constish] at hcc <;> simp [Ty.unflat] at h
  | .fn a b, cs, x, r, us, h, hc, ha => by
    cases cs with
    | nil => simp [Ty.unflat] at h
    | cons c cs =>
      have hcc := hc c (by simp)
      cases c <;> simp [constish] at hcc <;> simp [Ty.unflat] at h
  | .map a b, cs, x, r, us, h, hc, ha => by
    cases cs with
    | nil => simp [Ty.unflat] at h
    | cons c cs =>
      have hcc := hc c (by simp)
      cases c <;> simp [constish] at hcc <;> simp [Ty.unflat] at h

/-- Go's filling of a new row with a zero -/
def repV (z : Array Value) (n s : Nat) : List Value := (List.range (n * s)).map fun i => z[i % s]!
theorem repV_succ (z : Array Value) (n s : Nat) (hz : z.size = s) : repV z (n + 1) s = z.toList ++ repV z n s := by
  unfold repV
  have : (n + 1) * s = s + n * s := by rw [Nat.add_mul, Nat.one_mul, Nat.add_comm]
  rw [this, List.range_add, List.map_append, List.map_map]
  congr 1
  · apply List.ext_getElem?
    intro i
    by_cases hi : i < s
    · have h2 : i < z.size := by omega
      simp [List.getElem?_map, List.getElem?_range hi, Nat.mod_eq_of_lt hi, h2]
    · rw [List.getElem?_eq_none (by simp; omega), List.getElem?_eq_none (by simp; omega)]
  · apply List.map_congr_left
    intro i _
    simp
theorem repV_len (z : Array Value) (n s : Nat) : (repV z n s).length = n * s := by simp [repV]
theorem repV_chunk (z : Array Value) (s : Nat) (hz : z.size = s) : ∀ (n i : Nat), i < n → ((repV z n s).drop (i * s)).take s = z.toList
  | 0, i, h => by omega
  | n + 1, 0, _ => by
    rw [repV_succ z n s hz, Nat.zero_mul, List.drop_zero, List.take_append_of_le_length (by simp; omega)]
    rw [List.take_of_length_le (by simp; omega)]
  | n + 1, i + 1, h => by
    rw [repV_succ z n s hz, Nat.add_mul, Nat.one_mul]
    have : (z.toList ++ repV z n s).drop (i * s + s) = (repV z n s).drop (i * s) := by
      rw [Nat.add_comm, ← List.drop_drop]
      congr 1
      rw [List.drop_append_of_le_length (by simp; omega), List.drop_of_length_le (by simp; omega), List.nil_append]
    rw [this]
    exact repV_chunk z s hz n i (by omega)
theorem rep_rel {C : Cx} {zs : List Cell} {z : Array Value} {s : Nat} (hz : z.size = s) (h : All2 (CellRel C) zs z.toList) : ∀ n, All2 (CellRel C) (repCells n zs) (repV z n s)
  | 0 => by simp [repCells, repV, All2]
  | n + 1 => by
    rw [repV_succ z n s hz]
    exact h.append (rep_rel hz h n)
theorem repV_arr (z : Array Value) (n s : Nat) (hz : z.size = s) : ((Array.range (n * s)).map (z[· % z.size]!)).toList = repV z n s := by
  simp [repV, hz, Array.toList_range]

section
variable {ρ : Type} {B : Base} {E : Env} {σ : St} {a : Act} {w : World} {H : Nat → Option Value} {φ : Nat → Nat → Prop}

/-- a new row whose elements own nothing yet -/
theorem Rel.newRow' {tm : Array Value} (h : Rel B σ tm w H φ) {n : Nat} (hn : look n σ.blks = none) (hio : B.io n = none) {w' : World} (hw : Fr NoB w w') {dd : Bool} {t : Ty} {xs : List t.den} {g cap : Nat} {cur : Array Value} {ety : TypeId} (hg : w.heap.size ≤ g)
    (hh : w'.heap[g]? = some (.cells cur ety (0, 0))) (hcap : xs.length ≤ cap) (hsz : cap * t.cells ≤ cur.size) (hm : mkd dd t = false)
    (hel : ∀ i (hi : i < xs.length), OwC B.P dd t w (zone B w φ) NoB ((cur.toList.drop (i * t.cells)).take t.cells) xs[i]) :
    ∃ H' φ', Rel B (σ.setBlk n (.row dd t xs)) tm w' H' φ' ∧ H' n = some (.slice (some ⟨g, 0, none⟩) xs.length cap) :=
  ⟨_, _, Rel.fresh (R1 := B.R) h (fun _ h => h) hn hio (b := .row dd t xs) (v := .slice (some ⟨g, 0, none⟩) xs.length cap) (F := fun i => i = g) hw.le
    (fun i hi => by subst hi; exact ⟨.inl hg, (Array.getElem?_eq_some_iff.1 hh).1⟩)
    (fun C' hle hw' hP _ => ⟨some ⟨g, 0, none⟩, cap, rfl, hcap, .inr ⟨g, cur, ety, rfl, rfl, by rw [hw', hm]; exact hh, hsz, fun _ => NoB, fun _ _ f => f.elim, fun _ _ _ _ f => f.elim, fun i hi => by
      have h1 := OwC.agree (dp := dd) hle.Z hle.agree t NoB NoB _ _ (fun _ f => f) (agree_none _ _ hle.agree.1) (hel i hi)
      have h2 : OwC C'.P dd t C'.w C'.Z NoB ((cur.toList.drop (i * t.cells)).take t.cells) xs[i] := by rw [hP]; exact h1
      exact h2⟩⟩), by simp⟩

theorem map_range0 (f : Nat → Value) : (Array.range 0).map f = #[] := by apply Array.ext'; simp [Array.toList_range]

theorem wrap_small {n : Int} (h0 : 0 ≤ n) (h1 : n ≤ 140737488355328) : IntKind.i64.wrap n = n := by
  simp [IntKind.wrap, IntKind.bits, IntKind.signed]
  omega

theorem eo_make (hE : EnvOK B.P E) (hA : RelA B σ a w) {o : Oper} {t d e : Nat} {l c : Operand} {ti te : TInf} {ty : Ty} {z : Value} {zs : List Cell} {x : ty.den} {lv cv : Int} {k1 k2 : IntKind} (ho : o.op = .makeSlice t l c) (hd : o.dst = some d) (ht : E.T t = some ti) (hdesc : ti.desc = .slice e) (he : E.T e = some te)
    (hl : σ.eval l = .c (.int k1 lv)) (hc : σ.eval c = .c (.int k2 cv)) (hsz : te.size = ty.cells) (hby : 0 < te.bytes) (hz : te.zero = some z) (hzo : z.cells.size = te.size) (hzs : valueCells z = some zs) (hu : ty.unflat [] zs = some (x, []))
    (h0 : 0 ≤ lv) (h1 : lv ≤ cv) (h2 : cv * te.bytes ≤ 140737488355328)
    {k : St → Option ρ} {r : ρ} (hv : k ((σ.new (d * 64) (.row (E.dp || ty.scal) ty (List.replicate lv.toNat x))).set d (.c (.own (d * 64)))) = some r) (Q : Exit → Act → World → Prop) : o.wp B.P a w (fun a' w' => Next B k r a' w' ∧ Fr NoB w w') Q := by
  obtain ⟨hdef, H, φ, h⟩ := hA
  obtain ⟨inf, i1, i2, i3, i4, _⟩ := tinf_spec (hE.T e te he)
  have hcv : cv ≤ 140737488355328 := by
    have : cv * 1 ≤ cv * (te.bytes : Int) := Int.mul_le_mul_of_nonneg_left (by omega) (by omega)
    omega
  have e1 := h.int hl
  have e2 := h.int hc
  have w1 := wrap_small h0 (by omega : lv ≤ 140737488355328)
  have w2 := wrap_small (by omega : 0 ≤ cv) hcv
  have hrun : (execOp a.eval o).run B.P w = .ok (.value (.slice (some ⟨w.heap.size, 0, none⟩) lv.toNat cv.toNat)) (w.alloc (.cells (repV z.cells cv.toNat te.size).toArray e)) := by
    have hn1 : ¬ cv < 0 := by omega
    have hn2 : ¬ lv < 0 := by omega
    have hn3 : ¬ lv > cv := by omega
    have hn4 : ¬ (te.bytes : Int) * cv > 281474976710656 := by rw [Int.mul_comm]; omega
    have harr : ((Array.range (cv.toNat * te.size)).map (z.cells[· % z.cells.size]!)) = (repV z.cells cv.toNat te.size).toArray := by
      apply Array.ext'
      rw [repV_arr z.cells cv.toNat te.size hzo]
    by_cases hn0 : cv.toNat * te.size = 0
    · have hrep : repV z.cells cv.toNat te.size = [] := List.eq_nil_of_length_eq_zero (by rw [repV_len]; exact hn0)
      rw [hrep]
      simp [execOp, ho, Instr.makeSlice, hE.under ht, hdesc, e1, e2, asInt, asIntOf, typeInfo, i1, i3, w1, w2, hE.size he, hn0, hn1, hn2, hn3, hn4, Go.newRow, map_range0]
    · simp [execOp, ho, Instr.makeSlice, hE.under ht, hdesc, e1, e2, asInt, asIntOf, typeInfo, i1, i3, w1, w2, hE.size he, hn0, hn1, hn2, hn3, hn4, Go.newRow, hE.zero he hz, harr]
  obtain ⟨H', φ', hk, hkn, _⟩ := h.kill (d * 64)
  have hzr : All2 (CellRel (B.at (σ.kill (d * 64)) w H' φ')) zs z.cells.toList := constCells_rel hzs
  obtain ⟨u1, u2, eu, k1, k2, _⟩ := const_own (dp := (E.dp || ty.scal)) (F := NoB) ty zs x [] z.cells.toList hu (constCells_ish hzs) hzr
  have : u2 = [] := by cases u2 with | nil => rfl | cons _ _ => exact k2.elim
  subst this
  simp only [List.append_nil] at eu
  subst eu
  obtain ⟨H2, φ2, hn, hH2⟩ := hk.newRow' hkn (B.io64 d) (alloc_fr w _) (dd := (E.dp || ty.scal)) (t := ty) (xs := List.replicate lv.toNat x) (cap := cv.toNat) (cur := (repV z.cells cv.toNat te.size).toArray) (ety := e) (Nat.le_refl _) (heap_alloc_new w _) (by simp; omega) (by simp [repV_len, hsz]) (mkd_or E.dp ty)
    (fun i hi => by
      have hi' : i < lv.toNat := by simpa using hi
      have := repV_chunk z.cells te.size hzo cv.toNat i (by omega)
      rw [hsz] at this
      simp only [hsz]
      rw [this, List.getElem_replicate]
      exact k1)
  refine wp_val hrun ⟨⟨_, hv, by rw [put_defers]; exact hdef, H2, φ2, ?_⟩, alloc_fr w _⟩
  rw [hd]
  have hH2' : H2 (d * 64) = some (.slice (some ⟨w.heap.size, 0, none⟩) lv.toNat cv.toNat) := by simpa using hH2
  exact Rel.set hn d (ownRel hH2' rfl)

theorem eo_buildSlice (hE : EnvOK B.P E) (hA : RelA B σ a w) {o : Oper} {t d e len : Nat} {parts : Array (Nat × Operand)} {ti te : TInf} {ty : Ty} {z : Value} {zs cs : List Cell} {xs : List ty.den} (ho : o.op = .buildSlice t len parts) (hd : o.dst = some d) (ht : E.T t = some ti) (hdesc : ti.desc = .slice e) (he : E.T e = some te)
    (hsz : te.size = ty.cells) (hbig : len * te.size ≤ 16777216) (hz : te.zero = some z) (hzs : valueCells z = some zs) (hzl : zs.length = te.size) (hf : fillL σ te.size parts.toList (repCells len zs) = some cs) (hu : unflatL ty len cs = some xs)
    {k : St → Option ρ} {r : ρ} (hv : k ((σ.new (d * 64) (.row ty.scal ty xs)).set d (.c (.own (d * 64)))) = some r) (Q : Exit → Act → World → Prop) : o.wp B.P a w (fun a' w' => Next B k r a' w' ∧ Fr NoB w w') Q := by
  obtain ⟨hdef, H, φ, h⟩ := hA
  have hzr : All2 (CellRel (B.at σ w H φ)) zs z.cells.toList := constCells_rel hzs
  have hzo : z.cells.size = te.size := by have := hzr.length; rw [hzl] at this; simpa using this.symm
  have hrep : All2 (CellRel (B.at σ w H φ)) (repCells len zs) (repV z.cells len te.size).toArray.toList := by simpa using rep_rel hzo hzr len
  obtain ⟨us', f1, f2⟩ := fillL_rel (zs := zs) h hf hrep
  obtain ⟨l1, l2, l3⟩ := unflatL_rel (Reads.nil (C := B.at σ w H φ)) ty len cs xs us'.toList hu f2
  have hrun : (execOp a.eval o).run B.P w = .ok (.value (.slice (some ⟨w.heap.size, 0, none⟩) len len)) (w.alloc (.cells us' e)) := by
    have hn : ¬ (len * te.size > 16777216) := by omega
    have harr : ((Array.range (len * te.size)).map (z.cells[· % z.cells.size]!)) = (repV z.cells len te.size).toArray := by
      apply Array.ext'
      rw [repV_arr z.cells len te.size hzo]
    have f1' : Instr.fill (fun i => some (i * te.size, te.size)) (repV z.cells len te.size).toArray ((parts.map fun x => (x.1, a.eval x.2)).toList) = some us' := by simpa using f1
    by_cases hn0 : len * te.size = 0
    · have hrep : repV z.cells len te.size = [] := List.eq_nil_of_length_eq_zero (by rw [repV_len]; exact hn0)
      rw [hrep] at f1'
      simp only [execOp, ho, Sem.run_bind, Instr.buildSlice, hE.under ht, hdesc, Result.andThen_ok, hE.size he, hn0, Sem.run_ite, Sem.run_pure, if_true, if_neg (show ¬ (0 > 2 ^ 24) by omega), map_range0]
      have f1'' : Instr.fill (fun i => some (i * te.size, te.size)) #[] ((parts.map fun x => (x.1, a.eval x.2)).toList) = some us' := f1'
      simp only [f1'', Go.newRow, Sem.run_bind, run_newObj, Result.andThen_ok, Sem.run_pure, World.alloc_eq]
    · have hz0 := fun w => hE.zero he hz w
      simp only [execOp, ho, Sem.run_bind, Instr.buildSlice, hE.under ht, hdesc, Result.andThen_ok, hE.size he, Sem.run_ite, Sem.run_pure, if_neg hn0, if_neg (show ¬ (len * te.size > 2 ^ 24) from hn), hz0, harr, f1', Go.newRow, run_newObj, World.alloc_eq]
  obtain ⟨H', φ', hk, hkn, _, _, hkφ⟩ := h.kill (d * 64)
  have hmono : ∀ b, b < w.heap.size → zone B w φ b → zone B w φ' b := fun b _ hz => ⟨hz.1, hz.2.1, hz.2.2.1, fun m hm => hz.2.2.2 m (hkφ m b hm)⟩
  obtain ⟨H2, φ2, hn, hH2⟩ := hk.newRow hkn (B.io64 d) (alloc_fr w _) (dd := ty.scal) (t := ty) (xs := xs) (cap := len) (cur := us') (ety := e) (Nat.le_refl _) (heap_alloc_new w _) (by omega) (by have := l2; simp at this; omega) (by cases ty.scal <;> rfl) (mkd_scal ty)
    (fun i hi => RdC.mono hmono (l3 i hi))
  refine wp_val hrun ⟨⟨_, hv, by rw [put_defers]; exact hdef, H2, φ2, ?_⟩, alloc_fr w _⟩
  rw [hd]
  have hH2' : H2 (d * 64) = some (.slice (some ⟨w.heap.size, 0, none⟩) len len) := by rw [← l1]; rw [l1]; rw [hH2, l1]
  exact Rel.set hn d (ownRel hH2' rfl)


/-! ### A string's bytes as a row of this call -/
theorem Rel.newBytes {tm : Array Value} (h : Rel B σ tm w H φ) {n : Nat} (hn : look n σ.blks = none) (hio : B.io n = none) {w' : World} (hw : Fr NoB w w') {xs : List Int} {g cap : Nat} {cur : Array Value} {ety : TypeId} (hg : w.heap.size ≤ g)
    (hh : w'.heap[g]? = some (.cells cur ety (cur.size, cur.size + 1))) (hcap : xs.length ≤ cap) (hsz : cap ≤ cur.size) (hel : ∀ i (hi : i < xs.length), (cur.toList.drop i).take 1 = [.int .u8 xs[i]]) :
    ∃ H' φ', Rel B (σ.setBlk n (.row false (.int .u8) xs)) tm w' H' φ' ∧ H' n = some (.slice (some ⟨g, 0, none⟩) xs.length cap) :=
  ⟨_, _, Rel.fresh (R1 := B.R) h (fun _ h => h) hn hio (b := .row false (.int .u8) xs) (v := .slice (some ⟨g, 0, none⟩) xs.length cap) (F := fun i => i = g) hw.le
    (fun i hi => by subst hi; exact ⟨.inl hg, (Array.getElem?_eq_some_iff.1 hh).1⟩)
    (fun C' hle hw' hP _ => ⟨some ⟨g, 0, none⟩, cap, rfl, hcap, .inr ⟨g, cur, ety, rfl, rfl, by rw [hw']; exact hh, by simpa [Ty.cells] using hsz, fun _ => NoB, fun _ _ f => f.elim, fun _ _ _ _ f => f.elim, fun i hi => by
      show (cur.toList.drop (i * 1)).take 1 = [.int .u8 xs[i]]
      rw [Nat.mul_one]
      exact hel i hi⟩⟩), by simp⟩

theorem eo_conv (hE : EnvOK B.P E) (hA : RelA B σ a w) {o : Oper} {src dst d e : Nat} {x : Operand} {ts td te : TInf} {s : ByteArray} (ho : o.op = .convert src dst x) (hd : o.dst = some d) (hts : E.T src = some ts) (htd : E.T dst = some td) (he : E.T e = some te)
    (hdesc : td.desc = .slice e) (h8 : te.desc = .int .u8) (hx : σ.eval x = .c (.str s))
    {k : St → Option ρ} {r : ρ} (hv : k ((σ.new (d * 64) (.row false (.int .u8) (strBytes s))).set d (.c (.own (d * 64)))) = some r) (Q : Exit → Act → World → Prop) : o.wp B.P a w (fun a' w' => Next B k r a' w' ∧ Fr NoB w w') Q := by
  obtain ⟨hdef, H, φ, h⟩ := hA
  obtain ⟨_, _, _, _, _, u1⟩ := tinf_spec (hE.T src ts hts)
  obtain ⟨_, _, _, _, _, u2⟩ := tinf_spec (hE.T dst td htd)
  obtain ⟨_, _, _, _, _, u3⟩ := tinf_spec (hE.T e te he)
  rw [hdesc] at u2
  rw [h8] at u3
  have ex := h.str hx
  have hrun : (execOp a.eval o).run B.P w = .ok (.value (.slice (some ⟨w.heap.size, 0, none⟩) s.size (grownCap w s.size 0 e))) (Lib.bytesWorld w e s) := by
    simp only [execOp, ho, ex, Sem.run_bind, Lib.run_convert_string_bytes w src dst e s u1 u2 u3, Result.andThen_ok, Sem.run_pure]
  have hfr : Fr NoB w (Lib.bytesWorld w e s) :=
    ⟨rfl, rfl, rfl, by rw [Lib.bytesWorld_size]; omega, fun b hb _ => Lib.bytesWorld_at_old w e s b hb, fun b _ hb => Lib.bytesWorld_at_old w e s b hb⟩
  obtain ⟨H', φ', hk, hkn, _⟩ := h.kill (d * 64)
  have hsl : s.data.toList.length = s.size := Array.length_toList
  have hlen : (strBytes s).length = s.size := by unfold strBytes; rw [List.length_map]; exact hsl
  have hge := grownCap_ge w s.size 0 e
  obtain ⟨H2, φ2, hn, hH2⟩ := hk.newBytes hkn (B.io64 d) hfr (xs := strBytes s) (cap := grownCap w s.size 0 e) (Nat.le_refl _) (Lib.bytesWorld_at_new w e s) (by omega)
    (by simp only [Lib.bytesCells, Array.size_append, Array.size_map, Array.size_replicate]; have : s.data.size = s.size := rfl; omega) (fun i hi => by
      have hi' : i < s.data.toList.length := by omega
      have hi2 : i < s.data.size := by omega
      have e1 : (Lib.bytesCells w e s).toList = (s.data.toList.map fun b => Value.int .u8 b.toNat) ++ List.replicate (grownCap w s.size 0 e - s.size) (.int .u8 0) := by
        simp [Lib.bytesCells]
      rw [e1, List.drop_append_of_le_length (by rw [List.length_map]; omega), List.drop_eq_getElem_cons (by rw [List.length_map]; omega), List.cons_append, List.take_succ_cons, List.take_zero]
      simp [strBytes])
  refine wp_val hrun ⟨⟨_, hv, by rw [put_defers]; exact hdef, H2, φ2, ?_⟩, hfr⟩
  rw [hd]
  have hH2' : H2 (d * 64) = some (.slice (some ⟨w.heap.size, 0, none⟩) s.size (grownCap w s.size 0 e)) := by rw [hH2, hlen]
  exact Rel.set hn d (ownRel hH2' rfl)

/-- clear -/
theorem eo_clear (hE : EnvOK B.P E) (hA : RelA B σ a w) {o : Oper} {x : Operand} {t e : Nat} {ti te : TInf} (ho : o.op = .call { callee := .builtin .clear, args := #[x], argTypes := #[t] }) (ht : E.T t = some ti) (hdesc : ti.desc = .slice e) (he : E.T e = some te)
    {k : St → Option ρ} {r : ρ} (hv : clearTo te (asCell (σ.eval x)) σ (fun σ' => k (σ'.put o.dst (.tup []))) = some r) (Q : Exit → Act → World → Prop) : o.wp B.P a w (Next B k r) Q := by
  obtain ⟨hdef, H, φ, h⟩ := hA
  have hx0 := h.eval x
  have empty : ∀ A c, a.eval x = .slice A 0 c → k (σ.put o.dst (.tup [])) = some r → o.wp B.P a w (Next B k r) Q := by
    intro A c ea hk
    have hrun : (execOp a.eval o).run B.P w = .ok (.value (.tuple #[])) w := by
      cases A <;> simp [execOp, ho, resolve, invoke, builtin, Builtin.clear_, hE.under ht, hdesc, ea]
    exact wp_val hrun ⟨_, hk, by rw [put_defers]; exact hdef, H, φ, Rel.put h o.dst ⟨#[], rfl, trivial⟩⟩
  -- l elements from p on
  have some' : ∀ (n : Nat) (dd : Bool) (ty : Ty) (xs : List ty.den) (z : Value) (zs : List Cell) (x0 : ty.den) (p l : Nat) (A' : Option Addr) (c' : Nat), look n σ.blks = some (.row dd ty xs) → te.zero = some z → valueCells z = some zs → ty.unflat [] zs = some (x0, []) → te.size = ty.cells → (!dd || ty.scal) = true → (dd || !ty.scal) = true → p + l ≤ xs.length →
      a.eval x = .slice A' l c' → (∀ A c, H n = some (.slice A xs.length c) → p < c → ∃ g, A = some ⟨g, 0, none⟩ ∧ A' = some ⟨g, p * ty.cells, none⟩) →
      k ((σ.setBlk n (.row dd ty (xs.take p ++ List.replicate l x0 ++ xs.drop (p + l)))).put o.dst (.tup [])) = some r → o.wp B.P a w (Next B k r) Q := by
    intro n dd ty xs z zs x0 p l A' c' hl hz hzs hu hsz hdd hdm hpl ea hA' hk
    rcases Nat.eq_zero_or_pos l with h0 | hpos
    · subst h0
      refine empty A' c' ea ?_
      have e1 : xs.take p ++ List.replicate 0 x0 ++ xs.drop (p + 0) = xs := by simp
      have e2 : σ.setBlk n (.row dd ty xs) = σ := by unfold St.setBlk; rw [blkSet_self hl]
      rw [e1, e2] at hk
      exact hk
    obtain ⟨v0, hv0, hrow⟩ := h.mem.blk n _ hl
    have hrow : RowOf B.P (mkd dd ty) dd ty w (zone B w φ) (φ n) v0 xs := hrow
    have hmk := mkd_of hdm
    rw [hmk] at hrow
    obtain ⟨A0, cap, rfl, hcap, hmem⟩ := hrow
    rcases hmem with h0 | ⟨g, cur, ety, rfl, hF, hh, hsz2, Fs, f1, f2, f3⟩
    · omega
    obtain ⟨g', e1, e2⟩ := hA' _ _ hv0 (by omega)
    simp only [Option.some.injEq, Addr.mk.injEq, and_true] at e1
    subst e1
    subst e2
    have hzr : All2 (CellRel (B.at σ w H φ)) zs z.cells.toList := constCells_rel hzs
    obtain ⟨u1, u2, eu, q1, q2⟩ := unflat_rel (Reads.nil (C := B.at σ w H φ)) ty zs x0 [] z.cells.toList hu hzr
    have : u2 = [] := by cases u2 with | nil => rfl | cons _ _ => exact q2.elim
    subst this
    simp only [List.append_nil] at eu
    subst eu
    have hzo : z.cells.size = ty.cells := by have := (RdC.cells ty _ _ q1).1; simpa using this
    have hzc : (Builtin.zeroCells z.cells l).toList = repV z.cells l ty.cells := by
      unfold Builtin.zeroCells
      rw [hzo]
      have := repV_arr z.cells l ty.cells hzo
      rw [hzo] at this
      exact this
    have hnl : (repV z.cells l ty.cells).length = l * ty.cells := repV_len _ _ _
    have hone : ∀ u ∈ repV z.cells l ty.cells, u.oneCell' = true := fun u hu => by
      obtain ⟨i, hi, hm⟩ := mem_chunk hnl hu
      rw [repV_chunk z.cells ty.cells hzo l i hi] at hm
      exact (RdC.cells ty _ _ q1).2 u hm
    have hcL : xs.length * ty.cells ≤ cur.size := Nat.le_trans (Nat.mul_le_mul_right _ hcap) hsz2
    have hoL : (p + l) * ty.cells ≤ xs.length * ty.cells := Nat.mul_le_mul_right _ hpl
    rw [Nat.add_mul] at hoL
    have hst := run_storeCells_at B.P g (p * ty.cells) ety (repV z.cells l ty.cells) 0 cur w hh (by omega) hone
    simp only [Nat.add_zero] at hst
    have hsp := Rel.splice (B := B) h hl hdd hv0 hF hh hmk hcap hsz2 f1 f2 (fun i hi => OwC.flatOK hdd (f3 i hi)) (o := p) (ys := List.replicate l x0) (by simpa using hpl) (news := repV z.cells l ty.cells) (by simpa using hnl)
      (fun i hi => by
        have hi' : i < l := by simpa using hi
        rw [repV_chunk z.cells ty.cells hzo l i hi', List.getElem_replicate]
        exact q1)
    have hrun : (execOp a.eval o).run B.P w = .ok (.value (.tuple #[])) (w.setRow g (cur.toList.take (p * ty.cells) ++ repV z.cells l ty.cells ++ cur.toList.drop (p * ty.cells + (repV z.cells l ty.cells).length)).toArray) := by
      obtain ⟨m, rfl⟩ : ∃ m, l = m + 1 := ⟨l - 1, by omega⟩
      simp [execOp, ho, resolve, invoke, builtin, Builtin.clear_, hE.under ht, hdesc, ea, hE.zero he hz, hzc, hst]
    refine wp_val hrun ⟨_, hk, by rw [put_defers]; exact hdef, H, φ, ?_⟩
    have e3 : (List.replicate l x0).length = l := by simp
    rw [e3] at hsp
    exact Rel.put hsp o.dst ⟨#[], rfl, trivial⟩
  have hx : ∀ y, asCell (σ.eval x) = y → y ≠ .any → CellRel (B.at σ w H φ) y (a.eval x) := by
    intro y hy hne
    cases e1 : σ.eval x with
    | c c => rw [e1] at hx0 hy; simp only [asCell] at hy; subst hy; exact hx0
    | any => rw [e1] at hy; exact absurd hy.symm hne
    | agg _ => rw [e1] at hy; exact absurd hy.symm hne
    | tup _ => rw [e1] at hy; exact absurd hy.symm hne
  unfold clearTo at hv
  split at hv
  · rename_i ey
    obtain ⟨A, ea⟩ := hx _ ey (by simp)
    exact empty A 0 ea hv
  · rename_i n ey
    have hr := hx _ ey (by simp)
    split at hv
    · rename_i dd ty xs hl
      split at hv
      · rename_i z hz
        split at hv
        · rename_i zs hzs
          split at hv
          · rename_i x0 hu
            have hv0 := bif_none hv
            clear hv
            obtain ⟨hg, hv⟩ := hv0
            obtain ⟨hg, hdm⟩ := and_b hg
            obtain ⟨hsz, hdd⟩ := and_b hg
            obtain ⟨A, l0, c0, ea⟩ := hr.2
            have eH : H n = some (a.eval x) := hr.1
            obtain ⟨v0, hv0', A1, cap, e1, hcap, _⟩ := h.mem.blk n _ hl
            rw [hv0'] at eH
            obtain rfl := Option.some.inj eH
            refine some' n dd ty xs z zs x0 0 xs.length A1 cap hl hz hzs hu (by simpa using hsz) hdd hdm (by omega) e1 (fun A c hc hp => ?_) (by simpa using hv)
            rw [hv0', e1] at hc
            simp only [Option.some.injEq, Value.slice.injEq, true_and] at hc
            obtain ⟨rfl, rfl⟩ := hc
            obtain ⟨v1, hv1, A2, cap2, e2, hcap2, hm2⟩ := h.mem.blk n _ hl
            rw [hv0'] at hv1
            obtain rfl := Option.some.inj hv1
            rw [e1] at e2
            simp only [Value.slice.injEq, true_and] at e2
            obtain ⟨rfl, rfl⟩ := e2
            rcases hm2 with h0 | ⟨g, cur, ety, rfl, _⟩
            · omega
            · exact ⟨g, rfl, by simp⟩
          · cases hv
        · cases hv
      · cases hv
    · cases hv
  · rename_i n o' l ey
    have hr := hx _ ey (by simp)
    split at hv
    · rename_i dd ty xs hl
      split at hv
      · rename_i z hz
        split at hv
        · rename_i zs hzs
          split at hv
          · rename_i x0 hu
            have hv0 := bif_none hv
            clear hv
            obtain ⟨hg, hv⟩ := hv0
            obtain ⟨hg, hlen⟩ := and_b hg
            obtain ⟨hg, hdm⟩ := and_b hg
            obtain ⟨hsz, hdd⟩ := and_b hg
            obtain ⟨A, c, L, s, q1, q2, q3, A', c', ea, q4, _, q5, q6, q7, q8⟩ := hr
            have eL : lenOf σ.blks n = some (L, s) := q1
            simp only [lenOf, hl, Option.some.injEq, Prod.mk.injEq] at eL
            obtain ⟨rfl, rfl⟩ := eL
            refine some' n dd ty xs z zs x0 o' l A' c' hl hz hzs hu (by simpa using hsz) hdd hdm (of_decide_eq_true hlen) ea (fun A2 c2 hc hp => ?_) hv
            have q2 : H n = some _ := q2
            rw [q2] at hc
            simp only [Option.some.injEq, Value.slice.injEq, true_and] at hc
            obtain ⟨rfl, rfl⟩ := hc
            exact q7 hp
          · cases hv
        · cases hv
      · cases hv
    · cases hv
  · cases hv

end
end Go.Proofs.YtklfnbckoaphpaaGreatDoor
