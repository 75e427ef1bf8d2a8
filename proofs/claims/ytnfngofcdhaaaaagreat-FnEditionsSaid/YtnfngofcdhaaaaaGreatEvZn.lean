/- The contract of slices.Delete on rows whose elements own what they hold, from proved calls. No conditions. -/
import Derived.Test.YtnfngofcdhaaaaaGreatEvZm
import Derived.Deep.RegionLaw
import Derived.Lib.SliceRun
set_option linter.unusedVariables false
set_option linter.unusedSimpArgs false
namespace Go.Proofs.YtnfngofcdhaaaaaGreat
open Go Go.RowKit

/-- append by its run -/
theorem step_append_by {P : Program} {ops : Array Oper} {o : Oper} {a : Act} {w w' : World} {K : Act → World → Prop} {Q : Exit → Act → World → Prop} {E : Prop}
    (hg : o.guard = none) (s x : Operand) (t : TypeId) (hop : o.op = Op.call { callee := Callee.builtin Builtin.append, args := #[s, x], argTypes := #[t, t] }) {v : Value}
    (hrun : ∀ ty, (Builtin.append_ #[t, t] ty #[a.eval s, a.eval x]).run P w = .ok v w')
    (hK : K (a.put o.dst v) w') :
    if Region.wanted o (yielded ops a.tmps) = true then Oper.wp P o a w K Q else E := by
  have hw : Region.wanted o (yielded ops a.tmps) = true := by simp [Region.wanted, hg]
  rw [if_pos hw]
  unfold Oper.wp
  simp [execOp, hop, resolve, invoke, builtin, hrun, Result.andThen]
  exact hK

/-- the row behind the move and the clearing -/
def cutRow (cur : Array Value) (k n i j : Nat) (z : List Value) : Array Value :=
  (cur.toList.take (i * k) ++ (cur.toList.drop (j * k)).take ((n - j) * k) ++ z ++ cur.toList.drop (n * k)).toArray

theorem cut_size {cur : Array Value} {k n i j : Nat} {z : List Value} (hij : i < j) (hj : j ≤ n) (hn : n * k ≤ cur.size) (hz : z.length = (j - i) * k) : (cutRow cur k n i j z).size = cur.size := by
  obtain ⟨d, rfl⟩ : ∃ d, j = i + d := ⟨j - i, by omega⟩
  obtain ⟨m, rfl⟩ : ∃ m, n = i + d + m := ⟨n - (i + d), by omega⟩
  have e1 : i + d + m - (i + d) = m := by omega
  have e2 : i + d - i = d := by omega
  unfold cutRow
  rw [e2] at hz
  rw [e1]
  simp only [Nat.add_mul] at hn ⊢
  simp only [List.size_toArray, List.length_append, List.length_take, List.length_drop, Array.length_toList, hz]
  omega

/-- append(s[:i], s[j:]...) and the clearing of what is behind, run -/
theorem run_cut {P : Program} {w : World} {ts te ty ty' : TypeId} {i0 : TypeInfo} {zv : Value} {k : Nat} (ht : P.underlying ts = some (.slice te)) (hi : P.info? te = some i0) (hz1 : i0.size = k)
    (hv : ∀ w, (zeroValue te).run P w = .ok zv w) (hzk : zv.cells.size = k) (hz1c : ∀ u ∈ zv.cells.toList, u.oneCell' = true)
    {g cap n i j : Nat} {cur : Array Value} {ety : TypeId} (hh : w.heap[g]? = some (.cells cur ety (0, 0))) (hcap : n ≤ cap) (hsz : cap * k ≤ cur.size) (hij : i < j) (hj : j ≤ n) (hone : ∀ u ∈ cur.toList.take (n * k), u.oneCell' = true)
    {A : Addr} (hA : (if cap = j then (⟨g, 0, none⟩ : Addr) else ⟨g, j * k, none⟩) = A) :
    ∃ W1, (∀ ty, (Builtin.append_ #[ts, ts] ty #[.slice (some ⟨g, 0, none⟩) i cap, .slice (some A) (n - j) (cap - j)]).run P w = .ok (.slice (some ⟨g, 0, none⟩) (i + (n - j)) cap) W1) ∧
      (∀ ty c', (Builtin.clear_ #[ts] ty #[.slice (some ⟨g, (i + (n - j)) * k, none⟩) (n - (i + (n - j))) c']).run P W1 = .ok (.tuple #[]) (w.setRow g (cutRow cur k n i j (repV zv.cells (j - i) k)))) := by
  obtain ⟨d, rfl⟩ : ∃ d, j = i + d := ⟨j - i, by omega⟩
  obtain ⟨m, rfl⟩ : ∃ m, n = i + d + m := ⟨n - (i + d), by omega⟩
  have e1 : i + d + m - (i + d) = m := by omega
  have e2 : i + d - i = d := by omega
  have e3 : i + d + m - (i + m) = d := by omega
  rw [e1, e2, e3]
  subst hz1
  have hnk : (i + d + m) * i0.size ≤ cap * i0.size := Nat.mul_le_mul_right _ hcap
  simp only [Nat.add_mul] at hnk hone ⊢
  let news := (cur.toList.drop ((i + d) * i0.size)).take (m * i0.size)
  have hnl : news.length = m * i0.size := by
    simp only [news, List.length_take, List.length_drop, Array.length_toList, Nat.add_mul]
    omega
  have hnone : ∀ u ∈ news, u.oneCell' = true := fun u hu => by
    refine hone u ?_
    simp only [news, Nat.add_mul] at hu
    rw [List.take_drop] at hu
    exact (List.drop_sublist _ _).mem hu
  have hx : ∀ w', Stay w w' → (Builtin.lenOf (.slice (some A) m (cap - (i + d)))).run P w' = .ok m w' ∧ (Builtin.firstCells i0.size m (.slice (some A) m (cap - (i + d)))).run P w' = .ok news.toArray w' := by
    intro w' hs
    refine ⟨by simp [Builtin.lenOf], ?_⟩
    have hh' : w'.heap[g]? = some (.cells cur ety (0, 0)) := (hs.block g (lt_of_block hh) (fun f => f.elim)).trans hh
    have hlt : m * i0.size = 0 ∨ A = ⟨g, (i + d) * i0.size, none⟩ := by
      split at hA
      · left
        have : m = 0 := by omega
        simp [this]
      · exact .inr hA.symm
    refine run_firstCells_some w' i0.size m A m (cap - (i + d)) news hnl fun t u hu => ?_
    have hu2 : t < news.length := (List.getElem?_eq_some_iff.1 hu).1
    rcases hlt with h0 | rfl
    · omega
    · rw [add_at, cell_of_row w' g _ cur ety _ hh']
      simp only [news, List.getElem?_take, List.getElem?_drop] at hu
      split at hu
      · simpa using hu
      · cases hu
  have happ : ∀ ty, (Builtin.append_ #[ts, ts] ty #[.slice (some ⟨g, 0, none⟩) i cap, .slice (some A) m (cap - (i + d))]).run P w = .ok (.slice (some ⟨g, 0, none⟩) (i + m) cap) (w.setRow g (cur.toList.take (i * i0.size) ++ news ++ cur.toList.drop (i * i0.size + news.length)).toArray) := fun ty =>
    run_append_in ht ht (.inl ⟨te, rfl⟩) hi hx hnl hnone hh (by omega) hsz
  refine ⟨_, happ, fun ty c' => ?_⟩
  obtain ⟨d', rfl⟩ : ∃ d', d = d' + 1 := ⟨d - 1, by omega⟩
  have hh2 := setRow_heap w g cur (cur.toList.take (i * i0.size) ++ news ++ cur.toList.drop (i * i0.size + news.length)).toArray ety _ hh
  have hzl : (repV zv.cells (d' + 1) i0.size).length = (d' + 1) * i0.size := repV_len _ _ _
  have hzo : ∀ u ∈ repV zv.cells (d' + 1) i0.size, u.oneCell' = true := fun u hu => by
    obtain ⟨t, ht, hm⟩ := mem_chunk hzl hu
    rw [repV_chunk zv.cells i0.size hzk (d' + 1) t ht] at hm
    exact hz1c u hm
  have hzc : (Builtin.zeroCells zv.cells (d' + 1)).toList = repV zv.cells (d' + 1) i0.size := by
    unfold Builtin.zeroCells
    rw [hzk]
    have := repV_arr zv.cells (d' + 1) i0.size hzk
    rw [hzk] at this
    exact this
  have hfit : (cur.toList.take (i * i0.size) ++ news ++ cur.toList.drop (i * i0.size + news.length)).length = cur.size := by
    simp only [List.length_append, List.length_take, List.length_drop, Array.length_toList, hnl]
    omega
  have hst := run_storeCells_at P g ((i + m) * i0.size) ety (repV zv.cells (d' + 1) i0.size) 0 _ _ hh2 (by rw [List.size_toArray, hfit, hzl]; simp only [Nat.add_mul] at hnk ⊢; omega) hzo
  simp only [Nat.add_zero] at hst
  rw [setRow_setRow] at hst
  have hrow : ((cur.toList.take (i * i0.size) ++ news ++ cur.toList.drop (i * i0.size + news.length)).take ((i + m) * i0.size) ++ repV zv.cells (d' + 1) i0.size ++ (cur.toList.take (i * i0.size) ++ news ++ cur.toList.drop (i * i0.size + news.length)).drop ((i + m) * i0.size + (repV zv.cells (d' + 1) i0.size).length)).toArray = cutRow cur i0.size (i + (d' + 1) + m) i (i + (d' + 1)) (repV zv.cells (d' + 1) i0.size) := by
    have hl1 : (cur.toList.take (i * i0.size) ++ news).length = (i + m) * i0.size := by
      simp only [List.length_append, List.length_take, Array.length_toList, hnl, Nat.add_mul]
      omega
    unfold cutRow
    congr 1
    rw [← hl1, List.take_left, show i + (d' + 1) + m - (i + (d' + 1)) = m by omega, List.drop_append, List.drop_eq_nil_of_le (by omega), List.nil_append, List.drop_drop]
    congr 2
    rw [hnl, hl1, hzl]
    simp only [Nat.add_mul]
    omega
  rw [hrow] at hst
  simp only [Nat.add_mul, List.append_assoc] at hst ⊢
  simp [Builtin.clear_, run_underlying ht, hv, hzc, hst]


/-- the elements behind a cut: chunk t -/
theorem cut_chunk {cur : Array Value} {k n i j : Nat} {z : List Value} (hij : i < j) (hj : j ≤ n) (hn : n * k ≤ cur.size) {t : Nat} (ht : t < i + (n - j)) :
    ((cutRow cur k n i j z).toList.drop (t * k)).take k = (cur.toList.drop ((if t < i then t else t + (j - i)) * k)).take k := by
  obtain ⟨d, rfl⟩ : ∃ d, j = i + d := ⟨j - i, by omega⟩
  obtain ⟨m, rfl⟩ : ∃ m, n = i + d + m := ⟨n - (i + d), by omega⟩
  have e1 : i + d + m - (i + d) = m := by omega
  have e2 : i + d - i = d := by omega
  rw [e1] at ht
  rw [e2]
  unfold cutRow
  rw [e1]
  simp only [Nat.add_mul] at hn
  have hl1 : (cur.toList.take (i * k)).length = i * k := by simp; omega
  have hl2 : ((cur.toList.drop ((i + d) * k)).take (m * k)).length = m * k := by
    simp only [List.length_take, List.length_drop, Array.length_toList, Nat.add_mul]; omega
  have hl3 : (cur.toList.take (i * k) ++ (cur.toList.drop ((i + d) * k)).take (m * k)).length = (i + m) * k := by rw [List.length_append, hl1, hl2, Nat.add_mul]
  show ((cur.toList.take (i * k) ++ (cur.toList.drop ((i + d) * k)).take (m * k) ++ z ++ cur.toList.drop ((i + d + m) * k)).drop (t * k)).take k = _
  rw [List.append_assoc, chunk_left _ _ (i + m) k t hl3 ht]
  split
  · rename_i h
    rw [chunk_left _ _ i k t hl1 h, ← chunk_take _ _ _ _ h]
  · rename_i h
    rw [chunk_right _ _ i k t hl1 (by omega), ← chunk_take _ m k (t - i) (by omega), List.drop_drop]
    congr 2
    rw [← Nat.add_mul]
    congr 1
    omega

noncomputable def F_delete (e : Ty) (x : List e.den × Int × Int) : Option (List e.den) := bif (decide (0 ≤ x.2.1) && decide (x.2.1 ≤ x.2.2) && decide (x.2.2 ≤ (x.1.length : Int)) && decide (x.1.length ≤ 9223372036854775807)) then some (x.1.take x.2.1.toNat ++ x.1.drop x.2.2.toNat) else none

/-- slices.Delete of a row that is handed over for good, with all that its elements own -/
theorem con_delete {P : Program} {f : FuncId} (he : Enters P f) (e : Ty) (z : List Value)
    (hsame : ∀ (A : Option Addr) (n cap i : Nat) (w : World), i ≤ n → n ≤ cap → n ≤ 9223372036854775807 → Calls P f #[.slice A n cap, .int .i64 i, .int .i64 i] w fun e w' => e = .returned (.slice A n cap) ∧ w' = w)
    (hdel : ∀ (g cap n i j : Nat) (cur : Array Value) (ety : TypeId) (w : World), w.heap[g]? = some (.cells cur ety (0, 0)) → n ≤ cap → cap * e.cells ≤ cur.size → n ≤ 9223372036854775807 → i < j → j ≤ n → (∀ u ∈ cur.toList.take (n * e.cells), u.oneCell' = true) →
      Calls P f #[.slice (some ⟨g, 0, none⟩) n cap, .int .i64 i, .int .i64 j] w fun e' w' => e' = .returned (.slice (some ⟨g, 0, none⟩) (i + (n - j)) cap) ∧ w' = w.drew.setRow g (cutRow cur e.cells n i j (repV z.toArray (j - i) e.cells))) :
    ConOK P f { ps := [(.eat true, .slice e), (.val, .int .i64), (.val, .int .i64)], rs := [(.io true, .slice e)], F := F_delete e } := by
  refine ⟨he, fun w Z X vals (x : List e.den × Int × Int) (y : List e.den) hy hXZ hXlt hold htabs hXbig => ?_⟩
  have hy : F_delete e x = some y := hy
  obtain ⟨xs, i0, j0⟩ := x
  unfold F_delete at hy
  obtain ⟨hg, hy⟩ := bif_none hy
  obtain ⟨hg, hn⟩ := and_b hg
  obtain ⟨hg, hjn⟩ := and_b hg
  obtain ⟨hi0, hij⟩ := and_b hg
  have hN : xs.length ≤ 9223372036854775807 := of_decide_eq_true hn
  have hjn : j0 ≤ (xs.length : Int) := of_decide_eq_true hjn
  have hi0 : 0 ≤ i0 := of_decide_eq_true hi0
  have hij : i0 ≤ j0 := of_decide_eq_true hij
  obtain ⟨i, rfl⟩ : ∃ i : Nat, i0 = i := ⟨i0.toNat, by omega⟩
  obtain ⟨j, rfl⟩ : ∃ j : Nat, j0 = j := ⟨j0.toNat, by omega⟩
  have hij : i ≤ j := by omega
  have hjn : j ≤ xs.length := by omega
  simp only [Int.toNat_natCast] at hy
  obtain rfl : xs.take i ++ xs.drop j = y := Option.some.inj hy
  obtain ⟨v, r, F1, F2, rfl, s1, s2, s3, how, v1, r1, rfl, hv1, v2, r2, rfl, hv2, hr⟩ := hold
  obtain rfl : r2 = [] := hr
  have how : RowOf P false true e w Z F1 v xs := how
  obtain ⟨c1, b1, q1⟩ := hv1
  obtain ⟨c2, b2, q2⟩ := hv2
  obtain rfl : v1 = .int .i64 i := by
    have b1 : c1 = [v1] := b1
    have q1 : c1 = [.int .i64 (i : Int)] := q1
    rw [b1] at q1
    simpa using q1
  obtain rfl : v2 = .int .i64 j := by
    have b2 : c2 = [v2] := b2
    have q2 : c2 = [.int .i64 (j : Int)] := q2
    rw [b2] at q2
    simpa using q2
  obtain ⟨A, cap, rfl, hcap, hm⟩ := how
  have done : ∀ (w' : World) (v' : Value), Fr F1 w w' → RowOf P false true e w' (fun b => Z b ∨ (w.heap.size ≤ b ∧ ¬ F1 b ∧ ¬ NoB b)) F1 v' (xs.take i ++ xs.drop j) →
      ∃ v vs, ∃ F G : Nat → Prop, Ending.returned v' = .returned v ∧ Tupled vs v ∧ vs.length = 1 ∧ Fr X w w' ∧
        (∀ b, F b → (w.heap.size ≤ b ∨ (X b ∧ Sig.ios [(PK.eat true, Ty.slice e), (PK.val, Ty.int .i64), (PK.val, Ty.int .i64)] = [])) ∧ b < w'.heap.size) ∧ (∀ b, G b → (X b ∨ w.heap.size ≤ b) ∧ b < w'.heap.size) ∧ (∀ b, F b → ¬ G b) ∧
        Holds P w' (fun b => Z b ∨ (w.heap.size ≤ b ∧ ¬ F b ∧ ¬ G b)) G (Sig.ios [(PK.eat true, Ty.slice e), (PK.val, Ty.int .i64), (PK.val, Ty.int .i64)]) (ioVals [(PK.eat true, Ty.slice e), (PK.val, Ty.int .i64), (PK.val, Ty.int .i64)] [.slice A xs.length cap, .int .i64 i, .int .i64 j]) (Sig.fst (Sig.ios [(PK.eat true, Ty.slice e), (PK.val, Ty.int .i64), (PK.val, Ty.int .i64)]) [(PK.io true, Ty.slice e)] (xs.take i ++ xs.drop j)) ∧
        Holds P w' (fun b => Z b ∨ (w.heap.size ≤ b ∧ ¬ F b ∧ ¬ G b)) F [(PK.io true, Ty.slice e)] vs (Sig.snd (Sig.ios [(PK.eat true, Ty.slice e), (PK.val, Ty.int .i64), (PK.val, Ty.int .i64)]) [(PK.io true, Ty.slice e)] (xs.take i ++ xs.drop j)) := by
    intro w' v' hfr hrow
    exact ⟨v', [v'], F1, NoB, rfl, rfl, rfl, ⟨hfr.os, hfr.tape, hfr.output, hfr.size, fun b hb hn => hfr.block b hb fun hf => hn (s1 b hf), hfr.glob⟩, fun b hb => ⟨.inr ⟨s1 b hb, rfl⟩, Nat.lt_of_lt_of_le (hXlt b (s1 b hb)) hfr.size⟩, fun _ f => f.elim, fun _ _ f => f, rfl,
      ⟨v', [], F1, NoB, rfl, fun _ h => h, fun _ f => f.elim, fun _ _ f => f, hrow, rfl⟩⟩
  rcases Nat.eq_or_lt_of_le hij with rfl | hlt
  · refine (hsame A xs.length cap i w hjn hcap hN).mono ?_
    rintro e' w' ⟨rfl, rfl⟩
    rw [List.take_append_drop] at done ⊢
    refine done w' _ (Fr.refl _ _).le (RowOf.agree ⟨A, cap, rfl, hcap, hm⟩ (fun b _ hz => .inl hz) (Agree.refl _ _) (fun _ h => h) (Agree.refl _ _))
  rcases hm with h0 | ⟨g, cur, ety, rfl, hF, hh, hsz, Fs, f1, f2, f3⟩
  · omega
  have hread : RdC P (.slice e) w (fun _ => True) [.slice (some ⟨g, 0, none⟩) xs.length cap] xs := RowOf.read (mk := false) (dp := true) (Z := Z) (F := F1) ⟨some ⟨g, 0, none⟩, cap, rfl, hcap, .inr ⟨g, cur, ety, rfl, hF, hh, hsz, Fs, f1, f2, f3⟩⟩ (fun _ _ _ => trivial) (fun _ _ _ => trivial)
  have hcL : xs.length * e.cells ≤ cur.size := Nat.le_trans (Nat.mul_le_mul_right _ hcap) hsz
  have htl : (cur.toList.take (xs.length * e.cells)).length = xs.length * e.cells := by simp; omega
  have hone : ∀ u ∈ cur.toList.take (xs.length * e.cells), u.oneCell' = true := fun u hu => by
    obtain ⟨t, ht, hm⟩ := mem_chunk htl hu
    rw [← chunk_take _ _ _ _ ht] at hm
    exact (RdC.cells e _ _ (OwC.read (Z' := fun _ => True) (fun _ _ _ => trivial) e (Fs t) _ _ (fun _ _ _ => trivial) (f3 t ht))).2 u hm
  refine (hdel g cap xs.length i j cur ety w hh hcap hsz hN hlt hjn hone).mono ?_
  rintro e' w' ⟨rfl, rfl⟩
  have hyl : (xs.take i ++ xs.drop j).length = i + (xs.length - j) := by simp; omega
  have hcs := cut_size (k := e.cells) (z := repV z.toArray (j - i) e.cells) hlt hjn hcL (repV_len _ _ _)
  have hgl : nGlob ≤ g := hXbig g (s1 g hF)
  have hfr0 : Fr (fun b => b = g) w (w.drew.setRow g (cutRow cur e.cells xs.length i j (repV z.toArray (j - i) e.cells))) := by
    have := setRow_fr w.drew g (cutRow cur e.cells xs.length i j (repV z.toArray (j - i) e.cells)) hgl
    exact ⟨this.os, this.tape, this.output, this.size, this.block, this.glob⟩
  have hh' := setRow_heap w.drew g cur (cutRow cur e.cells xs.length i j (repV z.toArray (j - i) e.cells)) ety _ hh
  have hsub : ∀ b, b < w.heap.size → Z b → ¬ b = g := fun b _ hz e => hXZ g (s1 g hF) (e ▸ hz)
  refine done _ _ ⟨hfr0.os, hfr0.tape, hfr0.output, hfr0.size, fun b hb hn => hfr0.block b hb fun e => hn (by subst e; exact hF), hfr0.glob⟩
    ⟨some ⟨g, 0, none⟩, cap, by rw [hyl], by rw [hyl]; omega, .inr ⟨g, _, ety, rfl, hF, hh', by rw [hcs]; exact hsz, fun t => Fs (if t < i then t else t + (j - i)), fun t b hb => f1 _ b hb, fun t u htu b => f2 _ _ (by split <;> split <;> omega) b, fun t ht => ?_⟩⟩
  rw [hyl] at ht
  rw [cut_chunk hlt hjn hcL ht]
  have hq : (if t < i then t else t + (j - i)) < xs.length := by split <;> omega
  have hel : (xs.take i ++ xs.drop j)[t]'(by rw [hyl]; exact ht) = xs[if t < i then t else t + (j - i)] := by
    apply Option.some.inj
    rw [← List.getElem?_eq_getElem, ← List.getElem?_eq_getElem]
    split
    · rename_i h
      rw [List.getElem?_append_left (by simp; omega), List.getElem?_take, if_pos h]
    · rename_i h
      rw [List.getElem?_append_right (by simp; omega), List.getElem?_drop]
      congr 1
      simp
      omega
  rw [hel]
  exact OwC.agree (fun b _ hz => .inl hz) (hfr0.agree Z hsub) e _ _ _ _ (fun _ h => h) (hfr0.agree _ fun b _ hb e => (f1 _ b hb).2 e) (f3 _ hq)
end Go.Proofs.YtnfngofcdhaaaaaGreat
