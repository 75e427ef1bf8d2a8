/- A range over an iterator: where it begins, and what it leaves. No conditions. -/
import Derived.Test.YtklfnbckoaphpaaGreatDoorEvZsi
set_option linter.unusedVariables false
set_option linter.unusedSimpArgs false
namespace Go.Proofs.YtklfnbckoaphpaaGreatDoor
open Go Go.RowKit

section
variable {B : Base} {σ σ' : St} {tm : Array Value} {w : World} {H : Nat → Option Value} {φ : Nat → Nat → Prop}
theorem Rel.perm (h : Rel B σ tm w H φ) (ht : σ'.tmps = σ.tmps) (hl : ∀ n, look n σ'.blks = look n σ.blks) : Rel B σ' tm w H φ := by
  have hL : lenOf σ'.blks = lenOf σ.blks := by funext n; simp only [lenOf, hl n]
  refine ⟨⟨h.mem.fr, fun n hn => h.mem.hdom n (by rw [← hl n]; exact hn), fun n hn => h.mem.fdom n (by rw [← hl n]; exact hn), h.mem.fsub, h.mem.fdis, h.mem.rdis, h.mem.rsub, h.mem.keep, fun n b hb => ?_⟩, ?_⟩
  · rw [hL]
    exact h.mem.blk n b (by rw [← hl n]; exact hb)
  · rw [ht, hL]; exact h.tmp
end

theorem set_same {tm : Array Value} {i : Nat} {v : Value} (h : tm[i]? = some v) : tm.setIfInBounds i v = tm := by
  apply Array.ext
  · simp
  · intro j h1 h2
    rw [Array.getElem_setIfInBounds]
    split
    · rename_i e
      subst e
      rw [Array.getElem?_eq_getElem h2] at h
      exact (Option.some.inj h).symm
    · rfl
theorem any_rel {C : Cx} : ∀ (vs : List Value), All2 (ARel C) (List.replicate vs.length A.any) vs
  | [] => trivial
  | v :: vs => ⟨trivial, any_rel vs⟩

/-- nothing is named yet; X: what will be -/
def baseL (P : Program) (Sp X : Nat → Prop) (par : List Nat) (w : World) (hpk : ∀ n, par.contains n = true → 62 ≤ n % 64) (ht : Tabs P w) (hx : ∀ b, X b → nGlob ≤ b) : Base :=
  { P := P, Z0 := fun b => ¬ Sp b, X0 := X, w0 := w, par := par, R := NoB, io := fun _ => none, iok := (fun _ _ h => by cases h), parok := hpk, tabs := ht, x0 := hx }
theorem rel_start {P : Program} {Sp X : Nat → Prop} {par : List Nat} {w : World} {hpk ht hx} (tm : Array Value) (hX : ∀ b, X b → b < w.heap.size) :
    Rel ((baseL P Sp X par w hpk ht hx).on X) (St.of (List.replicate tm.size .any) []) tm w (fun _ => none) (fun _ _ => False) := by
  refine ⟨⟨Fr.refl _ _, fun _ _ => rfl, fun _ _ _ f => f, fun _ _ f => f.elim, fun _ _ _ _ f => f.elim, fun _ _ f => f.elim, fun b hb => ⟨.inl hb, hX b hb⟩, (fun _ _ h => by cases h), fun n b hb => by simp [St.of, look] at hb⟩, ?_⟩
  have := any_rel (C := ((baseL P Sp X par w hpk ht hx).on X).cx w (fun _ => none) (fun _ _ => False) (lenOf [])) tm.toList
  rw [Array.length_toList] at this
  exact this

/-- on only if all went well -/
def kN {ρ : Type} (f : St → Option ρ) : Exit → St → Option ρ
  | .normal, σ => f σ
  | _, _ => none
def codeAt : Nat → Code → Code
  | 0, .seq a _ => a
  | n + 1, .seq _ b => codeAt n b
  | _, c => c
/-- cells that lean on nothing -/
def freeCell : Cell → Bool
  | .int _ _ => true
  | .bool _ => true
  | .str _ => true
  | _ => false
theorem CellRel.free {C C' : Cx} {c : Cell} {v : Value} (hf : freeCell c = true) (h : CellRel C c v) : CellRel C' c v := by
  cases c <;> first | exact h | cases hf
theorem cells_free {C C' : Cx} : ∀ {cs : List Cell} {vs : List Value}, cs.all freeCell = true → All2 (CellRel C) cs vs → All2 (CellRel C') cs vs
  | [], [], _, _ => trivial
  | [], _ :: _, _, h => h.elim
  | _ :: _, [], _, h => h.elim
  | c :: cs, v :: vs, hf, h => by
    have hf' : freeCell c = true ∧ cs.all freeCell = true := by simpa using hf
    exact ⟨h.1.free hf'.1, cells_free hf'.2 h.2⟩

section
variable {B : Base} {σ : St} {tm : Array Value} {w : World} {H : Nat → Option Value} {φ : Nat → Nat → Prop}
/-- what a box holds -/
theorem Rel.boxAt (hr : Rel B σ tm w H φ) {t n : Nat} {cs : List Cell} (hσ : σ.tmps[t]? = some (.c (.ptr n 0))) (hn : look n σ.blks = some (.box cs)) :
    ∃ b us ety, tm[t]? = some (.pointer (some ⟨b, 0, none⟩)) ∧ w.heap[b]? = some (.cells us ety (0, 0)) ∧ φ n b ∧ All2 (CellRel (B.cx w H φ (lenOf σ.blks))) cs us.toList := by
  obtain ⟨v, hv, g, hg, e1⟩ := All2.get hr.tmp t _ hσ
  obtain ⟨v1, hv1, g', us, ety, e2, hF, hh, hal⟩ := hr.mem.blk n _ hn
  obtain rfl : g' = g := by
    have hg : H _ = _ := hg
    rw [hv1, e2] at hg
    have := Option.some.inj hg
    simpa using this
  exact ⟨g', us, ety, by rw [← e1]; simpa using hv, hh, hF, hal⟩
end

/-- three boxes -/
theorem lm_box3 {P : Program} {Sp : Nat → Prop} {n₀ k : Nat} {tm : Array Value} {w : World} {t1 b1 t2 b2 t3 b3 : Nat} {u1 u2 u3 : Array Value} {e1 e2 e3 : TypeId} {c1 c2 c3 : List Cell} (ht : Tabs P w) (hn0 : nGlob ≤ n₀)
    (h1 : w.heap[b1]? = some (.cells u1 e1 (0, 0))) (q1 : ∀ C, All2 (CellRel C) c1 u1.toList) (h1n : n₀ ≤ b1 ∧ ¬ Sp b1) (htm1 : tm[t1]? = some (.pointer (some ⟨b1, 0, none⟩)))
    (h2 : w.heap[b2]? = some (.cells u2 e2 (0, 0))) (q2 : ∀ C, All2 (CellRel C) c2 u2.toList) (h2n : n₀ ≤ b2 ∧ ¬ Sp b2) (htm2 : tm[t2]? = some (.pointer (some ⟨b2, 0, none⟩)))
    (h3 : w.heap[b3]? = some (.cells u3 e3 (0, 0))) (q3 : ∀ C, All2 (CellRel C) c3 u3.toList) (h3n : n₀ ≤ b3 ∧ ¬ Sp b3) (htm3 : tm[t3]? = some (.pointer (some ⟨b3, 0, none⟩)))
    (h12 : b1 ≠ b2) (h13 : b1 ≠ b3) (h23 : b2 ≠ b3) (hk : tm.size = k)
    {σ : St} (hσt : σ.tmps = (((List.replicate k A.any).set t1 (.c (.ptr 62 0))).set t2 (.c (.ptr 126 0))).set t3 (.c (.ptr 190 0))) (hσb : σ.blks = [(62, .box c1), (126, .box c2), (190, .box c3)]) : LM P [62, 126, 190] Sp n₀ σ tm w := by
  have hb1 : b1 < w.heap.size := (Array.getElem?_eq_some_iff.1 h1).1
  have hb2 : b2 < w.heap.size := (Array.getElem?_eq_some_iff.1 h2).1
  have hb3 : b3 < w.heap.size := (Array.getElem?_eq_some_iff.1 h3).1
  have hpk : ∀ n, ([62, 126, 190] : List Nat).contains n = true → 62 ≤ n % 64 := fun n h => by simp at h; omega
  have hx : ∀ b, (b = b1 ∨ b = b2 ∨ b = b3) → nGlob ≤ b := fun b hb => by rcases hb with rfl | rfl | rfl <;> omega
  have r0 := rel_start (P := P) (Sp := Sp) (X := fun b => b = b1 ∨ b = b2 ∨ b = b3) (par := [62, 126, 190]) (w := w) (hpk := hpk) (ht := ht) (hx := hx) tm (fun b hb => by rcases hb with rfl | rfl | rfl <;> assumption)
  have r1 := Rel.fresh (B := (baseL P Sp (fun b => b = b1 ∨ b = b2 ∨ b = b3) [62, 126, 190] w hpk ht hx).on (fun b => b = b2 ∨ b = b3)) (R1 := fun b => b = b1 ∨ b = b2 ∨ b = b3) r0 (fun _ h => .inr h) (n := 62) rfl rfl (w' := w) (b := .box c1) (v := .pointer (some ⟨b1, 0, none⟩)) (F := fun b => b = b1) (Fr.refl _ w)
    (fun i hi => by subst hi; exact ⟨.inr ⟨.inl rfl, fun q => by rcases q with q | q; exact h12 q; exact h13 q, .inl ⟨rfl, .inl rfl⟩⟩, hb1⟩)
    (fun C' hle hw hP _ => ⟨b1, u1, e1, rfl, rfl, by rw [hw]; exact h1, q1 _⟩)
  have r2 := Rel.fresh (B := (baseL P Sp (fun b => b = b1 ∨ b = b2 ∨ b = b3) [62, 126, 190] w hpk ht hx).on (fun b => b = b3)) (R1 := fun b => b = b2 ∨ b = b3) r1 (fun _ h => .inr h) (n := 126) rfl rfl (w' := w) (b := .box c2) (v := .pointer (some ⟨b2, 0, none⟩)) (F := fun b => b = b2) (Fr.refl _ w)
    (fun i hi => by subst hi; exact ⟨.inr ⟨.inl rfl, fun q => h23 q, .inl ⟨rfl, .inr (.inl rfl)⟩⟩, hb2⟩)
    (fun C' hle hw hP _ => ⟨b2, u2, e2, rfl, rfl, by rw [hw]; exact h2, q2 _⟩)
  have r3 := Rel.fresh (B := baseL P Sp (fun b => b = b1 ∨ b = b2 ∨ b = b3) [62, 126, 190] w hpk ht hx) (R1 := fun b => b = b3) r2 (fun _ h => h.elim) (n := 190) rfl rfl (w' := w) (b := .box c3) (v := .pointer (some ⟨b3, 0, none⟩)) (F := fun b => b = b3) (Fr.refl _ w)
    (fun i hi => by subst hi; exact ⟨.inr ⟨rfl, fun f => f, .inl ⟨rfl, .inr (.inr rfl)⟩⟩, hb3⟩)
    (fun C' hle hw hP _ => ⟨b3, u3, e3, rfl, rfl, by rw [hw]; exact h3, q3 _⟩)
  have r4 := Rel.set r3 t1 (x := .c (.ptr 62 0)) (v := .pointer (some ⟨b1, 0, none⟩)) ⟨b1, rfl, rfl⟩
  rw [set_same htm1] at r4
  have r5 := Rel.set r4 t2 (x := .c (.ptr 126 0)) (v := .pointer (some ⟨b2, 0, none⟩)) ⟨b2, rfl, rfl⟩
  rw [set_same htm2] at r5
  have r6 := Rel.set r5 t3 (x := .c (.ptr 190 0)) (v := .pointer (some ⟨b3, 0, none⟩)) ⟨b3, rfl, rfl⟩
  rw [set_same htm3] at r6
  refine ⟨⟨_, _, _, rfl, rfl, rfl, fun _ => rfl, rfl, fun _ => Iff.rfl, fun b hb => by rcases hb with rfl | rfl | rfl <;> assumption, Rel.perm r6 ?_ ?_⟩⟩
  · rw [hσt, ← hk]; repeat rw [St.set_tmps]
    rfl
  · intro n
    rw [hσb]
    by_cases e1 : n = 62
    · subst e1; rfl
    · by_cases e2 : n = 126
      · subst e2; rfl
      · by_cases e3 : n = 190
        · subst e3; rfl
        · have a1 : (62 == n) = false := beq_eq_false_iff_ne.2 (Ne.symm e1)
          have a2 : (126 == n) = false := beq_eq_false_iff_ne.2 (Ne.symm e2)
          have a3 : (190 == n) = false := beq_eq_false_iff_ne.2 (Ne.symm e3)
          simp [look, St.of, St.set, St.setBlk, blkSet, a1, a2, a3]

theorem kN_some {ρ : Type} {f : St → Option ρ} {e : Exit} {σ : St} {r : ρ} (h : kN f e σ = some r) : e = .normal ∧ f σ = some r := by
  cases e <;> first | exact ⟨rfl, h⟩ | cases h
theorem then_normal {K : Act → World → Prop} {Q : Exit → Act → World → Prop} {a : Act} {w : World} (h : K a w) : Exit.then K Q .normal a w := h
/-- one text is handed over -/
theorem relA_str {B : Base} (hR : B.R = NoB) (hio : ∀ n, B.io n = none) (n : Nat) (x : ByteArray) : RelA B (initSt [(.val, .str)] (n + 1) x) { tmps := #[.string x] ++ Array.replicate n undef, defers := [] } B.w0 := by
  refine ⟨rfl, fun _ => none, fun _ _ => False, ⟨Fr.refl _ _, fun _ _ => rfl, fun _ _ _ f => f, fun _ _ f => f.elim, fun _ _ _ _ f => f.elim, fun _ _ f => f.elim, (fun b hb => by rw [hR] at hb; exact hb.elim), (fun n v h => by rw [hio] at h; cases h), fun n b hn => by have h' : look n ([] : List (Nat × Blk)) = some b := hn; simp [look] at h'⟩, ?_⟩
  have : (#[Value.string x] ++ Array.replicate n undef).toList = .string x :: List.replicate n undef := by simp
  show All2 _ (initAs 0 [(.val, .str)] x ++ repA (n + 1 - 1)) _
  rw [this]
  exact ⟨rfl, repA_rel n⟩

/-! ### a region of a function that puts something off -/
def wd (d : List Deferred) (a : Act) : Act := { a with defers := a.defers ++ d }
theorem wd_eval (d : List Deferred) (a : Act) : (wd d a).eval = a.eval := rfl
theorem wd_put (d : List Deferred) (a : Act) (o : Option Nat) (v : Value) : (wd d a).put o v = wd d (a.put o v) := by cases o <;> rfl
theorem Oper.wp_wd {P : Program} {o : Oper} {a : Act} {w : World} {K : Act → World → Prop} {Q : Exit → Act → World → Prop} (d : List Deferred) (h : o.wp P a w K Q) :
    o.wp P (wd d a) w (fun a' w' => ∃ a0, a' = wd d a0 ∧ K a0 w') (fun e a' w' => ∃ a0, a' = wd d a0 ∧ Q e a0 w') := by
  unfold Oper.wp at *
  rw [wd_eval]
  generalize (execOp a.eval o).run P w = res at *
  have hl : LetsOut Q → LetsOut (fun e a' w' => ∃ a0, a' = wd d a0 ∧ Q e a0 w') := fun h => by obtain ⟨a', w', hl⟩ := h; exact ⟨_, w', a', rfl, hl⟩
  cases res with
  | ok x w' =>
    cases x <;> simp only [Oper.upon] at h ⊢ <;>
      first
        | exact ⟨_, wd_put _ _ _ _, h⟩
        | exact ⟨_, (by cases o.dst <;> rfl), h⟩
        | (rename_i dd; exact ⟨({ a with defers := dd :: a.defers } : Act).put o.dst undef, (by cases o.dst <;> rfl), h⟩)
        | exact Calls.mono h (fun e w'' he => by cases e <;> first | exact ⟨_, wd_put _ _ _ _, he⟩ | exact ⟨_, rfl, he⟩ | exact hl he)
        | exact Rows.mono h (fun v w'' he => ⟨_, wd_put _ _ _ _, he⟩)
        | exact h
  | halt x w' => cases x <;> simp only [Oper.upon] at h ⊢ <;> first | exact ⟨_, rfl, h⟩ | exact h
theorem wpOps_wd {P : Program} {ops : Array Oper} {Q : Exit → Act → World → Prop} (d : List Deferred) : ∀ (is : List Nat) (a : Act) (w : World), wpOps P ops Q is a w → wpOps P ops (fun e a' w' => ∃ a0, a' = wd d a0 ∧ Q e a0 w') is (wd d a) w
  | [], a, w, h => ⟨a, rfl, h⟩
  | i :: rest, a, w, h => by
    simp only [wpOps] at h ⊢
    cases ho : ops[i]? with
    | none =>
      rw [ho] at h
      exact wpOps_wd d rest a w h
    | some o =>
      rw [ho] at h
      simp only at h ⊢
      by_cases hw : Region.wanted o (yielded ops a.tmps) = true
      · rw [if_pos hw] at h
        rw [if_pos (show Region.wanted o (yielded ops (wd d a).tmps) = true from hw)]
        rcases h with h | ⟨h1, a', w', hl⟩
        · refine .inl (Oper.wp_mono ?_ (Oper.wp_wd d h))
          rintro a' w' ⟨a0, rfl, h0⟩
          exact wpOps_wd d rest a0 w' h0
        · exact .inr ⟨h1, _, w', a', rfl, hl⟩
      · rw [if_neg hw] at h
        rw [if_neg (show ¬ Region.wanted o (yielded ops (wd d a).tmps) = true from hw), wd_put]
        exact wpOps_wd d rest _ w h

section
variable {ρ : Type} {B : Base} {E : Env} {σ : St} {a : Act} {w : World} {H : Nat → Option Value} {φ : Nat → Nat → Prop}
theorem ev_region_wd {Λ : Nat → Option Loop} (hm : B.P.follows .mixedOrders = true) (hE : EnvOK B.P E) (hpar : E.par = B.par) (hB : B.R = NoB) (d : List Deferred) {id : Nat} {ops : Array Oper} {draw : Bool} {k : Exit → St → Option ρ} {r : ρ} {Q : Exit → Act → World → Prop}
    (hA : RelA B σ a w) (hv : ev E Λ (.region id ops draw) σ k = some r) (hQ : ∀ σ' a0 w', k .normal σ' = some r → RelA B σ' a0 w' → Q .normal (wd d a0) w') : (Code.region id ops draw).wp B.P Q (wd d a) w := by
  have h := evRegOps_ok (Q := fun e a' w' => e = .normal ∧ ∃ σ', k .normal σ' = some r ∧ RelA B σ' a' w') (id := id) (k := k .normal) hm hE hpar hB (fun σ' a' w' hk hA' => ⟨rfl, σ', hk, hA'⟩) (fun a w h => by cases h.1) hA hv
  have fin : ∀ e a' w', (∃ a0, a' = wd d a0 ∧ e = Exit.normal ∧ ∃ σ', k .normal σ' = some r ∧ RelA B σ' a0 w') → Q e a' w' := by
    rintro e a' w' ⟨a0, rfl, rfl, σ', hk, hA'⟩
    exact hQ σ' a0 w' hk hA'
  cases draw with
  | false => exact wp_mono (wp_region (wpOps_wd d _ _ _ h)) fin
  | true => exact wp_mono (wp_region_draw fun t => wpOps_wd d _ _ _ (h t)) fin
end

/-! ### results that are plain -/
theorem RdV.scalW {P : Program} {w w' : World} {Z Z' : Nat → Prop} {t : Ty} {v : Value} {x : t.den} (hs : t.scal = true) (h : RdV P t w Z v x) : RdV P t w' Z' v x := by
  obtain ⟨cs, h1, h2⟩ := h
  exact ⟨cs, h1, (RdC.scal t hs _ _).2 ((RdC.scal t hs _ _).1 h2)⟩
theorem Holds.scalW {P : Program} {w w' : World} {Z Z' : Nat → Prop} : ∀ (rs : List (PK × Ty)) (F F' : Nat → Prop) (vs : List Value) (y : Sig.den rs), rs.all isValS = true → Holds P w Z F rs vs y → Holds P w' Z' F' rs vs y
  | [], _, _, _, _, _, h => h
  | (.val, t) :: rs, F, F', vs, y, hs, h => by
    obtain ⟨v, r, rfl, h1, h2⟩ := h
    have hs' : t.scal = true ∧ rs.all isValS = true := by simpa using hs
    exact ⟨v, r, rfl, h1.scalW hs'.1, Holds.scalW rs _ _ r _ hs'.2 h2⟩
  | (.io d, t) :: rs, F, F', vs, y, hs, h => by simp [isValS] at hs
  | (.eat d, t) :: rs, F, F', vs, y, hs, h => by simp [isValS] at hs
/-- what is given out at the end -/
def plainEnd (E : Env) (fn : Func) (rs : List (PK × Ty)) (σ : St) : Option (Sig.den rs) :=
  match resAs E σ fn.results.toList with
  | some xs => bif nodupB (ownNames rs xs) && subsOK rs xs then readRes σ.blks [] rs xs else none
  | none => none
theorem plainEnd_ok {B : Base} {E : Env} {σ : St} {a : Act} {w : World} {H : Nat → Option Value} {φ : Nat → Nat → Prop} (hE : EnvOK B.P E) (h : Rel B σ a.tmps w H φ) {fn : Func} {rs : List (PK × Ty)} {y : Sig.den rs} (hs : rs.all isValS = true) (hk : plainEnd E fn rs σ = some y) :
    ∃ v vs, (results fn a.tmps).run B.P w = .ok v w ∧ Tupled vs v ∧ vs = valsL rs y ∧ ∀ w' Z F, Holds B.P w' Z F rs vs y := by
  unfold plainEnd at hk
  split at hk
  · rename_i xs hxs
    have hk0 := bif_none hk
    clear hk
    obtain ⟨hg, hk⟩ := hk0
    obtain ⟨hg1, hg2⟩ := and_b hg
    obtain ⟨vs, hvs, hrun⟩ := resAs_ok (B := B) hE h fn.results.toList xs hxs
    obtain ⟨v, hv, htup⟩ := results_run hrun
    have hh := readRes_ok (B := B) h (Z' := zone B w φ) (fun _ _ h => h) (bs' := []) (Reads.nil' fun _ _ h => h) rs xs vs y hk (nodupB_spec hg1) hg2 hvs
    exact ⟨v, vs, hv, htup, holds_valsL rs _ vs y hs hh, fun w' Z F => Holds.scalW rs _ _ vs y hs hh⟩
  · cases hk
end Go.Proofs.YtklfnbckoaphpaaGreatDoor
