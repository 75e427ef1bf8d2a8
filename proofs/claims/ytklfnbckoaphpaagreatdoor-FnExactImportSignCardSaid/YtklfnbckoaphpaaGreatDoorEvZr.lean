/- The evaluator is sound for the body of a range over a function, too: a round's code is walked in a round's frame. No conditions. -/
import Derived.Test.YtklfnbckoaphpaaGreatDoorEvZk
import Derived.RangeFuncNested
import Derived.RangeFuncBound
import Derived.RangeFuncCalls
import Derived.RangeFuncLeaves
import Derived.OwnWalkIn
import Derived.TacticsInMore
import Derived.LoopNIn
import Derived.LoopIn
import Derived.RangeFuncBox
import Derived.WalkKit
set_option linter.unusedVariables false
set_option linter.unusedSimpArgs false
namespace Go.Proofs.YtklfnbckoaphpaaGreatDoor
open Go Go.RowKit

abbrev FR (l : Nat) : Fence := Fence.wide.inRound l

theorem rowsIn_wide' {n : Nat} {P : Program} {row : String} {args : Array Value} {w : World} {R : Value → World → Prop} (l : Nat) (h : Rows P row args w R) : RowsIn (FR l) n P row args w R :=
  fun c cs _ => let ⟨v, w', r, s⟩ := h c cs; ⟨v, w', r, stepsIn_wide.2 s⟩

/-- an operation in a round's frame -/
theorem oper_in {l n : Nat} {P : Program} {o : Oper} {a : Act} {w : World} {K : Act → World → Prop} {Q : Exit → Act → World → Prop} (hd : ∀ c, o.op ≠ .defer c) (h : o.wp P a w K Q) : o.wpIn (FR l) n P a w K Q := by
  refine ⟨fun _ _ => trivial, ?_⟩
  rw [show (FR l).round = some l from rfl, Oper.semAt_some l _ _ hd]
  unfold Oper.wp at h
  generalize (execOp a.eval o).run P w = res at *
  cases res with
  | ok x w' =>
    cases x <;> simp only [Oper.upon, Oper.uponIn] at h ⊢ <;>
      first
        | exact h
        | exact ⟨(fun h => by cases h), CallsIn.inRound l (callsIn_wide.2 h)⟩
        | exact ⟨(fun h => by cases h), rowsIn_wide' l h⟩
  | halt x w' => cases x <;> simp only [Oper.upon, Oper.uponIn] at h ⊢ <;> exact h

/-- another word at the ways out -/
theorem Oper.wp_out {P : Program} {o : Oper} {a : Act} {w : World} {K : Act → World → Prop} {Q Q' : Exit → Act → World → Prop} (hp : ∀ c w', Q (.panic c) a w' → Q' (.panic c) a w') (hl : LetsOut Q → LetsOut Q') (h : o.wp P a w K Q) : o.wp P a w K Q' := by
  unfold Oper.wp at *
  generalize (execOp a.eval o).run P w = res at *
  cases res with
  | ok x w' =>
    cases x <;> simp only [Oper.upon] at h ⊢ <;>
      first
        | exact h
        | exact Calls.mono h (fun e w'' he => by cases e <;> first | exact he | exact hp _ _ he | exact hl he)
  | halt x w' => cases x <;> simp only [Oper.upon] at h ⊢ <;> first | exact h | exact hp _ _ h

/-- the temporaries outside T are as they were -/
def KeepT (T : List Nat) (a a' : Act) : Prop := ∀ t, t ∉ T → a'.tmps[t]? = a.tmps[t]?
theorem KeepT.refl (T : List Nat) (a : Act) : KeepT T a a := fun _ _ => rfl
theorem KeepT.put {T : List Nat} {a a1 a2 : Act} (h : KeepT T a a1) {e : Option Nat} {u : Value} (he : ∀ d, e = some d → d ∈ T) (h2 : a2.tmps = (a1.put e u).tmps) : KeepT T a a2 := by
  intro t ht
  rw [h2]
  cases e with
  | none => exact h t ht
  | some d =>
    show (a1.tmps.setIfInBounds d u)[t]? = _
    rw [Array.getElem?_setIfInBounds, if_neg (fun (e : d = t) => ht (e ▸ he d rfl))]
    exact h t ht

def okOps (T : List Nat) (ops : Array Oper) : Bool := ops.toList.all fun o => (match o.op with | .defer _ => false | _ => true) && (match o.dst with | some d => T.contains d | none => true)
theorem okOps_spec {T : List Nat} {ops : Array Oper} (h : okOps T ops = true) {i : Nat} {o : Oper} (ho : ops[i]? = some o) : (∀ c, o.op ≠ .defer c) ∧ ∀ d, o.dst = some d → d ∈ T := by
  have hm : o ∈ ops.toList := by
    have := List.mem_of_getElem? (l := ops.toList) (i := i) (by rw [Array.getElem?_toList]; exact ho)
    exact this
  have := List.all_eq_true.1 h o hm
  obtain ⟨h1, h2⟩ := and_b this
  refine ⟨fun c e => ?_, fun d e => ?_⟩
  · rw [e] at h1; cases h1
  · rw [e] at h2; simpa using h2

theorem wpOps_in {l n : Nat} {P : Program} {ops : Array Oper} {Q : Exit → Act → World → Prop} {T : List Nat} (hok : okOps T ops = true) (hQ : ∀ a w, ¬ Q .outgrown a w) (a0 : Act) :
    ∀ (is : List Nat) (a : Act) (w : World), KeepT T a0 a → wpOps P ops Q is a w → wpOpsIn (FR l) n P ops (fun e a' w' => Q e a' w' ∧ KeepT T a0 a') is a w
  | [], a, w, hk, h => ⟨h, hk⟩
  | i :: rest, a, w, hk, h => by
    simp only [wpOps, wpOpsIn] at h ⊢
    cases ho : ops[i]? with
    | none =>
      rw [ho] at h
      exact wpOps_in hok hQ a0 rest a w hk h
    | some o =>
      rw [ho] at h
      simp only at h ⊢
      obtain ⟨hd, hdst⟩ := okOps_spec hok ho
      by_cases hw : Region.wanted o (yielded ops a.tmps) = true
      · rw [if_pos hw] at h ⊢
        rcases h with h | ⟨_, a', w', hl⟩
        · refine oper_in hd (Oper.wp_out (Q := Q) (fun c w' hq => ⟨hq, hk⟩) (fun hl => by obtain ⟨a', w', hl⟩ := hl; exact absurd hl (hQ _ _)) ?_)
          refine Oper.wp_mono ?_ (Oper.wp_put h)
          rintro a' w' ⟨h1, u, hu⟩
          exact wpOps_in hok hQ a0 rest a' w' (hk.put hdst hu) h1
        · exact absurd hl (hQ _ _)
      · rw [if_neg hw] at h ⊢
        refine ⟨fun _ _ => trivial, wpOps_in hok hQ a0 rest _ w (hk.put (e := o.dst) (u := undef) hdst rfl) h⟩

/-- what a region asks, said of its operations -/
def RegWp (P : Program) (ops : Array Oper) (draw : Bool) (Q : Exit → Act → World → Prop) (a : Act) (w : World) : Prop :=
  match draw with
  | false => wpOps P ops Q (List.range ops.size) a w
  | true => ∀ t, wpOps P ops Q (Region.schedule (P.follows .mixedOrders) ops t) a { w with drawn := w.drawn + 1 }
theorem region_in {l n : Nat} {P : Program} {id : Nat} {ops : Array Oper} {draw : Bool} {Q : Exit → Act → World → Prop} {T : List Nat} (hok : okOps T ops = true) (hQ : ∀ a w, ¬ Q .outgrown a w) {a : Act} {w : World} (h : RegWp P ops draw Q a w) :
    (Code.region id ops draw).wpIn (FR l) n P (fun e a' w' => Q e a' w' ∧ KeepT T a a') a w := by
  cases draw with
  | false => exact wpIn_region (wpOps_in hok hQ a _ a w (KeepT.refl T a) h)
  | true => exact wpIn_region_draw fun t => wpOps_in hok hQ a _ a _ (KeepT.refl T a) (h t)

section
variable {ρ : Type} {B : Base} {E : Env} {σ : St} {a : Act} {w : World} {H : Nat → Option Value} {φ : Nat → Nat → Prop}
theorem wpOps_mono_n {P : Program} {ops : Array Oper} {Q Q' : Exit → Act → World → Prop} (h0 : ∀ a w, Q .normal a w → Q' .normal a w) (hp : ∀ c a w, Q (.panic c) a w → Q' (.panic c) a w) (hl : ∀ a w, ¬ Q .outgrown a w) : ∀ (is : List Nat) (a : Act) (w : World), wpOps P ops Q is a w → wpOps P ops Q' is a w
  | [], a, w, h => h0 _ _ h
  | i :: rest, a, w, h => by
    simp only [wpOps] at h ⊢
    cases ho : ops[i]? with
    | none => rw [ho] at h; exact wpOps_mono_n h0 hp hl rest a w h
    | some o =>
      rw [ho] at h
      simp only at h ⊢
      by_cases hw : Region.wanted o (yielded ops a.tmps) = true
      · rw [if_pos hw] at h ⊢
        rcases h with h | ⟨_, a', w', hq⟩
        · exact .inl (Oper.wp_out (Q := Q) (fun c w' hq => hp _ _ _ hq) (fun hq => by obtain ⟨a', w', hq⟩ := hq; exact absurd hq (hl _ _)) (Oper.wp_mono (fun a' w' => wpOps_mono_n h0 hp hl rest a' w') h))
        · exact absurd hq (hl _ _)
      · rw [if_neg hw] at h ⊢
        exact wpOps_mono_n h0 hp hl rest _ w h
/-- a region, said of its operations -/
theorem evRegOps_ok (hm : B.P.follows .mixedOrders = true) (hE : EnvOK B.P E) (hpar : E.par = B.par) (hB : B.R = NoB) {id : Nat} {ops : Array Oper} {draw : Bool} {k : St → Option ρ} {r : ρ} {Q : Exit → Act → World → Prop} (hQ : ∀ σ' a' w', k σ' = some r → RelA B σ' a' w' → Q .normal a' w') (hQo : ∀ a w, ¬ Q .outgrown a w)
    (hA : RelA B σ a w) (hv : (bif draw then (bif ops.toList.all (quietOp E) then (bif lexF ops then evOpsG (evOpQ E) ops.toList ops.toList σ k else none)
        else (bif Region.noSelect ops then evH E ops (ops.size + ops.size) (Array.replicate ops.size false) σ k else none)) else evOpsG (evOp E) ops.toList ops.toList σ fun σ' => closeAll E (opnNames σ'.blks) σ' fun σ2 => settleAll E id σ2 k) = some r) : RegWp B.P ops draw Q a w := by
  cases draw with
  | false =>
    show wpOps B.P ops Q (List.range ops.size) a w
    rw [List.range_eq_range', ← Array.length_toList, wpOps_eq_wpList ops.toList 0 (by simp)]
    refine evOps_ok hE hpar hB (fun σ' a' w' hk hA' => ?_) ops.toList σ a w hA hv
    obtain ⟨hdef, H, φ, h⟩ := hA'
    obtain ⟨σ2, H2, φ2, hk2, h2⟩ := closeAll_ok hpar _ h hk
    obtain ⟨σ3, hk3, h3⟩ := settleAll_ok h2 hk2
    exact hQ σ3 a' w' hk3 ⟨hdef, H2, φ2, h3⟩
  | true =>
    intro t
    simp only [Region.schedule, hm, Bool.true_or, if_true]
    simp only [cond_true] at hv
    cases hq : ops.toList.all (quietOp E) with
    | true =>
      rw [hq] at hv
      simp only [cond_true] at hv
      obtain ⟨hB', hv⟩ := bif_none hv
      have hB' := lexF_ok hB'
      obtain ⟨hdef, H, φ, h⟩ := hA
      simp only [Region.lexB, Bool.and_eq_true] at hB'
      refine wpAny_sound ops.size t _ a _ (wpAny_of_quiet (C := fun w' => Fr NoB w w') (Q := fun a' => ∀ w', Fr NoB w w' → Q .normal a' w') (fun _ w' hw' h => h w' hw') _ _ _ _ ⟨rfl, rfl, rfl, Nat.le_refl _, fun _ _ _ => rfl, fun _ _ _ => rfl⟩ ?_)
      have := wpAnyQ_lex (C := fun w' => Fr NoB w w') (md := .any) hB'.1 ops.toList 0 (Array.replicate ops.size false) a (by simp) (by simpa using hB'.2)
        (evOpsQ_ok hE (ds := []) (fun σ' a' hk hr hd w' hw' => hQ σ' a' w' hk ⟨hd, H, φ, (Rel.step (B := B) (R1 := B.R) (R2 := B.R) hr (by rw [hB]; exact hw') (fun i hi => by rw [hB] at hi; exact hi.elim)).1⟩) ops.toList σ a h hdef hv)
      simpa using this
    | false =>
      rw [hq] at hv
      simp only [cond_false] at hv
      obtain ⟨hs, hv⟩ := bif_none hv
      obtain ⟨hdef, H, φ, h⟩ := hA
      show wpOps B.P ops Q (Region.linearise.go .any ops ops.size t (Array.replicate ops.size false) []) a w.drew
      refine wpOps_mono_n (Q := NoPanic Q) (Q' := Q) (fun _ _ h => h) (fun _ _ _ h => h.elim) (fun a w h => hQo a w h) _ _ _ (wpAny_sound ops.size t _ a _ (wpAny_of_Z (E := E) (L0 := Array.replicate ops.size false) (S := fun w' => Fr NoB w.drew w') _ _ _ _ ?_))
      refine evH_ok hE hpar hB hs hQ _ _ σ a w.drew ⟨hdef, H, φ, ?_⟩ hv (closed_start _) _ (by rw [unl_rep]; exact Nat.le_refl _)
      exact (Rel.step (B := B) (R1 := B.R) (R2 := B.R) h (by rw [hB]; exact drew_fr w) (fun i hi => by rw [hB] at hi; exact hi.elim)).1

def okR (T : List Nat) : Code → Bool
  | .skip => true
  | .region _ ops _ => okOps T ops
  | .seq a b => okR T a && okR T b
  | .cond _ a b => okR T a && okR T b
  | .block _ b => okR T b
  | .exit _ => true
  | .ret => true
  | _ => false

/-- a round's code, in a round's frame -/
theorem ev_round {Λ : Nat → Option Loop} (hm : B.P.follows .mixedOrders = true) (hE : EnvOK B.P E) (hpar : E.par = B.par) (hB : B.R = NoB) {T : List Nat} {l n : Nat} : ∀ (c : Code), okR T c = true →
    ∀ {ρ : Type} (σ : St) (a0 a : Act) (w : World) (k : Exit → St → Option ρ) (r : ρ) (Q : Exit → Act → World → Prop), (∀ a w, ¬ Q .outgrown a w) → KeepT T a0 a → RelA B σ a w → ev E Λ c σ k = some r →
      (∀ e σ' a' w', k e σ' = some r → RelA B σ' a' w' → KeepT T a0 a' → Q e a' w') → c.wpIn (FR l) n B.P Q a w := by
  intro c
  induction c with
  | skip => intro _ ρ σ a0 a w k r Q hQo hT hA hv hQ; exact wpIn_skip (hQ _ _ _ _ hv hA hT)
  | region id ops draw =>
    intro hok ρ σ a0 a w k r Q hQo hT hA hv hQ
    refine wpIn_mono (region_in (T := T) (Q := fun e a' w' => e ≠ .outgrown ∧ ∀ (hT' : KeepT T a a'), Q e a' w') hok (fun a w h => h.1 rfl) (evRegOps_ok (k := k .normal) (id := id) hm hE hpar hB (fun σ' a' w' hk hA' => ⟨by simp, fun hT' => hQ _ _ _ _ hk hA' (fun t ht => (hT' t ht).trans (hT t ht))⟩) (fun a w h => h.1 rfl) hA hv)) ?_
    rintro e a' w' ⟨⟨_, h1⟩, h2⟩
    exact h1 h2
  | seq x y ihx ihy =>
    intro hok ρ σ a0 a w k r Q hQo hT hA hv hQ
    obtain ⟨hx, hy⟩ := and_b hok
    have hQo' : ∀ (K : Act → World → Prop) a w, ¬ Exit.then K Q .outgrown a w := fun K a w h => hQo a w h
    simp only [ev, evA] at hv
    split at hv
    · refine wpIn_seq (ihx hx σ a0 a w _ r _ (hQo' _) hT hA hv fun e σ' a' w' hk hA' hT' => ?_)
      cases e with
      | normal => exact ihy hy σ' a0 a' w' k r Q hQo hT' hA' hk hQ
      | exit id => exact hQ _ _ _ _ hk hA' hT'
      | goto l => exact hQ _ _ _ _ hk hA' hT'
      | ret => exact hQ _ _ _ _ hk hA' hT'
      | panic ch => exact hQ _ _ _ _ hk hA' hT'
      | outgrown => exact hQ _ _ _ _ hk hA' hT'
    · rename_i p hp
      have other : ∀ {e : Exit} {σ' : St} {q : p.den ⊕ ρ}, e ≠ .normal → joinK p k e σ' = some q → ∃ r', k e σ' = some r' ∧ q = .inr r' := by
        intro e σ' q hne hk
        have hk' : (match k e σ' with | some r => some (Sum.inr r : p.den ⊕ ρ) | none => none) = some q := by
          cases e <;> first | exact absurd rfl hne | exact hk
        split at hk'
        · rename_i r' hr'
          exact ⟨r', hr', (Option.some.inj hk').symm⟩
        · cases hk'
      have normal : ∀ {σ' : St} {q : p.den ⊕ ρ}, joinK p k .normal σ' = some q → ∃ s, p.dec σ' = some s ∧ q = .inl s := by
        intro σ' q hk
        simp only [joinK] at hk
        split at hk
        · rename_i s hs
          exact ⟨s, hs, (Option.some.inj hk).symm⟩
        · cases hk
      split at hv
      · cases hv
      · rename_i s hs
        refine wpIn_seq (ihx hx σ a0 a w _ (Sum.inl s) _ (hQo' _) hT hA hs fun e σ' a' w' hk hA' hT' => ?_)
        by_cases he : e = .normal
        · subst he
          obtain ⟨s', hd, e1⟩ := normal hk
          obtain rfl := Sum.inl.inj e1
          obtain ⟨hdf, H, φ, hr⟩ := hA'
          obtain ⟨H', φ', hr'⟩ := dec_ok hr hd
          exact ihy hy _ a0 a' w' k r Q hQo hT' ⟨hdf, H', φ', hr'⟩ hv hQ
        · obtain ⟨r', _, e1⟩ := other he hk
          cases e1
      · rename_i r0 hs
        obtain rfl := Option.some.inj hv
        refine wpIn_seq (ihx hx σ a0 a w _ (Sum.inr r0) _ (hQo' _) hT hA hs fun e σ' a' w' hk hA' hT' => ?_)
        by_cases he : e = .normal
        · subst he
          obtain ⟨s', _, e1⟩ := normal hk
          cases e1
        · obtain ⟨r', hk', e1⟩ := other he hk
          obtain rfl := Sum.inr.inj e1
          cases e with
          | normal => exact absurd rfl he
          | exit id => exact hQ _ _ _ _ hk' hA' hT'
          | goto l => exact hQ _ _ _ _ hk' hA' hT'
          | ret => exact hQ _ _ _ _ hk' hA' hT'
          | panic ch => exact hQ _ _ _ _ hk' hA' hT'
          | outgrown => exact hQ _ _ _ _ hk' hA' hT'
  | cond c x y ihx ihy =>
    intro hok ρ σ a0 a w k r Q hQo hT hA hv hQ
    obtain ⟨hx, hy⟩ := and_b hok
    simp only [ev, evA] at hv
    split at hv
    · rename_i b hc
      obtain ⟨hdef, H, φ, h⟩ := id hA
      refine wpIn_cond (h.bool hc) ?_
      cases b with
      | true => exact ihx hx σ a0 a w k r Q hQo hT hA hv hQ
      | false => exact ihy hy σ a0 a w k r Q hQo hT hA hv hQ
    · cases hv
  | block id b ih =>
    intro hok ρ σ a0 a w k r Q hQo hT hA hv hQ
    refine wpIn_block (ih hok σ a0 a w _ r _ (fun a w h => hQo a w h) hT hA hv fun e σ' a' w' hk hA' hT' => ?_)
    cases e with
    | exit id' =>
      simp only [inBlk] at hk
      simp only [Exit.inBlock]
      by_cases hid : id' = id
      · rw [if_pos hid]
        have : (id' == id) = true := by simpa using hid
        rw [this] at hk
        exact hQ _ _ _ _ hk hA' hT'
      · rw [if_neg hid]
        have : (id' == id) = false := by simpa using hid
        rw [this] at hk
        exact hQ _ _ _ _ hk hA' hT'
    | normal => exact hQ _ _ _ _ hk hA' hT'
    | goto l => exact hQ _ _ _ _ hk hA' hT'
    | ret => exact hQ _ _ _ _ hk hA' hT'
    | panic ch => exact hQ _ _ _ _ hk hA' hT'
    | outgrown => exact hQ _ _ _ _ hk hA' hT'
  | exit id => intro _ ρ σ a0 a w k r Q hQo hT hA hv hQ; exact wpIn_exit (hQ _ _ _ _ hv hA hT)
  | ret => intro _ ρ σ a0 a w k r Q hQo hT hA hv hQ; exact wpIn_ret (hQ _ _ _ _ hv hA hT)
  | _ => intro hok; simp [okR] at hok

end
end Go.Proofs.YtklfnbckoaphpaaGreatDoor
