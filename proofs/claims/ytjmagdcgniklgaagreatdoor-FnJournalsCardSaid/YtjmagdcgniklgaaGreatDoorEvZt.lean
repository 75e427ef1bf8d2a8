/- Plain laws for this claim, several texts in one. No conditions beyond the bounds that are named. -/
import Derived.Test.YtjmagdcgniklgaaGreatDoorEvZk
import Derived.RangeFuncNested
import Derived.RangeFuncBound
import Derived.RangeFuncCalls
import Derived.RangeFuncLeaves
import Derived.OwnWalkIn
import Derived.TacticsInMore
import Derived.LoopNIn
import Derived.LoopIn
import Derived.RangeFuncBox
import Derived.WalkKit
import Derived.Lib.Bytealg
/- The evaluator is sound for the body of a range over a function, too: a round's code is walked in a round's frame. No conditions. -/
set_option linter.unusedVariables false
set_option linter.unusedSimpArgs false
namespace Go.Proofs.YtjmagdcgniklgaaGreatDoor
open Go Go.RowKit

abbrev FR (l : Nat) : Fence := Fence.wide.inRound l

theorem rowsIn_wide' {n : Nat} {P : Program} {row : String} {args : Array Value} {w : World} {R : Value → World → Prop} (l : Nat) (h : Rows P row args w R) : RowsIn (FR l) n P row args w R :=
  fun c cs _ => let ⟨v, w', r, s⟩ := h c cs; ⟨v, w', r, stepsIn_wide.2 s⟩

/-- an operation in a round's frame -/
theorem oper_in {l n : Nat} {P : Program} {o : Oper} {a : Act} {w : World} {K : Act → World → Prop} {Q : Exit → Act → World → Prop} (hd : ∀ c, o.op ≠ .defer c) (h : o.wp P a w K Q) : o.wpIn (FR l) n P a w K Q := by
  refine ⟨fun _ _ => trivial, ?_⟩
  rw [show (FR l).round = some l from rfl, Oper.semAt_some l _ _ hd]
  unfold Oper.wp at h
  generalize (execOp a.eval o).run P w = res at *
  cases res with
  | ok x w' =>
    cases x <;> simp only [Oper.upon, Oper.uponIn] at h ⊢ <;>
      first
        | exact h
        | exact ⟨(fun h => by cases h), CallsIn.inRound l (callsIn_wide.2 h)⟩
        | exact ⟨(fun h => by cases h), rowsIn_wide' l h⟩
  | halt x w' => cases x <;> simp only [Oper.upon, Oper.uponIn] at h ⊢ <;> exact h

/-- another word at the ways out -/
theorem Oper.wp_out {P : Program} {o : Oper} {a : Act} {w : World} {K : Act → World → Prop} {Q Q' : Exit → Act → World → Prop} (hp : ∀ c w', Q (.panic c) a w' → Q' (.panic c) a w') (hl : LetsOut Q → LetsOut Q') (h : o.wp P a w K Q) : o.wp P a w K Q' := by
  unfold Oper.wp at *
  generalize (execOp a.eval o).run P w = res at *
  cases res with
  | ok x w' =>
    cases x <;> simp only [Oper.upon] at h ⊢ <;>
      first
        | exact h
        | exact Calls.mono h (fun e w'' he => by cases e <;> first | exact he | exact hp _ _ he | exact hl he)
  | halt x w' => cases x <;> simp only [Oper.upon] at h ⊢ <;> first | exact h | exact hp _ _ h

/-- the temporaries outside T are as they were -/
def KeepT (T : List Nat) (a a' : Act) : Prop := ∀ t, t ∉ T → a'.tmps[t]? = a.tmps[t]?
theorem KeepT.refl (T : List Nat) (a : Act) : KeepT T a a := fun _ _ => rfl
theorem KeepT.put {T : List Nat} {a a1 a2 : Act} (h : KeepT T a a1) {e : Option Nat} {u : Value} (he : ∀ d, e = some d → d ∈ T) (h2 : a2.tmps = (a1.put e u).tmps) : KeepT T a a2 := by
  intro t ht
  rw [h2]
  cases e with
  | none => exact h t ht
  | some d =>
    show (a1.tmps.setIfInBounds d u)[t]? = _
    rw [Array.getElem?_setIfInBounds, if_neg (fun (e : d = t) => ht (e ▸ he d rfl))]
    exact h t ht

def okOps (T : List Nat) (ops : Array Oper) : Bool := ops.toList.all fun o => (match o.op with | .defer _ => false | _ => true) && (match o.dst with | some d => T.contains d | none => true)
theorem okOps_spec {T : List Nat} {ops : Array Oper} (h : okOps T ops = true) {i : Nat} {o : Oper} (ho : ops[i]? = some o) : (∀ c, o.op ≠ .defer c) ∧ ∀ d, o.dst = some d → d ∈ T := by
  have hm : o ∈ ops.toList := by
    have := List.mem_of_getElem? (l := ops.toList) (i := i) (by rw [Array.getElem?_toList]; exact ho)
    exact this
  have := List.all_eq_true.1 h o hm
  obtain ⟨h1, h2⟩ := and_b this
  refine ⟨fun c e => ?_, fun d e => ?_⟩
  · rw [e] at h1; cases h1
  · rw [e] at h2; simpa using h2

theorem wpOps_in {l n : Nat} {P : Program} {ops : Array Oper} {Q : Exit → Act → World → Prop} {T : List Nat} (hok : okOps T ops = true) (hQ : ∀ a w, ¬ Q .outgrown a w) (a0 : Act) :
    ∀ (is : List Nat) (a : Act) (w : World), KeepT T a0 a → wpOps P ops Q is a w → wpOpsIn (FR l) n P ops (fun e a' w' => Q e a' w' ∧ KeepT T a0 a') is a w
  | [], a, w, hk, h => ⟨h, hk⟩
  | i :: rest, a, w, hk, h => by
    simp only [wpOps, wpOpsIn] at h ⊢
    cases ho : ops[i]? with
    | none =>
      rw [ho] at h
      exact wpOps_in hok hQ a0 rest a w hk h
    | some o =>
      rw [ho] at h
      simp only at h ⊢
      obtain ⟨hd, hdst⟩ := okOps_spec hok ho
      by_cases hw : Region.wanted o (yielded ops a.tmps) = true
      · rw [if_pos hw] at h ⊢
        rcases h with h | ⟨_, a', w', hl⟩
        · refine oper_in hd (Oper.wp_out (Q := Q) (fun c w' hq => ⟨hq, hk⟩) (fun hl => by obtain ⟨a', w', hl⟩ := hl; exact absurd hl (hQ _ _)) ?_)
          refine Oper.wp_mono ?_ (Oper.wp_put h)
          rintro a' w' ⟨h1, u, hu⟩
          exact wpOps_in hok hQ a0 rest a' w' (hk.put hdst hu) h1
        · exact absurd hl (hQ _ _)
      · rw [if_neg hw] at h ⊢
        refine ⟨fun _ _ => trivial, wpOps_in hok hQ a0 rest _ w (hk.put (e := o.dst) (u := undef) hdst rfl) h⟩

/-- what a region asks, said of its operations -/
def RegWp (P : Program) (ops : Array Oper) (draw : Bool) (Q : Exit → Act → World → Prop) (a : Act) (w : World) : Prop :=
  match draw with
  | false => wpOps P ops Q (List.range ops.size) a w
  | true => ∀ t, wpOps P ops Q (Region.schedule (P.follows .mixedOrders) ops t) a { w with drawn := w.drawn + 1 }
theorem region_in {l n : Nat} {P : Program} {id : Nat} {ops : Array Oper} {draw : Bool} {Q : Exit → Act → World → Prop} {T : List Nat} (hok : okOps T ops = true) (hQ : ∀ a w, ¬ Q .outgrown a w) {a : Act} {w : World} (h : RegWp P ops draw Q a w) :
    (Code.region id ops draw).wpIn (FR l) n P (fun e a' w' => Q e a' w' ∧ KeepT T a a') a w := by
  cases draw with
  | false => exact wpIn_region (wpOps_in hok hQ a _ a w (KeepT.refl T a) h)
  | true => exact wpIn_region_draw fun t => wpOps_in hok hQ a _ a _ (KeepT.refl T a) (h t)

section
variable {ρ : Type} {B : Base} {E : Env} {σ : St} {a : Act} {w : World} {H : Nat → Option Value} {φ : Nat → Nat → Prop}
theorem wpOps_mono_n {P : Program} {ops : Array Oper} {Q Q' : Exit → Act → World → Prop} (h0 : ∀ a w, Q .normal a w → Q' .normal a w) (hp : ∀ c a w, Q (.panic c) a w → Q' (.panic c) a w) (hl : ∀ a w, ¬ Q .outgrown a w) : ∀ (is : List Nat) (a : Act) (w : World), wpOps P ops Q is a w → wpOps P ops Q' is a w
  | [], a, w, h => h0 _ _ h
  | i :: rest, a, w, h => by
    simp only [wpOps] at h ⊢
    cases ho : ops[i]? with
    | none => rw [ho] at h; exact wpOps_mono_n h0 hp hl rest a w h
    | some o =>
      rw [ho] at h
      simp only at h ⊢
      by_cases hw : Region.wanted o (yielded ops a.tmps) = true
      · rw [if_pos hw] at h ⊢
        rcases h with h | ⟨_, a', w', hq⟩
        · exact .inl (Oper.wp_out (Q := Q) (fun c w' hq => hp _ _ _ hq) (fun hq => by obtain ⟨a', w', hq⟩ := hq; exact absurd hq (hl _ _)) (Oper.wp_mono (fun a' w' => wpOps_mono_n h0 hp hl rest a' w') h))
        · exact absurd hq (hl _ _)
      · rw [if_neg hw] at h ⊢
        exact wpOps_mono_n h0 hp hl rest _ w h
/-- a region, said of its operations -/
theorem evRegOps_ok (hm : B.P.follows .mixedOrders = true) (hE : EnvOK B.P E) (hpar : E.par = B.par) (hB : B.R = NoB) {id : Nat} {ops : Array Oper} {draw : Bool} {k : St → Option ρ} {r : ρ} {Q : Exit → Act → World → Prop} (hQ : ∀ σ' a' w', k σ' = some r → RelA B σ' a' w' → Q .normal a' w') (hQo : ∀ a w, ¬ Q .outgrown a w)
    (hA : RelA B σ a w) (hv : (bif draw then (bif ops.toList.all (quietOp E) then (bif lexF ops then evOpsG (evOpQ E) ops.toList ops.toList σ k else none)
        else (bif Region.noSelect ops then evH E ops (ops.size + ops.size) (Array.replicate ops.size false) σ k else none)) else evOpsG (evOp E) ops.toList ops.toList σ fun σ' => closeAll E (opnNames σ'.blks) σ' fun σ2 => settleAll E id σ2 k) = some r) : RegWp B.P ops draw Q a w := by
  cases draw with
  | false =>
    show wpOps B.P ops Q (List.range ops.size) a w
    rw [List.range_eq_range', ← Array.length_toList, wpOps_eq_wpList ops.toList 0 (by simp)]
    refine evOps_ok hE hpar hB (fun σ' a' w' hk hA' => ?_) ops.toList σ a w hA hv
    obtain ⟨hdef, H, φ, h⟩ := hA'
    obtain ⟨σ2, H2, φ2, hk2, h2⟩ := closeAll_ok hpar _ h hk
    obtain ⟨σ3, hk3, h3⟩ := settleAll_ok h2 hk2
    exact hQ σ3 a' w' hk3 ⟨hdef, H2, φ2, h3⟩
  | true =>
    intro t
    simp only [Region.schedule, hm, Bool.true_or, if_true]
    simp only [cond_true] at hv
    cases hq : ops.toList.all (quietOp E) with
    | true =>
      rw [hq] at hv
      simp only [cond_true] at hv
      obtain ⟨hB', hv⟩ := bif_none hv
      have hB' := lexF_ok hB'
      obtain ⟨hdef, H, φ, h⟩ := hA
      simp only [Region.lexB, Bool.and_eq_true] at hB'
      refine wpAny_sound ops.size t _ a _ (wpAny_of_quiet (C := fun w' => Fr NoB w w') (Q := fun a' => ∀ w', Fr NoB w w' → Q .normal a' w') (fun _ w' hw' h => h w' hw') _ _ _ _ ⟨rfl, rfl, rfl, Nat.le_refl _, fun _ _ _ => rfl, fun _ _ _ => rfl⟩ ?_)
      have := wpAnyQ_lex (C := fun w' => Fr NoB w w') (md := .any) hB'.1 ops.toList 0 (Array.replicate ops.size false) a (by simp) (by simpa using hB'.2)
        (evOpsQ_ok hE (ds := []) (fun σ' a' hk hr hd w' hw' => hQ σ' a' w' hk ⟨hd, H, φ, (Rel.step (B := B) (R1 := B.R) (R2 := B.R) hr (by rw [hB]; exact hw') (fun i hi => by rw [hB] at hi; exact hi.elim)).1⟩) ops.toList σ a h hdef hv)
      simpa using this
    | false =>
      rw [hq] at hv
      simp only [cond_false] at hv
      obtain ⟨hs, hv⟩ := bif_none hv
      obtain ⟨hdef, H, φ, h⟩ := hA
      show wpOps B.P ops Q (Region.linearise.go .any ops ops.size t (Array.replicate ops.size false) []) a w.drew
      refine wpOps_mono_n (Q := NoPanic Q) (Q' := Q) (fun _ _ h => h) (fun _ _ _ h => h.elim) (fun a w h => hQo a w h) _ _ _ (wpAny_sound ops.size t _ a _ (wpAny_of_Z (E := E) (L0 := Array.replicate ops.size false) (S := fun w' => Fr NoB w.drew w') _ _ _ _ ?_))
      refine evH_ok hE hpar hB hs hQ _ _ σ a w.drew ⟨hdef, H, φ, ?_⟩ hv (closed_start _) _ (by rw [unl_rep]; exact Nat.le_refl _)
      exact (Rel.step (B := B) (R1 := B.R) (R2 := B.R) h (by rw [hB]; exact drew_fr w) (fun i hi => by rw [hB] at hi; exact hi.elim)).1

def okR (T : List Nat) : Code → Bool
  | .skip => true
  | .region _ ops _ => okOps T ops
  | .seq a b => okR T a && okR T b
  | .cond _ a b => okR T a && okR T b
  | .block _ b => okR T b
  | .exit _ => true
  | .ret => true
  | _ => false

/-- a round's code, in a round's frame -/
theorem ev_round {Λ : Nat → Option Loop} (hm : B.P.follows .mixedOrders = true) (hE : EnvOK B.P E) (hpar : E.par = B.par) (hB : B.R = NoB) {T : List Nat} {l n : Nat} : ∀ (c : Code), okR T c = true →
    ∀ {ρ : Type} (σ : St) (a0 a : Act) (w : World) (k : Exit → St → Option ρ) (r : ρ) (Q : Exit → Act → World → Prop), (∀ a w, ¬ Q .outgrown a w) → KeepT T a0 a → RelA B σ a w → ev E Λ c σ k = some r →
      (∀ e σ' a' w', k e σ' = some r → RelA B σ' a' w' → KeepT T a0 a' → Q e a' w') → c.wpIn (FR l) n B.P Q a w := by
  intro c
  induction c with
  | skip => intro _ ρ σ a0 a w k r Q hQo hT hA hv hQ; exact wpIn_skip (hQ _ _ _ _ hv hA hT)
  | region id ops draw =>
    intro hok ρ σ a0 a w k r Q hQo hT hA hv hQ
    refine wpIn_mono (region_in (T := T) (Q := fun e a' w' => e ≠ .outgrown ∧ ∀ (hT' : KeepT T a a'), Q e a' w') hok (fun a w h => h.1 rfl) (evRegOps_ok (k := k .normal) (id := id) hm hE hpar hB (fun σ' a' w' hk hA' => ⟨by simp, fun hT' => hQ _ _ _ _ hk hA' (fun t ht => (hT' t ht).trans (hT t ht))⟩) (fun a w h => h.1 rfl) hA hv)) ?_
    rintro e a' w' ⟨⟨_, h1⟩, h2⟩
    exact h1 h2
  | seq x y ihx ihy =>
    intro hok ρ σ a0 a w k r Q hQo hT hA hv hQ
    obtain ⟨hx, hy⟩ := and_b hok
    have hQo' : ∀ (K : Act → World → Prop) a w, ¬ Exit.then K Q .outgrown a w := fun K a w h => hQo a w h
    simp only [ev, evA] at hv
    split at hv
    · refine wpIn_seq (ihx hx σ a0 a w _ r _ (hQo' _) hT hA hv fun e σ' a' w' hk hA' hT' => ?_)
      cases e with
      | normal => exact ihy hy σ' a0 a' w' k r Q hQo hT' hA' hk hQ
      | exit id => exact hQ _ _ _ _ hk hA' hT'
      | goto l => exact hQ _ _ _ _ hk hA' hT'
      | ret => exact hQ _ _ _ _ hk hA' hT'
      | panic ch => exact hQ _ _ _ _ hk hA' hT'
      | outgrown => exact hQ _ _ _ _ hk hA' hT'
    · rename_i p hp
      have other : ∀ {e : Exit} {σ' : St} {q : p.den ⊕ ρ}, e ≠ .normal → joinK p k e σ' = some q → ∃ r', k e σ' = some r' ∧ q = .inr r' := by
        intro e σ' q hne hk
        have hk' : (match k e σ' with | some r => some (Sum.inr r : p.den ⊕ ρ) | none => none) = some q := by
          cases e <;> first | exact absurd rfl hne | exact hk
        split at hk'
        · rename_i r' hr'
          exact ⟨r', hr', (Option.some.inj hk').symm⟩
        · cases hk'
      have normal : ∀ {σ' : St} {q : p.den ⊕ ρ}, joinK p k .normal σ' = some q → ∃ s, p.dec σ' = some s ∧ q = .inl s := by
        intro σ' q hk
        simp only [joinK] at hk
        split at hk
        · rename_i s hs
          exact ⟨s, hs, (Option.some.inj hk).symm⟩
        · cases hk
      split at hv
      · cases hv
      · rename_i s hs
        refine wpIn_seq (ihx hx σ a0 a w _ (Sum.inl s) _ (hQo' _) hT hA hs fun e σ' a' w' hk hA' hT' => ?_)
        by_cases he : e = .normal
        · subst he
          obtain ⟨s', hd, e1⟩ := normal hk
          obtain rfl := Sum.inl.inj e1
          obtain ⟨hdf, H, φ, hr⟩ := hA'
          obtain ⟨H', φ', hr'⟩ := dec_ok hr hd
          exact ihy hy _ a0 a' w' k r Q hQo hT' ⟨hdf, H', φ', hr'⟩ hv hQ
        · obtain ⟨r', _, e1⟩ := other he hk
          cases e1
      · rename_i r0 hs
        obtain rfl := Option.some.inj hv
        refine wpIn_seq (ihx hx σ a0 a w _ (Sum.inr r0) _ (hQo' _) hT hA hs fun e σ' a' w' hk hA' hT' => ?_)
        by_cases he : e = .normal
        · subst he
          obtain ⟨s', _, e1⟩ := normal hk
          cases e1
        · obtain ⟨r', hk', e1⟩ := other he hk
          obtain rfl := Sum.inr.inj e1
          cases e with
          | normal => exact absurd rfl he
          | exit id => exact hQ _ _ _ _ hk' hA' hT'
          | goto l => exact hQ _ _ _ _ hk' hA' hT'
          | ret => exact hQ _ _ _ _ hk' hA' hT'
          | panic ch => exact hQ _ _ _ _ hk' hA' hT'
          | outgrown => exact hQ _ _ _ _ hk' hA' hT'
  | cond c x y ihx ihy =>
    intro hok ρ σ a0 a w k r Q hQo hT hA hv hQ
    obtain ⟨hx, hy⟩ := and_b hok
    simp only [ev, evA] at hv
    split at hv
    · rename_i b hc
      obtain ⟨hdef, H, φ, h⟩ := id hA
      refine wpIn_cond (h.bool hc) ?_
      cases b with
      | true => exact ihx hx σ a0 a w k r Q hQo hT hA hv hQ
      | false => exact ihy hy σ a0 a w k r Q hQo hT hA hv hQ
    · cases hv
  | block id b ih =>
    intro hok ρ σ a0 a w k r Q hQo hT hA hv hQ
    refine wpIn_block (ih hok σ a0 a w _ r _ (fun a w h => hQo a w h) hT hA hv fun e σ' a' w' hk hA' hT' => ?_)
    cases e with
    | exit id' =>
      simp only [inBlk] at hk
      simp only [Exit.inBlock]
      by_cases hid : id' = id
      · rw [if_pos hid]
        have : (id' == id) = true := by simpa using hid
        rw [this] at hk
        exact hQ _ _ _ _ hk hA' hT'
      · rw [if_neg hid]
        have : (id' == id) = false := by simpa using hid
        rw [this] at hk
        exact hQ _ _ _ _ hk hA' hT'
    | normal => exact hQ _ _ _ _ hk hA' hT'
    | goto l => exact hQ _ _ _ _ hk hA' hT'
    | ret => exact hQ _ _ _ _ hk hA' hT'
    | panic ch => exact hQ _ _ _ _ hk hA' hT'
    | outgrown => exact hQ _ _ _ _ hk hA' hT'
  | exit id => intro _ ρ σ a0 a w k r Q hQo hT hA hv hQ; exact wpIn_exit (hQ _ _ _ _ hv hA hT)
  | ret => intro _ ρ σ a0 a w k r Q hQo hT hA hv hQ; exact wpIn_ret (hQ _ _ _ _ hv hA hT)
  | _ => intro hok; simp [okR] at hok

end
end Go.Proofs.YtjmagdcgniklgaaGreatDoor
/- A range over an iterator of lines, whose body is evaluated. No conditions. -/
set_option linter.unusedVariables false
set_option linter.unusedSimpArgs false
namespace Go.Proofs.YtjmagdcgniklgaaGreatDoor
open Go Go.RowKit

section
variable {B B' : Base} {σ : St} {tm : Array Value} {w w' : World} {H : Nat → Option Value} {φ : Nat → Nat → Prop}
/-- the frame begins anew: in a world in which none but the special blocks have turned -/
theorem Rel.rebase (h : Rel B σ tm w H φ) {Sp : Nat → Prop} (hP : B'.P = B.P) (hw0 : B'.w0 = w') (hR' : B'.R = NoB) (hio : ∀ n, B'.io n = none) (hZ' : ∀ b, ¬ Sp b → B'.Z0 b) (hX' : ∀ n b, φ n b → B'.X0 b)
    (hpar : ∀ n, look n σ.blks ≠ none → B'.par.contains n = true) (hsz : w.heap.size ≤ w'.heap.size) (hsame : ∀ b, b < w.heap.size → ¬ Sp b → w'.heap[b]? = w.heap[b]?) (hz : ∀ b, zone B w φ b → ¬ Sp b) (hn : ∀ n b, φ n b → ¬ Sp b) : Rel B' σ tm w' H φ := by
  have ag : Agree (zone B w φ) w w' := ⟨hsz, fun b hb hzb => hsame b hb (hz b hzb)⟩
  have hzz : ∀ b, b < w.heap.size → zone B w φ b → zone B' w' φ b := fun b hb hzb => ⟨.inl (hZ' b (hz b hzb)), Nat.lt_of_lt_of_le hb hsz, (by rw [hR']; exact fun f => f), hzb.2.2.2⟩
  have hle : (B.cx w H φ (lenOf σ.blks)).Le (B'.cx w' H φ (lenOf σ.blks)) := ⟨hP, ag, hzz, fun _ _ h => h, fun _ _ h => h⟩
  have hnn : ∀ n b, φ n b → look n σ.blks ≠ none := fun n b hb e => h.mem.fdom n e b hb
  refine ⟨⟨?_, h.mem.hdom, h.mem.fdom, fun n b hb => ⟨.inl ⟨hpar n (hnn n b hb), hX' n b hb⟩, Nat.lt_of_lt_of_le (h.mem.fsub n b hb).2 hsz⟩, h.mem.fdis, fun n b _ => (by rw [hR']; exact fun f => f), fun b hb => (by rw [hR'] at hb; exact hb.elim), fun n v hv => (by rw [hio] at hv; cases hv), fun n b hb => ?_⟩, h.tmp.mono (ARel.le hle)⟩
  · rw [hw0]; exact Fr.refl _ _
  · obtain ⟨v, hv, hr⟩ := h.mem.blk n b hb
    exact ⟨v, hv, BRel.keep (C := B.cx w H φ (lenOf σ.blks)) (C' := B'.cx w' H φ (lenOf σ.blks)) hP hzz ag (CellRel.le hle) (fun _ h => h) ⟨hsz, fun i hi hf => hsame i hi (hn n i hf)⟩ hr⟩
end

/-- between two rounds: what is named, at a frame that begins here; Sp: the iterator's and the loop's own blocks -/
structure LM (P : Program) (par : List Nat) (Sp : Nat → Prop) (n₀ : Nat) (σ : St) (tm : Array Value) (w : World) : Prop where
  ex : ∃ (B : Base) (H : Nat → Option Value) (φ : Nat → Nat → Prop), B.P = P ∧ B.par = par ∧ B.R = NoB ∧ (∀ n, B.io n = none) ∧ B.w0 = w ∧ (∀ b, B.Z0 b ↔ ¬ Sp b) ∧ (∀ b, B.X0 b → n₀ ≤ b ∧ ¬ Sp b) ∧ Rel B σ tm w H φ

/-- a frame that begins anew -/
theorem LM.next {P : Program} {par : List Nat} {Sp : Nat → Prop} {n₀ : Nat} {σ : St} {tm : Array Value} {w w1 w' : World} {B : Base} {H : Nat → Option Value} {φ : Nat → Nat → Prop} (hP : B.P = P) (hpr : B.par = par) (hR : B.R = NoB) (hw0 : B.w0 = w) (hZ : ∀ b, B.Z0 b ↔ ¬ Sp b) (hX : ∀ b, B.X0 b → n₀ ≤ b ∧ ¬ Sp b)
    (h : Rel B σ tm w1 H φ) (hSp : ∀ b, Sp b → n₀ ≤ b ∧ b < w.heap.size) (hn0 : nGlob ≤ n₀) (hnw : n₀ ≤ w.heap.size) (hpar : ∀ n, look n σ.blks ≠ none → par.contains n = true) (hsz : w1.heap.size ≤ w'.heap.size) (hsame : ∀ b, b < w1.heap.size → ¬ Sp b → w'.heap[b]? = w1.heap[b]?) :
    LM P par Sp n₀ σ tm w' := by
  have hsp1 : ∀ n b, φ n b → n₀ ≤ b ∧ ¬ Sp b := fun n b hb => by
    rcases (h.mem.fsub n b hb).1 with ⟨_, hx⟩ | hge
    · exact hX b hx
    · rw [hw0] at hge
      exact ⟨Nat.le_trans hnw hge, fun hs => by have := (hSp b hs).2; omega⟩
  have htabs : Tabs P w' := by
    have ht : Tabs P w1 := by have := h.mem.tabs; rw [hP] at this; exact this
    refine ht.keep hsz fun b hb => ?_
    have hb1 : b < w1.heap.size := Nat.lt_of_lt_of_le hb ht.2.1
    exact hsame b hb1 fun hs => by have := (hSp b hs).1; omega
  refine ⟨⟨{ P := P, Z0 := fun b => ¬ Sp b, X0 := fun b => ∃ n, φ n b, w0 := w', par := par, R := NoB, io := fun _ => none, iok := (fun _ _ h => by cases h), parok := hpr ▸ B.parok, tabs := htabs, x0 := fun b ⟨n, hb⟩ => Nat.le_trans hn0 (hsp1 n b hb).1 }, H, φ, rfl, rfl, rfl, fun _ => rfl, rfl, fun _ => Iff.rfl, fun b ⟨n, hb⟩ => hsp1 n b hb, ?_⟩⟩
  refine Rel.rebase (Sp := Sp) h hP.symm rfl rfl (fun _ => rfl) (fun _ h => h) (fun n b hb => ⟨n, hb⟩) hpar hsz hsame (fun b hb => ?_) (fun n b hb => (hsp1 n b hb).2)
  rcases hb.1 with hz | hge
  · exact (hZ b).1 hz
  · rw [hw0] at hge
    exact fun hs => by have := (hSp b hs).2; omega

/-- none but the special blocks turn -/
theorem LM.step {P : Program} {par : List Nat} {Sp : Nat → Prop} {n₀ : Nat} {σ : St} {tm : Array Value} {w w' : World} (h : LM P par Sp n₀ σ tm w) (hSp : ∀ b, Sp b → n₀ ≤ b) (hn0 : nGlob ≤ n₀) (hpar : ∀ n, look n σ.blks ≠ none → par.contains n = true) (hsz : w.heap.size ≤ w'.heap.size) (hsame : ∀ b, b < w.heap.size → ¬ Sp b → w'.heap[b]? = w.heap[b]?) :
    LM P par Sp n₀ σ tm w' := by
  obtain ⟨B, H, φ, hP, hpr, hR, hio, hw0, hZ, hX, hr⟩ := h.ex
  have hsp1 : ∀ n b, φ n b → n₀ ≤ b ∧ ¬ Sp b := fun n b hb => by
    rcases (hr.mem.fsub n b hb).1 with ⟨_, hx⟩ | hge
    · exact hX b hx
    · rw [hw0] at hge
      have := (hr.mem.fsub n b hb).2
      omega
  have htabs : Tabs P w' := by
    have ht : Tabs P w := by have := hr.mem.tabs; rw [hP] at this; exact this
    refine ht.keep hsz fun b hb => ?_
    have hb1 : b < w.heap.size := Nat.lt_of_lt_of_le hb ht.2.1
    exact hsame b hb1 fun hs => by have := hSp b hs; omega
  refine ⟨⟨{ P := P, Z0 := fun b => ¬ Sp b, X0 := fun b => ∃ n, φ n b, w0 := w', par := par, R := NoB, io := fun _ => none, iok := (fun _ _ h => by cases h), parok := hpr ▸ B.parok, tabs := htabs, x0 := fun b ⟨n, hb⟩ => Nat.le_trans hn0 (hsp1 n b hb).1 }, H, φ, rfl, rfl, rfl, fun _ => rfl, rfl, fun _ => Iff.rfl, fun b ⟨n, hb⟩ => hsp1 n b hb, ?_⟩⟩
  refine Rel.rebase (Sp := Sp) hr hP.symm rfl rfl (fun _ => rfl) (fun _ h => h) (fun n b hb => ⟨n, hb⟩) hpar hsz hsame (fun b hb => ?_) (fun n b hb => (hsp1 n b hb).2)
  rcases hb.1 with hz | hge
  · exact (hZ b).1 hz
  · rw [hw0] at hge
    have := hb.2.1
    omega

/-! ### patterns -/
theorem encB_cons (b : Nat × PatB) (r : List (Nat × PatB)) (l : List Dat) : encB (b :: r) l = [] ∨ ∃ x l', encB (b :: r) l = (b.1, x) :: encB r l' := by
  obtain ⟨m, k⟩ := b
  cases k with
  | row d t =>
    cases l with
    | nil => exact .inl rfl
    | cons q l =>
      obtain ⟨t', x⟩ := q
      cases t' <;> first | exact .inl rfl | exact .inr ⟨_, _, rfl⟩
  | mix t =>
    cases l with
    | nil => exact .inl rfl
    | cons q l =>
      obtain ⟨t', x⟩ := q
      cases l with
      | nil => cases t' <;> exact .inl rfl
      | cons q2 l =>
        obtain ⟨t2, y⟩ := q2
        cases t' <;> first | exact .inl rfl | (cases t2 <;> first | exact .inl rfl | exact .inr ⟨_, _, rfl⟩)
  | box cs => exact .inr ⟨_, _, rfl⟩
  | map kt t =>
    cases l with
    | nil => exact .inl rfl
    | cons q l =>
      obtain ⟨t', x⟩ := q
      cases t' <;> first | exact .inl rfl | exact .inr ⟨_, _, rfl⟩
theorem encB_keys {n : Nat} : ∀ {bs : List (Nat × PatB)} {l : List Dat}, look n (encB bs l) ≠ none → ∃ b ∈ bs, b.1 = n
  | [], l, h => by simp [encB, look] at h
  | b :: r, l, h => by
    rcases encB_cons b r l with e | ⟨x, l', e⟩
    · rw [e] at h; simp [look] at h
    · rw [e] at h
      simp only [look] at h
      by_cases en : b.1 = n
      · exact ⟨_, List.mem_cons_self .., en⟩
      · rw [show (b.1 == n) = false by simpa using en] at h
        obtain ⟨b', hb, hn⟩ := encB_keys (bs := r) (l := l') h
        exact ⟨b', List.mem_cons_of_mem _ hb, hn⟩
theorem enc_par {pat : Pat} {par : List Nat} (h : pat.blks.all (fun b => par.contains b.1) = true) (s : pat.den) {n : Nat} (hn : look n (pat.enc s).blks ≠ none) : par.contains n = true := by
  obtain ⟨b, hb, rfl⟩ := encB_keys (bs := pat.blks) (n := n) hn
  exact List.all_eq_true.1 h b hb

theorem encT_at : ∀ (ks : List PatK) (l : List Dat), (encT ks l).1.length = ks.length ∧ ∀ t : Nat, ks[t]? = some PatK.any → (encT ks l).1[t]? = some A.any
  | [], l => ⟨rfl, fun t h => by simp at h⟩
  | k :: ks, l => by
    have ih := encT_at ks (encK k l).2
    refine ⟨by simp only [encT, List.length_cons, ih.1], fun t h => ?_⟩
    cases t with
    | zero =>
      simp at h
      subst h
      simp [encT, encK]
    | succ t => simpa [encT] using ih.2 t (by simpa using h)

/-- nothing of T is kept -/
def tfree (T : List Nat) (pat : Pat) : Bool := T.all fun t => match pat.tmps[t]? with | some PatK.any => true | none => true | _ => false
theorem all2_back {C : Cx} : ∀ (xs : List A) (ys zs : List Value), All2 (ARel C) xs ys → zs.length = xs.length → (∀ (t : Nat) (x : A), xs[t]? = some x → x = A.any ∨ ys[t]? = zs[t]?) → All2 (ARel C) xs zs
  | [], [], [], _, _, _ => trivial
  | [], _ :: _, _, h, _, _ => h.elim
  | _ :: _, [], _, h, _, _ => h.elim
  | [], [], _ :: _, _, h, _ => by simp at h
  | _ :: _, _ :: _, [], _, h, _ => by simp at h
  | x :: xs, y :: ys, z :: zs, h, hl, hk => by
    refine ⟨?_, all2_back xs ys zs h.2 (by simpa using hl) fun t x hx => by simpa using hk (t + 1) x (by simpa using hx)⟩
    rcases hk 0 x rfl with e | e
    · subst e; trivial
    · obtain rfl : y = z := by simpa using e
      exact h.1
theorem Rel.back {B : Base} {pat : Pat} {s : pat.den} {tm tm' : Array Value} {w : World} {H : Nat → Option Value} {φ : Nat → Nat → Prop} {T : List Nat} (h : Rel B (pat.enc s) tm' w H φ) (hf : tfree T pat = true) (hl : tm.size = pat.tmps.length) (hk : ∀ t, t ∉ T → tm'[t]? = tm[t]?) : Rel B (pat.enc s) tm w H φ := by
  have e := encT_at pat.tmps (Dn.toL pat.tys s)
  refine ⟨h.mem, all2_back _ _ _ h.tmp (by show tm.toList.length = (encT pat.tmps _).1.length; rw [e.1]; simpa using hl) fun t x hx => ?_⟩
  by_cases ht : t ∈ T
  · left
    have := List.all_eq_true.1 hf t ht
    cases hp : pat.tmps[t]? with
    | none =>
      have h1 : t < (pat.enc s).tmps.length := (List.getElem?_eq_some_iff.1 hx).1
      have h2 : (pat.enc s).tmps.length = pat.tmps.length := e.1
      rw [List.getElem?_eq_none_iff] at hp
      omega
    | some k =>
      rw [hp] at this
      cases k with
      | any =>
        have := e.2 t hp
        exact Option.some.inj (hx.symm.trans this)
      | _ => cases this
  · exact .inr (by simpa using hk t ht)

/-! ### lines -/
/-- the lines of a text, each with its newline, the last one perhaps without -/
def linesN : Nat → ByteArray → List ByteArray
  | 0, _ => []
  | n + 1, s => bif s.size == 0 then [] else bif decide (0 ≤ Lib.indexByte s.data.toList 10) then
      s.extract 0 ((Lib.indexByte s.data.toList 10).toNat + 1) :: linesN n (s.extract ((Lib.indexByte s.data.toList 10).toNat + 1) s.size) else [s]
def linesOf (s : ByteArray) : List ByteArray := linesN s.size s

/-- one block turns -/
structure StepBs (bs : Nat) (W W' : World) : Prop where
  size : W'.heap.size = W.heap.size
  same : ∀ b, b ≠ bs → W'.heap[b]? = W.heap[b]?
  os : W'.os = W.os
  tape : W'.tape = W.tape
  output : W'.output = W.output

/-- an iterator that goes through the lines of a text: what is left of it is kept in a cell -/
def LinesOK (P : Program) (f : Nat) : Prop :=
  ∀ (n l bs et : Nat) (text : ByteArray) (J Jx : List ByteArray → World → Prop) (W : World), text.size ≤ 9223372036854775806 →
    (∀ pre A C, J pre A → StepBs bs A C → J pre C) →
    (∀ (m : Nat) pre x rest W1, J pre W1 → W1.heap[bs]? = some (.cells #[.string rest] et (0, 0)) → linesOf text = pre ++ x :: linesOf rest →
      YieldAt Fence.wide m P l #[.string x] W1 fun e W' => (e = .returned (.bool true) ∧ J (pre ++ [x]) W' ∧ W'.heap[bs]? = W1.heap[bs]?) ∨ (e = .returned (.bool false) ∧ Jx (pre ++ [x]) W')) →
    W.heap[bs]? = some (.cells #[.string text] et (0, 0)) → J [] W →
    CallsIn Fence.wide n P f #[.func (.yield l) #[] #[], .pointer (some ⟨bs, 0, none⟩)] W fun e W' => (∃ v, e = .returned v) ∧ (J (linesOf text) W' ∨ ∃ pre x post, linesOf text = pre ++ x :: post ∧ Jx (pre ++ [x]) W')

/-- the body of the first range over a function -/
def rfBody : Code → Code
  | .rangeFunc _ _ _ b => b
  | .seq a b => match rfBody a with | .skip => rfBody b | c => c
  | .block _ b => rfBody b
  | _ => .skip

/-- round by round -/
def foldL {S : Type} (stp : S → ByteArray → Option (S ⊕ S)) : S → List ByteArray → Option (S ⊕ S)
  | s, [] => some (.inl s)
  | s, x :: xs => match stp s x with
    | none => none
    | some (.inl s') => foldL stp s' xs
    | some (.inr o) => some (.inr o)
theorem foldL_app {S : Type} {stp : S → ByteArray → Option (S ⊕ S)} : ∀ (pre : List ByteArray) (s : S) (post : List ByteArray), foldL stp s (pre ++ post) = match foldL stp s pre with | none => none | some (.inl s') => foldL stp s' post | some (.inr o) => some (.inr o)
  | [], s, post => rfl
  | x :: pre, s, post => by
    simp only [List.cons_append, foldL]
    cases stp s x with
    | none => rfl
    | some r =>
      cases r with
      | inl s' => exact foldL_app pre s' post
      | inr o => rfl

theorem arel_str {C : Cx} (x : ByteArray) : ARel C (.c (.str x)) (.string x) := rfl
theorem zip1 (pt : Nat) (x : Value) (tm : Array Value) : Array.foldl (fun t (q : Nat × Value) => match q with | (p, v) => t.setIfInBounds p v) tm ((#[pt] : Array Nat).zip #[x]) = tm.setIfInBounds pt x := by
  simp

/-- the assignment at a round's begin -/
theorem assign_ok {l n : Nat} {P : Program} {id d pt : Nat} {ty : TypeId} {pos : String} {a : Act} {W : World} {K : Act → World → Prop} (h : K (a.put (some d) (a.tmps.getD pt undef)) W) :
    (Code.region id #[{ dst := some d, op := .assign (.tmp pt), type := ty, pos := pos, after := #[], guard := none }] false).wpIn (FR l) n P (Exit.then K fun _ _ _ => False) a W := by
  refine wpIn_region_list ?_
  show wpListIn _ _ _ _ _ [_] _ _
  unfold wpListIn
  rw [if_pos (show Region.wanted _ _ = true from rfl)]
  refine oper_in (fun c e => by cases e) (wp_val (v := a.tmps.getD pt undef) (w' := W) rfl ?_)
  exact h

theorem wp_lines {P : Program} {E : Env} {Λ : Nat → Option Loop} {par : List Nat} (hm : P.follows .mixedOrders = true) (hE : EnvOK P E) (hEp : E.par = par) {T : List Nat} {assign body : Code} (hokb : okR T body = true) {pat : Pat}
    (hpar : pat.blks.all (fun b => par.contains b.1) = true) {pt d : Nat} (hfree : tfree (pt :: d :: T) pat = true) {id : Nat}
    (hassign : ∀ (l n : Nat) (a : Act) (W : World) (K : Act → World → Prop), K (a.put (some d) (a.tmps.getD pt undef)) W → assign.wpIn (FR l) n P (Exit.then K fun _ _ _ => False) a W)
    {f : Nat} (it : LinesOK P f) (ef : ∀ args w, (callFunc f args).run P w = .ok (.enter f args) w)
    {a : Act} (ha : a.defers = []) (hal : a.tmps.size = pat.tmps.length) (hpt : pt < a.tmps.size) {w : World} {g : Operand} {bs et : Nat} {text : ByteArray} (hts : text.size ≤ 9223372036854775806) (hg : a.eval g = .func (.func f) #[] #[.pointer (some ⟨bs, 0, none⟩)]) (hbs : w.heap[bs]? = some (.cells #[.string text] et (0, 0)))
    {n₀ : Nat} (hn0 : nGlob ≤ n₀) (hn1 : n₀ ≤ bs) {stp : pat.den → ByteArray → Option (pat.den ⊕ pat.den)}
    (hstp : ∀ s x r, stp s x = some r → ev E Λ body (((pat.enc s).set pt (.c (.str x))).set d (.c (.str x))) (kstep pat [(.exit id, pat)]) = some r)
    {s0 : pat.den} {Sp : Nat → Prop} (hSpd : ∀ b, Sp b ↔ (b = bs ∨ b = w.heap.size ∨ b = w.heap.size + 1)) (h0 : LM P par Sp n₀ (pat.enc s0) a.tmps w) {r : pat.den ⊕ pat.den} (hr : foldL stp s0 (linesOf text) = some r) {n : Nat} {Q : Exit → Act → World → Prop}
    (hQ : ∀ s' W', Below n₀ w W' → LM P par Sp n₀ (pat.enc s') a.tmps W' → W'.heap[w.heap.size]? = some (.deferred (some [])) →
      (r = .inl s' → Q .normal { a with defers := [{ target := .collected w.heap.size, args := #[] }] } W') ∧ (r = .inr s' → Q (.exit id) { a with defers := [{ target := .collected w.heap.size, args := #[] }] } W')) :
    (Code.rangeFunc g #[pt] assign body).wpIn Fence.wide n P Q a w := by
  have hSp : ∀ b, Sp b → n₀ ≤ b := fun b hb => by
    rcases (hSpd b).1 hb with rfl | rfl | rfl
    · exact hn1
    · have := (Array.getElem?_eq_some_iff.1 hbs).1; omega
    · have := (Array.getElem?_eq_some_iff.1 hbs).1; omega
  have hbsl := (Array.getElem?_eq_some_iff.1 hbs).1
  have hP' : ∀ (s : pat.den) n, look n (pat.enc s).blks ≠ none → par.contains n = true := fun s n hn => enc_par hpar s hn
  refine wpIn_rangeFunc ?_
  intro fn hfn
  obtain ⟨rec, hrec⟩ : ∃ rec : LoopState → Option Code → Go.Loop, rec = fun st pe => { state := st, pending := pe, fn, tmps := a.tmps, params := #[pt], assign, body, defers := w.heap.size } := ⟨_, rfl⟩
  obtain ⟨W1, hW1⟩ : ∃ W1, (w.alloc (.deferred (some []))).alloc (.loop (rec .ready none)) = W1 := ⟨_, rfl⟩
  have hL1 : W1.heap[w.heap.size + 1]? = some (.loop (rec .ready none)) := by
    rw [← hW1]; have := World.alloc_heap_new (w.alloc (.deferred (some []))) (.loop (rec .ready none)); rwa [World.size_alloc] at this
  have hK1 : W1.heap[w.heap.size]? = some (.deferred (some [])) := by
    rw [← hW1]; exact (Below.heap_alloc _ _ _ (by simp)).trans (World.alloc_heap_new w _)
  have hold : ∀ k, k < w.heap.size → W1.heap[k]? = w.heap[k]? := fun k hk => by
    rw [← hW1]; exact (Below.heap_alloc _ _ _ (by simp; omega)).trans (Below.heap_alloc _ _ _ hk)
  have hs1 : W1.heap.size = w.heap.size + 2 := by rw [← hW1]; simp
  have hb1 : Below n₀ w W1 := by
    rw [← hW1]; exact (((Below.refl _ w).alloc (by omega) _).alloc (by simp; omega) _)
  have hbs1 : W1.heap[bs]? = some (.cells #[.string text] et (0, 0)) := (hold bs hbsl).trans hbs
  have hLM1 : LM P par Sp n₀ (pat.enc s0) a.tmps W1 := h0.step hSp hn0 (hP' s0) (by omega) (fun b hb _ => hold b hb)
  refine ⟨w.heap.size + 1, [{ target := .collected w.heap.size, args := #[] }], W1, { target := .fn (.func f) #[.pointer (some ⟨bs, 0, none⟩)], args := #[.func (.yield (w.heap.size + 1)) #[] #[]] }, W1, f,
    #[.func (.yield (w.heap.size + 1)) #[] #[], .pointer (some ⟨bs, 0, none⟩)], W1, ?_, ?_, ?_, ?_, (fun h => by cases h), ?_⟩
  · rw [← hW1, hrec]; exact run_enterLoop_outer _ _ _ _ _
  · simp only [resolve, hg]
    simp [go_sem]
  · intro f' hf'; trivial
  · simp [invoke, go_sem, ef]
  have J_step : ∀ {A C : World} {s : pat.den} {st : LoopState} {pe : Option Code}, StepBs bs A C → LM P par Sp n₀ (pat.enc s) a.tmps A ∧ Below n₀ w A ∧ A.heap[w.heap.size + 1]? = some (.loop (rec st pe)) ∧ A.heap[w.heap.size]? = some (.deferred (some [])) →
      LM P par Sp n₀ (pat.enc s) a.tmps C ∧ Below n₀ w C ∧ C.heap[w.heap.size + 1]? = some (.loop (rec st pe)) ∧ C.heap[w.heap.size]? = some (.deferred (some [])) := by
    rintro A C s st pe hst ⟨h1, h2, h3, h4⟩
    have hne : ∀ b, ¬ Sp b → b ≠ bs := fun b hb e => hb ((hSpd b).2 (.inl e))
    exact ⟨h1.step hSp hn0 (hP' s) (by rw [hst.size]; exact Nat.le_refl _) (fun b _ hb => hst.same b (hne b hb)),
      h2.trans ⟨hst.os, hst.tape, hst.output, by rw [hst.size]; exact Nat.le_refl _, fun k hk => hst.same k (by omega)⟩,
      (hst.same _ (by omega)).trans h3, (hst.same _ (by omega)).trans h4⟩
  refine (it (n - 1) (w.heap.size + 1) bs et text
    (fun pre W => ∃ s, foldL stp s0 pre = some (.inl s) ∧ LM P par Sp n₀ (pat.enc s) a.tmps W ∧ Below n₀ w W ∧ W.heap[w.heap.size + 1]? = some (.loop (rec .ready none)) ∧ W.heap[w.heap.size]? = some (.deferred (some [])))
    (fun pre W => ∃ s, foldL stp s0 pre = some (.inr s) ∧ LM P par Sp n₀ (pat.enc s) a.tmps W ∧ Below n₀ w W ∧ W.heap[w.heap.size + 1]? = some (.loop (rec .done (some (.exit id)))) ∧ W.heap[w.heap.size]? = some (.deferred (some [])))
    W1 hts (fun pre A C hJ hst => by obtain ⟨s, hs, hrest⟩ := hJ; exact ⟨s, hs, J_step hst hrest⟩) ?_ hbs1 ⟨s0, rfl, hLM1, hb1, hL1, hK1⟩).mono ?_
  · -- one round
    rintro m pre x rest W ⟨s, hs, hLM, hbel, hl, hk⟩ hbsW hlines
    have hlt : w.heap.size + 1 < W.heap.size := (Array.getElem?_eq_some_iff.1 hl).1
    have hfold := hr
    rw [hlines, foldL_app, hs] at hfold
    simp only [foldL] at hfold
    cases hx : stp s x with
    | none => rw [hx] at hfold; cases hfold
    | some r1 =>
    have hev := hstp s x r1 hx
    have hy := run_yield (P := P) (args := #[.string x]) hl (by rw [hrec]; rfl)
    rw [hrec] at hy
    refine ⟨fn, _, assign, body, hy, roundIn_of_wpIn (F := Fence.wide) hfn (hassign _ _ _ W _ ⟨_, run_beginRound hl (by rw [hrec]), ?_⟩)⟩
    have hgd : (a.tmps.setIfInBounds pt (.string x)).getD pt undef = .string x := by
      rw [Array.getD_eq_getD_getElem?, Array.getElem?_setIfInBounds, if_pos rfl, if_pos hpt]; rfl
    obtain ⟨W2, hW2⟩ : ∃ W2, W.putObj (w.heap.size + 1) (.loop { rec .ready none with state := .busy }) = W2 := ⟨_, rfl⟩
    have hW2' : W.putObj (w.heap.size + 1) (.loop { (rec .ready none : Go.Loop) with state := .busy }) = W2 := hW2
    have hl2 : W2.heap[w.heap.size + 1]? = some (.loop { rec .ready none with state := .busy }) := by rw [← hW2]; exact World.putObj_heap_same hlt
    have ho2 : ∀ k, k ≠ w.heap.size + 1 → W2.heap[k]? = W.heap[k]? := fun k hk => by rw [← hW2]; exact World.putObj_heap_other hk
    have hsz2 : W2.heap.size = W.heap.size := by rw [← hW2]; simp
    have hb2 : Below n₀ w W2 := hbel.trans (by rw [← hW2]; exact ⟨rfl, rfl, rfl, by simp, fun k hk => World.putObj_heap_other (by omega)⟩)
    have hLM2 : LM P par Sp n₀ (pat.enc s) a.tmps W2 := hLM.step hSp hn0 (hP' s) (by omega) (fun b _ hb => ho2 b fun e => hb ((hSpd b).2 (.inr (.inr e))))
    have hSp2 : ∀ b, Sp b → n₀ ≤ b ∧ b < W2.heap.size := fun b hb => ⟨hSp b hb, by
      rcases (hSpd b).1 hb with rfl | rfl | rfl
      · have := (Array.getElem?_eq_some_iff.1 hbsW).1; omega
      · omega
      · omega⟩
    obtain ⟨B, H, φ, hP, hpr, hR, hio, hw0, hZ, hX, hrel⟩ := hLM2.ex
    subst hP
    -- what the body does
    have fin : ∀ (s' : pat.den) (a' : Act) (w' : World) (jump : Option Code) (H' : Nat → Option Value) (φ' : Nat → Nat → Prop), Rel B (pat.enc s') a'.tmps w' H' φ' → KeepT T { tmps := (a.tmps.setIfInBounds pt (.string x)).setIfInBounds d (.string x), defers := [] } a' →
        (Instr.endRound (w.heap.size + 1) jump).run B.P w' = .ok (.bool jump.isNone) (w'.putObj (w.heap.size + 1) (.loop (rec (if jump.isNone then .ready else .done) jump))) ∧
        LM B.P par Sp n₀ (pat.enc s') a.tmps (w'.putObj (w.heap.size + 1) (.loop (rec (if jump.isNone then .ready else .done) jump))) ∧ Below n₀ w (w'.putObj (w.heap.size + 1) (.loop (rec (if jump.isNone then .ready else .done) jump))) ∧
        (w'.putObj (w.heap.size + 1) (.loop (rec (if jump.isNone then .ready else .done) jump))).heap[w.heap.size + 1]? = some (.loop (rec (if jump.isNone then .ready else .done) jump)) ∧
        (w'.putObj (w.heap.size + 1) (.loop (rec (if jump.isNone then .ready else .done) jump))).heap[w.heap.size]? = some (.deferred (some [])) ∧
        (w'.putObj (w.heap.size + 1) (.loop (rec (if jump.isNone then .ready else .done) jump))).heap[bs]? = W.heap[bs]? := by
      intro s' a' w' jump H' φ' hr' hkt
      have hfr := hr'.mem.fr
      rw [hw0] at hfr
      have hsp : ∀ b, Sp b → w'.heap[b]? = W2.heap[b]? := fun b hb => hfr.block b (hSp2 b hb).2 fun hx => (hX b hx).2 hb
      have hl3 : w'.heap[w.heap.size + 1]? = some (.loop { rec .ready none with state := .busy }) := (hsp _ ((hSpd _).2 (.inr (.inr rfl)))).trans hl2
      have hk3 : w'.heap[w.heap.size]? = some (.deferred (some [])) := (hsp _ ((hSpd _).2 (.inr (.inl rfl)))).trans ((ho2 _ (by omega)).trans hk)
      have hlt3 := (Array.getElem?_eq_some_iff.1 hl3).1
      have hb3 : w'.heap[bs]? = W.heap[bs]? := (hsp _ ((hSpd _).2 (.inl rfl))).trans (ho2 _ (by omega))
      have hend := run_endRound (P := B.P) jump hl3
      have hrb : Rel B (pat.enc s') a.tmps w' H' φ' := Rel.back hr' hfree hal fun t ht => by
        have h1 := hkt t fun h => ht (List.mem_cons_of_mem _ (List.mem_cons_of_mem _ h))
        rw [h1]
        show ((a.tmps.setIfInBounds pt (.string x)).setIfInBounds d (.string x))[t]? = _
        rw [Array.getElem?_setIfInBounds, if_neg (fun (e : d = t) => ht (by subst e; simp)), Array.getElem?_setIfInBounds, if_neg (fun (e : pt = t) => ht (by subst e; simp))]
      refine ⟨by rw [hrec] at hend ⊢; exact hend, ?_, ?_, World.putObj_heap_same hlt3, (World.putObj_heap_other (by omega)).trans hk3, (World.putObj_heap_other (by omega)).trans hb3⟩
      · exact LM.next rfl hpr hR hw0 hZ hX hrb hSp2 hn0 (by omega) (hP' s') (by simp) (fun b _ hb => World.putObj_heap_other fun e => hb ((hSpd b).2 (.inr (.inr e))))
      · refine hb2.trans ⟨hfr.os, hfr.tape, hfr.output, by simpa using hfr.size, fun k hk => ?_⟩
        exact (World.putObj_heap_other (by omega)).trans (hfr.block k (by omega) fun hx => by have := (hX k hx).1; omega)
    have hA : RelA B (((pat.enc s).set pt (.c (.str x))).set d (.c (.str x))) { tmps := (a.tmps.setIfInBounds pt (.string x)).setIfInBounds d (.string x), defers := [] } W2 :=
      ⟨rfl, H, φ, Rel.set (x := .c (.str x)) (v := .string x) (Rel.set (x := .c (.str x)) (v := .string x) hrel pt (arel_str x)) d (arel_str x)⟩
    have key := ev_round (l := w.heap.size + 1) (n := m) hm hE (by rw [hEp, hpr]) hR body hokb _ _ _ _ _ r1 (roundPost B.P (w.heap.size + 1) fun e W' => (e = .returned (.bool true) ∧ (∃ s, foldL stp s0 (pre ++ [x]) = some (.inl s) ∧ LM B.P par Sp n₀ (pat.enc s) a.tmps W' ∧ Below n₀ w W' ∧ W'.heap[w.heap.size + 1]? = some (.loop (rec .ready none)) ∧ W'.heap[w.heap.size]? = some (.deferred (some []))) ∧ W'.heap[bs]? = W.heap[bs]?) ∨
        (e = .returned (.bool false) ∧ ∃ s, foldL stp s0 (pre ++ [x]) = some (.inr s) ∧ LM B.P par Sp n₀ (pat.enc s) a.tmps W' ∧ Below n₀ w W' ∧ W'.heap[w.heap.size + 1]? = some (.loop (rec .done (some (.exit id)))) ∧ W'.heap[w.heap.size]? = some (.deferred (some []))))
      (fun _ _ h => h) (KeepT.refl T _) hA hev ?_
    · have hact : ({ tmps := Array.foldl (fun t (q : Nat × Value) => match q with | (p, v) => t.setIfInBounds p v) a.tmps ((#[pt] : Array Nat).zip #[.string x]), defers := [] } : Act).put (some d) (Array.getD (Array.foldl (fun t (q : Nat × Value) => match q with | (p, v) => t.setIfInBounds p v) a.tmps ((#[pt] : Array Nat).zip #[.string x])) pt undef) = { tmps := (a.tmps.setIfInBounds pt (.string x)).setIfInBounds d (.string x), defers := [] } := by
        rw [zip1]
        show ({ tmps := (a.tmps.setIfInBounds pt (.string x)).setIfInBounds d ((a.tmps.setIfInBounds pt (.string x)).getD pt undef), defers := [] } : Act) = _
        rw [hgd]
      rw [hW2', hact]
      exact key
    · intro e σ' a' w' hk' hA' hkt
      obtain ⟨hdf, H1, φ1, hr1⟩ := hA'
      have app : ∀ q, foldL stp s0 (pre ++ [x]) = some q ↔ (match r1 with | .inl s' => some (.inl s') | .inr o => some (.inr o)) = some q := fun q => by
        rw [foldL_app, hs]
        simp only [foldL, hx]
        cases r1 <;> rfl
      cases e with
      | normal =>
        simp only [kstep] at hk'
        split at hk'
        · rename_i s' hd
          obtain rfl := Option.some.inj hk'
          obtain ⟨H2, φ2, hr2⟩ := dec_ok hr1 hd
          obtain ⟨f1, f2, f3, f4, f5, f6⟩ := fin s' a' w' none H2 φ2 hr2 hkt
          exact ⟨_, _, f1, .inl ⟨rfl, ⟨s', (app _).2 rfl, f2, f3, f4, f5⟩, f6⟩⟩
        · cases hk'
      | exit id' =>
        simp only [kstep, Outs.inj, sameExit] at hk'
        split at hk'
        · rename_i o ho
          obtain rfl := Option.some.inj hk'
          obtain ⟨hid, hd⟩ := bif_none ho
          obtain rfl : id = id' := by simpa using hid
          obtain ⟨H2, φ2, hr2⟩ := dec_ok hr1 hd
          obtain ⟨f1, f2, f3, f4, f5, f6⟩ := fin o a' w' (some (.exit id)) H2 φ2 hr2 hkt
          exact ⟨_, _, f1, .inr ⟨rfl, o, (app _).2 rfl, f2, f3, f4, f5⟩⟩
        · cases hk'
      | ret => simp [kstep, Outs.inj, sameExit] at hk'
      | goto t => simp [kstep, Outs.inj, sameExit] at hk'
      | panic c => simp [kstep, Outs.inj, sameExit] at hk'
      | outgrown => simp [kstep, Outs.inj, sameExit] at hk'
  · -- behind the iterator
    rintro e W2 ⟨⟨v, rfl⟩, (⟨s, hs, hLM, hbel, hl, hk⟩ | ⟨pre, x, post, hlines, s, hs, hLM, hbel, hl, hk⟩)⟩
    · obtain rfl : r = .inl s := Option.some.inj (hr.symm.trans hs)
      have hlt := (Array.getElem?_eq_some_iff.1 hl).1
      have hend := run_endLoop (P := P) hl (by rw [hrec]; simp)
      rw [hrec] at hend
      have ho : ∀ (o : Obj) k, k ≠ w.heap.size + 1 → (W2.putObj (w.heap.size + 1) o).heap[k]? = W2.heap[k]? := fun o k hk => World.putObj_heap_other hk
      refine ⟨none, _, hend, ?_⟩
      rw [ha]
      have nx : ∀ o : Obj, Below n₀ w (W2.putObj (w.heap.size + 1) o) ∧ LM P par Sp n₀ (pat.enc s) a.tmps (W2.putObj (w.heap.size + 1) o) ∧ (W2.putObj (w.heap.size + 1) o).heap[w.heap.size]? = some (.deferred (some [])) := fun o =>
        ⟨hbel.trans ⟨rfl, rfl, rfl, by simp, fun k hk => ho o k (by omega)⟩, hLM.step hSp hn0 (hP' s) (by simp) (fun b _ hb => ho o b fun e => hb ((hSpd b).2 (.inr (.inr e)))), (ho o _ (by omega)).trans hk⟩
      exact (hQ s _ (nx _).1 (nx _).2.1 (nx _).2.2).1 rfl
    · have hr2 : r = .inr s := by
        rw [hlines, show pre ++ x :: post = (pre ++ [x]) ++ post by simp, foldL_app, hs] at hr
        exact (Option.some.inj hr).symm
      subst hr2
      have hlt := (Array.getElem?_eq_some_iff.1 hl).1
      have hend := run_endLoop (P := P) hl (by rw [hrec]; simp)
      rw [hrec] at hend
      have ho : ∀ (o : Obj) k, k ≠ w.heap.size + 1 → (W2.putObj (w.heap.size + 1) o).heap[k]? = W2.heap[k]? := fun o k hk => World.putObj_heap_other hk
      refine ⟨some (.exit id), _, hend, ?_⟩
      rw [ha]
      have nx : ∀ o : Obj, Below n₀ w (W2.putObj (w.heap.size + 1) o) ∧ LM P par Sp n₀ (pat.enc s) a.tmps (W2.putObj (w.heap.size + 1) o) ∧ (W2.putObj (w.heap.size + 1) o).heap[w.heap.size]? = some (.deferred (some [])) := fun o =>
        ⟨hbel.trans ⟨rfl, rfl, rfl, by simp, fun k hk => ho o k (by omega)⟩, hLM.step hSp hn0 (hP' s) (by simp) (fun b _ hb => ho o b fun e => hb ((hSpd b).2 (.inr (.inr e)))), (ho o _ (by omega)).trans hk⟩
      exact wpIn_exit ((hQ s _ (nx _).1 (nx _).2.1 (nx _).2.2).2 rfl)
end Go.Proofs.YtjmagdcgniklgaaGreatDoor
/- A range over lines: where it begins, and what it leaves. No conditions. -/
set_option linter.unusedVariables false
set_option linter.unusedSimpArgs false
namespace Go.Proofs.YtjmagdcgniklgaaGreatDoor
open Go Go.RowKit

section
variable {B : Base} {σ σ' : St} {tm : Array Value} {w : World} {H : Nat → Option Value} {φ : Nat → Nat → Prop}
theorem Rel.perm (h : Rel B σ tm w H φ) (ht : σ'.tmps = σ.tmps) (hl : ∀ n, look n σ'.blks = look n σ.blks) : Rel B σ' tm w H φ := by
  have hL : lenOf σ'.blks = lenOf σ.blks := by funext n; simp only [lenOf, hl n]
  refine ⟨⟨h.mem.fr, fun n hn => h.mem.hdom n (by rw [← hl n]; exact hn), fun n hn => h.mem.fdom n (by rw [← hl n]; exact hn), h.mem.fsub, h.mem.fdis, h.mem.rdis, h.mem.rsub, h.mem.keep, fun n b hb => ?_⟩, ?_⟩
  · rw [hL]
    exact h.mem.blk n b (by rw [← hl n]; exact hb)
  · rw [ht, hL]; exact h.tmp
end

theorem set_same {tm : Array Value} {i : Nat} {v : Value} (h : tm[i]? = some v) : tm.setIfInBounds i v = tm := by
  apply Array.ext
  · simp
  · intro j h1 h2
    rw [Array.getElem_setIfInBounds]
    split
    · rename_i e
      subst e
      rw [Array.getElem?_eq_getElem h2] at h
      exact (Option.some.inj h).symm
    · rfl
theorem any_rel {C : Cx} : ∀ (vs : List Value), All2 (ARel C) (List.replicate vs.length A.any) vs
  | [] => trivial
  | v :: vs => ⟨trivial, any_rel vs⟩

/-- nothing is named yet; X: what will be -/
def baseL (P : Program) (Sp X : Nat → Prop) (par : List Nat) (w : World) (hpk : ∀ n, par.contains n = true → 62 ≤ n % 64) (ht : Tabs P w) (hx : ∀ b, X b → nGlob ≤ b) : Base :=
  { P := P, Z0 := fun b => ¬ Sp b, X0 := X, w0 := w, par := par, R := NoB, io := fun _ => none, iok := (fun _ _ h => by cases h), parok := hpk, tabs := ht, x0 := hx }
theorem rel_start {P : Program} {Sp X : Nat → Prop} {par : List Nat} {w : World} {hpk ht hx} (tm : Array Value) (hX : ∀ b, X b → b < w.heap.size) :
    Rel ((baseL P Sp X par w hpk ht hx).on X) (St.of (List.replicate tm.size .any) []) tm w (fun _ => none) (fun _ _ => False) := by
  refine ⟨⟨Fr.refl _ _, fun _ _ => rfl, fun _ _ _ f => f, fun _ _ f => f.elim, fun _ _ _ _ f => f.elim, fun _ _ f => f.elim, fun b hb => ⟨.inl hb, hX b hb⟩, (fun _ _ h => by cases h), fun n b hb => by simp [St.of, look] at hb⟩, ?_⟩
  have := any_rel (C := ((baseL P Sp X par w hpk ht hx).on X).cx w (fun _ => none) (fun _ _ => False) (lenOf [])) tm.toList
  rw [Array.length_toList] at this
  exact this

/-- a variable of a slice, nil; its row -/
theorem lm_start1 {P : Program} {Sp : Nat → Prop} {n₀ : Nat} {tm : Array Value} {w : World} {ty : Ty} {t b4 : Nat} {e4 : TypeId} (ht : Tabs P w) (hn0 : nGlob ≤ n₀) (h4 : w.heap[b4]? = some (.cells #[.slice none 0 0] e4 (0, 0))) (h4n : n₀ ≤ b4 ∧ ¬ Sp b4) (htm : tm[t]? = some (.pointer (some ⟨b4, 0, none⟩)))
    {σ : St} (hσt : σ.tmps = (List.replicate tm.size A.any).set t (.c (.ptr 62 0))) (hσb : σ.blks = [(62, .box [.own 126]), (126, .row true ty [])]) : LM P [62, 126] Sp n₀ σ tm w := by
  have hb4 : b4 < w.heap.size := (Array.getElem?_eq_some_iff.1 h4).1
  have r0 := rel_start (P := P) (Sp := Sp) (X := fun b => b = b4) (par := [62, 126]) (w := w) (hpk := fun n h => by simp at h; omega) (ht := ht) (hx := fun b hb => by subst hb; omega) tm (fun b hb => by subst hb; exact hb4)
  have r1 := Rel.fresh (B := (baseL P Sp (fun b => b = b4) [62, 126] w (fun n h => by simp at h; omega) ht (fun b hb => by subst hb; omega)).on (fun b => b = b4)) (R1 := fun b => b = b4) r0 (fun _ h => h) (n := 126) rfl rfl (w' := w) (b := .row true ty []) (v := .slice none 0 0) (F := NoB) (Fr.refl _ w) (fun i f => f.elim) (fun C' _ _ _ _ => ⟨none, 0, rfl, by simp, .inl rfl⟩)
  have r2 := Rel.fresh (B := baseL P Sp (fun b => b = b4) [62, 126] w (fun n h => by simp at h; omega) ht (fun b hb => by subst hb; omega)) (R1 := fun b => b = b4) r1 (fun _ h => h.elim) (n := 62) rfl rfl (w' := w) (b := .box [.own 126]) (v := .pointer (some ⟨b4, 0, none⟩)) (F := fun b => b = b4) (Fr.refl _ w)
    (fun i hi => by subst hi; exact ⟨.inr ⟨rfl, fun f => f, .inl ⟨rfl, rfl⟩⟩, hb4⟩)
    (fun C' hle hw hP _ => ⟨b4, #[.slice none 0 0], e4, rfl, rfl, by rw [hw]; exact h4, ⟨hle.H 126 _ rfl, none, 0, 0, rfl⟩, trivial⟩)
  have r3 := Rel.set r2 t (x := .c (.ptr 62 0)) (v := .pointer (some ⟨b4, 0, none⟩)) ⟨b4, rfl, rfl⟩
  rw [set_same htm] at r3
  refine ⟨⟨_, _, _, rfl, rfl, rfl, fun _ => rfl, rfl, fun _ => Iff.rfl, fun b hb => by obtain rfl : b = b4 := hb; exact h4n, Rel.perm r3 ?_ ?_⟩⟩
  · rw [hσt]; repeat rw [St.set_tmps]
    rfl
  · intro n
    rw [hσb]
    by_cases e1 : n = 62
    · subst e1; rfl
    · by_cases e2 : n = 126
      · subst e2; rfl
      · have a1 : (62 == n) = false := beq_eq_false_iff_ne.2 (Ne.symm e1)
        have a2 : (126 == n) = false := beq_eq_false_iff_ne.2 (Ne.symm e2)
        simp [look, St.of, St.set, St.setBlk, blkSet, a1, a2]

theorem lm_start2 {P : Program} {Sp : Nat → Prop} {n₀ : Nat} {tm : Array Value} {w : World} {ty : Ty} {t b4 t6 b6 : Nat} {e4 e6 : TypeId} {z : Int} (ht : Tabs P w) (hn0 : nGlob ≤ n₀) (h4 : w.heap[b4]? = some (.cells #[.slice none 0 0] e4 (0, 0))) (h4n : n₀ ≤ b4 ∧ ¬ Sp b4) (htm : tm[t]? = some (.pointer (some ⟨b4, 0, none⟩)))
    (h6 : w.heap[b6]? = some (.cells #[.int .i64 z] e6 (0, 0))) (h6n : n₀ ≤ b6 ∧ ¬ Sp b6) (htm6 : tm[t6]? = some (.pointer (some ⟨b6, 0, none⟩))) (h46 : b4 ≠ b6)
    {σ : St} (hσt : σ.tmps = ((List.replicate tm.size A.any).set t (.c (.ptr 62 0))).set t6 (.c (.ptr 190 0))) (hσb : σ.blks = [(62, .box [.own 126]), (126, .row true ty []), (190, .box [.int .i64 z])]) : LM P [62, 126, 190] Sp n₀ σ tm w := by
  have hb4 : b4 < w.heap.size := (Array.getElem?_eq_some_iff.1 h4).1
  have hb6 : b6 < w.heap.size := (Array.getElem?_eq_some_iff.1 h6).1
  have hpk : ∀ n, ([62, 126, 190] : List Nat).contains n = true → 62 ≤ n % 64 := fun n h => by simp at h; omega
  have hx : ∀ b, (b = b4 ∨ b = b6) → nGlob ≤ b := fun b hb => by rcases hb with rfl | rfl <;> omega
  have r0 := rel_start (P := P) (Sp := Sp) (X := fun b => b = b4 ∨ b = b6) (par := [62, 126, 190]) (w := w) (hpk := hpk) (ht := ht) (hx := hx) tm (fun b hb => by rcases hb with rfl | rfl <;> assumption)
  have r1 := Rel.fresh (B := (baseL P Sp (fun b => b = b4 ∨ b = b6) [62, 126, 190] w hpk ht hx).on (fun b => b = b4 ∨ b = b6)) (R1 := fun b => b = b4 ∨ b = b6) r0 (fun _ h => h) (n := 126) rfl rfl (w' := w) (b := .row true ty []) (v := .slice none 0 0) (F := NoB) (Fr.refl _ w) (fun i f => f.elim) (fun C' _ _ _ _ => ⟨none, 0, rfl, by simp, .inl rfl⟩)
  have r2 := Rel.fresh (B := (baseL P Sp (fun b => b = b4 ∨ b = b6) [62, 126, 190] w hpk ht hx).on (fun b => b = b6)) (R1 := fun b => b = b4 ∨ b = b6) r1 (fun _ h => .inr h) (n := 62) rfl rfl (w' := w) (b := .box [.own 126]) (v := .pointer (some ⟨b4, 0, none⟩)) (F := fun b => b = b4) (Fr.refl _ w)
    (fun i hi => by subst hi; exact ⟨.inr ⟨.inl rfl, h46, .inl ⟨rfl, .inl rfl⟩⟩, hb4⟩)
    (fun C' hle hw hP _ => ⟨b4, #[.slice none 0 0], e4, rfl, rfl, by rw [hw]; exact h4, ⟨hle.H 126 _ rfl, none, 0, 0, rfl⟩, trivial⟩)
  have r3 := Rel.fresh (B := baseL P Sp (fun b => b = b4 ∨ b = b6) [62, 126, 190] w hpk ht hx) (R1 := fun b => b = b6) r2 (fun _ h => h.elim) (n := 190) rfl rfl (w' := w) (b := .box [.int .i64 z]) (v := .pointer (some ⟨b6, 0, none⟩)) (F := fun b => b = b6) (Fr.refl _ w)
    (fun i hi => by subst hi; exact ⟨.inr ⟨rfl, fun f => f, .inl ⟨rfl, .inr rfl⟩⟩, hb6⟩)
    (fun C' hle hw hP _ => ⟨b6, #[.int .i64 z], e6, rfl, rfl, by rw [hw]; exact h6, rfl, trivial⟩)
  have r4 := Rel.set r3 t (x := .c (.ptr 62 0)) (v := .pointer (some ⟨b4, 0, none⟩)) ⟨b4, rfl, rfl⟩
  rw [set_same htm] at r4
  have r5 := Rel.set r4 t6 (x := .c (.ptr 190 0)) (v := .pointer (some ⟨b6, 0, none⟩)) ⟨b6, rfl, rfl⟩
  rw [set_same htm6] at r5
  refine ⟨⟨_, _, _, rfl, rfl, rfl, fun _ => rfl, rfl, fun _ => Iff.rfl, fun b hb => by rcases hb with rfl | rfl <;> assumption, Rel.perm r5 ?_ ?_⟩⟩
  · rw [hσt]; repeat rw [St.set_tmps]
    rfl
  · intro n
    rw [hσb]
    by_cases e1 : n = 62
    · subst e1; rfl
    · by_cases e2 : n = 126
      · subst e2; rfl
      · by_cases e3 : n = 190
        · subst e3; rfl
        · have a1 : (62 == n) = false := beq_eq_false_iff_ne.2 (Ne.symm e1)
          have a2 : (126 == n) = false := beq_eq_false_iff_ne.2 (Ne.symm e2)
          have a3 : (190 == n) = false := beq_eq_false_iff_ne.2 (Ne.symm e3)
          simp [look, St.of, St.set, St.setBlk, blkSet, a1, a2, a3]

/-- what a variable of a slice holds in the end -/
theorem lm_slice {P : Program} {par : List Nat} {Sp : Nat → Prop} {n₀ : Nat} {σ : St} {tm : Array Value} {w : World} (h : LM P par Sp n₀ σ tm w) {t : Nat} {ty : Ty} (hsc : ty.scal = true) {xs : List ty.den} (hσ : σ.tmps[t]? = some (.c (.ptr 62 0))) (h62 : look 62 σ.blks = some (.box [.own 126])) (h126 : look 126 σ.blks = some (.row true ty xs)) :
    ∃ b v e, tm[t]? = some (.pointer (some ⟨b, 0, none⟩)) ∧ w.heap[b]? = some (.cells #[v] e (0, 0)) ∧ n₀ ≤ b ∧ ¬ Sp b ∧ ∃ F : Nat → Prop, (∀ b, F b → n₀ ≤ b ∧ ¬ Sp b ∧ b < w.heap.size) ∧ RowOf P false true ty w NoB F v xs := by
  obtain ⟨B, H, φ, hP, _, hR, _, hw0, _, hX, hr⟩ := h.ex
  have hφ : ∀ n b, φ n b → n₀ ≤ b ∧ ¬ Sp b := fun n b hb => by
    rcases (hr.mem.fsub n b hb).1 with ⟨_, hx⟩ | hge
    · exact hX b hx
    · rw [hw0] at hge
      have := (hr.mem.fsub n b hb).2
      omega
  obtain ⟨v, hv, g, hg, e1⟩ := All2.get hr.tmp t _ hσ
  obtain ⟨v1, hv1, g', us, ety, e2, hF, hh, hal⟩ := hr.mem.blk 62 _ h62
  obtain rfl : g' = g := by
    have hg : H _ = _ := hg
    rw [hv1, e2] at hg
    have := Option.some.inj hg
    simpa using this
  obtain ⟨v2, hv2, hrow⟩ := hr.mem.blk 126 _ h126
  obtain ⟨us⟩ := us
  match us, hal with
  | [u], hal =>
    obtain ⟨hu, _⟩ := hal.1
    obtain rfl : v2 = u := Option.some.inj (hv2.symm.trans hu)
    have hrd : RowOf B.P false true ty w NoB (φ 126) v2 xs := RowOf.flag (Z' := NoB) (dp' := true) hsc hrow
    rw [hP] at hrd
    exact ⟨g', v2, ety, by rw [← e1]; simpa using hv, hh, (hφ _ _ hF).1, (hφ _ _ hF).2, φ 126, fun b hb => ⟨(hφ _ b hb).1, (hφ _ b hb).2, (hr.mem.fsub _ b hb).2⟩, hrd⟩
theorem lm_int {P : Program} {par : List Nat} {Sp : Nat → Prop} {n₀ : Nat} {σ : St} {tm : Array Value} {w : World} (h : LM P par Sp n₀ σ tm w) {t n : Nat} {z : Int} (hσ : σ.tmps[t]? = some (.c (.ptr n 0))) (hn : look n σ.blks = some (.box [.int .i64 z])) :
    ∃ b e, tm[t]? = some (.pointer (some ⟨b, 0, none⟩)) ∧ w.heap[b]? = some (.cells #[.int .i64 z] e (0, 0)) := by
  obtain ⟨B, H, φ, hP, _, hR, _, hw0, _, hX, hr⟩ := h.ex
  obtain ⟨v, hv, g, hg, e1⟩ := All2.get hr.tmp t _ hσ
  obtain ⟨v1, hv1, g', us, ety, e2, hF, hh, hal⟩ := hr.mem.blk n _ hn
  obtain rfl : g' = g := by
    have hg : H _ = _ := hg
    rw [hv1, e2] at hg
    have := Option.some.inj hg
    simpa using this
  obtain ⟨us⟩ := us
  match us, hal with
  | [u], hal =>
    obtain rfl : u = .int .i64 z := hal.1
    exact ⟨g', ety, by rw [← e1]; simpa using hv, hh⟩
end Go.Proofs.YtjmagdcgniklgaaGreatDoor
