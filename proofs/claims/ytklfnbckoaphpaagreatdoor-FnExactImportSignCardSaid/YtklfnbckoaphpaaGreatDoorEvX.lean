/- Calls are what the evaluator says. No conditions. -/
import Derived.Test.YtklfnbckoaphpaaGreatDoorEvW
set_option linter.unusedVariables false
set_option linter.unusedSimpArgs false
namespace Go.Proofs.YtklfnbckoaphpaaGreatDoor
open Go

abbrev isVal (p : PK × Ty) : Bool := match p with | (.val, _) => true | _ => false
theorem handed_vals : ∀ (ps : List (PK × Ty)) (xs : List A), ps.all isVal = true → handed ps xs = []
  | [], xs, _ => by cases xs <;> rfl
  | (.val, t) :: ps, [], h => by simp [handed]
  | (.val, t) :: ps, x :: xs, h => handed_vals ps xs (by simpa using h)
  | (.io d, t) :: ps, xs, h => by simp [isVal] at h
  | (.eat d, t) :: ps, xs, h => by simp [isVal] at h

theorem run_callFunc_enters {P : Program} {f : FuncId} (h : Enters P f) (args : Array Value) (w : World) : (callFunc f args).run P w = .ok (.enter f args) w := by
  obtain ⟨fn, hf, h1, h2⟩ := h
  have h1' : fn.name ≠ "runtime.NumGoroutine" := by simpa using h1
  have h2' : fn.body ≠ none := by intro e; simp [e] at h2
  simp [callFunc, hf, h1', h2']

theorem wp_enter {P : Program} {o : Oper} {a : Act} {w : World} {K : Act → World → Prop} {Q : Exit → Act → World → Prop} {f : FuncId} {args : Array Value} (hrun : (execOp a.eval o).run P w = .ok (.enter f args) w)
    (hk : Calls P f args w fun e w' => ∃ v, e = .returned v ∧ K (a.put o.dst v) w') : o.wp P a w K Q := by
  unfold Oper.wp
  rw [hrun]
  exact hk.mono fun e w' ⟨v, he, hK⟩ => by subst he; exact hK

theorem run_call_value {P : Program} {o : Oper} {a : Act} {w : World} {f : Operand} {xs : Array Operand} {ts : Array TypeId} (ho : o.op = .call { callee := .value f, args := xs, argTypes := ts }) {g : FuncId} {vs : Array Value} (hf : a.eval f = .func (.func g) #[] vs) (he : Enters P g) :
    (execOp a.eval o).run P w = .ok (.enter g (xs.map a.eval ++ vs)) w := by
  simp [execOp, ho, resolve, Deferred.ofValue, hf, invoke, run_callFunc_enters he]

section
variable {ρ : Type} {B : Base} {E : Env} {σ : St} {a : Act} {w : World} {H : Nat → Option Value} {φ : Nat → Nat → Prop}

theorem freezeAll_ok {tm : Array Value} : ∀ (ns : List Nat) (σ : St) (H : Nat → Option Value) (φ : Nat → Nat → Prop), Rel B σ tm w H φ → ∃ H' φ', Rel B (freezeAll B.par ns σ) tm w H' φ'
  | [], σ, H, φ, h => ⟨H, φ, h⟩
  | n :: ns, σ, H, φ, h => let ⟨H1, φ1, h1⟩ := h.freeze n; freezeAll_ok ns _ H1 φ1 h1

theorem evals (h : Rel B σ a.tmps w H φ) : ∀ xs : List Operand, All2 (ARel (B.at σ w H φ)) (xs.map σ.eval) (xs.map a.eval)
  | [] => trivial
  | x :: xs => ⟨h.eval x, evals h xs⟩

theorem capA_rel {C : Cx} : ∀ {caps : List Cap} {vs : List Value}, All2 (CapRel C) caps vs → All2 (ARel C) (caps.map capA) vs
  | [], [], _ => trivial
  | [], _ :: _, h => h.elim
  | _ :: _, [], h => h.elim
  | c :: cs, v :: vs, h => ⟨by cases c <;> exact h.1, capA_rel h.2⟩

theorem eo_call (hE : EnvOK B.P E) (hpar : E.par = B.par) (hB : B.R = NoB) (hA : RelA B σ a w) {o : Oper} {f : Operand} {xs : Array Operand} {ts : Array TypeId} {d : Nat} (ho : o.op = .call { callee := .value f, args := xs, argTypes := ts }) (hd : o.dst = some d)
    {k : St → Option ρ} {r : ρ} (hv : evCall E d f xs.toList σ (fun v σ' => k (σ'.set d v)) = some r) (Q : Exit → Act → World → Prop) : o.wp B.P a w (fun a' w' => Next B k r a' w' ∧ (quietCall E σ f = true → Fr NoB w w')) Q := by
  obtain ⟨hdef, H, φ, h⟩ := hA
  have fin : ∀ (X : Nat → Prop), (quietCall E σ f = true → ∀ b, ¬ X b) → ∀ (g : FuncId) (vs : Array Value), a.eval f = .func (.func g) #[] vs → Enters B.P g → Calls B.P g (xs.map a.eval ++ vs) w (After B a.tmps w X (fun v σ' => k (σ'.set d v)) r) → o.wp B.P a w (fun a' w' => Next B k r a' w' ∧ (quietCall E σ f = true → Fr NoB w w')) Q := by
    intro X hX g vs hf he hc
    refine wp_enter (run_call_value ho hf he) (hc.mono ?_)
    rintro e w' ⟨⟨v, x, σ', rfl, hk, H', φ', hr, hx⟩, hfr⟩
    refine ⟨v, rfl, ⟨_, hk, by rw [put_defers]; exact hdef, H', φ', ?_⟩, fun hq => ⟨hfr.os, hfr.tape, hfr.output, hfr.size, fun b hb _ => hfr.block b hb (hX hq b), hfr.glob⟩⟩
    rw [hd]
    exact Rel.set hr d hx
  have con : ∀ (σ1 : St) (H : Nat → Option Value) (φ : Nat → Nat → Prop), Rel B σ1 a.tmps w H φ → ∀ (g : Nat) (caps : List Cap) (c : Con) (bsR : List (Nat × Blk)), (quietCall E σ f = true → c.ps.all isVal = true) → σ1.eval f = .c (.fn g caps) → E.con g = some c →
      (bsR = [] ∨ (bsR = without (handed c.ps (xs.toList.map σ1.eval ++ caps.map capA)) σ1.blks ∧ (c.rs.all closedR && (Sig.ios c.ps).all closedR) = true)) →
      callCon E bsR c d (xs.toList.map σ1.eval ++ caps.map capA) σ1 (fun v σ' => k (σ'.set d v)) = some r → o.wp B.P a w (fun a' w' => Next B k r a' w' ∧ (quietCall E σ f = true → Fr NoB w w')) Q := by
    intro σ1 H φ h g caps c bsR hqv ef hc hm hv
    have hf := h.eval f
    rw [ef] at hf
    obtain ⟨vs, hf1, hf2⟩ := hf
    have hok := hE.con g c hc
    refine fin (fun b => ∃ n ∈ handed c.ps (xs.toList.map σ1.eval ++ caps.map capA), φ n b) (fun hq b => by rw [handed_vals _ _ (hqv hq)]; rintro ⟨n, hn, _⟩; cases hn) g vs hf1 hok.enters ?_
    have hargs : All2 (ARel (B.at σ1 w H φ)) (xs.toList.map σ1.eval ++ caps.map capA) (xs.toList.map a.eval ++ vs.toList) := (evals h xs.toList).append (capA_rel hf2)
    have := callCon_ok (vals := xs.toList.map a.eval ++ vs.toList) hE hpar hB h hok hargs hm hv
    have e : (xs.toList.map a.eval ++ vs.toList).toArray = xs.map a.eval ++ vs := by
      apply Array.ext'; simp
    rwa [e] at this
  unfold evCall at hv
  split at hv
  · rename_i g caps ef
    split at hv
    · cases hv
    rename_i c hc
    have hqv : quietCall E σ f = true → c.ps.all isVal = true := by
      intro hq
      unfold quietCall at hq
      rw [ef] at hq
      simp only [hc] at hq
      exact hq
    cases hcl : (c.rs.all closedR && (Sig.ios c.ps).all closedR) with
    | true =>
      rw [hcl] at hv
      exact con σ H φ h g caps c _ hqv ef hc (.inr ⟨rfl, hcl⟩) hv
    | false =>
      rw [hcl] at hv
      simp only [cond_false] at hv
      rw [hpar] at hv
      obtain ⟨H1, φ1, h1⟩ := freezeAll_ok (((xs.toList.map σ.eval).flatMap A.names).filter fun n => !(handed c.ps (xs.toList.map σ.eval ++ caps.map capA)).contains n) σ H φ h
      split at hv
      · rename_i g' caps' ef'
        have hv0 := bif_none hv
        clear hv
        obtain ⟨hg, hv⟩ := hv0
        have : g' = g := by simpa using hg
        subst this
        exact con _ H1 φ1 h1 g' caps' c [] hqv ef' hc (.inl rfl) hv
      · cases hv
  · rename_i ta tr ψ ef
    obtain ⟨hs, hv⟩ := bif_none hv
    split at hv
    · cases hv
    rename_i x hx
    split at hv
    · cases hv
    rename_i y hy
    have hf := h.eval f
    rw [ef] at hf
    obtain ⟨v, e1, _, hcall⟩ := hf
    simp only [List.cons.injEq, and_true] at e1
    subst e1
    obtain ⟨cs, hcs, hrd⟩ := readArgs_rel (C := B.at σ w H φ) hE h.reads ta (xs.toList.map σ.eval) (xs.toList.map a.eval) x hx (evals h xs.toList)
    obtain ⟨g, caps, ev, he, hc⟩ := hcall w (Agree.refl _ _) h.mem.tabs _ cs x y hcs hrd hy
    refine fin NoB (fun _ _ f => f) g caps ev he ?_
    have e : (xs.toList.map a.eval).toArray = xs.map a.eval := by
      apply Array.ext'; simp
    rw [e] at hc
    refine hc.mono ?_
    rintro e' w' ⟨rfl, hfr⟩
    have hst := Rel.step (B := B) (R1 := B.R) (R2 := B.R) (w' := w') h (by rw [hB]; exact hfr) (fun i hi => by rw [hB] at hi; exact hi.elim)
    refine ⟨⟨_, tr.toA y, σ, rfl, hv, H, φ, hst.1, ?_⟩, hfr⟩
    cases tr with
    | st t => exact toA_rel ⟨_, rfl, (RdC.scal (.st t) hs _ y).2 (by simp [Ty.vals])⟩
    | int kk => exact toA_rel ⟨_, rfl, (RdC.scal (.int kk) hs _ y).2 rfl⟩
    | bool => exact toA_rel ⟨_, rfl, (RdC.scal .bool hs _ y).2 rfl⟩
    | str => exact toA_rel ⟨_, rfl, (RdC.scal .str hs _ y).2 rfl⟩
    | unit => trivial
    | pair _ _ => trivial
    | slice _ => simp [Ty.scal] at hs
    | ptr _ => simp [Ty.scal] at hs
    | fn _ _ => simp [Ty.scal] at hs
    | map _ _ => simp [Ty.scal] at hs
  · cases hv

end
end Go.Proofs.YtklfnbckoaphpaaGreatDoor
