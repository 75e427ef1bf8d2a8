/- Loops' summaries, and contracts by them. No conditions. -/
import Derived.Test.YtklfnbckoaphpaaGreatDoorEvZh
set_option linter.unusedVariables false
set_option linter.unusedSimpArgs false
namespace Go.Proofs.YtklfnbckoaphpaaGreatDoor
open Go

theorem iterN_det {S O : Type} {step : S → Option (S ⊕ O)} : ∀ {m k : Nat} {s : S} {o o' : O}, iterN step m s = some o → iterN step k s = some o' → o = o'
  | 0, _, _, _, _, h, _ => by simp [iterN] at h
  | _ + 1, 0, _, _, _, _, h => by simp [iterN] at h
  | m + 1, k + 1, s, o, o', h, h' => by
    simp only [iterN] at h h'
    cases hs : step s with
    | none => rw [hs] at h; cases h
    | some r =>
      rw [hs] at h h'
      cases r with
      | inl s' => exact iterN_det h h'
      | inr q =>
        simp only [Option.some.injEq] at h h'
        rw [← h, ← h']

/-- what a loop comes to -/
noncomputable def runL {S O : Type} (step : S → Option (S ⊕ O)) (s : S) : Option O :=
  open Classical in if h : ∃ m o, iterN step m s = some o then some (Classical.choose (Classical.choose_spec h)) else none

theorem runL_spec {S O : Type} {step : S → Option (S ⊕ O)} {s : S} {o : O} : runL step s = some o ↔ ∃ m, iterN step m s = some o := by
  unfold runL
  constructor
  · intro h
    split at h
    · rename_i hx
      simp only [Option.some.injEq] at h
      exact ⟨_, h ▸ Classical.choose_spec (Classical.choose_spec hx)⟩
    · cases h
  · rintro ⟨m, hm⟩
    have hx : ∃ m o, iterN step m s = some o := ⟨m, o, hm⟩
    rw [dif_pos hx]
    exact congrArg some (iterN_det (Classical.choose_spec (Classical.choose_spec hx)) hm)

/-- one round -/
theorem runL_eq {S O : Type} (step : S → Option (S ⊕ O)) (s : S) : runL step s = match step s with | none => none | some (.inl s') => runL step s' | some (.inr o) => some o := by
  apply Option.ext
  intro o
  cases hs : step s with
  | none =>
    simp only [runL_spec]
    constructor
    · rintro ⟨m, hm⟩
      cases m <;> simp [iterN, hs] at hm
    · intro h; cases h
  | some r =>
    cases r with
    | inl s' =>
      simp only [runL_spec]
      constructor
      · rintro ⟨m, hm⟩
        cases m with
        | zero => simp [iterN] at hm
        | succ m => exact ⟨m, by simpa [iterN, hs] using hm⟩
      · rintro ⟨m, hm⟩
        exact ⟨m + 1, by simpa [iterN, hs] using hm⟩
    | inr q =>
      simp only [runL_spec]
      constructor
      · rintro ⟨m, hm⟩
        cases m with
        | zero => simp [iterN] at hm
        | succ m => simpa [iterN, hs] using hm
      · intro h
        exact ⟨1, by simpa [iterN, hs] using h⟩

def loopBodies : Code → List Code
  | .seq a b => loopBodies a ++ loopBodies b
  | .cond _ a b => loopBodies a ++ loopBodies b
  | .block _ b => loopBodies b
  | .loop b => b :: loopBodies b
  | .scope b => loopBodies b
  | _ => []

def isReg (n : Nat) (b : Code) : Bool := match regOf b with | some m => m == n | none => false

theorem bodyOf_eq (n : Nat) : ∀ c : Code, bodyOf n c = (loopBodies c).find? (isReg n) := by
  intro c
  induction c with
  | seq a b iha ihb =>
    simp only [bodyOf, loopBodies, List.find?_append, ← iha, ← ihb]
    cases bodyOf n a <;> rfl
  | cond o a b iha ihb =>
    simp only [bodyOf, loopBodies, List.find?_append, ← iha, ← ihb]
    cases bodyOf n a <;> rfl
  | block id b ih => simpa [bodyOf, loopBodies] using ih
  | scope b ih => simpa [bodyOf, loopBodies] using ih
  | loop b ih =>
    simp only [bodyOf, loopBodies, List.find?_cons, isReg]
    cases h : regOf b with
    | none => simpa [isReg] using ih
    | some m =>
      simp only
      cases m == n <;> simp [ih, isReg]
  | _ => simp [bodyOf, loopBodies]

theorem find_nodup {n : Nat} : ∀ {l : List Code} {b : Code}, (l.filterMap regOf).Nodup → b ∈ l → regOf b = some n → l.find? (isReg n) = some b
  | [], _, _, h, _ => by cases h
  | c :: l, b, hn, hb, hr => by
    by_cases hc : regOf c = some n
    · have e : b = c := by
        rcases List.mem_cons.1 hb with e | hb
        · exact e
        · rw [List.filterMap_cons, hc] at hn
          have := (List.nodup_cons.1 hn).1
          exact absurd (List.mem_filterMap.2 ⟨b, hb, hr⟩) this
      subst e
      simp [List.find?_cons, isReg, hr]
    · have hb' : b ∈ l := by
        rcases List.mem_cons.1 hb with e | hb
        · subst e; exact absurd hr hc
        · exact hb
      have hi : isReg n c = false := by
        unfold isReg
        cases hq : regOf c with
        | none => rfl
        | some m =>
          have : m ≠ n := fun e => hc (by rw [hq, e])
          simp [this]
      rw [List.find?_cons, hi]
      refine find_nodup ?_ hb' hr
      rw [List.filterMap_cons] at hn
      split at hn
      · exact hn
      · exact (List.nodup_cons.1 hn).2

theorem loopsOK_of {E : Env} {Λ : Nat → Option Loop} : ∀ c : Code, (∀ b ∈ loopBodies c, ∀ n L, regOf b = some n → Λ n = some L → ∀ s o, L.run s = some o → ∃ m, iterN (fun s => ev E Λ b (L.pat.enc s) (kstep L.pat L.outs)) m s = some o) → LoopsOK E Λ c := by
  intro c
  induction c with
  | seq a b iha ihb => exact fun h => ⟨iha fun q hq => h q (List.mem_append.2 (.inl hq)), ihb fun q hq => h q (List.mem_append.2 (.inr hq))⟩
  | cond o a b iha ihb => exact fun h => ⟨iha fun q hq => h q (List.mem_append.2 (.inl hq)), ihb fun q hq => h q (List.mem_append.2 (.inr hq))⟩
  | block id b ih => exact fun h => ih h
  | loop b ih => exact fun h => ⟨ih fun q hq => h q (List.mem_cons_of_mem _ hq), h b (by simp [loopBodies])⟩
  | _ => exact fun _ => trivial

/-- a function keeps the contract that the evaluator computes, its loops being what their rounds come to -/
theorem con_of_ev' {P : Program} {f : FuncId} {fn : Func} {body : Code} {c : Con} {E : Env} {Λ : Nat → Option Loop} (hm : P.follows .mixedOrders = true) (hf : P.funcs[f]? = some fn) (hname : (fn.name == "runtime.NumGoroutine") = false) (hbody : fn.body = some body)
    (hE : EnvOK P E) (hpar : parsOK E.par c.ps = true) (hids : nodupB ((loopBodies body).filterMap regOf) = true)
    (hΛ : ∀ n L, Λ n = some L → ∀ s o, L.run s = some o → ∃ m, iterN (stepEv E Λ L.pat L.outs fn n) m s = some o) (hF : ∀ x, Fev E Λ c.ps c.rs fn x = c.F x) : ConOK P f c := by
  refine con_of_ev hm hf hname hbody hE hpar (loopsOK_of body fun b hb n L hn hL s o ho => ?_) (fun x y hy => (hF x).trans hy)
  obtain ⟨m, hm⟩ := hΛ n L hL s o ho
  refine ⟨m, ?_⟩
  have hbo : bodyOf n body = some b := by rw [bodyOf_eq]; exact find_nodup (nodupB_spec hids) hb hn
  have : stepEv E Λ L.pat L.outs fn n = fun s => ev E Λ b (L.pat.enc s) (kstep L.pat L.outs) := by
    funext s
    unfold stepEv
    rw [hbody]
    simp only [hbo]
  rw [this] at hm
  exact hm

theorem loop_ok {S O : Type} {stepF step : S → Option (S ⊕ O)} (h : ∀ s, stepF s = step s) {s : S} {o : O} (ho : runL step s = some o) : ∃ m, iterN stepF m s = some o := by
  obtain ⟨m, hm⟩ := runL_spec.1 ho
  exact ⟨m, by rw [show stepF = step from funext h]; exact hm⟩

/-- a table of contracts that hold -/
theorem envOK_of {P : Program} {E : Env} (hcon : ∀ f c, E.con f = some c → ConOK P f c) (hclo : ∀ f c, E.clo f = some c → CloOK P f c) (hT : E.T = tinf P) : EnvOK P E :=
  ⟨hcon, hclo, fun t i h => by rw [hT] at h; exact h⟩

end Go.Proofs.YtklfnbckoaphpaaGreatDoor
