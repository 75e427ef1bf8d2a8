/- Regions whose order is open: a condition that the world meets behind every operation but some, that wait for whatever leans on it. No conditions. -/
import Derived.Test.YtklfnbckoaphpaaGreatDoorEvYa
import Derived.OrdersHeld
import Derived.Deep.RegionHeld3
set_option linter.unusedVariables false
set_option linter.unusedSimpArgs false
namespace Go.Proofs.YtklfnbckoaphpaaGreatDoor
open Go

section
variable {E : Env} {P : Program} {ops : Array Oper} {Q : Exit → Act → World → Prop} {S S' : World → Prop}

/-- nothing that may write what is there has been listed since -/
def Clean (E : Env) (ops : Array Oper) (L0 listed : Array Bool) : Prop := ∀ j, wrote E ops j = true → listed.getD j true = L0.getD j true
def LeL (A B : Array Bool) : Prop := ∀ j, A.getD j true = true → B.getD j true = true
theorem LeL.refl (A : Array Bool) : LeL A A := fun _ h => h
theorem getD_set_t {listed : Array Bool} {i j : Nat} (h : listed.getD j true = true) : (listed.setIfInBounds i true).getD j true = true := by
  by_cases e : i = j
  · subst e
    rw [Array.getD_eq_getD_getElem?, Array.getElem?_setIfInBounds]
    simp
    split <;> rfl
  · rw [getD_set_ne true e]; exact h
theorem LeL.set {A B : Array Bool} (h : LeL A B) (i : Nat) : LeL A (B.setIfInBounds i true) := fun j hj => getD_set_t (h j hj)
theorem clean_sandwich {L0 L1 listed : Array Bool} (h01 : LeL L0 L1) (h1 : LeL L1 listed) (h : Clean E ops L0 listed) : Clean E ops L0 L1 ∧ Clean E ops L1 listed := by
  have key : ∀ j, wrote E ops j = true → L1.getD j true = L0.getD j true ∧ listed.getD j true = L1.getD j true := by
    intro j hj
    have := h j hj
    cases h0 : L0.getD j true with
    | true => have := h01 j h0; exact ⟨this, by rw [h1 j this, this]⟩
    | false =>
      rw [h0] at this
      cases hq : L1.getD j true with
      | true => have := h1 j hq; simp_all
      | false => exact ⟨rfl, this⟩
  exact ⟨fun j hj => (key j hj).1, fun j hj => (key j hj).2⟩
theorem Clean.set {L0 listed : Array Bool} (h : Clean E ops L0 listed) {i : Nat} (hi : wrote E ops i = false) : Clean E ops L0 (listed.setIfInBounds i true) := by
  intro j hj
  have : i ≠ j := fun e => by subst e; rw [hi] at hj; cases hj
  rw [getD_set_ne true this]
  exact h j hj
theorem clean_not {listed : Array Bool} {i : Nat} (h : listed.getD i true = false) (hc : Clean E ops listed (listed.setIfInBounds i true)) : wrote E ops i = false := by
  cases hw : wrote E ops i with
  | false => rfl
  | true =>
    have := hc i hw
    rw [h, Array.getD_eq_getD_getElem?, Array.getElem?_setIfInBounds] at this
    simp at this
    split at this <;> simp at this

def wpAnyZ (E : Env) (P : Program) (ops : Array Oper) (Q : Exit → Act → World → Prop) (L0 : Array Bool) (S : World → Prop) : Nat → Array Bool → Act → World → Prop
  | 0, listed, a, w => Region.ready .any ops listed = [] ∧ Q .normal a w
  | fuel + 1, listed, a, w => (Region.ready .any ops listed = [] → Q .normal a w) ∧
    ∀ i ∈ Region.ready .any ops listed, wpOp P ops Q i (fun a' w' => (Clean E ops L0 (listed.setIfInBounds i true) → S w') ∧ wpAnyZ E P ops Q L0 S fuel (listed.setIfInBounds i true) a' w') a w

theorem wpAny_of_Z {L0 : Array Bool} : ∀ (fuel : Nat) (listed : Array Bool) (a : Act) (w : World), wpAnyZ E P ops Q L0 S fuel listed a w → wpAny P .any ops Q fuel listed a w
  | 0, _, _, _, h => h
  | fuel + 1, _, _, _, h => ⟨h.1, fun i hi => wpOp_mono (fun a' w' h' => wpAny_of_Z fuel _ a' w' h'.2) (h.2 i hi)⟩

theorem wpAnyZ_S {L0 L1 : Array Bool} (h01 : LeL L0 L1) (h : ∀ w, Clean E ops L0 L1 → S' w → S w) : ∀ (fuel : Nat) (listed : Array Bool) (a : Act) (w : World), LeL L1 listed → wpAnyZ E P ops Q L1 S' fuel listed a w → wpAnyZ E P ops Q L0 S fuel listed a w
  | 0, _, _, _, _, hh => hh
  | fuel + 1, listed, _, _, h1, hh => ⟨hh.1, fun i hi => wpOp_mono (fun a' w' h' => ⟨fun hz => let q := clean_sandwich h01 (h1.set i) hz; h w' q.1 (h'.1 q.2), wpAnyZ_S h01 h fuel _ a' w' (h1.set i) h'.2⟩) (hh.2 i hi)⟩

theorem wpAnyZ_all {L0 : Array Bool} {fuel : Nat} {listed : Array Bool} {a : Act} {w : World} (hne : Region.ready .any ops listed ≠ [])
    (h : ∀ i ∈ Region.ready .any ops listed, wpOp P ops Q i (fun a' w' => (Clean E ops L0 (listed.setIfInBounds i true) → S w') ∧ wpAnyZ E P ops Q L0 S fuel (listed.setIfInBounds i true) a' w') a w) : wpAnyZ E P ops Q L0 S (fuel + 1) listed a w :=
  ⟨fun h0 => absurd h0 hne, h⟩

theorem wpAnyZ_done {L0 : Array Bool} {listed : Array Bool} {a : Act} {w : World} (hr : Region.ready .any ops listed = []) (h : Q .normal a w) : ∀ fuel, wpAnyZ E P ops Q L0 S fuel listed a w
  | 0 => ⟨hr, h⟩
  | _ + 1 => ⟨fun _ => h, by rw [hr]; simp⟩

/-- what is listed waits for nothing -/
def Closed (ops : Array Oper) (listed : Array Bool) : Prop := ∀ j o, ops[j]? = some o → listed.getD j false = true → ∀ e ∈ o.after, Region.binds .any e = true → listed.getD e.on false = true

theorem Closed.set {listed : Array Bool} (h : Closed ops listed) {i : Nat} (hi : i ∈ Region.ready .any ops listed) : Closed ops (listed.setIfInBounds i true) := by
  intro j o ho hj e he hb
  by_cases hji : i = j
  · subst hji
    obtain ⟨_, o', ho', hall⟩ := mem_ready.1 hi
    rw [ho] at ho'
    obtain rfl := Option.some.inj ho'
    exact getD_set_true (hall e he hb)
  · rw [getD_set_ne false hji] at hj
    exact getD_set_true (h j o ho hj e he hb)

theorem anc_listed : ∀ (n : Nat) {listed : Array Bool} {j i : Nat} {o : Oper}, Closed ops listed → ancB ops n j i = true → ops[j]? = some o → (∀ e ∈ o.after, Region.binds .any e = true → listed.getD e.on false = true) → listed.getD i false = true
  | 0, _, _, _, _, _, h, _, _ => by simp [ancB] at h
  | n + 1, listed, j, i, o, hc, h, ho, hall => by
    simp only [ancB, ho] at h
    obtain ⟨e, he, h⟩ := Array.any_eq_true'.1 h
    obtain ⟨hb, h⟩ := and_b h
    have hl := hall e he hb
    rw [Bool.or_eq_true] at h
    rcases h with h | h
    · have : e.on = i := by simpa using h
      rw [← this]; exact hl
    · cases ho' : ops[e.on]? with
      | none =>
        cases n with
        | zero => simp [ancB] at h
        | succ n => simp [ancB, ho'] at h
      | some o' => exact anc_listed n hc h ho' (fun e' he' hb' => hc e.on o' ho' hl e' he' hb')

theorem wrote_waits {listed : Array Bool} (hc : Closed ops listed) {i j : Nat} (hi : listed.getD i true = false) (hw : waitsB E ops listed i = true) (hj : j ∈ Region.ready .any ops listed) (hji : j ≠ i) : wrote E ops j = false := by
  cases h : wrote E ops j with
  | false => rfl
  | true =>
    obtain ⟨hjun, o, ho, hall⟩ := mem_ready.1 hj
    have hlt : j < ops.size := (Array.getElem?_eq_some_iff.1 ho).1
    have h1 := List.all_eq_true.1 hw j (List.mem_range.2 hlt)
    simp only [h, Bool.not_true, Bool.false_or, hjun, Bool.or_eq_true, beq_iff_eq, hji, false_or] at h1
    have h1 : ancB ops ops.size j i = true := by simpa using h1
    have := anc_listed ops.size hc h1 ho hall
    have hd : listed.getD i true = true := by
      rw [Array.getD_eq_getD_getElem?] at this ⊢
      cases hq : listed[i]? with
      | none => rfl
      | some b => rw [hq] at this; exact this
    rw [hi] at hd
    cases hd

theorem waits_set {listed : Array Bool} {i j : Nat} (h : waitsB E ops listed i = true) : waitsB E ops (listed.setIfInBounds j true) i = true := by
  refine List.all_eq_true.2 fun k hk => ?_
  have h1 := List.all_eq_true.1 h k hk
  rw [Bool.or_eq_true, Bool.or_eq_true, Bool.or_eq_true] at h1 ⊢
  rcases h1 with ((h1 | h1) | h1) | h1
  · exact .inl (.inl (.inl h1))
  · refine .inl (.inl (.inr ?_))
    by_cases e : j = k
    · subst e
      rw [Array.getD_eq_getD_getElem?, Array.getElem?_setIfInBounds]
      simp
      split
      · rfl
      · rfl
    · rw [getD_set_ne true e]; exact h1
  · exact .inl (.inr h1)
  · exact .inr h1

/-- what yields its value in every world that meets S may be taken first -/
theorem wpAnyZ_first {i : Nat} {oi : Oper} {v : Value} (hi : ops[i]? = some oi) (hsel : ∀ (j : Nat) (o : Oper) cs b, ops[j]? = some o → o.op ≠ .select cs b)
    (hQ : ∀ c a w, Q (.panic c) (a.put oi.dst v) w → Q (.panic c) a w) {L0 : Array Bool} (hnw : wrote E ops i = false) :
    ∀ (fuel : Nat) (listed : Array Bool) (a : Act) (w : World), Closed ops listed → Clean E ops L0 listed → waitsB E ops listed i = true →
      (∀ j oj, ops[j]? = some oj → j ≠ i → listed.getD j true = false → (∀ e ∈ oj.after, Region.binds .any e = true → e.on ≠ i) → oi.apart ops oj = true) →
      i ∈ Region.ready .any ops listed → YieldsIf P ops S oi v a → S w →
      wpAnyZ E P ops Q L0 S fuel (listed.setIfInBounds i true) (a.put oi.dst v) w → wpAnyZ E P ops Q L0 S (fuel + 1) listed a w := by
  intro fuel
  induction fuel with
  | zero =>
    intro listed a w hcl hcln hwt hfree hr hy hS H
    refine ⟨fun h => (by rw [h] at hr; cases hr), fun j hj => ?_⟩
    by_cases hji : j = i
    · subst hji; exact hy.wpOp hi hS ⟨fun _ => hS, H⟩
    · have := ready_mono hj hji
      rw [H.1] at this
      cases this
  | succ fuel ih =>
    intro listed a w hcl hcln hwt hfree hr hy hS H
    refine ⟨fun h => (by rw [h] at hr; cases hr), fun j hj => ?_⟩
    by_cases hji : j = i
    · subst hji; exact hy.wpOp hi hS ⟨fun _ => hS, H⟩
    · have h1 := H.2 j (ready_mono hj hji)
      have hjw : wrote E ops j = false := wrote_waits hcl (mem_ready.1 hr).1 hwt hj hji
      obtain ⟨hjun, oj, hoj, hall⟩ := mem_ready.1 hj
      have hnot : ∀ e ∈ oj.after, Region.binds .any e = true → e.on ≠ i := fun e he hb heq => by
        have h1 := hall e he hb
        have h0 := (mem_ready.1 hr).1
        rw [heq] at h1
        rcases Nat.lt_or_ge i listed.size with h' | h'
        · simp [h'] at h0 h1; rw [h0] at h1; cases h1
        · simp [Array.getElem?_eq_none h'] at h1
      have h2 := wpOp_putIf hoj (hfree j oj hoj hji hjun hnot) (fun cs b => hsel i oi cs b hi) (fun cs b => hsel j oj cs b hoj) hQ hy h1
      have hfree' : ∀ k ok, ops[k]? = some ok → k ≠ i → (listed.setIfInBounds j true).getD k true = false →
          (∀ e ∈ ok.after, Region.binds .any e = true → e.on ≠ i) → oi.apart ops ok = true := fun k ok hk hki hun hno => by
        refine hfree k ok hk hki ?_ hno
        by_cases hjk : j = k
        · subst hjk; exact hjun
        · rw [getD_set_ne true hjk] at hun; exact hun
      refine wpOp_mono (fun a' w' h3 => ⟨fun _ => h3.2.1 (by rw [Array.setIfInBounds_comm _ _ (Ne.symm hji)]; exact (hcln.set hjw).set hnw), ih (listed.setIfInBounds j true) a' w' (hcl.set hj) (hcln.set hjw) (waits_set hwt) hfree' (ready_mono hr (Ne.symm hji)) h3.1 (h3.2.1 (by rw [Array.setIfInBounds_comm _ _ (Ne.symm hji)]; exact (hcln.set hjw).set hnw)) ?_⟩) h2
      rw [Array.setIfInBounds_comm _ _ hji]
      exact h3.2.2

/-- what yields its value in every world may be taken first, whatever else is written -/
theorem wpAnyZ_firstP {L0 : Array Bool} {i : Nat} {oi : Oper} {v : Value} (hi : ops[i]? = some oi) (hsel : ∀ (j : Nat) (o : Oper) cs b, ops[j]? = some o → o.op ≠ .select cs b)
    (hQ : ∀ c a w, Q (.panic c) (a.put oi.dst v) w → Q (.panic c) a w) :
    ∀ (fuel : Nat) (listed : Array Bool) (a : Act) (w : World),
      (∀ j oj, ops[j]? = some oj → j ≠ i → listed.getD j true = false → (∀ e ∈ oj.after, Region.binds .any e = true → e.on ≠ i) → oi.apart ops oj = true) →
      i ∈ Region.ready .any ops listed → YieldsIf P ops (fun _ => True) oi v a → (Clean E ops L0 (listed.setIfInBounds i true) → S w) → (wrote E ops i = false) →
      wpAnyZ E P ops Q L0 S fuel (listed.setIfInBounds i true) (a.put oi.dst v) w → wpAnyZ E P ops Q L0 S (fuel + 1) listed a w := by
  intro fuel
  induction fuel with
  | zero =>
    intro listed a w hfree hr hy hS hnw H
    refine ⟨fun h => (by rw [h] at hr; cases hr), fun j hj => ?_⟩
    by_cases hji : j = i
    · subst hji; exact hy.wpOp hi trivial ⟨hS, H⟩
    · have := ready_mono hj hji
      rw [H.1] at this
      cases this
  | succ fuel ih =>
    intro listed a w hfree hr hy hS hnw H
    refine ⟨fun h => (by rw [h] at hr; cases hr), fun j hj => ?_⟩
    by_cases hji : j = i
    · subst hji; exact hy.wpOp hi trivial ⟨hS, H⟩
    · have h1 := H.2 j (ready_mono hj hji)
      obtain ⟨hjun, oj, hoj, hall⟩ := mem_ready.1 hj
      have hnot : ∀ e ∈ oj.after, Region.binds .any e = true → e.on ≠ i := fun e he hb heq => by
        have h1 := hall e he hb
        have h0 := (mem_ready.1 hr).1
        rw [heq] at h1
        rcases Nat.lt_or_ge i listed.size with h' | h'
        · simp [h'] at h0 h1; rw [h0] at h1; cases h1
        · simp [Array.getElem?_eq_none h'] at h1
      have h2 := wpOp_putIf hoj (hfree j oj hoj hji hjun hnot) (fun cs b => hsel i oi cs b hi) (fun cs b => hsel j oj cs b hoj) hQ hy h1
      have hfree' : ∀ k ok, ops[k]? = some ok → k ≠ i → (listed.setIfInBounds j true).getD k true = false →
          (∀ e ∈ ok.after, Region.binds .any e = true → e.on ≠ i) → oi.apart ops ok = true := fun k ok hk hki hun hno => by
        refine hfree k ok hk hki ?_ hno
        by_cases hjk : j = k
        · subst hjk; exact hjun
        · rw [getD_set_ne true hjk] at hun; exact hun
      refine wpOp_mono (fun a' w' h3 => ?_) h2
      have h4 : Clean E ops L0 ((listed.setIfInBounds j true).setIfInBounds i true) → S w' := fun hc => h3.2.1 (by rw [Array.setIfInBounds_comm _ _ (Ne.symm hji)]; exact hc)
      refine ⟨fun hc => h4 (hc.set hnw), ih (listed.setIfInBounds j true) a' w' hfree' (ready_mono hr (Ne.symm hji)) h3.1 h4 hnw ?_⟩
      rw [Array.setIfInBounds_comm _ _ hji]
      exact h3.2.2

theorem wpAnyZ_take {i : Nat} {oi : Oper} {v : Value} {fuel : Nat} {listed : Array Bool} {a : Act} {w : World} (hi : ops[i]? = some oi)
    (hs : Region.noSelect ops = true) (hcl : Closed ops listed) (hnw : wrote E ops i = false) (hw : (waitsB E ops listed i || !memRead oi.op) = true) (hf : Region.free .any ops listed i = true) (hr : i ∈ Region.ready .any ops listed)
    (hQ : ∀ c a w, Q (.panic c) (a.put oi.dst v) w → Q (.panic c) a w) (hwant : Region.wanted oi (yielded ops a.tmps) = true) (hy : ∀ w', (memRead oi.op = true → S w') → (execOp a.eval oi).run P w' = .ok (.value v) w') (hS : S w)
    (h : wpAnyZ E P ops Q listed S fuel (listed.setIfInBounds i true) (a.put oi.dst v) w) : wpAnyZ E P ops Q listed S (fuel + 1) listed a w := by
  cases hm : memRead oi.op with
  | true =>
    have hw' : waitsB E ops listed i = true := by simpa [hm] using hw
    exact wpAnyZ_first hi (Region.noSelect_spec hs) hQ hnw fuel listed a w hcl (fun _ _ => rfl) hw' (Region.free_spec hi hf) hr (.inl ⟨hwant, fun w' h => hy w' (fun _ => h)⟩) hS h
  | false =>
    exact wpAnyZ_firstP hi (Region.noSelect_spec hs) hQ fuel listed a w (Region.free_spec hi hf) hr (.inl ⟨hwant, fun w' _ => hy w' (fun h => by rw [hm] at h; cases h)⟩) (fun _ => hS) hnw h

theorem closed_start (n : Nat) : Closed ops (Array.replicate n false) := by
  intro j o _ hj
  rw [Array.getD_eq_getD_getElem?, Array.getElem?_replicate] at hj
  split at hj <;> simp at hj

theorem wp_region_Z {id : Nat} {a : Act} {w : World} (hm : P.follows .mixedOrders = true) {L0 : Array Bool} (h : wpAnyZ E P ops Q L0 S ops.size (Array.replicate ops.size false) a w.drew) : (Code.region id ops true).wp P Q a w :=
  wp_region_any hm (wpAny_of_Z _ _ _ _ h)

end
end Go.Proofs.YtklfnbckoaphpaaGreatDoor
