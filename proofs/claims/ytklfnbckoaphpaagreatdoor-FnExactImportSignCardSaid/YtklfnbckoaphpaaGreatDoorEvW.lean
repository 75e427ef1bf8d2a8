/- Calls as a whole. No conditions. -/
import Derived.Test.YtklfnbckoaphpaaGreatDoorEvV
set_option linter.unusedVariables false
set_option linter.unusedSimpArgs false
namespace Go.Proofs.YtklfnbckoaphpaaGreatDoor
open Go

theorem single : ∀ {l : List Nat} {n : Nat}, l.length ≤ 1 → n ∈ l → l = [n]
  | [], _, _, h => by cases h
  | [m], n, _, h => by simp at h; rw [h]
  | _ :: _ :: _, _, h, _ => by simp at h

theorem asPart_rel {C : Cx} {x : A} {v : Value} {p : Bool × List Cell} (h : asPart x = some p) (hr : ARel C x v) : PartRel C p v := by
  cases x with
  | c y => simp only [asPart, Option.some.injEq] at h; subst h; exact hr
  | agg cs => simp only [asPart, Option.some.injEq] at h; subst h; exact hr
  | tup _ => simp [asPart] at h
  | any => simp [asPart] at h
theorem asParts_rel {C : Cx} : ∀ {xs : List A} {vs : List Value} {ps : List (Bool × List Cell)}, asParts xs = some ps → All2 (ARel C) xs vs → All2 (PartRel C) ps vs
  | [], [], ps, h, _ => by simp only [asParts, Option.some.injEq] at h; subst h; trivial
  | [], _ :: _, _, _, h => h.elim
  | _ :: _, [], _, _, h => h.elim
  | x :: xs, v :: vs, ps, h, ha => by
    simp only [asParts] at h
    split at h
    · rename_i p q h1 h2
      simp only [Option.some.injEq] at h
      subst h
      exact ⟨asPart_rel h1 ha.1, asParts_rel h2 ha.2⟩
    · cases h

theorem packA_rel {C : Cx} {xs : List A} {vs : List Value} {x : A} {v : Value} (h : packA xs = some x) (ha : All2 (ARel C) xs vs) (ht : Tupled vs v) : ARel C x v := by
  have tup : ∀ ps, asParts xs = some ps → v = .tuple vs.toArray → ARel C (.tup ps) v := fun ps hp hv => ⟨vs.toArray, hv, by simpa using asParts_rel hp ha⟩
  match xs, vs, ha with
  | [], [], _ =>
    simp only [packA, asParts, Option.some.injEq] at h
    subst h
    exact tup [] rfl ht
  | [y], [u], ha =>
    simp only [packA, Option.some.injEq] at h
    subst h
    obtain rfl : v = u := ht
    exact ha.1
  | y :: y' :: ys, u :: u' :: us, ha =>
    simp only [packA] at h
    split at h
    · rename_i ps hp
      simp only [Option.some.injEq] at h
      subst h
      exact tup ps hp ht
    · cases h
  | _ :: _ :: _, [_], ha => exact ha.2.elim
  | [_], _ :: _ :: _, ha => exact ha.2.elim

section
variable {ρ : Type} {B : Base} {E : Env} {σ : St} {a : Act} {tm : Array Value} {w w' : World} {H : Nat → Option Value} {φ : Nat → Nat → Prop}

/-- behind a call: the value, and the state -/
abbrev After (B : Base) (tm : Array Value) (w : World) (X : Nat → Prop) (k : A → St → Option ρ) (r : ρ) : Ending → World → Prop := fun e w' => (∃ v x σ', e = .returned v ∧ k x σ' = some r ∧ ∃ H' φ', Rel B σ' tm w' H' φ' ∧ ARel (B.at σ' w' H' φ') x v) ∧ Fr X w w'

theorem callCon_ok (hE : EnvOK B.P E) (hpar : E.par = B.par) (hB : B.R = NoB) (h : Rel B σ tm w H φ) {c : Con} {f : FuncId} (hc : ConOK B.P f c) {bsR : List (Nat × Blk)} {args : List A} {vals : List Value} (ha : All2 (ARel (B.at σ w H φ)) args vals)
    (hmode : bsR = [] ∨ (bsR = without (handed c.ps args) σ.blks ∧ (c.rs.all closedR && (Sig.ios c.ps).all closedR) = true)) {d : Nat} {k : A → St → Option ρ} {r : ρ} (hv : callCon E bsR c d args σ k = some r) :
    Calls B.P f vals.toArray w (After B tm w (fun b => ∃ n ∈ handed c.ps args, φ n b) k r) := by
  unfold callCon at hv
  obtain ⟨hg, hv⟩ := bif_none hv
  obtain ⟨hlen, hname⟩ := and_b hg
  have hlen : (handed c.ps args).length ≤ 1 ∨ (nodupB (handed c.ps args) = true ∧ Sig.ios c.ps = [] ∧ ∀ n ∈ handed c.ps args, E.par.contains n = false) := by
    rcases Bool.or_eq_true _ _ ▸ hlen with h1 | h1
    · exact .inl (of_decide_eq_true h1)
    · unfold manyOK at h1
      obtain ⟨h1, h3⟩ := and_b h1
      obtain ⟨h1, h2⟩ := and_b h1
      exact .inr ⟨h1, by simpa using h2, fun n hn => by simpa using List.all_eq_true.1 h3 n hn⟩
  have hnod : nodupB (handed c.ps args) = true := hlen.elim nodupB_small (fun h => h.1)
  have hname := of_decide_eq_true hname
  split at hv
  · cases hv
  rename_i x hx
  split at hv
  · cases hv
  rename_i y hy
  split at hv
  rename_i σ1 z hwp
  split at hv
  · cases hv
  rename_i xs σ2 hmk
  split at hv
  · cases hv
  rename_i v' hpk
  -- what the callee may read
  let X : Nat → Prop := fun b => ∃ n ∈ handed c.ps args, φ n b
  have hXlt : ∀ b, X b → b < w.heap.size := by rintro b ⟨n, _, hb⟩; exact (h.mem.fsub n b hb).2
  have key : ∃ Zc : Nat → Prop, (∀ b, b < w.heap.size → zone B w φ b → Zc b) ∧ Reads (B.at σ w H φ) bsR Zc ∧ (∀ b, X b → ¬ Zc b) ∧
      ((∀ b, Zc b → zone B w φ b) ∨ (c.rs.all closedR && (Sig.ios c.ps).all closedR) = true) := by
    rcases hmode with rfl | ⟨rfl, hcl⟩
    · exact ⟨zone B w φ, fun _ _ h => h, Reads.nil, by rintro b ⟨n, _, hb⟩ hz; exact hz.2.2.2 n hb, .inl fun _ h => h⟩
    · refine ⟨fun b => ¬ X b, fun b _ hz => ?_, ⟨fun b _ hz => ?_, fun n b hn => ?_, fun n dd t xs' hn => ?_⟩, fun b hX hz => hz hX, .inr hcl⟩
      · rintro ⟨n, _, hb⟩; exact hz.2.2.2 n hb
      · rintro ⟨n, _, hb⟩
        have hz' : zone B w φ b := hz
        exact hz'.2.2.2 n hb
      · have hnn : look n σ.blks = some b ∧ n ∉ handed c.ps args := by
          unfold without at hn
          cases he : (handed c.ps args).isEmpty with
          | true =>
            rw [he] at hn
            have : handed c.ps args = [] := by simpa using he
            exact ⟨hn, by rw [this]; simp⟩
          | false =>
            rw [he] at hn
            simp only [cond_false] at hn
            rw [look_filter (fun m => !(handed c.ps args).contains m)] at hn
            by_cases hm : (handed c.ps args).contains n = true
            · simp only [hm, Bool.not_true] at hn; exact absurd hn (by simp)
            · have hm' : (handed c.ps args).contains n = false := by simpa using hm
              simp only [hm', Bool.not_false, if_true] at hn
              exact ⟨hn, by simpa using hm'⟩
        obtain ⟨v, hv, hb⟩ := h.mem.blk n b hnn.1
        exact ⟨v, φ n, hv, hb, fun i hi hf => by
          rintro ⟨m, hm, hfm⟩
          have : n ≠ m := fun e => hnn.2 (e ▸ hm)
          exact h.mem.fdis n m this i hf hfm⟩
      · have hnn : look n σ.blks = some (.row dd t xs') := by
          unfold without at hn
          cases he : (handed c.ps args).isEmpty with
          | true => rw [he] at hn; exact hn
          | false =>
            rw [he] at hn
            simp only [cond_false] at hn
            rw [look_filter (fun m => !(handed c.ps args).contains m)] at hn
            split at hn
            · exact hn
            · cases hn
        show lenOf σ.blks n = _
        simp [lenOf, hnn]
  obtain ⟨Zc, hz1, hR, hXZ, hz2⟩ := key
  obtain ⟨hold, hlk⟩ := readPs_rel hE h hz1 hR c.ps args vals x hnod hx ha
  refine (hc.calls w Zc X vals x y hy hXZ hXlt hold h.mem.tabs (by rintro b ⟨n, _, hb⟩; exact h.mem.big hb)).mono ?_
  rintro e w' ⟨v, vs, F, G, rfl, htup, hvl, hfr, hF, hG, hFG, hio, hrs⟩
  have hZ' : ∃ Z', Holds B.P w' Z' G (Sig.ios c.ps) (ioVals c.ps vals) (Sig.fst _ _ y) ∧ Holds B.P w' Z' F c.rs vs (Sig.snd _ _ y) ∧ ∀ i, i < w'.heap.size → Z' i → (zone B w φ i ∨ w.heap.size ≤ i) ∧ ¬ F i ∧ ¬ G i := by
    rcases hz2 with hz2 | hcl
    · refine ⟨_, hio, hrs, fun i hi hz => ?_⟩
      rcases hz with hz | hz
      · have hzn := hz2 i hz
        refine ⟨.inl hzn, fun hf => ?_, fun hg => ?_⟩
        · rcases (hF i hf).1 with h1 | ⟨⟨n, _, hb⟩, _⟩
          · have := hzn.2.1; omega
          · exact hzn.2.2.2 n hb
        · rcases (hG i hg).1 with ⟨n, _, hb⟩ | h1
          · exact hzn.2.2.2 n hb
          · have := hzn.2.1; omega
      · exact ⟨.inr hz.1, hz.2.1, hz.2.2⟩
    · have hcl := and_b hcl
      exact ⟨NoB, holds_closed _ _ _ _ hcl.2 hio, holds_closed _ _ _ _ hcl.1 hrs, fun _ _ f => f.elim⟩
  obtain ⟨Z', hio', hrs', hZ⟩ := hZ'
  have hwr : ∃ H1 φ1, Rel (B.on F) (writePs c.ps args c.rs y σ).1 tm w' H1 φ1 ∧ (writePs c.ps args c.rs y σ).2 = Sig.snd _ _ y ∧ ∀ m i, φ1 m i → (∃ k, φ k i) ∨ G i := by
    rcases hlen with hlen | ⟨q1, q2, q3⟩
    · exact writePs_ok (w' := w') (bsR := bsR) (F := F) (Z' := Z') hB h c.rs c.ps args vals x y G hlen hx ha hfr hF hG hFG hZ hio'
    · obtain ⟨H1, φ1, r1, r2, r3⟩ := writePs_many (w' := w') (bsR := bsR) (F := F) hB h c.rs c.ps args x y q2 q1 hx hlk hfr hF
      exact ⟨H1, φ1, r1, r2, fun m i hi => .inl (r3 m i hi)⟩
  obtain ⟨H1, φ1, k1, k2, k3⟩ := hwr
  rw [hwp] at k1 k2
  simp only at k1 k2
  subst k2
  obtain ⟨H2, φ2, m1, m2, m3, m4⟩ := mkRess_ok (B := B) hB (Z' := Z') c.rs _ vs (callName E c args d) σ1 H1 φ1 F xs σ2 k1 hmk hname hrs'
    (fun hne b hb => by
      rcases (hF b hb).1 with h1 | ⟨⟨n, hn, hb'⟩, hio0⟩
      · exact .inl (Nat.le_trans h.mem.fr.size h1)
      · rcases (h.mem.fsub n b hb').1 with q | q
        · have hlen : (handed c.ps args).length ≤ 1 := by
            rcases hlen with h1 | ⟨_, _, h3⟩
            · exact h1
            · have := h3 n hn
              rw [hpar, q.1] at this
              cases this
          have hh : handed c.ps args = [n] := single hlen hn
          have hnm : callName E c args d = n := by
            have hm : n ∈ B.par := by simpa using q.1
            simp [callName, hh, hpar, hm, hio0]
          have h62 := B.parok n q.1
          rw [hnm] at hname ⊢
          exact .inr ⟨by omega, q.1, q.2⟩
        · exact .inl q)
    (fun b hb hz => by
      obtain ⟨q1, q2, q3⟩ := hZ b hb hz
      refine ⟨?_, q2, fun m hm => ?_⟩
      · rcases q1 with q1 | q1
        · exact q1.1
        · exact .inr (Nat.le_trans h.mem.fr.size q1)
      · rcases k3 m b hm with ⟨j, hj⟩ | hj
        · rcases q1 with q1 | q1
          · exact q1.2.2.2 j hj
          · have := (h.mem.fsub j b hj).2; omega
        · exact q3 hj)
  exact ⟨⟨v, v', σ2, rfl, hv, H2, φ2, m1, packA_rel hpk m4 htup⟩, hfr⟩

end
end Go.Proofs.YtklfnbckoaphpaaGreatDoor
