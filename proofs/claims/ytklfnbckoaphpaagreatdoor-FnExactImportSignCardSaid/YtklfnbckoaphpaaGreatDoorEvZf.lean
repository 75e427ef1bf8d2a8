/- A function keeps the contract that the evaluator computes. No conditions. -/
import Derived.Test.YtklfnbckoaphpaaGreatDoorEvZe
set_option linter.unusedVariables false
set_option linter.unusedSimpArgs false
namespace Go.Proofs.YtklfnbckoaphpaaGreatDoor
open Go

theorem results_run {P : Program} {fn : Func} {a : Act} {w : World} {vs : List Value} (h : (fn.results.toList.mapM (resM a)).run P w = .ok vs w) : ∃ v, (results fn a.tmps).run P w = .ok v w ∧ Tupled vs v := by
  have e : results fn a.tmps = (do let vs ← fn.results.mapM (resM a); pure (if h : vs.size = 1 then vs[0] else .tuple vs)) := by
    unfold results
    congr 2
  have hm : (fn.results.mapM (resM a)).run P w = .ok vs.toArray w := by
    rw [Array.mapM_eq_mapM_toList]
    simp [h]
  refine ⟨if h : vs.toArray.size = 1 then vs.toArray[0] else .tuple vs.toArray, ?_, ?_⟩
  · rw [e]
    simp only [Sem.run_bind, hm, Result.andThen_ok, Sem.run_pure]
  · match vs with
    | [] => simp [Tupled]
    | [x] => simp [Tupled]
    | x :: y :: r => simp [Tupled]

theorem repA_rel {C : Cx} : ∀ n : Nat, All2 (ARel C) (repA n) (List.replicate n undef)
  | 0 => trivial
  | n + 1 => ⟨undefRel, repA_rel n⟩

theorem ownNames_look {bs bs' : List (Nat × Blk)} : ∀ {ps : List (PK × Ty)} {xs : List A} {y : Sig.den ps}, readRes bs bs' ps xs = some y → xs.length = ps.length
  | [], [], _, _ => rfl
  | [], _ :: _, _, h => by simp [readRes] at h
  | (.val, t) :: ps, [], _, h => by simp [readRes] at h
  | (.io d, t) :: ps, [], _, h => by simp [readRes] at h
  | (.eat d, t) :: ps, xs, _, h => by cases xs <;> simp [readRes] at h
  | (.val, t) :: ps, x :: xs, y, h => by
    simp only [readRes] at h
    split at h
    · rename_i a b h1 h2
      simp [ownNames_look h2]
    · cases h
  | (.io d, t) :: ps, x :: xs, y, h => by
    obtain ⟨a, b, _, h2, _⟩ := readRes_io h
    simp [ownNames_look h2]

/-- the names of what is handed over, and perhaps more of their kind -/
def parsOK (l : List Nat) (ps : List (PK × Ty)) : Bool := (parNames 0 ps).all (fun n => l.contains n) && l.all fun n => decide (62 ≤ n % 64)
/-- the contract that the evaluator computes is kept -/
theorem con_of_ev {P : Program} {f : FuncId} {fn : Func} {body : Code} {c : Con} {E : Env} {Λ : Nat → Option Loop} (hm : P.follows .mixedOrders = true) (hf : P.funcs[f]? = some fn) (hname : (fn.name == "runtime.NumGoroutine") = false) (hbody : fn.body = some body)
    (hE : EnvOK P E) (hpar : parsOK E.par c.ps = true) (hl : LoopsOK E Λ body) (hF : ∀ x y, c.F x = some y → Fev E Λ c.ps c.rs fn x = some y) : ConOK P f c := by
  refine ⟨⟨fn, hf, hname, by simp [hbody]⟩, fun w Z X vals x y hy hXZ hXlt hold htabs hXbig => ?_⟩
  have hev := hF x y hy
  unfold Fev at hev
  rw [hbody] at hev
  simp only at hev
  obtain ⟨hp1, hp2⟩ := and_b hpar
  let B : Base := { P := P, Z0 := Z, X0 := X, w0 := w, par := E.par, R := NoB, io := ioMap 0 c.ps vals, iok := fun n v h => ioMap_mod _ _ _ _ _ h, parok := fun n h => of_decide_eq_true (List.all_eq_true.1 hp2 n (by simpa using h)), tabs := htabs, x0 := hXbig }
  obtain ⟨H, φ, i1, i2, i3, i4, _, i6⟩ := init_ok c.ps 0 X vals x hold
  have hvl := holds_length _ _ _ _ hold
  have hC := i6 (B.at (initSt c.ps fn.ntmps x) w H φ) rfl rfl (fun b hb hz => ⟨.inl hz, hb, fun f => f, fun n hn => hXZ b (i2 n b hn).2 hz⟩) (fun _ _ h => h)
  have hA : RelA B (initSt c.ps fn.ntmps x) { tmps := vals.toArray ++ Array.replicate (fn.ntmps - vals.toArray.size) undef, defers := [] } w := by
    refine ⟨rfl, H, φ, ⟨Fr.refl _ _, fun n hn => (i1 n hn).1, fun n hn => (i1 n hn).2, fun n b hb => ⟨.inl ⟨List.all_eq_true.1 hp1 n (i2 n b hb).1, (i2 n b hb).2⟩, hXlt b (i2 n b hb).2⟩, i3, fun _ _ _ f => f, fun _ f => f.elim, i4, hC.1⟩, ?_⟩
    have : (vals.toArray ++ Array.replicate (fn.ntmps - vals.toArray.size) undef).toList = vals ++ List.replicate (fn.ntmps - c.ps.length) undef := by simp [hvl]
    show All2 _ (initAs 0 c.ps x ++ repA (fn.ntmps - c.ps.length)) _
    rw [this]
    exact hC.2.append (repA_rel _)
  refine calls_of_wp hf hbody (ev_sound (B := B) hm hE rfl rfl body hl _ _ w _ y _ hA hev fun e σ' a' w' hk hA' => ?_)
  -- the end
  have fin : (match resAs E σ' fn.results.toList with
      | none => none
      | some xs => bif nodupB (ownNames (Sig.ios c.ps ++ c.rs) (ioAs 0 c.ps ++ xs)) && ((Sig.ios c.ps).isEmpty || (ownNames c.rs xs).all fun n => !E.par.contains n) && subsOK c.rs xs then
        readRes σ'.blks (σ'.blks.filter fun b => !(ownNames (Sig.ios c.ps ++ c.rs) (ioAs 0 c.ps ++ xs)).contains b.1 && !E.par.contains b.1) (Sig.ios c.ps ++ c.rs) (ioAs 0 c.ps ++ xs)
        else none) = some y → a'.defers = [] ∧ ∃ v, (results fn a'.tmps).run P w' = .ok v w' ∧ ∃ v' vs, ∃ F G : Nat → Prop, Ending.returned v = .returned v' ∧ Tupled vs v' ∧ vs.length = c.rs.length ∧ Fr X w w' ∧
          (∀ b, F b → (w.heap.size ≤ b ∨ (X b ∧ Sig.ios c.ps = [])) ∧ b < w'.heap.size) ∧ (∀ b, G b → (X b ∨ w.heap.size ≤ b) ∧ b < w'.heap.size) ∧ (∀ b, F b → ¬ G b) ∧
          Holds P w' (fun b => Z b ∨ (w.heap.size ≤ b ∧ ¬ F b ∧ ¬ G b)) G (Sig.ios c.ps) (ioVals c.ps vals) (Sig.fst _ _ y) ∧
          Holds P w' (fun b => Z b ∨ (w.heap.size ≤ b ∧ ¬ F b ∧ ¬ G b)) F c.rs vs (Sig.snd _ _ y) := by
    intro hk
    obtain ⟨hdef, H1, φ1, h⟩ := hA'
    refine ⟨hdef, ?_⟩
    split at hk
    · cases hk
    rename_i xs hxs
    have hk0 := bif_none hk
    clear hk
    obtain ⟨hg, hk⟩ := hk0
    obtain ⟨hg, hs0⟩ := and_b hg
    obtain ⟨hnd, hpn⟩ := and_b hg
    obtain ⟨vs, hvs, hrun⟩ := resAs_ok (B := B) hE h fn.results.toList xs hxs
    obtain ⟨v, hv, htup⟩ := results_run hrun
    have hlio := ioAs_length c.ps 0
    obtain ⟨r1, r2⟩ := readRes_split (Sig.ios c.ps) c.rs (ioAs 0 c.ps) xs y hlio hk
    have hown := ownNames_append (Sig.ios c.ps) c.rs (ioAs 0 c.ps) xs hlio
    have hnodup := nodupB_spec hnd
    rw [hown] at hnodup
    obtain ⟨n1, n2, n3⟩ := List.nodup_append.1 hnodup
    let F : Nat → Prop := fun b => ∃ n ∈ ownNames c.rs xs, φ1 n b
    let G : Nat → Prop := fun b => ∃ n ∈ ownNames (Sig.ios c.ps) (ioAs 0 c.ps), φ1 n b
    have hz : ∀ b, b < w'.heap.size → zone B w' φ1 b → Z b ∨ (w.heap.size ≤ b ∧ ¬ F b ∧ ¬ G b) := fun b hb hz => by
      rcases hz.1 with q | q
      · exact .inl q
      · exact .inr ⟨q, fun ⟨n, _, hn⟩ => hz.2.2.2 n hn, fun ⟨n, _, hn⟩ => hz.2.2.2 n hn⟩
    have hR : Reads (B.at σ' w' H1 φ1) (σ'.blks.filter fun b => !(ownNames (Sig.ios c.ps ++ c.rs) (ioAs 0 c.ps ++ xs)).contains b.1 && !E.par.contains b.1) (fun b => Z b ∨ (w.heap.size ≤ b ∧ ¬ F b ∧ ¬ G b)) := by
      refine ⟨fun b hb hzb => hz b hb hzb, fun n b hn => ?_, fun n dd t ys hn => ?_⟩
      · rw [look_filter (fun m => !(ownNames (Sig.ios c.ps ++ c.rs) (ioAs 0 c.ps ++ xs)).contains m && !E.par.contains m)] at hn
        split at hn
        · rename_i hc
          obtain ⟨c1, c2⟩ := and_b hc
          rw [hown] at c1
          have c1' : n ∉ ownNames (Sig.ios c.ps) (ioAs 0 c.ps) ∧ n ∉ ownNames c.rs xs := by simpa using c1
          have c2' : n ∉ E.par := by simpa using c2
          obtain ⟨v, hv, hb⟩ := h.mem.blk n b hn
          refine ⟨v, φ1 n, hv, hb, fun i hi hf => .inr ⟨?_, ?_, ?_⟩⟩
          · rcases (h.mem.fsub n i hf).1 with q | q
            · exact absurd (by simpa [B] using q.1) c2'
            · exact q
          · rintro ⟨m, hm, hmf⟩
            exact h.mem.fdis n m (fun e => c1'.2 (e ▸ hm)) i hf hmf
          · rintro ⟨m, hm, hmf⟩
            exact h.mem.fdis n m (fun e => c1'.1 (e ▸ hm)) i hf hmf
        · cases hn
      · rw [look_filter (fun m => !(ownNames (Sig.ios c.ps ++ c.rs) (ioAs 0 c.ps ++ xs)).contains m && !E.par.contains m)] at hn
        split at hn
        · show lenOf σ'.blks n = _
          simp [lenOf, hn]
        · cases hn
    refine ⟨v, hv, v, vs, F, G, rfl, htup, ?_, h.mem.fr, fun b hb => ?_, fun b hb => ?_, fun b hb hb' => ?_, ?_, ?_⟩
    · rw [← hvs.length]; exact ownNames_look r2
    · obtain ⟨n, hn, hf⟩ := hb
      have hs := h.mem.fsub n b hf
      refine ⟨?_, hs.2⟩
      rcases hs.1 with q | q
      · refine .inr ⟨q.2, ?_⟩
        rcases Bool.or_eq_true _ _ ▸ hpn with e | e
        · simpa using e
        · have := List.all_eq_true.1 e n hn
          have hp : n ∈ E.par := by simpa [B] using q.1
          simp [hp] at this
      · exact .inl q
    · obtain ⟨n, hn, hf⟩ := hb
      have hs := h.mem.fsub n b hf
      exact ⟨hs.1.imp (fun q => q.2) id, hs.2⟩
    · obtain ⟨n, hn, hf⟩ := hb
      obtain ⟨m, hm, hf'⟩ := hb'
      exact h.mem.fdis m n (n3 m hm n hn) b hf' hf
    · exact readIos_ok (B := B) h hz c.ps 0 vals _ hvl (fun n v h => h) r1 n1
    · exact readRes_ok (B := B) h hz hR c.rs xs vs _ r2 n2 hs0 hvs
  cases e with
  | normal => exact fin hk
  | ret => exact fin hk
  | exit id => simp [kfin] at hk
  | goto l => simp [kfin] at hk
  | panic ch => simp [kfin] at hk
  | outgrown => simp [kfin] at hk

end Go.Proofs.YtklfnbckoaphpaaGreatDoor
