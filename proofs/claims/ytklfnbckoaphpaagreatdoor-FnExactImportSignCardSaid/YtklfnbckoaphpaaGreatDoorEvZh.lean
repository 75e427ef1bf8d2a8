/- From a contract to a row: whatever the input: true; each argument reads as it did. No conditions. -/
import Derived.Test.YtklfnbckoaphpaaGreatDoorEvZg
set_option linter.unusedVariables false
set_option linter.unusedSimpArgs false
namespace Go.Proofs.YtklfnbckoaphpaaGreatDoor
open Go Go.ChangeShapes Go.WideShapes Go.RowKit

def wfAll : (ps : List (PK × Ty)) → Sig.den ps → Prop
  | [], _ => True
  | p :: ps, x => p.2.wf (Sig.hd p ps x) ∧ wfAll ps (Sig.tl p ps x)

theorem boxed_of {P : Program} {W : World} {base n t : Nat} {ty : Ty} {v : Value} (h : layD P (n + 1) t = some ty) (hok : Value.okWide P W .any base t v) : Boxed ty v v.cells.toList := by
  have one : (∀ us, v ≠ .agg us) → [v] = v.cells.toList := fun hv => by
    cases v <;> first | rfl | exact absurd rfl (hv _)
  simp only [layD] at h
  unfold Value.okWide at hok
  split at h
  · rename_i k hu
    simp only [Option.some.injEq] at h
    subst h
    rw [hu] at hok
    exact (one fun us e => by subst e; simp [Cell.okWide, Cell.ok, hu] at hok).symm
  · rename_i hu
    simp only [Option.some.injEq] at h
    subst h
    rw [hu] at hok
    exact (one fun us e => by subst e; simp [Cell.okWide, Cell.ok, hu] at hok).symm
  · rename_i hu
    simp only [Option.some.injEq] at h
    subst h
    rw [hu] at hok
    exact (one fun us e => by subst e; simp [Cell.okWide, Cell.ok, hu] at hok).symm
  · rename_i e hu
    split at h
    · have h0 := bif_none h
      clear h
      obtain ⟨hg, h⟩ := h0
      simp only [Option.some.injEq] at h
      subst h
      rw [hu] at hok
      exact (one fun us e => by subst e; simp [Cell.okWide, Cell.ok, hu] at hok).symm
    · cases h
  · rename_i fs hu
    split at h
    · have h0 := bif_none h
      clear h
      obtain ⟨hg, h⟩ := h0
      simp only [Option.some.injEq] at h
      subst h
      rw [hu] at hok
      obtain ⟨cs, rfl, _⟩ := hok
      show Value.agg cs = .agg (Value.agg cs).cells.toList.toArray
      simp [Value.cells]
    · cases h
  · cases h

section
variable {H : Type} {enc : TypeId × Value → H} {P : Program}

theorem args_rd {W : World} {base m : Nat} : ∀ (ts : List TypeId) (ps : List (PK × Ty)) (vs : List Value) (ds : List (DataW H)) (q : List MemPlace), ts.map (layD P (m + 1)) = ps.map (fun p => some p.2) → ps.all isVal = true →
    DataW.TrodAll enc P W 0 (fun _ => true) true ts vs ds q → (∀ (j : Nat) t v, ts[j]? = some t → vs[j]? = some v → Value.okWide P W .any base t v) → ∃ x : Sig.den ps, Holds P W (fun _ => True) NoB ps vs x ∧ wfAll ps x
  | [], [], vs, ds, q, he, hp, h, hv => by
    obtain ⟨rfl, rfl, rfl⟩ := trodAll_nil h
    exact ⟨(), rfl, trivial⟩
  | [], _ :: _, vs, ds, q, he, hp, h, hv => by simp at he
  | _ :: _, [], vs, ds, q, he, hp, h, hv => by simp at he
  | t :: ts, (.io d, ty) :: ps, vs, ds, q, he, hp, h, hv => by simp [isVal] at hp
  | t :: ts, (.eat d, ty) :: ps, vs, ds, q, he, hp, h, hv => by simp [isVal] at hp
  | t :: ts, (.val, ty) :: ps, vs, ds, q, he, hp, h, hv => by
    obtain ⟨v, vs', d, ds', q1, q2, rfl, rfl, rfl, ⟨fuel, h1⟩, h2⟩ := trodAll_cons h
    simp only [List.map_cons, List.cons.injEq] at he
    obtain ⟨y, hy, hyw⟩ := args_rd ts ps vs' ds' q2 he.2 (by simpa [isVal] using hp) h2 (fun j t v h3 h4 => hv (j + 1) t v (by simpa using h3) (by simpa using h4))
    obtain ⟨x, hx, hxw⟩ := trod_rd (m + 1) t ty he.1 fuel v.cells.toList _ h1
    refine ⟨Sig.mk (.val, ty) ps x y, ⟨v, vs', rfl, ⟨v.cells.toList, boxed_of he.1 (hv 0 t v rfl rfl), ?_⟩, ?_⟩, ?_, ?_⟩
    · rw [Sig.hd_mk]; exact hx
    · rw [Sig.tl_mk]; exact hy
    · rw [Sig.hd_mk]; exact hxw
    · rw [Sig.tl_mk]; exact hyw

theorem args_stay {W W' : World} (hl : laidOutB P = true) (hb : Below W.heap.size W W') {sp : Nat → Bool} : ∀ (ts : List TypeId) (vs : List Value) (ds : List (DataW H)) (q : List MemPlace), (ts.all fun t => P.readableRec t && decide (t < P.types.size)) = true →
    DataW.TrodAll enc P W 0 (fun _ => true) true ts vs ds q → (∀ p ∈ q, p.block < W.heap.size) → (∀ p ∈ q, sp p.block = true) → DataW.TrodAll enc P W' 0 sp true ts vs ds q
  | [], vs, ds, q, hr, h, hlt, hs => by
    obtain ⟨rfl, rfl, rfl⟩ := trodAll_nil h
    exact h
  | t :: ts, vs, ds, q, hr, h, hlt, hs => by
    obtain ⟨v, vs', d, ds', q1, q2, rfl, rfl, rfl, h1, h2⟩ := trodAll_cons h
    simp only [List.all_cons] at hr
    obtain ⟨hr1, hr2⟩ := and_b hr
    obtain ⟨hr1, hr3⟩ := and_b hr1
    refine ⟨q1, q2, WideElems.Trod_stays hl hr1 (of_decide_eq_true hr3) h1 (fun x hx => hb.same (hlt x (by simp [hx]))) (fun x hx => hs x (by simp [hx])),
      args_stay hl hb ts vs' ds' q2 hr2 h2 (fun p hp => hlt p (by simp [hp])) (fun p hp => hs p (by simp [hp])), rfl⟩

theorem post_of_fr {f : Func} {s : ChangeSpec} {apart fresh handsOn again : Bool} {W W' : World} {args : Array Value} {ds gs : List (DataW H)} {before : List MemPlace} {tb : TypeId}
    (hl : laidOutB P = true) (hr : (f.params.toList.all fun t => P.readableRec t && decide (t < P.types.size)) = true) (hres : f.resultTypes = #[tb]) (htb : P.underlying tb = some .bool) (hvars : s.vars = [])
    (hspec : ∀ ds : List (DataW H), ds.length = f.params.size → s.fn H ds = { results := [.lit (.bool true)], args := ds })
    (hW : DataW.Whole enc P f.params.toList s.vars apart W args.toList ds gs before) (hb : Below W.heap.size W W') : s.post enc P f apart fresh handsOn again W args (.bool true) W' := by
  have hlt := hW.lt
  obtain ⟨p, q, hA, hV, rfl, hfz, hnd⟩ := id hW
  have hgs : gs = [] ∧ q = [] := by
    rw [hvars] at hV
    cases gs with
    | nil => exact ⟨rfl, hV⟩
    | cons _ _ => exact hV.elim
  obtain ⟨rfl, rfl⟩ := hgs
  simp only [List.append_nil] at *
  have hlen : ∀ (ts : List TypeId) (vs : List Value) (ds : List (DataW H)) (q : List MemPlace), DataW.TrodAll enc P W 0 (fun _ => true) true ts vs ds q → ds.length = ts.length := by
    intro ts
    induction ts with
    | nil => intro vs ds q h; obtain ⟨rfl, rfl, rfl⟩ := trodAll_nil h; rfl
    | cons t ts ih => intro vs ds q h; obtain ⟨v, vs', d, ds', q1, q2, rfl, rfl, rfl, h1, h2⟩ := trodAll_cons h; simp [ih _ _ _ h2]
  have hsp := hspec ds (by have := hlen _ _ _ _ hA; simpa using this)
  have stay : ∀ sp : Nat → Bool, (∀ x ∈ p, sp x.block = true) → DataW.TrodAll enc P W' 0 sp true f.params.toList args.toList ds p := fun sp hs => args_stay hl hb _ _ _ _ hr hA hlt hs
  have hresv : ∀ (b : Nat) (sp : Nat → Bool) (hd : Bool), DataW.TrodAll enc P W' b sp hd f.resultTypes.toList ((Value.bool true).resultList f.resultTypes.size) [.lit (.bool true)] [] := fun b sp hd => by
    rw [hres]
    exact ⟨[], [], ⟨1, by simp [DataW.trod, Value.cells, htb]⟩, rfl, rfl⟩
  refine ⟨ds, [], p, [], p, [], hW, ?_, ?_, ?_, hb.frame _, fun _ => ⟨?_, ds.cons (.lit (.bool true)), [], p, ⟨p, [], ?_, by rw [hvars]; rfl, by simp, ?_, ?_⟩, fun x hx _ => hx⟩⟩
  · simp only [List.append_nil]; rw [hsp]; exact hresv _ _ _
  · simp only [List.append_nil]; rw [hsp]; exact stay _ (fun x hx => by simpa using hlt x hx)
  · simp only [List.append_nil]; rw [hsp, hvars]; rfl
  · exact ok_one hres rfl (by simp [Value.okWide, htb, Cell.okWide, Cell.ok])
  · have := trodAll_append (stay (fun _ => true) (fun _ _ => rfl)) (hresv 0 (fun _ => true) true)
    simpa using this
  · intro b off hp
    have hlt' := hlt _ hp
    rw [hb.frozen hlt']
    exact hfz b off hp
  · exact hnd

/-- the row, from the contract -/
theorem row_of_con {f : FuncId} {fn : Func} {s : ChangeSpec} {c : Con} {apart fresh handsOn again : Bool} {tb : TypeId} {m : Nat} (hcon : ConOK P f c)
    (hl : laidOutB P = true) (hr : (fn.params.toList.all fun t => P.readableRec t && decide (t < P.types.size)) = true) (hres : fn.resultTypes = #[tb]) (htb : P.underlying tb = some .bool) (hvars : s.vars = [])
    (hspec : ∀ ds : List (DataW H), ds.length = fn.params.size → s.fn H ds = { results := [.lit (.bool true)], args := ds })
    (hlay : fn.params.toList.map (layD P (m + 1)) = c.ps.map (fun p => some p.2)) (hps : c.ps.all isVal = true) (hrs : c.rs.all isValS = true)
    (hF : ∀ x, wfAll c.ps x → ∃ y, c.F x = some y ∧ valsL c.rs (Sig.snd _ _ y) = [.bool true])
    {W : World} {base : Nat} {args : Array Value} {ds gs : List (DataW H)} {before : List MemPlace} (hval : ∀ (j : Nat) t v, fn.params[j]? = some t → args[j]? = some v → Value.okWide P W .any base t v)
    (hW : DataW.Whole enc P fn.params.toList s.vars apart W args.toList ds gs before) (htabs : Tabs P W) : Calls P f args W fun e W' => ∃ v, e = .returned v ∧ s.post enc P fn apart fresh handsOn again W args v W' := by
  obtain ⟨p, q, hA, _⟩ := id hW
  obtain ⟨x, hx, hxw⟩ := args_rd (m := m) (base := base) fn.params.toList c.ps args.toList ds p hlay hps hA (fun j t v h1 h2 => hval j t v (by simpa using h1) (by simpa using h2))
  obtain ⟨y, hy, hyv⟩ := hF x hxw
  have := hcon.calls W (fun _ => True) NoB args.toList x y hy (fun _ f => f.elim) (fun _ f => f.elim) hx htabs (fun _ f => f.elim)
  rw [show args.toList.toArray = args by simp] at this
  refine this.mono ?_
  rintro e W' ⟨v, vs, F, G, rfl, htup, _, hfr, _, _, _, _, hh⟩
  have hv := htup.eq
  rw [holds_valsL c.rs F vs _ hrs hh, hyv] at hv
  have hv : v = .bool true := hv
  subst hv
  exact ⟨_, rfl, post_of_fr hl hr hres htb hvars hspec hW hfr.below⟩

end
end Go.Proofs.YtklfnbckoaphpaaGreatDoor
