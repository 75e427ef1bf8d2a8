/- Contracts of functions whose values are handed on, out of the contracts of these functions. No conditions. -/
import Derived.Test.YtklfnbckoaphpaaGreatDoorEvZj
set_option linter.unusedVariables false
set_option linter.unusedSimpArgs false
namespace Go.Proofs.YtklfnbckoaphpaaGreatDoor
open Go

abbrev capPs (caps : List Ty) : List (PK × Ty) := caps.map fun t => (PK.val, Ty.ptr t)
/-- the parameters of a function whose arguments are data of type a, and what comes behind -/
@[reducible] def argPs : Ty → List (PK × Ty) → List (PK × Ty)
  | .pair a b, r => (.val, a) :: argPs b r
  | .unit, r => r
  | a, r => (.val, a) :: r
def argDat : (a : Ty) → a.den → (r : List (PK × Ty)) → Sig.den r → Sig.den (argPs a r)
  | .pair a b, x, r, y => Sig.mk (.val, a) (argPs b r) x.1 (argDat b x.2 r y)
  | .unit, _, r, y => y
  | .int k, x, r, y => Sig.mk (.val, .int k) r x y
  | .bool, x, r, y => Sig.mk (.val, .bool) r x y
  | .str, x, r, y => Sig.mk (.val, .str) r x y
  | .slice e, x, r, y => Sig.mk (.val, .slice e) r x y
  | .st e, x, r, y => Sig.mk (.val, .st e) r x y
  | .ptr e, x, r, y => Sig.mk (.val, .ptr e) r x y
  | .fn e f, x, r, y => Sig.mk (.val, .fn e f) r x y
  | .map e f, x, r, y => Sig.mk (.val, .map e f) r x y

theorem argHolds {P : Program} {w : World} {Z F : Nat → Prop} : ∀ (a : Ty) (vals cs : List Value) (x : a.den) (r : List (PK × Ty)) (kvals : List Value) (y : Sig.den r),
    ArgCells a vals cs → RdC P a w Z cs x → Holds P w Z F r kvals y → Holds P w Z F (argPs a r) (vals ++ kvals) (argDat a x r y)
  | .pair a b, vals, cs, x, r, kvals, y, ha, hr, hk => by
    obtain ⟨v, q, c1, c2, rfl, rfl, hl, h1, h2⟩ := ha
    obtain ⟨v1, v2, e, r1, r2⟩ := hr
    have e1 : c1 = v1 := by
      have := congrArg (List.take a.cells) e
      rw [← hl, List.take_left] at this
      rw [this, ← (RdC.cells a v1 x.1 r1).1.trans hl.symm, List.take_left]
    subst e1
    have e2 : c2 = v2 := List.append_cancel_left e
    subst e2
    refine ⟨v, q ++ kvals, rfl, ?_, ?_⟩
    · rw [argDat, Sig.hd_mk]; exact ⟨c1, h1, r1⟩
    · rw [argDat, Sig.tl_mk]; exact argHolds b q c2 x.2 r kvals y h2 r2 hk
  | .unit, vals, cs, x, r, kvals, y, ha, hr, hk => by
    obtain ⟨rfl, rfl⟩ := ha
    exact hk
  | .int k, vals, cs, x, r, kvals, y, ha, hr, hk => by
    obtain ⟨v, rfl, h1⟩ := ha
    refine ⟨v, kvals, rfl, ?_, ?_⟩
    · rw [argDat, Sig.hd_mk]; exact ⟨cs, h1, hr⟩
    · rw [argDat, Sig.tl_mk]; exact hk
  | .bool, vals, cs, x, r, kvals, y, ha, hr, hk => by
    obtain ⟨v, rfl, h1⟩ := ha
    refine ⟨v, kvals, rfl, ?_, ?_⟩
    · rw [argDat, Sig.hd_mk]; exact ⟨cs, h1, hr⟩
    · rw [argDat, Sig.tl_mk]; exact hk
  | .str, vals, cs, x, r, kvals, y, ha, hr, hk => by
    obtain ⟨v, rfl, h1⟩ := ha
    refine ⟨v, kvals, rfl, ?_, ?_⟩
    · rw [argDat, Sig.hd_mk]; exact ⟨cs, h1, hr⟩
    · rw [argDat, Sig.tl_mk]; exact hk
  | .slice e, vals, cs, x, r, kvals, y, ha, hr, hk => by
    obtain ⟨v, rfl, h1⟩ := ha
    refine ⟨v, kvals, rfl, ?_, ?_⟩
    · rw [argDat, Sig.hd_mk]; exact ⟨cs, h1, hr⟩
    · rw [argDat, Sig.tl_mk]; exact hk
  | .st e, vals, cs, x, r, kvals, y, ha, hr, hk => by
    obtain ⟨v, rfl, h1⟩ := ha
    refine ⟨v, kvals, rfl, ?_, ?_⟩
    · rw [argDat, Sig.hd_mk]; exact ⟨cs, h1, hr⟩
    · rw [argDat, Sig.tl_mk]; exact hk
  | .ptr e, vals, cs, x, r, kvals, y, ha, hr, hk => by
    obtain ⟨v, rfl, h1⟩ := ha
    refine ⟨v, kvals, rfl, ?_, ?_⟩
    · rw [argDat, Sig.hd_mk]; exact ⟨cs, h1, hr⟩
    · rw [argDat, Sig.tl_mk]; exact hk
  | .fn e f, vals, cs, x, r, kvals, y, ha, hr, hk => by
    obtain ⟨v, rfl, h1⟩ := ha
    refine ⟨v, kvals, rfl, ?_, ?_⟩
    · rw [argDat, Sig.hd_mk]; exact ⟨cs, h1, hr⟩
    · rw [argDat, Sig.tl_mk]; exact hk
  | .map e f, vals, cs, x, r, kvals, y, ha, hr, hk => by
    obtain ⟨v, rfl, h1⟩ := ha
    refine ⟨v, kvals, rfl, ?_, ?_⟩
    · rw [argDat, Sig.hd_mk]; exact ⟨cs, h1, hr⟩
    · rw [argDat, Sig.tl_mk]; exact hk

theorem boxed_valV : ∀ (t : Ty) (x : t.den) (v : Value), Boxed t v (t.vals x) → v = t.valV x
  | .st a, x, v, h => h
  | .int k, x, v, h => (congrArg (fun l => l.headD undef) (show (Ty.int k).vals x = [v] from h)).symm
  | .bool, x, v, h => (congrArg (fun l => l.headD undef) (show Ty.bool.vals x = [v] from h)).symm
  | .str, x, v, h => (congrArg (fun l => l.headD undef) (show Ty.str.vals x = [v] from h)).symm
  | .unit, x, v, h => (congrArg (fun l => l.headD undef) (show Ty.unit.vals x = [v] from h)).symm
  | .slice e, x, v, h => (congrArg (fun l => l.headD undef) (show (Ty.slice e).vals x = [v] from h)).symm
  | .pair a b, x, v, h => (congrArg (fun l => l.headD undef) (show (Ty.pair a b).vals x = [v] from h)).symm
  | .ptr a, x, v, h => (congrArg (fun l => l.headD undef) (show (Ty.ptr a).vals x = [v] from h)).symm
  | .fn a b, x, v, h => (congrArg (fun l => l.headD undef) (show (Ty.fn a b).vals x = [v] from h)).symm
  | .map a b, x, v, h => (congrArg (fun l => l.headD undef) (show (Ty.map a b).vals x = [v] from h)).symm

/-- a function that keeps its contract may be handed on -/
theorem clo_of_con {P : Program} {f : FuncId} (k : CloCon) (G : Sig.den (argPs k.a (capPs k.caps)) → Option (Sig.den (Sig.ios (argPs k.a (capPs k.caps)) ++ [(.val, k.r)])))
    (hc : ConOK P f ⟨argPs k.a (capPs k.caps), [(.val, k.r)], G⟩) (hr : k.r.scal = true)
    (hF : ∀ kx x y, k.F kx x = some y → ∃ z, G (argDat k.a x (capPs k.caps) kx) = some z ∧ Sig.snd _ [(.val, k.r)] z = y) : CloOK P f k := by
  refine ⟨hc.enters, hr, fun w Z vals kvals cs kx x y hy ha hrd hk ht => ?_⟩
  obtain ⟨z, hz, ez⟩ := hF kx x y hy
  have := hc.calls w Z NoB (vals ++ kvals) _ z hz (fun _ h => h.elim) (fun _ h => h.elim) (argHolds k.a vals cs x _ kvals kx ha hrd hk) ht (fun _ f => f.elim)
  rw [show (vals ++ kvals).toArray = vals.toArray ++ kvals.toArray by simp] at this
  refine this.mono ?_
  rintro e w' ⟨v, vs, F, G', rfl, ht, hl, hfr, _, _, _, _, hh⟩
  refine ⟨?_, hfr⟩
  obtain ⟨v1, r, rfl, ⟨cs1, hb, h1⟩, h2⟩ := hh
  have hrn : r = [] := h2
  subst hrn
  have hv : v = v1 := ht
  subst hv
  have h1' := (RdC.scal k.r hr cs1 _).1 h1
  have e3 : Sig.hd (.val, k.r) [] (Sig.snd _ [(.val, k.r)] z) = y := ez
  rw [e3] at h1'
  subst h1'
  rw [boxed_valV _ _ _ hb]

end Go.Proofs.YtklfnbckoaphpaaGreatDoor
