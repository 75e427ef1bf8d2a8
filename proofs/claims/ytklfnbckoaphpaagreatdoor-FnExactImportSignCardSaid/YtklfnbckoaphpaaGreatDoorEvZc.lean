/- A function's end: what its results and what it hands back hold. No conditions. -/
import Derived.Test.YtklfnbckoaphpaaGreatDoorEvZb
set_option linter.unusedVariables false
set_option linter.unusedSimpArgs false
namespace Go.Proofs.YtklfnbckoaphpaaGreatDoor
open Go

section
variable {B : Base} {E : Env} {σ : St} {tm : Array Value} {w : World} {H : Nat → Option Value} {φ : Nat → Nat → Prop}

/-- the names that one result hands over -/
abbrev nmOf (x : A) : List Nat := match x with | .c (.own n) => [n] | .c (.sub n _ _) => [n] | .c (.ptr n _) => [n] | .agg cs => ownsOf cs | _ => []

theorem ownsOf_mem : ∀ {cs : List Cell} {m : Nat}, Cell.own m ∈ cs → m ∈ ownsOf cs
  | [], m, h => by cases h
  | c :: cs, m, h => by
    rcases List.mem_cons.1 h with rfl | h
    · simp [ownsOf]
    · have := ownsOf_mem h
      cases c <;> simp [ownsOf, this]
theorem unO_names' {bs : List (Nat × Blk)} : ∀ (t : Ty) (cs : List OCell) (x : t.den) (ms : List Nat) (r : List OCell), unO bs t cs = some (x, ms, r) → (∀ m ∈ ms, OCell.c (.own m) ∈ cs) ∧ ∀ y ∈ r, y ∈ cs
  | .int k, cs, x, ms, r, h => by
    cases cs with
    | nil => simp [unO] at h
    | cons c cs =>
      cases c with
      | kid _ _ => simp [unO] at h
      | c c =>
        cases c <;> simp only [unO] at h <;> try (cases h; done)
        split at h
        · simp only [Option.some.injEq, Prod.mk.injEq] at h
          obtain ⟨rfl, rfl, rfl⟩ := h
          exact ⟨fun m hm => (by cases hm), fun y hy => List.mem_cons_of_mem _ hy⟩
        · cases h
  | .bool, cs, x, ms, r, h => by
    cases cs with
    | nil => simp [unO] at h
    | cons c cs =>
      cases c with
      | kid _ _ => simp [unO] at h
      | c c =>
        cases c <;> simp only [unO] at h <;> try (cases h; done)
        simp only [Option.some.injEq, Prod.mk.injEq] at h
        obtain ⟨rfl, rfl, rfl⟩ := h
        exact ⟨fun m hm => (by cases hm), fun y hy => List.mem_cons_of_mem _ hy⟩
  | .str, cs, x, ms, r, h => by
    cases cs with
    | nil => simp [unO] at h
    | cons c cs =>
      cases c with
      | kid _ _ => simp [unO] at h
      | c c =>
        cases c <;> simp only [unO] at h <;> try (cases h; done)
        simp only [Option.some.injEq, Prod.mk.injEq] at h
        obtain ⟨rfl, rfl, rfl⟩ := h
        exact ⟨fun m hm => (by cases hm), fun y hy => List.mem_cons_of_mem _ hy⟩
  | .unit, cs, x, ms, r, h => by
    have h' : some ((), ([] : List Nat), cs) = some (x, ms, r) := by cases cs <;> exact h
    simp only [Option.some.injEq, Prod.mk.injEq] at h'
    obtain ⟨_, rfl, rfl⟩ := h'
    exact ⟨fun m hm => (by cases hm), fun y hy => hy⟩
  | .slice e, cs, x, ms, r, h => by
    cases cs with
    | nil => simp [unO] at h
    | cons c cs =>
      cases c with
      | kid e' ys =>
        simp only [unO] at h
        split at h
        · simp only [Option.some.injEq, Prod.mk.injEq] at h
          obtain ⟨_, rfl, rfl⟩ := h
          exact ⟨fun m hm => (by cases hm), fun y hy => List.mem_cons_of_mem _ hy⟩
        · cases h
      | c c =>
        cases c <;> simp only [unO] at h <;> try (cases h; done)
        · simp only [Option.some.injEq, Prod.mk.injEq] at h
          obtain ⟨_, rfl, rfl⟩ := h
          exact ⟨fun m hm => (by cases hm), fun y hy => List.mem_cons_of_mem _ hy⟩
        · rename_i n
          split at h
          · split at h
            · simp only [Option.some.injEq, Prod.mk.injEq] at h
              obtain ⟨_, rfl, rfl⟩ := h
              exact ⟨fun m hm => (by simp at hm; subst hm; simp), fun y hy => List.mem_cons_of_mem _ hy⟩
            · cases h
          · cases h
  | .st a, cs, x, ms, r, h => by
    have h' : unO bs a cs = some (x, ms, r) := by cases cs <;> exact h
    exact unO_names' a cs x ms r h'
  | .pair a b, cs, x, ms, r, h => by
    have h' : (match unO bs a cs with
      | some (x, ms, r) => (match unO bs b r with | some (y, ms', r') => some ((x, y), ms ++ ms', r') | none => none)
      | none => none) = some (x, ms, r) := by cases cs <;> exact h
    split at h'
    · rename_i x1 m1 r1 q1
      split at h'
      · rename_i y1 m2 r2 q2
        simp only [Option.some.injEq, Prod.mk.injEq] at h'
        obtain ⟨rfl, rfl, rfl⟩ := h'
        obtain ⟨i1, i2⟩ := unO_names' a cs x1 m1 r1 q1
        obtain ⟨j1, j2⟩ := unO_names' b r1 y1 m2 r2 q2
        refine ⟨fun m hm => ?_, fun y hy => i2 y (j2 y hy)⟩
        rcases List.mem_append.1 hm with hm | hm
        · exact i1 m hm
        · exact i2 _ (j1 m hm)
      · cases h'
    · cases h'
  | .ptr a, cs, x, ms, r, h => by cases cs <;> simp [unO] at h
  | .fn a b, cs, x, ms, r, h => by cases cs <;> simp [unO] at h
  | .map a b, cs, x, ms, r, h => by cases cs <;> simp [unO] at h
theorem unO_names {bs : List (Nat × Blk)} (t : Ty) (cs : List Cell) (x : t.den) (ms : List Nat) (r : List OCell) (h : unO bs t (cs.map OCell.c) = some (x, ms, r)) (m : Nat) (hm : m ∈ ms) : m ∈ ownsOf cs := by
  have := (unO_names' t _ x ms r h).1 m hm
  obtain ⟨c, hc, e⟩ := List.mem_map.1 this
  cases e
  exact ownsOf_mem hc

/-- a row cut short -/
theorem RowOwn.take {α : Type} {mk : Bool} {Elt : Nat → (Nat → Prop) → List Value → α → Prop} {size : Nat} {w : World} {F : Nat → Prop} {A : Option Addr} {L c : Nat} {xs : List α} (h : RowOwn mk Elt size w F (.slice A L c) xs) {l : Nat} (hl : l ≤ xs.length) : RowOwn mk Elt size w F (.slice A l c) (xs.take l) := by
  obtain ⟨A0, cap, e, hcap, h⟩ := h
  simp only [Value.slice.injEq] at e
  obtain ⟨rfl, rfl, rfl⟩ := e
  have hlen : (xs.take l).length = l := by simp; omega
  refine ⟨A, c, by rw [hlen], by rw [hlen]; omega, ?_⟩
  rcases h with h0 | ⟨g, cur, ety, eA, hF, hh, hsz, Fs, f1, f2, f3⟩
  · exact .inl h0
  · refine .inr ⟨g, cur, ety, eA, hF, hh, hsz, Fs, f1, f2, fun i hi => ?_⟩
    have hi' : i < xs.length := by rw [hlen] at hi; omega
    have := f3 i hi'
    rw [List.getElem_take]
    exact this

theorem readOwn_ok (h : Rel B σ tm w H φ) {Z' : Nat → Prop} (hz : ∀ b, b < w.heap.size → zone B w φ b → Z' b) {d : Bool} {t : Ty} {x : A} {y : t.den} {v : Value} (hr : readOwn σ.blks d t x = some y)
    (hn : x = .c .nil → ∃ A, v = .slice A 0 0) (hb : ∀ n, (x = .c (.own n) ∨ x = .c (.ptr n 0)) → look n σ.blks ≠ none → H n = some v) (hs : t.scal = true → ∀ y, A.read [] t x = some y → RdV B.P t w Z' v y) (hagg : ∀ cs, x = .agg cs → ∃ us, v = .agg us ∧ All2 (CellRel (B.at σ w H φ)) cs us.toList) (hsb : ∀ n o l, x = .c (.sub n o l) → o = 0 ∧ CellRel (B.at σ w H φ) (.sub n o l) v) :
    OwTop B.P d t w Z' (fun b => ∃ n ∈ nmOf x, φ n b) v y := by
  have sc : ∀ (t' : Ty) (y' : t'.den) (F : Nat → Prop), t'.scal = true → RdV B.P t' w Z' v y' → ∃ cs, Boxed t' v cs ∧ OwC B.P d t' w Z' F cs y' := by
    rintro t' y' F hsc ⟨cs, h1, h2⟩
    exact ⟨cs, h1, OwC.ofRd t' _ _ (by simp [hsc]) h2⟩
  cases t with
  | slice e =>
    simp only [readOwn] at hr
    split at hr
    · simp only [Option.some.injEq] at hr
      subst hr
      exact ownTop_nil (hn rfl)
    · rename_i n
      split at hr
      · rename_i d' e' xs hl
        have hr0 := bif_none hr
        clear hr
        obtain ⟨hg, hr⟩ := hr0
        obtain ⟨v0, hv0, hbr⟩ := h.mem.blk n _ hl
        have hH := hb n (.inl rfl) (by rw [hl]; simp)
        rw [hv0] at hH
        obtain rfl := Option.some.inj hH
        obtain ⟨rfl, rfl⟩ := Ty.castL?_spec hr
        obtain ⟨hg, hg2⟩ := and_b hg
        have hbr : RowOf B.P (mkd d' _) d' _ w (zone B w φ) (φ n) v0 _ := hbr
        rw [mkd_of hg2] at hbr
        have h1 : RowOf B.P false d' e' w Z' (fun b => ∃ m ∈ nmOf (.c (.own n)), φ m b) v0 y := RowOf.agree hbr hz (Agree.refl _ _) (fun b hb => ⟨n, by simp, hb⟩) (Agree.refl _ _)
        by_cases hd : d = d'
        · subst hd; exact h1
        · have : e'.scal = true := by
            have : (d == d') = false := by simp [hd]
            simpa [this] using hg
          exact RowOf.flag this h1
      · cases hr
    · rename_i n o l
      split at hr
      · rename_i d' e' xs hl
        have hr0 := bif_none hr
        clear hr
        obtain ⟨hg, hr⟩ := hr0
        obtain ⟨hg, hg2⟩ := and_b hg
        obtain ⟨rfl, hsb⟩ := hsb n o l rfl
        obtain ⟨v0, hv0, hbr⟩ := h.mem.blk n _ hl
        obtain ⟨A, c, L, s, q1, q2, q3, A', c', ea, q4, _, q5, _, _, q6⟩ := hsb
        have eL : lenOf σ.blks n = some (L, s) := q1
        simp only [lenOf, hl, Option.some.injEq, Prod.mk.injEq] at eL
        have q2 : H n = some (.slice A L c) := q2
        rw [hv0] at q2
        obtain rfl := Option.some.inj q2
        obtain rfl := q6 rfl
        obtain ⟨rfl, hxs⟩ := Ty.castL?_spec hr
        have hbr : RowOf B.P (mkd d' _) d' _ w (zone B w φ) (φ n) (.slice A' L c) _ := hbr
        rw [mkd_of hg2] at hbr
        have hbr2 : RowOf B.P false d' e' w Z' (fun b => ∃ m ∈ nmOf (.c (.sub n 0 l)), φ m b) (.slice A' L c) xs := RowOf.agree hbr hz (Agree.refl _ _) (fun b hb => ⟨n, by simp, hb⟩) (Agree.refl _ _)
        have hle : l ≤ xs.length := by omega
        have hc' : c' = c := by omega
        have h1 : RowOf B.P false d' e' w Z' (fun b => ∃ m ∈ nmOf (.c (.sub n 0 l)), φ m b) v y := by
          rw [ea, hc', hxs]
          exact RowOwn.take hbr2 hle
        by_cases hd : d = d'
        · subst hd; exact h1
        · have : e'.scal = true := by
            have : (d == d') = false := by simp [hd]
            simpa [this] using hg
          exact RowOf.flag this h1
      · cases hr
    · cases hr
  | ptr a =>
    simp only [readOwn] at hr
    split at hr
    · rename_i n
      split at hr
      · rename_i cs hl
        have hr0 := bif_none hr
        clear hr
        obtain ⟨hg, hr⟩ := hr0
        split at hr
        · rename_i y' hu
          obtain rfl := Option.some.inj hr
          obtain ⟨v0, hv0, g, us, ety, rfl, hF, hh, hal⟩ := h.mem.blk n _ hl
          have hH := hb n (.inr rfl) (by rw [hl]; simp)
          rw [hv0] at hH
          obtain rfl := Option.some.inj hH
          obtain ⟨u1, u2, eu, k1, k2⟩ := unflat_rel (C := B.at σ w H φ) Reads.nil a cs y' [] us.toList hu hal
          have : u2 = [] := by cases u2 with | nil => rfl | cons _ _ => exact k2.elim
          subst this
          simp only [List.append_nil] at eu
          subst eu
          exact ⟨g, us, ety, NoB, rfl, ⟨n, by simp, hF⟩, hh, fun _ f => f.elim, OwC.ofRd a _ _ hg (RdC.mono hz k1)⟩
        · cases hr
      · cases hr
    · cases hr
  | int k =>
    have hr : (bif Ty.scal (.int k) then A.read [] (.int k) x else none) = some y := hr
    exact sc _ _ _ rfl (hs rfl _ (bif_none hr).2)
  | bool =>
    have hr : (bif Ty.scal .bool then A.read [] .bool x else none) = some y := hr
    exact sc _ _ _ rfl (hs rfl _ (bif_none hr).2)
  | str =>
    have hr : (bif Ty.scal .str then A.read [] .str x else none) = some y := hr
    exact sc _ _ _ rfl (hs rfl _ (bif_none hr).2)
  | unit =>
    have hr : (bif Ty.scal .unit then A.read [] .unit x else none) = some y := hr
    exact sc _ _ _ rfl (hs rfl _ (bif_none hr).2)
  | st a =>
    simp only [readOwn] at hr
    cases hsc : a.scal with
    | true =>
      rw [hsc] at hr
      exact sc (.st a) _ _ hsc (hs hsc _ hr)
    | false =>
      rw [hsc] at hr
      simp only [cond_false] at hr
      have hr0 := bif_none hr
      clear hr
      obtain ⟨hd, hr⟩ := hr0
      have hd' : d = true := hd
      subst hd'
      split at hr
      · rename_i cs
        split at hr
        · rename_i y' ms hu
          have hr0 := bif_none hr
          clear hr
          obtain ⟨hnd, hr⟩ := hr0
          obtain rfl := Option.some.inj hr
          obtain ⟨us, rfl, hal⟩ := hagg cs rfl
          obtain ⟨u1, u2, F1, F2, eu, k1, k2, k3, k4, k5⟩ := unO_rel (C := B.at σ w H φ) (bs := σ.blks) (φ := φ) (fun m e ys hm => by
              obtain ⟨v, hv, hb⟩ := h.mem.blk m _ hm
              exact ⟨v, hv, hb⟩) h.mem.fdis a _ y' ms [] us.toList NoB hu (olist_plain hal) (nodupB_spec' hnd) (fun _ _ _ _ f => f)
          have : u2 = [] := by cases u2 with | nil => rfl | cons _ _ => exact k2.elim
          subst this
          simp only [List.append_nil] at eu
          refine ⟨us.toList, by simp [Boxed], ?_⟩
          rw [eu]
          refine OwC.agree hz (Agree.refl _ _) a _ _ u1 y' (fun b hb => ?_) (Agree.refl _ _) k1
          rcases hb with q | ⟨m, hm, q⟩
          · exact (k3 b q).elim
          · exact ⟨m, unO_names a cs y' ms [] hu m hm, q⟩
        · cases hr
      · cases hr
  | pair a b => obtain ⟨hsc, hr⟩ := bif_none hr; exact sc (.pair a b) _ _ hsc (hs hsc _ hr)
  | fn a r =>
    have hr : (bif Ty.scal (.fn a r) then A.read [] (.fn a r) x else none) = some y := hr
    have := (bif_none hr).1
    simp [Ty.scal] at this
  | map a r =>
    have hr : (bif Ty.scal (.map a r) then A.read [] (.map a r) x else none) = some y := hr
    have := (bif_none hr).1
    simp [Ty.scal] at this

theorem nodupB_spec : ∀ {l : List Nat}, nodupB l = true → l.Nodup
  | [], _ => List.nodup_nil
  | n :: r, h => by
    simp only [nodupB] at h
    obtain ⟨h1, h2⟩ := and_b h
    exact List.nodup_cons.2 ⟨by simpa using h1, nodupB_spec h2⟩

/-- what results hold -/
theorem readRes_ok (h : Rel B σ tm w H φ) {Z' : Nat → Prop} (hz : ∀ b, b < w.heap.size → zone B w φ b → Z' b) {bs' : List (Nat × Blk)} (hR : Reads (B.at σ w H φ) bs' Z') :
    ∀ (ps : List (PK × Ty)) (xs : List A) (vs : List Value) (y : Sig.den ps), readRes σ.blks bs' ps xs = some y → (ownNames ps xs).Nodup → subsOK ps xs = true → All2 (ARel (B.at σ w H φ)) xs vs → Holds B.P w Z' (fun b => ∃ n ∈ ownNames ps xs, φ n b) ps vs y
  | [], [], vs, y, hr, hn, hs0, ha => by
    cases vs with
    | nil => rfl
    | cons _ _ => exact ha.elim
  | [], _ :: _, vs, y, hr, hn, hs0, ha => by simp [readRes] at hr
  | (.val, t) :: ps, [], vs, y, hr, hn, hs0, ha => by simp [readRes] at hr
  | (.io d, t) :: ps, [], vs, y, hr, hn, hs0, ha => by simp [readRes] at hr
  | (.eat d, t) :: ps, xs, vs, y, hr, hn, hs0, ha => by cases xs <;> simp [readRes] at hr
  | _ :: _, _ :: _, [], y, hr, hn, hs0, ha => ha.elim
  | (.val, t) :: ps, x :: xs, v :: vs, y, hr, hn, hs0, ha => by
    simp only [readRes] at hr
    split at hr
    · rename_i a b h1 h2
      simp only [Option.some.injEq] at hr
      subst hr
      refine ⟨v, vs, rfl, ?_, ?_⟩
      · rw [Sig.hd_mk]; exact read_rel (C := B.at σ w H φ) hR h1 ha.1
      · rw [Sig.tl_mk]; exact readRes_ok h hz hR ps xs vs b h2 hn (by simpa [subsOK] using hs0) ha.2
    · cases hr
  | (.io d, t) :: ps, x :: xs, v :: vs, y, hr, hn, hs0, ha => by
    simp only [readRes] at hr
    split at hr
    · rename_i a b h1 h2
      simp only [Option.some.injEq] at hr
      subst hr
      have hn' : (nmOf x ++ ownNames ps xs).Nodup := hn
      obtain ⟨n1, n2, n3⟩ := List.nodup_append.1 hn'
      refine ⟨v, vs, fun b => ∃ n ∈ nmOf x, φ n b, fun b => ∃ n ∈ ownNames ps xs, φ n b, rfl, ?_, ?_, ?_, ?_, ?_⟩
      · rintro b ⟨n, hm, hb⟩; exact ⟨n, List.mem_append.2 (.inl hm), hb⟩
      · rintro b ⟨n, hm, hb⟩; exact ⟨n, List.mem_append.2 (.inr hm), hb⟩
      · rintro b ⟨n, hm, hb⟩ ⟨m, hm', hb'⟩
        exact h.mem.fdis n m (n3 n hm m hm') b hb hb'
      · rw [Sig.hd_mk]
        refine readOwn_ok h hz h1 (fun e => by subst e; exact ha.1) (fun n hx hl => ?_) (fun hs y hy => ?_) (fun cs e => by subst e; exact ha.1) (fun n o l e => by subst e; exact ⟨of_decide_eq_true (and_b hs0).1, ha.1⟩)
        · rcases hx with rfl | rfl
          · exact ha.1.1
          · obtain ⟨g, hg, e⟩ := ha.1
            rw [e]; exact hg
        · have := read_rel (Reads.nil (C := B.at σ w H φ)) hy ha.1
          exact RdV.scalZ hs this
      · rw [Sig.tl_mk]; exact readRes_ok h hz hR ps xs vs b h2 n2 (by cases x with | c c => (cases c <;> first | exact hs0 | exact (and_b hs0).2) | _ => exact hs0) ha.2
    · cases hr

theorem readRes_split {bs bs' : List (Nat × Blk)} : ∀ (p1 p2 : List (PK × Ty)) (x1 x2 : List A) (y : Sig.den (p1 ++ p2)), x1.length = p1.length → readRes bs bs' (p1 ++ p2) (x1 ++ x2) = some y →
    readRes bs bs' p1 x1 = some (Sig.fst p1 p2 y) ∧ readRes bs bs' p2 x2 = some (Sig.snd p1 p2 y)
  | [], p2, [], x2, y, hl, h => ⟨rfl, h⟩
  | [], p2, _ :: _, x2, y, hl, h => by simp at hl
  | _ :: _, p2, [], x2, y, hl, h => by simp at hl
  | (.val, t) :: p1, p2, x :: x1, x2, y, hl, h => by
    simp only [List.cons_append, readRes] at h
    split at h
    · rename_i a b h1 h2
      simp only [Option.some.injEq] at h
      subst h
      obtain ⟨i1, i2⟩ := readRes_split p1 p2 x1 x2 b (by simpa using hl) h2
      have e1 : Sig.hd (.val, t) (p1 ++ p2) (Sig.mk (.val, t) (p1 ++ p2) a b) = a := Sig.hd_mk _ _ _ _
      have e2 : Sig.tl (.val, t) (p1 ++ p2) (Sig.mk (.val, t) (p1 ++ p2) a b) = b := Sig.tl_mk _ _ _ _
      refine ⟨?_, ?_⟩
      · simp only [readRes, h1, i1]
        show _ = some (Sig.mk _ _ (Sig.hd (.val, t) (p1 ++ p2) (Sig.mk (.val, t) (p1 ++ p2) a b)) (Sig.fst p1 p2 (Sig.tl (.val, t) (p1 ++ p2) (Sig.mk (.val, t) (p1 ++ p2) a b))))
        rw [e1, e2]
      · show _ = some (Sig.snd p1 p2 (Sig.tl (.val, t) (p1 ++ p2) (Sig.mk (.val, t) (p1 ++ p2) a b)))
        rw [e2]; exact i2
    · cases h
  | (.io d, t) :: p1, p2, x :: x1, x2, y, hl, h => by
    simp only [List.cons_append, readRes] at h
    split at h
    · rename_i a b h1 h2
      simp only [Option.some.injEq] at h
      subst h
      obtain ⟨i1, i2⟩ := readRes_split p1 p2 x1 x2 b (by simpa using hl) h2
      have e1 : Sig.hd (.io d, t) (p1 ++ p2) (Sig.mk (.io d, t) (p1 ++ p2) a b) = a := Sig.hd_mk _ _ _ _
      have e2 : Sig.tl (.io d, t) (p1 ++ p2) (Sig.mk (.io d, t) (p1 ++ p2) a b) = b := Sig.tl_mk _ _ _ _
      refine ⟨?_, ?_⟩
      · simp only [readRes, h1, i1]
        show _ = some (Sig.mk _ _ (Sig.hd (.io d, t) (p1 ++ p2) (Sig.mk (.io d, t) (p1 ++ p2) a b)) (Sig.fst p1 p2 (Sig.tl (.io d, t) (p1 ++ p2) (Sig.mk (.io d, t) (p1 ++ p2) a b))))
        rw [e1, e2]
      · show _ = some (Sig.snd p1 p2 (Sig.tl (.io d, t) (p1 ++ p2) (Sig.mk (.io d, t) (p1 ++ p2) a b)))
        rw [e2]; exact i2
    · cases h
  | (.eat d, t) :: p1, p2, x :: x1, x2, y, hl, h => by simp [readRes] at h

/-- one result's run -/
def resM (a : Act) : ResultVar → Sem Value
  | .tmp t => pure (a.tmps.getD t undef)
  | .cell c t => do loadVar t (← asAddr (a.tmps.getD c undef))

/-- the values of the results -/
theorem resAs_ok (hE : EnvOK B.P E) {a : Act} (h : Rel B σ a.tmps w H φ) : ∀ (rs : List ResultVar) (xs : List A), resAs E σ rs = some xs → ∃ vs : List Value, All2 (ARel (B.at σ w H φ)) xs vs ∧
    (rs.mapM (resM a)).run B.P w = .ok vs w
  | [], xs, hr => by
    simp only [resAs, Option.some.injEq] at hr
    subst hr
    exact ⟨[], trivial, by simp⟩
  | r :: rs, xs, hr => by
    simp only [resAs] at hr
    split at hr
    · rename_i x xs' h1 h2
      simp only [Option.some.injEq] at hr
      subst hr
      obtain ⟨vs, k1, k2⟩ := resAs_ok hE h rs xs' h2
      cases r with
      | tmp t =>
        simp only [resA, Option.some.injEq] at h1
        subst h1
        exact ⟨a.tmps.getD t undef :: vs, ⟨h.get t, k1⟩, by simp [List.mapM_cons, resM, k2]⟩
      | cell c ty =>
        simp only [resA] at h1
        split at h1
        · rename_i v hv
          simp only [Option.some.injEq] at h1
          subst h1
          have hg := h.get c
          have hc : CellRel (B.at σ w H φ) (asCell (σ.get c)) (a.tmps.getD c undef) := by
            cases e : σ.get c with
            | c y => rw [e] at hg; exact hg
            | _ => rw [e] at hv; simp [asCell, loadA, memCells] at hv; split at hv <;> cases hv
          obtain ⟨b, o, u, e1, hu, hrun⟩ := loadA_ok hE h hv hc
          refine ⟨u :: vs, ⟨hu, k1⟩, ?_⟩
          have hl := hrun w (Fr.refl _ _)
          simp [List.mapM_cons, resM, e1, asAddr, hl, k2]
        · cases h1
    · cases hr

end
end Go.Proofs.YtklfnbckoaphpaaGreatDoor
