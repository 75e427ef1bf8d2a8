/- Loops' patterns: what is read off a state holds of it. No conditions. -/
import Derived.Test.YtklfnbckoaphpaaGreatDoorEvZ
import Derived.Deep.LoopGhost
set_option linter.unusedVariables false
set_option linter.unusedSimpArgs false
namespace Go.Proofs.YtklfnbckoaphpaaGreatDoor
open Go

theorem Dn.toL_ofL : ∀ (ts : List Ty) (l : List Dat) (s : Dn ts), Dn.ofL ts l = some s → Dn.toL ts s = l
  | [], [], s, _ => rfl
  | [], _ :: _, s, h => by simp [Dn.ofL] at h
  | [t], [], s, h => by simp [Dn.ofL] at h
  | [t], [⟨t', x⟩], s, h => by
    obtain ⟨rfl, rfl⟩ := Ty.cast?_spec h
    rfl
  | [t], _ :: _ :: _, s, h => by simp [Dn.ofL] at h
  | t :: u :: r, [], s, h => by simp [Dn.ofL] at h
  | t :: u :: r, ⟨t', x⟩ :: l, s, h => by
    simp only [Dn.ofL] at h
    split at h
    · rename_i a b h1 h2
      simp only [Option.some.injEq] at h
      subst h
      obtain ⟨rfl, rfl⟩ := Ty.cast?_spec h1
      simp only [Dn.toL]
      rw [Dn.toL_ofL (u :: r) l b h2]
    · cases h

/-- from a state to the same, fewer names -/
structure Cx.Few (p : Pat) (C C' : Cx) : Prop where
  P : C'.P = C.P
  w : C'.w = C.w
  Z : ∀ b, b < C.w.heap.size → C.Z b → C'.Z b
  H : ∀ n v, p.has n = true → C.H n = some v → C'.H n = some v
  L : ∀ n q, p.has n = true → C.L n = some q → C'.L n = some q

theorem beqNats_spec : ∀ {ns : List Nat} {caps : List Cap}, beqNats ns caps = true → caps = ns.map Cap.p
  | [], [], _ => rfl
  | [], _ :: _, h => by simp [beqNats] at h
  | _ :: _, [], h => by simp [beqNats] at h
  | n :: ns, .p m :: cs, h => by
    simp only [beqNats] at h
    obtain ⟨h1, h2⟩ := and_b h
    have : m = n := by simpa using h1
    subst this
    rw [beqNats_spec h2]; rfl
  | n :: ns, .d _ _ :: cs, h => by simp [beqNats] at h

section
variable {p : Pat} {C C' : Cx}

theorem caps_few (hC : C.Few p C') : ∀ {ns : List Nat} {vs : List Value}, ns.all p.has = true → All2 (CapRel C) (ns.map Cap.p) vs → All2 (CapRel C') (ns.map Cap.p) vs
  | [], [], _, _ => trivial
  | [], _ :: _, _, h => h.elim
  | _ :: _, [], _, h => h.elim
  | n :: ns, v :: vs, hn, h => by
    simp only [List.all_cons] at hn
    obtain ⟨h1, h2⟩ := and_b hn
    obtain ⟨g, hg, e⟩ := h.1
    exact ⟨⟨g, hC.H n _ h1 hg, e⟩, caps_few hC h2 h.2⟩

theorem decK_ok (hC : C.Few p C') {bs : List (Nat × Blk)} (hR : Reads C bs C'.Z) {k : PatK} {x : A} {d : List Dat} (h : decK bs p k x = some d) (r : List Dat) : ∃ y, encK k (d ++ r) = (y, r) ∧ ∀ v, ARel C x v → ARel C' y v := by
  cases k with
  | any =>
    simp only [decK, Option.some.injEq] at h
    subst h
    exact ⟨.any, rfl, fun v _ => trivial⟩
  | v t =>
    simp only [decK] at h
    split at h
    · rename_i dd hr
      simp only [Option.some.injEq] at h
      subst h
      refine ⟨t.toA dd, rfl, fun v hv => toA_rel ?_⟩
      have := read_rel hR hr hv
      rw [hC.P, hC.w]
      exact this
    · cases h
  | own n =>
    cases x with
    | c c =>
      cases c with
      | own m =>
        simp only [decK] at h
        obtain ⟨hg, h⟩ := bif_none h
        obtain ⟨h1, h2⟩ := and_b hg
        simp only [Option.some.injEq] at h
        subst h
        have : m = n := by simpa using h1
        subst this
        exact ⟨.c (.own m), rfl, fun v hv => ⟨hC.H m v h2 hv.1, hv.2⟩⟩
      | _ => simp [decK] at h
    | _ => simp [decK] at h
  | ptr n o =>
    cases x with
    | c c =>
      cases c with
      | ptr m o' =>
        simp only [decK] at h
        obtain ⟨hg, h⟩ := bif_none h
        obtain ⟨hg, h2⟩ := and_b hg
        obtain ⟨h1, h3⟩ := and_b hg
        simp only [Option.some.injEq] at h
        subst h
        have : m = n := by simpa using h1
        subst this
        have : o' = o := by simpa using h3
        subst this
        refine ⟨.c (.ptr m o'), rfl, fun v hv => ?_⟩
        obtain ⟨g, hg, e⟩ := hv
        exact ⟨g, hC.H m _ h2 hg, e⟩
      | _ => simp [decK] at h
    | _ => simp [decK] at h
  | fn f ns =>
    cases x with
    | c c =>
      cases c with
      | fn g caps =>
        simp only [decK] at h
        obtain ⟨hg, h⟩ := bif_none h
        obtain ⟨hg, h2⟩ := and_b hg
        obtain ⟨h1, h3⟩ := and_b hg
        simp only [Option.some.injEq] at h
        subst h
        have : g = f := by simpa using h1
        subst this
        have := beqNats_spec h3
        subst this
        refine ⟨.c (.fn g (ns.map Cap.p)), rfl, fun v hv => ?_⟩
        obtain ⟨vs, e, hal⟩ := hv
        exact ⟨vs, e, caps_few hC h2 hal⟩
      | _ => simp [decK] at h
    | _ => simp [decK] at h
  | mp n =>
    cases x with
    | c c =>
      cases c with
      | mp m =>
        simp only [decK] at h
        obtain ⟨hg, h⟩ := bif_none h
        obtain ⟨h1, h2⟩ := and_b hg
        simp only [Option.some.injEq] at h
        subst h
        have : m = n := by simpa using h1
        subst this
        exact ⟨.c (.mp m), rfl, fun v hv => ⟨hC.H m v h2 hv.1, hv.2⟩⟩
      | _ => simp [decK] at h
    | _ => simp [decK] at h
  | sub n =>
    cases x with
    | c c =>
      cases c with
      | sub m o l =>
        simp only [decK] at h
        obtain ⟨hg, h⟩ := bif_none h
        obtain ⟨h1, h2⟩ := and_b hg
        simp only [Option.some.injEq] at h
        subst h
        have : m = n := by simpa using h1
        subst this
        refine ⟨.c (.sub m o l), by simp [encK], fun v hv => ?_⟩
        obtain ⟨A, c, L, s, e1, e2, e3⟩ := hv
        exact ⟨A, c, L, s, hC.L m _ h2 e1, hC.H m _ h2 e2, e3⟩
      | _ => simp [decK] at h
    | _ => simp [decK] at h
  | nil =>
    cases x with
    | c c =>
      cases c with
      | nil =>
        simp only [decK, Option.some.injEq] at h
        subst h
        exact ⟨.c .nil, rfl, fun v hv => hv⟩
      | _ => simp [decK] at h
    | _ => simp [decK] at h

theorem decT_ok (hC : C.Few p C') {bs : List (Nat × Blk)} (hR : Reads C bs C'.Z) : ∀ {ks : List PatK} {xs : List A} {d : List Dat}, decT bs p ks xs = some d → ∀ r, ∃ ys, encT ks (d ++ r) = (ys, r) ∧ ∀ vs, All2 (ARel C) xs vs → All2 (ARel C') ys vs
  | [], [], d, h, r => by
    simp only [decT, Option.some.injEq] at h
    subst h
    exact ⟨[], rfl, fun vs h => by cases vs with | nil => trivial | cons _ _ => exact h.elim⟩
  | [], _ :: _, d, h, r => by simp [decT] at h
  | _ :: _, [], d, h, r => by simp [decT] at h
  | k :: ks, x :: xs, d, h, r => by
    simp only [decT] at h
    split at h
    · rename_i a b h1 h2
      simp only [Option.some.injEq] at h
      subst h
      obtain ⟨y, e1, k1⟩ := decK_ok hC hR h1 (b ++ r)
      obtain ⟨ys, e2, k2⟩ := decT_ok hC hR h2 r
      refine ⟨y :: ys, by simp only [List.append_assoc, encT, e1, e2], fun vs hv => ?_⟩
      cases vs with
      | nil => exact hv.elim
      | cons v vs => exact ⟨k1 v hv.1, k2 vs hv.2⟩
    · cases h

theorem decI_len {bs : List (Nat × Blk)} {p : Pat} {n : Nat} {t : Tm n} : ∀ {ks : List PatK} {i : Nat} {d : List Dat}, decI bs p t i ks = some d → i + ks.length = n
  | [], i, d, h => by
    simp only [decI] at h
    exact Nat.eq_of_beq_eq_true (bif_none h).1
  | k :: ks, i, d, h => by
    have key : ∃ d', decI bs p t (i + 1) ks = some d' := by
      cases k with
      | any => exact ⟨d, h⟩
      | _ =>
        simp only [decI] at h
        split at h
        · rename_i a b _ h2
          exact ⟨b, h2⟩
        · cases h
    obtain ⟨d', h'⟩ := key
    have := decI_len h'
    simp only [List.length_cons]
    omega
theorem decI_from {bs : List (Nat × Blk)} {p : Pat} {n : Nat} {t : Tm n} : ∀ {ks : List PatK} {i : Nat} {d : List Dat}, decI bs p t i ks = some d → decT bs p ks (t.toList.drop i) = some d
  | [], i, d, h => by
    simp only [decI] at h
    obtain ⟨hb, h⟩ := bif_none h
    have hi := Nat.eq_of_beq_eq_true hb
    have hl := Tm.length t
    rw [List.drop_of_length_le (by omega)]
    exact h
  | k :: ks, i, d, h => by
    have hlen := decI_len h
    have hl := Tm.length t
    simp only [List.length_cons] at hlen
    have hi : i < t.toList.length := by omega
    have hg : t.get i = t.toList[i] := by rw [Tm.get_is]; simp [List.getD, List.getElem?_eq_getElem hi]
    rw [List.drop_eq_getElem_cons hi]
    cases k with
    | any =>
      have h' : decI bs p t (i + 1) ks = some d := h
      have := decI_from h'
      simp only [decT, decK, this, List.nil_append]
    | _ =>
      simp only [decI] at h
      split at h
      · rename_i a b h1 h2
        have := decI_from h2
        rw [hg] at h1
        simp only [decT, h1, this]
        exact h
      · cases h
theorem decI_ok {bs : List (Nat × Blk)} {p : Pat} {ks : List PatK} {σ : St} {d : List Dat} (h : decI bs p σ.tm.t 0 ks = some d) : decT bs p ks σ.tmps = some d := by
  have := decI_from h
  rwa [List.drop_zero] at this

theorem asCell_rel {y : A} {v : Value} (hx : v.oneCell' = true) (h : ARel C y v) : CellRel C (asCell y) v := by
  cases y with
  | c x => exact h
  | any => exact hx
  | agg cs => exact hx
  | tup _ => exact hx

theorem decCs_ok (hC : C.Few p C') : ∀ {ks : List PatK} {xs : List Cell} {d : List Dat}, decCs p ks xs = some d → ∀ r, ∃ ys, encCs ks (d ++ r) = (ys, r) ∧ ∀ vs, All2 (CellRel C) xs vs → All2 (CellRel C') ys vs
  | [], [], d, h, r => by
    simp only [decCs, Option.some.injEq] at h
    subst h
    exact ⟨[], rfl, fun vs h => by cases vs with | nil => trivial | cons _ _ => exact h.elim⟩
  | [], _ :: _, d, h, r => by simp [decCs] at h
  | _ :: _, [], d, h, r => by simp [decCs] at h
  | k :: ks, x :: xs, d, h, r => by
    simp only [decCs] at h
    split at h
    · rename_i a b h1 h2
      simp only [Option.some.injEq] at h
      subst h
      obtain ⟨y, e1, k1⟩ := decK_ok hC (Reads.nil' hC.Z) h1 (b ++ r)
      obtain ⟨ys, e2, k2⟩ := decCs_ok hC h2 r
      refine ⟨asCell y :: ys, by simp only [List.append_assoc, encCs, e1, e2], fun vs hv => ?_⟩
      cases vs with
      | nil => exact hv.elim
      | cons v vs => exact ⟨asCell_rel (CellRel.one x v hv.1) (k1 v hv.1), k2 vs hv.2⟩
    · cases h

theorem decB_ok (hC : C.Few p C') {bs : List (Nat × Blk)} : ∀ {qs : List (Nat × PatB)} {d : List Dat}, decB p bs qs = some d → (encB qs d).map (·.1) = qs.map (·.1) ∧ ∀ n b', (n, b') ∈ encB qs d → ∃ b, look n bs = some b ∧ ∀ F v, BRel C F v b → BRel C' F v b'
  | [], d, h => by
    simp only [decB, Option.some.injEq] at h
    subst h
    exact ⟨rfl, fun n b' hm => by simp [encB] at hm⟩
  | (n, .row dd t) :: r, d, h => by
    simp only [decB] at h
    split at h
    · rename_i d' t' xs l hl hd
      have h0 := bif_none h
      clear h
      obtain ⟨hdd, h⟩ := h0
      have : dd = d' := by simpa using hdd
      subst this
      split at h
      · rename_i ys hc
        simp only [Option.some.injEq] at h
        subst h
        obtain ⟨rfl, rfl⟩ := Ty.castL?_spec hc
        obtain ⟨e1, k1⟩ := decB_ok hC hd
        refine ⟨by simp only [encB, List.map_cons, e1], fun m b' hm => ?_⟩
        rcases List.mem_cons.1 hm with hm | hm
        · obtain ⟨rfl, rfl⟩ := Prod.mk.inj hm
          refine ⟨_, hl, fun F v hb => ?_⟩
          show RowOf C'.P (mkd _ _) _ _ C'.w C'.Z F v _
          rw [hC.P, hC.w]
          exact RowOf.agree hb hC.Z (Agree.refl _ _) (fun _ h => h) (Agree.refl _ _)
        · exact k1 m b' hm
      · cases h
    · cases h
  | (n, .map kt t) :: r, d, h => by
    simp only [decB] at h
    split at h
    · rename_i k' t' es l hl hd
      split at h
      · rename_i ys hc
        simp only [Option.some.injEq] at h
        subst h
        obtain ⟨e, rfl⟩ := Ty.cast?_spec hc
        cases e
        obtain ⟨e1, k1⟩ := decB_ok hC hd
        refine ⟨by simp only [encB, List.map_cons, e1], fun m b' hm => ?_⟩
        rcases List.mem_cons.1 hm with hm | hm
        · obtain ⟨rfl, rfl⟩ := Prod.mk.inj hm
          refine ⟨_, hl, fun F v hb => ?_⟩
          obtain ⟨g, ents, clock, e, hg, hh, hr⟩ := hb
          exact ⟨g, ents, clock, e, hg, by rw [hC.w]; exact hh, hr⟩
        · exact k1 m b' hm
      · cases h
    · cases h
  | (n, .mix t) :: r, d, h => by
    simp only [decB] at h
    split at h
    · rename_i d' t' xs l hl hd
      have h0 := bif_none h
      clear h
      obtain ⟨hg, h⟩ := h0
      obtain ⟨hd0, hsc⟩ := and_b hg
      have hd0 : d' = false := by simpa using hd0
      subst hd0
      have hsc : t'.scal = false := by simpa using hsc
      split at h
      · rename_i ys hc
        simp only [Option.some.injEq] at h
        subst h
        obtain ⟨rfl, rfl⟩ := Ty.castL?_spec hc
        obtain ⟨e1, k1⟩ := decB_ok hC hd
        refine ⟨by simp only [encB, List.map_cons, e1], fun m b' hm => ?_⟩
        rcases List.mem_cons.1 hm with hm | hm
        · obtain ⟨rfl, rfl⟩ := Prod.mk.inj hm
          refine ⟨_, hl, fun F v hb => ?_⟩
          have hb : RowOf C.P (mkd false _) false _ C.w C.Z F v ys := hb
          have hmk : mkd false t' = false := by unfold mkd; simpa using hsc
          rw [hmk] at hb
          refine RowOwn.map hb (fun _ h => h) (fun _ _ _ => by rw [hC.w]) fun i G us y hG hy => ?_
          have e0 : decide (i < Int.toNat 0) = false := by simp
          rw [e0, hC.P, hC.w]
          exact OwC.agree hC.Z (Agree.refl _ _) _ G G us y (fun _ h => h) (Agree.refl _ _) hy
        · exact k1 m b' hm
      · cases h
    · rename_i t' xs kk l hl hd
      split at h
      · rename_i ys hc
        simp only [Option.some.injEq] at h
        subst h
        obtain ⟨rfl, rfl⟩ := Ty.castL?_spec hc
        obtain ⟨e1, k1⟩ := decB_ok hC hd
        refine ⟨by simp only [encB, List.map_cons, e1], fun m b' hm => ?_⟩
        rcases List.mem_cons.1 hm with hm | hm
        · obtain ⟨rfl, rfl⟩ := Prod.mk.inj hm
          refine ⟨_, hl, fun F v hb => ?_⟩
          refine RowOwn.map hb (fun _ h => h) (fun _ _ _ => by rw [hC.w]) fun i G us y hG hy => ?_
          rw [Int.toNat_natCast, hC.P, hC.w]
          exact OwC.agree hC.Z (Agree.refl _ _) _ G G us y (fun _ h => h) (Agree.refl _ _) hy
        · exact k1 m b' hm
      · cases h
    · cases h
  | (n, .box cs) :: r, d, h => by
    simp only [decB] at h
    split at h
    · rename_i c hl
      split at h
      · rename_i a b h1 h2
        simp only [Option.some.injEq] at h
        subst h
        obtain ⟨ys, e1, k1⟩ := decCs_ok hC h1 b
        obtain ⟨e2, k2⟩ := decB_ok hC h2
        refine ⟨by simp only [encB, e1, List.map_cons, e2], fun m b' hm => ?_⟩
        simp only [encB, e1] at hm
        rcases List.mem_cons.1 hm with hm | hm
        · obtain ⟨rfl, rfl⟩ := Prod.mk.inj hm
          refine ⟨_, hl, fun F v hb => ?_⟩
          obtain ⟨g, us, ety, e, hg, hh, ha⟩ := hb
          exact ⟨g, us, ety, e, hg, by rw [hC.w]; exact hh, k1 _ ha⟩
        · exact k2 m b' hm
      · cases h
    · cases h

end

/-- rows keep their lengths -/
theorem Cx.Few.refl (p : Pat) (C : Cx) : C.Few p C := ⟨rfl, rfl, fun _ _ h => h, fun _ _ _ h => h, fun _ _ _ h => h⟩
theorem decB_len (C : Cx) {p : Pat} {bs : List (Nat × Blk)} : ∀ {qs : List (Nat × PatB)} {d : List Dat}, decB p bs qs = some d → ∀ n, (qs.any fun b => b.1 == n) = true → ∀ q, lenOf bs n = some q → lenOf (encB qs d) n = some q
  | [], d, h, n, hn, q, hq => by simp at hn
  | (m, .map kt t) :: r, d, h, n, hn, q, hq => by
    simp only [decB] at h
    split at h
    · rename_i k' t' es l hl hd
      split at h
      · rename_i ys hc
        simp only [Option.some.injEq] at h
        subst h
        by_cases e : m = n
        · subst e
          simp [lenOf, hl] at hq
        · have e' : (m == n) = false := by simp [e]
          have hn' : (r.any fun b => b.1 == n) = true := by simpa [e'] using hn
          have := decB_len C hd n hn' q hq
          simpa [lenOf, encB, look, e'] using this
      · cases h
    · cases h
  | (m, .row dd t) :: r, d, h, n, hn, q, hq => by
    simp only [decB] at h
    split at h
    · rename_i d' t' xs l hl hd
      have h0 := bif_none h
      clear h
      obtain ⟨hdd, h⟩ := h0
      split at h
      · rename_i ys hc
        simp only [Option.some.injEq] at h
        subst h
        obtain ⟨rfl, rfl⟩ := Ty.castL?_spec hc
        by_cases e : m = n
        · subst e
          have h1 : lenOf bs m = some (ys.length, t'.cells) := by simp [lenOf, hl]
          rw [h1] at hq
          simp [lenOf, encB, look, ← Option.some.inj hq]
        · have e' : (m == n) = false := by simp [e]
          have hn' : (r.any fun b => b.1 == n) = true := by simpa [e'] using hn
          have := decB_len C hd n hn' q hq
          simpa [lenOf, encB, look, e'] using this
      · cases h
    · cases h
  | (m, .mix t) :: r, d, h, n, hn, q, hq => by
    simp only [decB] at h
    split at h
    · rename_i d' t' xs l hl hd
      have h0 := bif_none h
      clear h
      obtain ⟨hg, h⟩ := h0
      split at h
      · rename_i ys hc
        simp only [Option.some.injEq] at h
        subst h
        obtain ⟨rfl, rfl⟩ := Ty.castL?_spec hc
        by_cases e : m = n
        · subst e
          have h1 : lenOf bs m = some (ys.length, t'.cells) := by simp [lenOf, hl]
          rw [h1] at hq
          simp [lenOf, encB, look, ← Option.some.inj hq]
        · have e' : (m == n) = false := by simp [e]
          have hn' : (r.any fun b => b.1 == n) = true := by simpa [e'] using hn
          have := decB_len C hd n hn' q hq
          simpa [lenOf, encB, look, e'] using this
      · cases h
    · rename_i t' xs kk l hl hd
      split at h
      · rename_i ys hc
        simp only [Option.some.injEq] at h
        subst h
        obtain ⟨rfl, rfl⟩ := Ty.castL?_spec hc
        by_cases e : m = n
        · subst e
          have h1 : lenOf bs m = some (ys.length, t'.cells) := by simp [lenOf, hl]
          rw [h1] at hq
          simp [lenOf, encB, look, ← Option.some.inj hq]
        · have e' : (m == n) = false := by simp [e]
          have hn' : (r.any fun b => b.1 == n) = true := by simpa [e'] using hn
          have := decB_len C hd n hn' q hq
          simpa [lenOf, encB, look, e'] using this
      · cases h
    · cases h
  | (m, .box cs) :: r, d, h, n, hn, q, hq => by
    simp only [decB] at h
    split at h
    · rename_i c hl
      split at h
      · rename_i a b h1 h2
        simp only [Option.some.injEq] at h
        subst h
        by_cases e : m = n
        · subst e
          have h1 : lenOf bs m = none := by simp [lenOf, hl]
          rw [h1] at hq
          cases hq
        · have e' : (m == n) = false := by simp [e]
          have hn' : (r.any fun b => b.1 == n) = true := by simpa [e'] using hn
          have ih := decB_len C h2 n hn' q hq
          obtain ⟨ys, e1, _⟩ := decCs_ok (Cx.Few.refl p C) h1 b
          simpa [lenOf, encB, e1, look, e'] using ih
      · cases h
    · cases h

theorem look_mem : ∀ {bs : List (Nat × Blk)} {n : Nat} {b : Blk}, look n bs = some b → (n, b) ∈ bs
  | [], n, b, h => by simp [look] at h
  | (m, c) :: r, n, b, h => by
    simp only [look] at h
    by_cases hm : m = n
    · subst hm
      simp at h
      subst h
      simp
    · have : (m == n) = false := by simp [hm]
      simp only [this, cond_false] at h
      exact List.mem_cons_of_mem _ (look_mem h)
theorem look_none : ∀ {bs : List (Nat × Blk)} {n : Nat}, look n bs = none → n ∉ bs.map (·.1)
  | [], n, h => by simp
  | (m, c) :: r, n, h => by
    simp only [look] at h
    by_cases hm : m = n
    · subst hm; simp at h
    · have : (m == n) = false := by simp [hm]
      simp only [this, cond_false] at h
      simp only [List.map_cons, List.mem_cons, not_or]
      exact ⟨Ne.symm hm, look_none h⟩

section
variable {B : Base} {σ : St} {tm : Array Value} {w : World} {H : Nat → Option Value} {φ : Nat → Nat → Prop}

/-- nil slices become empty rows -/
theorem adopt_ok (p : Pat) : ∀ (qs : List (Nat × PatB)) (σ : St) (H : Nat → Option Value) (φ : Nat → Nat → Prop), Rel B σ tm w H φ → ∃ H' φ', Rel B (adopt p qs σ) tm w H' φ'
  | [], σ, H, φ, h => ⟨H, φ, h⟩
  | (n, .box cs) :: r, σ, H, φ, h => adopt_ok p r σ H φ h
  | (n, .mix t) :: r, σ, H, φ, h => adopt_ok p r σ H φ h
  | (n, .map k t) :: r, σ, H, φ, h => adopt_ok p r σ H φ h
  | (n, .row d t) :: r, σ, H, φ, h => by
    have new : look n σ.blks = none → (n % 64 == 63) = false → ∀ v : Value, (∃ A, v = .slice A 0 0) → ∃ H' φ', Rel B (σ.setBlk n (.row d t [])) tm w H' φ' ∧ H' n = some v ∧ ∀ m, m ≠ n → H' m = H m := by
      intro hl h63 v hv
      obtain ⟨A, rfl⟩ := hv
      have hio : B.io n = none := by
        cases hq : B.io n with
        | none => rfl
        | some v => have := B.iok _ _ hq; simp [this] at h63
      exact ⟨_, _, Rel.fresh (R1 := B.R) h (fun _ h => h) hl hio (w' := w) (b := .row d t []) (v := .slice A 0 0) (F := NoB) (Fr.refl _ w) (fun i f => f.elim) (fun C' _ _ _ _ => ⟨A, 0, rfl, by simp, .inl rfl⟩), by simp, fun m hm => by simp [hm]⟩
    simp only [adopt]
    split
    · exact adopt_ok p r σ H φ h
    rename_i hl
    cases h63 : (n % 64 == 63) with
    | true => exact adopt_ok p r σ H φ h
    | false =>
      simp only [cond_false]
      split
      · rename_i i hi
        split
        · rename_i hg
          have hr := h.get i
          rw [hg] at hr
          obtain ⟨A, hv⟩ := id hr
          obtain ⟨H1, φ1, h1, h2, _⟩ := new hl h63 _ ⟨A, hv⟩
          have h3 : Rel B ((σ.setBlk n (.row d t [])).set i (.c (.own n))) tm w H1 φ1 := by
            refine ⟨h1.mem, ?_⟩
            have hs := Rel.set h1 i (x := .c (.own n)) (v := tm.getD i undef) ⟨h2, A, 0, 0, hv⟩
            have : tm.setIfInBounds i (tm.getD i undef) = tm := by
              apply Array.ext
              · simp
              · intro j h1 h2
                rw [Array.getElem_setIfInBounds]
                split
                · rename_i e; subst e; simp [Array.getD_eq_getD_getElem?, h2]
                · rfl
            rw [this] at hs
            exact hs.tmp
          exact adopt_ok p r _ H1 φ1 h3
        · exact adopt_ok p r σ H φ h
      · have plain : ∃ H' φ', Rel B (adopt p r (σ.setBlk n (.row d t []))) tm w H' φ' := by
          obtain ⟨H1, φ1, h1, _⟩ := new hl h63 (.slice none 0 0) ⟨none, rfl⟩
          exact adopt_ok p r _ H1 φ1 h1
        split
        · exact plain
        · rename_i b i hbi
          split
          · rename_i cs hb
            split
            · rename_i hc
              obtain ⟨vb, hvb, g, us, ety, rfl, hg, hh, hall⟩ := h.mem.blk b _ hb
              obtain ⟨u, hu, A, rfl⟩ := All2.get hall i _ hc
              obtain ⟨H1, φ1, h1, h2, h3⟩ := new hl h63 _ ⟨A, rfl⟩
              have hbn : b ≠ n := fun e => by subst e; rw [hl] at hb; cases hb
              have hb1 : look b (σ.setBlk n (.row d t [])).blks = some (.box cs) := (look_set_other _ hbn _).trans hb
              refine adopt_ok p r _ H1 φ1 (h1.write (b := .box (cs.set i (.own n))) hb1 (Fr.refl _ _) (by simp [lenOf, look_set_same, hb1]) (fun v C' hv hle hw hP => ?_))
              obtain ⟨v1, hv1, g1, us1, ety1, e1, hg1, hh1, hall1⟩ := h1.mem.blk b _ hb1
              rw [h3 b hbn, hvb] at hv1
              obtain rfl := Option.some.inj hv1
              simp only [Value.pointer.injEq, Option.some.injEq, Addr.mk.injEq, and_true] at e1
              subst e1
              have hh1 : w.heap[g]? = _ := hh1
              have hh : w.heap[g]? = _ := hh
              rw [hh] at hh1
              simp only [Option.some.injEq, Obj.cells.injEq, and_true] at hh1
              obtain ⟨rfl, rfl⟩ := hh1
              rw [h3 b hbn, hvb] at hv
              obtain rfl := Option.some.inj hv
              refine ⟨g, us, ety, rfl, hg1, by rw [hw]; exact hh, ?_⟩
              have hset := All2.set (hall1.mono (CellRel.le hle)) i (a := .own n) (b := .slice A 0 0) ⟨hle.H _ _ h2, A, 0, 0, rfl⟩
              have : us.toList.set i (.slice A 0 0) = us.toList := by
                apply List.ext_getElem?
                intro j
                rw [List.getElem?_set]
                split
                · rename_i e
                  subst e
                  split
                  · exact hu.symm
                  · rename_i hlt
                    rw [List.getElem?_eq_none (by omega)]
                · rfl
              rw [this] at hset
              exact hset
            · exact plain
          · exact plain

/-- what a pattern reads off a state holds of it -/
theorem dec_ok (h : Rel B σ tm w H φ) {p : Pat} {s : p.den} (hd : p.dec σ = some s) : ∃ H' φ', Rel B (p.enc s) tm w H' φ' := by
  unfold Pat.dec at hd
  obtain ⟨H1, φ1, h1⟩ := adopt_ok p p.blks σ H φ h
  simp only at hd
  split at hd
  · rename_i a b ha hb
    have hl := Dn.toL_ofL _ _ _ hd
    let H2 : Nat → Option Value := fun n => if p.has n then H1 n else none
    let φ2 : Nat → Nat → Prop := fun n b => p.has n = true ∧ φ1 n b
    have hfew : (B.at (adopt p p.blks σ) w H1 φ1).Few p (B.cx w H2 φ2 (lenOf (encB p.blks b))) :=
      ⟨rfl, rfl, fun i _ hz => ⟨hz.1, hz.2.1, hz.2.2.1, fun m hm => hz.2.2.2 m hm.2⟩, fun n v hp hv => by show (if p.has n then H1 n else none) = _; rw [if_pos hp]; exact hv, fun n q hp hq => decB_len (B.at σ w H1 φ1) hb n hp q hq⟩
    have hR : Reads (B.at (adopt p p.blks σ) w H1 φ1) (p.gone (adopt p p.blks σ).blks) (zone B w φ2) := by
      unfold Pat.gone
      refine ⟨fun i _ hz => ⟨hz.1, hz.2.1, hz.2.2.1, fun m hm => hz.2.2.2 m hm.2⟩, fun n b hn => ?_, fun n dd t ys hn => ?_⟩
      · rw [look_filter (fun m => !p.has m && decide (m % 64 < 62))] at hn
        split at hn
        · rename_i hc
          obtain ⟨c1, c2⟩ := and_b hc
          have c1 : p.has n = false := by simpa using c1
          have c2 : n % 64 < 62 := of_decide_eq_true c2
          obtain ⟨v, hv, hb⟩ := h1.mem.blk n b hn
          refine ⟨v, φ1 n, hv, hb, fun i hi hf => ⟨?_, hi, h1.mem.rdis n i hf, fun m hm => ?_⟩⟩
          · rcases (h1.mem.fsub n i hf).1 with q | q
            · have := B.parok n q.1
              omega
            · exact .inr q
          · exact h1.mem.fdis n m (fun e => by subst e; rw [hm.1] at c1; cases c1) i hf hm.2
        · cases hn
      · rw [look_filter (fun m => !p.has m && decide (m % 64 < 62))] at hn
        split at hn
        · show lenOf (adopt p p.blks σ).blks n = _
          simp [lenOf, hn]
        · cases hn
    obtain ⟨ys, e1, k1⟩ := decT_ok hfew hR (decI_ok ha) b
    obtain ⟨e2, k2⟩ := decB_ok hfew hb
    have henc : p.enc s = St.of ys (encB p.blks b) := by
      unfold Pat.enc
      rw [hl, e1]
    have hhas : ∀ n, look n (p.enc s).blks = none → p.has n = false := by
      intro n hn
      rw [henc] at hn
      have hn' : look n (encB p.blks b) = none := hn
      have := look_none hn'
      rw [e2] at this
      unfold Pat.has
      cases hq : (p.blks.any fun b => b.1 == n) with
      | false => rfl
      | true =>
        obtain ⟨q, hq1, hq2⟩ := List.any_eq_true.1 hq
        have : n ∈ p.blks.map (·.1) := List.mem_map.2 ⟨q, hq1, by simpa using hq2⟩
        contradiction
    refine ⟨H2, φ2, ⟨h1.mem.fr, fun n hn => ?_, fun n hn b hb => ?_, fun n b hb => h1.mem.fsub n b hb.2, fun n m hnm b hb hb' => h1.mem.fdis n m hnm b hb.2 hb'.2, fun n b hb => h1.mem.rdis n b hb.2, h1.mem.rsub, fun n v hv => ?_, fun n b hb => ?_⟩, ?_⟩
    · show (if p.has n then H1 n else none) = none
      rw [if_neg (by rw [hhas n hn]; simp)]
    · have := hhas n hn
      rw [hb.1] at this; cases this
    · show (if p.has n then H1 n else none) = none ∨ (if p.has n then H1 n else none) = some v
      split
      · exact h1.mem.keep n v hv
      · exact .inl rfl
    · have hb' := hb
      rw [henc] at hb
      obtain ⟨b0, hl0, hk⟩ := k2 n b (look_mem hb)
      have hp : p.has n = true := by
        have : n ∈ p.blks.map (·.1) := by rw [← e2]; exact List.mem_map.2 ⟨_, look_mem hb, rfl⟩
        obtain ⟨q, hq1, hq2⟩ := List.mem_map.1 this
        unfold Pat.has
        exact List.any_eq_true.2 ⟨q, hq1, by simpa using hq2⟩
      obtain ⟨v, hv, hbr⟩ := h1.mem.blk n b0 hl0
      refine ⟨v, by show (if p.has n then H1 n else none) = _; rw [if_pos hp]; exact hv, ?_⟩
      have hbr' := hk _ v hbr
      rw [henc]
      exact BRel.sub hbr' (fun i hi => ⟨hp, hi⟩)
    · have := k1 _ h1.tmp
      have e3 : (p.enc s).tmps = ys := by rw [henc]; rfl
      rw [e3, henc]
      exact this
  · cases hd

end
end Go.Proofs.YtklfnbckoaphpaaGreatDoor
