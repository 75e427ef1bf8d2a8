/- Calls: what comes back in what was handed over. No conditions. -/
import Derived.Test.YtklfnbckoaphpaaGreatDoorEvT
set_option linter.unusedVariables false
set_option linter.unusedSimpArgs false
namespace Go.Proofs.YtklfnbckoaphpaaGreatDoor
open Go

theorem writePs_none : ∀ (ps : List (PK × Ty)) (xs : List A) (rs : List (PK × Ty)) (y : Sig.den (Sig.ios ps ++ rs)) (σ : St), handed ps xs = [] → xs.length = ps.length → writePs ps xs rs y σ = (σ, Sig.snd (Sig.ios ps) rs y)
  | [], xs, rs, y, σ, h, hl => by cases xs <;> rfl
  | _ :: _, [], rs, y, σ, h, hl => by simp at hl
  | (.val, t) :: ps, x :: xs, rs, y, σ, h, hl => writePs_none ps xs rs y σ h (by simpa using hl)
  | (.io d, t) :: ps, x :: xs, rs, y, σ, h, hl => by
    have ih := writePs_none ps xs rs (Sig.tl (.io d, t) (Sig.ios ps ++ rs) y) σ
    rw [handed_io (by simp) t ps x xs] at h
    obtain ⟨h1, h2⟩ := List.append_eq_nil_iff.1 h
    have ih := ih h2 (by simpa using hl)
    cases t <;> cases x <;> try exact ih
    case slice.c e c => cases c <;> first | exact ih | simp at h1
    case ptr.c e c => cases c <;> first | exact ih | simp at h1
  | (.eat d, t) :: ps, x :: xs, rs, y, σ, h, hl => by
    have ih := writePs_none ps xs rs y σ
    rw [handed_io (by simp) t ps x xs] at h
    obtain ⟨h1, h2⟩ := List.append_eq_nil_iff.1 h
    have ih := ih h2 (by simpa using hl)
    cases x <;> try exact ih
    case c c => cases c <;> first | exact ih | simp at h1

section
variable {ρ : Type} {B : Base} {E : Env} {σ : St} {tm : Array Value} {w w' : World} {H : Nat → Option Value} {φ : Nat → Nat → Prop}

theorem fst_tl (d : Bool) (t : Ty) (ps rs : List (PK × Ty)) (y : Sig.den (Sig.ios ((.io d, t) :: ps) ++ rs)) : Sig.tl (.io d, t) (Sig.ios ps) (Sig.fst (Sig.ios ((.io d, t) :: ps)) rs y) = Sig.fst (Sig.ios ps) rs (Sig.tl (.io d, t) (Sig.ios ps ++ rs) y) := Sig.tl_mk _ _ _ _
theorem fst_hd (d : Bool) (t : Ty) (ps rs : List (PK × Ty)) (y : Sig.den (Sig.ios ((.io d, t) :: ps) ++ rs)) : Sig.hd (.io d, t) (Sig.ios ps) (Sig.fst (Sig.ios ((.io d, t) :: ps)) rs y) = Sig.hd (.io d, t) (Sig.ios ps ++ rs) y := Sig.hd_mk _ _ _ _

theorem writePs_own {d d' : Bool} {e e' : Ty} {xs0 : List e'.den} {n : Nat} {σ : St} (hn : look n σ.blks = some (.row d' e' xs0)) (ps : List (PK × Ty)) (xs : List A) (rs : List (PK × Ty)) (y : Sig.den (Sig.ios ((.io d, .slice e) :: ps) ++ rs)) :
    writePs ((.io d, .slice e) :: ps) (.c (.own n) :: xs) rs y σ = writePs ps xs rs (Sig.tl (.io d, .slice e) (Sig.ios ps ++ rs) y) (σ.setBlk n (.row d' e (Sig.hd (.io d, .slice e) (Sig.ios ps ++ rs) y))) := by
  rw [writePs]
  rw [hn]
  rfl

theorem readPs_length {E : Env} {bs bsR : List (Nat × Blk)} : ∀ {ps : List (PK × Ty)} {xs : List A} {x : Sig.den ps}, readPs E bs bsR ps xs = some x → xs.length = ps.length
  | [], [], _, _ => rfl
  | [], _ :: _, _, h => by simp [readPs] at h
  | _ :: _, [], _, h => by simp [readPs] at h
  | p :: ps, a :: xs, x, h => by
    simp only [readPs] at h
    split at h
    · rename_i d r h1 h2
      simp [readPs_length h2]
    · cases h

/-- the state behind a call: what was handed over holds what the callee left in it; what was eaten is gone; what the results own (F) is nobody's yet -/
theorem writePs_ok (hB : B.R = NoB) (h : Rel B σ tm w H φ) {bsR : List (Nat × Blk)} {F Z' : Nat → Prop} (rs : List (PK × Ty)) :
    ∀ (ps : List (PK × Ty)) (xs : List A) (vs : List Value) (x : Sig.den ps) (y : Sig.den (Sig.ios ps ++ rs)) (G : Nat → Prop), (handed ps xs).length ≤ 1 → readPs E σ.blks bsR ps xs = some x → All2 (ARel (B.at σ w H φ)) xs vs →
      Fr (fun b => ∃ n ∈ handed ps xs, φ n b) w w' →
      (∀ b, F b → (w.heap.size ≤ b ∨ ((∃ n ∈ handed ps xs, φ n b) ∧ Sig.ios ps = [])) ∧ b < w'.heap.size) →
      (∀ b, G b → ((∃ n ∈ handed ps xs, φ n b) ∨ w.heap.size ≤ b) ∧ b < w'.heap.size) → (∀ b, F b → ¬ G b) →
      (∀ i, i < w'.heap.size → Z' i → (zone B w φ i ∨ w.heap.size ≤ i) ∧ ¬ F i ∧ ¬ G i) →
      Holds B.P w' Z' G (Sig.ios ps) (ioVals ps vs) (Sig.fst _ _ y) →
      ∃ H' φ', Rel (B.on F) (writePs ps xs rs y σ).1 tm w' H' φ' ∧ (writePs ps xs rs y σ).2 = Sig.snd _ _ y ∧ ∀ m i, φ' m i → (∃ k, φ k i) ∨ G i
  | [], xs, vs, x, y, G, hl, hr, ha, hw, hF, hG, hFG, hZ, hh => by
    have h' : Rel (B.on NoB) σ tm w H φ := by
      have : B.on NoB = B := by rw [← hB]
      rw [this]; exact h
    have hw' : Fr NoB w w' := ⟨hw.os, hw.tape, hw.output, hw.size, fun b hb _ => hw.block b hb (by rintro ⟨n, hn, _⟩; cases xs <;> simp [handed] at hn), hw.glob⟩
    have k := Rel.step (B := B) (R1 := NoB) (R2 := F) h' hw' (fun i hi => ⟨by
      rcases (hF i hi).1 with h1 | ⟨⟨n, hn, _⟩, _⟩
      · exact .inr h1
      · cases xs <;> simp [handed] at hn, (hF i hi).2⟩)
    refine ⟨H, φ, ?_, ?_, fun m i hi => .inl ⟨m, hi⟩⟩
    · have := k.1
      cases xs <;> exact this
    · cases xs <;> rfl
  | _ :: _, [], vs, x, y, G, hl, hr, ha, hw, hF, hG, hFG, hZ, hh => by simp [readPs] at hr
  | _ :: _, _ :: _, [], x, y, G, hl, hr, ha, hw, hF, hG, hFG, hZ, hh => ha.elim
  | (k, t) :: ps, a :: xs, v :: vs, x, y, G, hl, hr, ha, hw, hF, hG, hFG, hZ, hh => by
    have hr0 := hr
    simp only [readPs] at hr
    split at hr
    rotate_left
    · cases hr
    rename_i d r h1 h2
    by_cases hk : k = .val
    · subst hk
      exact writePs_ok hB h rs ps xs vs r y G hl h2 ha.2 hw hF hG hFG hZ hh
    have e1 := handed_io hk t ps a xs
    obtain ⟨dp, hkd, hwhich, how⟩ := readP_io h (Zc := zone B w φ) (fun _ _ h => h) hk h1 ha.1
    have hlx := readPs_length h2
    rcases hwhich with ⟨rfl, e, rfl⟩ | ⟨n, b0, hn, hx, hHn⟩
    · have e2 : handed ((k, .slice e) :: ps) (.c .nil :: xs) = handed ps xs := by rw [e1]; rfl
      rw [e2] at hl hw hF hG
      rcases hkd with rfl | rfl
      · obtain ⟨v', r', F1, F2, ev, s1, s2, s3, o1, o2⟩ := hh
        obtain ⟨rfl, rfl⟩ := List.cons.inj ev
        obtain ⟨H', φ', k1, k2, k3⟩ := writePs_ok hB h rs ps xs vs r (Sig.tl _ _ y) F2 hl h2 ha.2 hw (fun b hb => ⟨by
            rcases (hF b hb).1 with h1 | ⟨_, h1⟩
            · exact .inl h1
            · exact absurd h1 (List.cons_ne_nil _ _), (hF b hb).2⟩) (fun b hb => hG b (s2 b hb)) (fun b hb h2 => hFG b hb (s2 b h2)) (fun i hi hz => let q := hZ i hi hz; ⟨q.1, q.2.1, fun h2 => q.2.2 (s2 i h2)⟩)
            (by rw [fst_tl] at o2; exact o2)
        exact ⟨H', φ', k1, k2, fun m i hi => (k3 m i hi).imp id (s2 i)⟩
      · exact writePs_ok hB h rs ps xs vs r y G hl h2 ha.2 hw hF hG hFG hZ hh
    · have e2 : handed ((k, t) :: ps) (a :: xs) = n :: handed ps xs := by
        rw [e1]; rcases hx with ⟨rfl, _⟩ | ⟨rfl, _⟩ <;> rfl
      have e3 : handed ps xs = [] := by
        rw [e2] at hl; exact List.eq_nil_of_length_eq_zero (by simpa using hl)
      rw [e2, e3] at hw hF hG
      have hw' : Fr (φ n) w w' := ⟨hw.os, hw.tape, hw.output, hw.size, fun b hb hnb => hw.block b hb (by rintro ⟨m, hm, hb'⟩; simp at hm; subst hm; exact hnb hb'), hw.glob⟩
      rcases hkd with rfl | rfl
      · obtain ⟨v', r', F1, F2, ev, s1, s2, s3, o1, o2⟩ := hh
        obtain ⟨rfl, rfl⟩ := List.cons.inj ev
        have o1 : OwTop B.P dp t w' Z' F1 v (Sig.hd (.io dp, t) (Sig.ios ps ++ rs) y) := by rw [fst_hd] at o1; exact o1
        have hF1 : ∀ i, F1 i → (φ n i ∨ w.heap.size ≤ i) ∧ i < w'.heap.size := fun i hi => by
          refine ⟨?_, (hG i (s1 i hi)).2⟩
          rcases (hG i (s1 i hi)).1 with ⟨m, hm, hb⟩ | h2
          · simp at hm; subst hm; exact .inl hb
          · exact .inr h2
        have hFf : ∀ i, F i → w.heap.size ≤ i ∧ i < w'.heap.size := fun i hi => by
          refine ⟨?_, (hF i hi).2⟩
          rcases (hF i hi).1 with h1 | ⟨_, h1⟩
          · exact h1
          · cases h1
        have hzone : ∀ i, i < w'.heap.size → Z' i → ∀ C' : Cx, (∀ i, i < w'.heap.size → ((B.Z0 i ∧ i < w.heap.size) ∨ B.w0.heap.size ≤ i) → (∀ m, m ≠ n → ¬ φ m i) → ¬ F i → ¬ F1 i → C'.Z i) → C'.Z i := fun i hi hz C' hC => by
          obtain ⟨q1, q2, q3⟩ := hZ i hi hz
          refine hC i hi ?_ (fun m _ hm => ?_) q2 (fun h1 => q3 (s1 i h1))
          · rcases q1 with q1 | q1
            · rcases q1.1 with q | q
              · exact .inl ⟨q, q1.2.1⟩
              · exact .inr q
            · exact .inr (Nat.le_trans h.mem.fr.size q1)
          · rcases q1 with q1 | q1
            · exact q1.2.2.2 m hm
            · have := (h.mem.fsub m i hm).2; omega
        rcases hx with ⟨rfl, e, rfl⟩ | ⟨rfl, ⟨pa, rfl⟩, _⟩
        · simp only [readP, hn] at h1
          split at h1
          rotate_left
          · cases h1
          rename_i d' e' xs0 hb0
          obtain rfl := Option.some.inj hb0
          obtain ⟨hg, hc⟩ := bif_none h1
          obtain ⟨rfl, rfl⟩ := Ty.castL?_spec hc
          have hdd : dp = d' := by simpa using (and_b hg).1
          subst hdd
          have hmk : mkd dp e' = false := mkd_of (and_b hg).2
          obtain ⟨v0, hv0, hrow0⟩ := h.mem.blk n _ hn
          have : v0 = v := by rw [hv0] at hHn; exact Option.some.inj hHn
          subst this
          have hlen : (Sig.hd (.io dp, .slice e') (Sig.ios ps ++ rs) y).length = d.length := by
            obtain ⟨A, cap, ev1, _⟩ := o1
            obtain ⟨A', cap', ev2, _⟩ := hrow0
            rw [ev2] at ev1
            injection ev1 with _ h2 _
            exact h2.symm
          have hk := Rel.stepIo hB h (b := .row dp e' (Sig.hd (.io dp, .slice e') (Sig.ios ps ++ rs) y)) hn hw' (R2 := F) (F := F1) hF1 hFf (fun i hi h1 => hFG i hi (s1 i h1))
            (by simp only [lenOf, look_set_same, hn]; rw [hlen]) (fun v' C' hv' hle hw1 hP hz => by
              have : v' = v0 := by rw [hv0] at hv'; exact (Option.some.inj hv').symm
              subst this
              show RowOf C'.P (mkd _ _) _ _ C'.w C'.Z F1 _ _
              rw [hP, hw1, hmk]
              exact RowOf.agree o1 (fun i hi hzi => hzone i hi hzi C' hz) (Agree.refl _ _) (fun _ h => h) (Agree.refl _ _))
          have ew : writePs ((.io dp, .slice e') :: ps) (.c (.own n) :: xs) rs y σ = (σ.setBlk n (.row dp e' (Sig.hd (.io dp, .slice e') (Sig.ios ps ++ rs) y)), Sig.snd (Sig.ios ps) rs (Sig.tl (.io dp, .slice e') (Sig.ios ps ++ rs) y)) := by
            rw [← writePs_none ps xs rs _ _ e3 hlx]
            exact writePs_own hn ps xs rs y
          rw [ew]
          refine ⟨H, _, hk.1, rfl, fun m i hi => ?_⟩
          rcases hi with ⟨_, h1⟩ | ⟨_, h1⟩
          · exact .inr (s1 i h1)
          · exact .inl ⟨m, h1⟩
        · simp only [readP, hn] at h1
          split at h1
          rotate_left
          · cases h1
          rename_i cs hb0
          obtain rfl := Option.some.inj hb0
          obtain ⟨hd, hc⟩ := bif_none h1
          have ew : writePs ((.io dp, .ptr pa) :: ps) (.c (.ptr n 0) :: xs) rs y σ = (σ.setBlk n (.box (pa.flat (Sig.hd (.io dp, .ptr pa) (Sig.ios ps ++ rs) y) [])), Sig.snd (Sig.ios ps) rs (Sig.tl (.io dp, .ptr pa) (Sig.ios ps ++ rs) y)) := by
            rw [← writePs_none ps xs rs _ _ e3 hlx]
            rfl
          have hk := Rel.stepIo hB h (b := .box (pa.flat (Sig.hd (.io dp, .ptr pa) (Sig.ios ps ++ rs) y) [])) hn hw' (R2 := F) (F := F1) hF1 hFf (fun i hi h1 => hFG i hi (s1 i h1))
            (by simp only [lenOf, look_set_same, hn]) (fun v' C' hv' hle hw1 hP hz => by
              have : v' = v := by rw [hHn] at hv'; exact (Option.some.inj hv').symm
              subst this
              obtain ⟨g, us, ety, F', ep, hg, hh1, hs', ho⟩ := o1
              refine ⟨g, us, ety, ep, hg, by rw [hw1]; exact hh1, ?_⟩
              have hrd := RdC.mono (Z' := C'.Z) (fun i hi hzi => hzone i hi hzi C' hz) (OwC.flatOK hd ho)
              rw [← hP, ← hw1] at hrd
              exact flat_rel' hrd)
          rw [ew]
          refine ⟨H, _, hk.1, rfl, fun m i hi => ?_⟩
          rcases hi with ⟨_, h1⟩ | ⟨_, h1⟩
          · exact .inr (s1 i h1)
          · exact .inl ⟨m, h1⟩
      · rcases hx with ⟨rfl, e, rfl⟩ | ⟨_, _, hq⟩
        rotate_left
        · cases hq
        have ew : writePs ((.eat dp, .slice e) :: ps) (.c (.own n) :: xs) rs y σ = (σ.kill n, Sig.snd (Sig.ios ps) rs y) := by
          exact writePs_none ps xs rs y (σ.kill n) e3 hlx
        have hk := h.killR n hn
        have hs := Rel.step (B := B) (R1 := fun i => B.R i ∨ φ n i) (R2 := F) hk (Fr.mk hw'.os hw'.tape hw'.output hw'.size (fun b hb hnb => hw'.block b hb fun hp => hnb (.inr hp)) hw'.glob) (fun i hi => ⟨by
          rcases (hF i hi).1 with h1 | ⟨⟨m, hm, hb⟩, _⟩
          · exact .inr h1
          · simp at hm; subst hm; exact .inl (.inr hb), (hF i hi).2⟩)
        rw [ew]
        exact ⟨_, _, hs.1, rfl, fun m i hi => .inl ⟨m, hi.2⟩⟩

/-- what is eaten is gone -/
def eatAll : List Nat → St → St
  | [], σ => σ
  | n :: r, σ => eatAll r (σ.kill n)
theorem writePs_eats (rs : List (PK × Ty)) {bsR : List (Nat × Blk)} : ∀ (ps : List (PK × Ty)) (xs : List A) (x : Sig.den ps) (y : Sig.den (Sig.ios ps ++ rs)) (bs : List (Nat × Blk)) (σ : St), Sig.ios ps = [] → readPs E bs bsR ps xs = some x → writePs ps xs rs y σ = (eatAll (handed ps xs) σ, Sig.snd (Sig.ios ps) rs y)
  | [], xs, x, y, bs, σ, _, hr => by cases xs <;> rfl
  | _ :: _, [], x, y, bs, σ, _, hr => by simp [readPs] at hr
  | (k, t) :: ps, a :: xs, x, y, bs, σ, hi, hr => by
    simp only [readPs] at hr
    split at hr
    rotate_left
    · cases hr
    rename_i d r h1 h2
    cases k with
    | val => exact writePs_eats rs ps xs r y bs σ hi h2
    | io d => cases hi
    | eat d =>
      have hi' : Sig.ios ps = [] := hi
      cases a with
      | c c =>
        cases c with
        | own n => exact writePs_eats rs ps xs r y bs (σ.kill n) hi' h2
        | ptr n o =>
          cases t with
          | ptr a =>
            cases o with
            | zero =>
              simp only [readP] at h1
              split at h1
              · cases h1
              · cases h1
            | succ o => simp [readP] at h1
          | _ => simp [readP] at h1
        | _ => exact writePs_eats rs ps xs r y bs σ hi' h2
      | _ => exact writePs_eats rs ps xs r y bs σ hi' h2

theorem eatAll_rel {B0 : Base} : ∀ (ns : List Nat) (σ : St) (R : Nat → Prop) (H : Nat → Option Value) (φ : Nat → Nat → Prop), Rel (B0.on R) σ tm w H φ → nodupB ns = true → (∀ n ∈ ns, ∃ b, look n σ.blks = some b) →
    ∃ H' φ', Rel (B0.on fun i => R i ∨ ∃ n ∈ ns, φ n i) (eatAll ns σ) tm w H' φ' ∧ ∀ m i, φ' m i → φ m i
  | [], σ, R, H, φ, h, _, _ => by
    refine ⟨H, φ, ?_, fun _ _ h => h⟩
    have e : (fun i => R i ∨ ∃ n ∈ ([] : List Nat), φ n i) = R := by funext i; simp
    rw [e]; exact h
  | n :: ns, σ, R, H, φ, h, hd, hl => by
    obtain ⟨b, hb⟩ := hl n (by simp)
    obtain ⟨hn, hd'⟩ := nodupB_cons hd
    have hk := h.killR n hb
    obtain ⟨H', φ', k1, k2⟩ := eatAll_rel ns (σ.kill n) _ _ _ hk hd' (fun m hm => by
      have hne : m ≠ n := fun e => hn (e ▸ hm)
      obtain ⟨b', hb'⟩ := hl m (by simp [hm])
      cases hq : look m (σ.kill n).blks with
      | some b'' => exact ⟨b'', rfl⟩
      | none =>
        obtain ⟨_, _, _, _, _, h5, _⟩ := h.kill n
        rw [(h5 m hne).1 hq] at hb'
        cases hb')
    refine ⟨H', φ', ?_, fun m i hi => (k2 m i hi).2⟩
    have e : (fun i => ((B0.on R).R i ∨ φ n i) ∨ ∃ m ∈ ns, m ≠ n ∧ φ m i) = fun i => R i ∨ ∃ m ∈ n :: ns, φ m i := by
      funext i
      apply propext
      constructor
      · rintro ((h1 | h1) | ⟨m, hm, _, h1⟩)
        · exact .inl h1
        · exact .inr ⟨n, by simp, h1⟩
        · exact .inr ⟨m, by simp [hm], h1⟩
      · rintro (h1 | ⟨m, hm, h1⟩)
        · exact .inl (.inl h1)
        · rcases List.mem_cons.1 hm with rfl | hm
          · exact .inl (.inr h1)
          · exact .inr ⟨m, hm, fun e => hn (e ▸ hm), h1⟩
    have k1' : Rel (B0.on fun i => ((B0.on R).R i ∨ φ n i) ∨ ∃ m ∈ ns, m ≠ n ∧ φ m i) (eatAll ns (σ.kill n)) tm w H' φ' := k1
    rw [e] at k1'
    exact k1'

/-- the state behind a call that eats several blocks -/
theorem writePs_many (hB : B.R = NoB) (h : Rel B σ tm w H φ) {bsR : List (Nat × Blk)} {F : Nat → Prop} (rs : List (PK × Ty)) (ps : List (PK × Ty)) (xs : List A) (x : Sig.den ps) (y : Sig.den (Sig.ios ps ++ rs)) (hi : Sig.ios ps = []) (hd : nodupB (handed ps xs) = true)
    (hr : readPs E σ.blks bsR ps xs = some x) (hlk : ∀ n ∈ handed ps xs, ∃ b, look n σ.blks = some b) (hw : Fr (fun b => ∃ n ∈ handed ps xs, φ n b) w w') (hF : ∀ b, F b → (w.heap.size ≤ b ∨ ((∃ n ∈ handed ps xs, φ n b) ∧ Sig.ios ps = [])) ∧ b < w'.heap.size) :
    ∃ H' φ', Rel (B.on F) (writePs ps xs rs y σ).1 tm w' H' φ' ∧ (writePs ps xs rs y σ).2 = Sig.snd _ _ y ∧ ∀ m i, φ' m i → ∃ k, φ k i := by
  have h' : Rel (B.on NoB) σ tm w H φ := by
    have : B.on NoB = B := by rw [← hB]
    rw [this]; exact h
  obtain ⟨H', φ', k1, k2⟩ := eatAll_rel (handed ps xs) σ NoB H φ h' hd hlk
  have ew := writePs_eats (E := E) rs ps xs x y σ.blks σ hi hr
  have hs := Rel.step (B := B) (R1 := fun i => NoB i ∨ ∃ n ∈ handed ps xs, φ n i) (R2 := F) k1 ⟨hw.os, hw.tape, hw.output, hw.size, fun b hb hnb => hw.block b hb fun hp => hnb (.inr hp), hw.glob⟩ (fun i hi => ⟨by
    rcases (hF i hi).1 with h1 | ⟨h1, _⟩
    · exact .inr h1
    · exact .inl (.inr h1), (hF i hi).2⟩)
  rw [ew]
  exact ⟨H', φ', hs.1, rfl, fun m i hi => ⟨m, k2 m i hi⟩⟩

end
end Go.Proofs.YtklfnbckoaphpaaGreatDoor
