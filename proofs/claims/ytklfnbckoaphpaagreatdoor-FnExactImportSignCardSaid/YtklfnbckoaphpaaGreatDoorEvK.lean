/- Operations that leave memory alone, the rest of them. No conditions. -/
import Derived.Test.YtklfnbckoaphpaaGreatDoorEvJ
import Derived.Laws.Small
import Derived.Laws.StructEq
set_option linter.unusedVariables false
set_option linter.unusedSimpArgs false
namespace Go.Proofs.YtklfnbckoaphpaaGreatDoor
open Go

section
variable {B : Base} {E : Env} {σ : St} {a : Act} {w : World} {H : Nat → Option Value} {φ : Nat → Nat → Prop}

theorem ikEq_spec {a b : IntKind} {h : PLift (a = b)} (_ : ikEq a b = some h) : a = b := h.down

theorem binInt_ok (P : Program) {op : BinOp} {k : IntKind} {x y : Int} {c : Cell} (hb : binInt op k x y = some (true, c)) (t : TypeId) : ∃ v, (∀ C, CellRel C c v) ∧ ∀ w, (binOp op t (.int k x) (.int k y)).run P w = .ok v w := by
  cases op <;> simp only [binInt, bitsOp, Option.some.injEq, Prod.mk.injEq, true_and] at hb
  case add => subst hb; exact ⟨_, fun _ => rfl, fun w => by simp [binOp, Op.intArith]⟩
  case sub => subst hb; exact ⟨_, fun _ => rfl, fun w => by simp [binOp, Op.intArith]⟩
  case mul => subst hb; exact ⟨_, fun _ => rfl, fun w => by simp [binOp, Op.intArith]⟩
  case quo =>
    obtain ⟨hy, rfl⟩ := hb
    have hy' : y ≠ 0 := by simpa using hy
    exact ⟨_, fun _ => rfl, fun w => by simp [binOp, Op.intDiv, hy']⟩
  case rem =>
    obtain ⟨hy, rfl⟩ := hb
    have hy' : y ≠ 0 := by simpa using hy
    exact ⟨_, fun _ => rfl, fun w => by simp [binOp, Op.intDiv, hy']⟩
  case eql => subst hb; exact ⟨_, fun _ => rfl, fun w => by simp [binOp, Op.intCmp]⟩
  case neq => subst hb; exact ⟨_, fun _ => rfl, fun w => by simp [binOp, Op.intCmp]⟩
  case lss => subst hb; exact ⟨_, fun _ => rfl, fun w => by simp [binOp, Op.intCmp]⟩
  case leq => subst hb; exact ⟨_, fun _ => rfl, fun w => by simp [binOp, Op.intCmp]⟩
  case gtr => subst hb; exact ⟨_, fun _ => rfl, fun w => by simp [binOp, Op.intCmp]⟩
  case geq => subst hb; exact ⟨_, fun _ => rfl, fun w => by simp [binOp, Op.intCmp]⟩
  case and => subst hb; exact ⟨_, fun _ => rfl, fun w => by simp [binOp, Op.intBits]⟩
  case or => subst hb; exact ⟨_, fun _ => rfl, fun w => by simp [binOp, Op.intBits]⟩
  case xor => subst hb; exact ⟨_, fun _ => rfl, fun w => by simp [binOp, Op.intBits]⟩
  case andNot => subst hb; exact ⟨_, fun _ => rfl, fun w => by simp [binOp, Op.intBits]⟩
  all_goals (cases hb)

theorem shift_ok (P : Program) {op : BinOp} {k k' : IntKind} {x y z : Int} (hb : shiftOp op k x y = some z) (h0 : 0 ≤ y) (t : TypeId) (w : World) : (binOp op t (.int k x) (.int k' y)).run P w = .ok (.int k z) w := by
  have hn : ¬ y < 0 := by omega
  cases op <;> simp only [shiftOp] at hb <;> first | cases hb | skip
  · simp [binOp, Op.shift, hn]
  · simp [binOp, Op.shift, hn]

theorem binStr_ok (P : Program) {op : BinOp} {x y : ByteArray} {c : Cell} (hb : binStr op x y = some (true, c)) (t : TypeId) : ∃ v, (∀ C, CellRel C c v) ∧ ∀ w, (binOp op t (.string x) (.string y)).run P w = .ok v w := by
  cases op <;> simp only [binStr, Option.some.injEq, Prod.mk.injEq, true_and] at hb
  case add =>
    obtain ⟨hy, rfl⟩ := hb
    have hy' : ¬ (IntKind.i64.max < ((x.size + y.size : Nat) : Int)) := by
      have h1 := of_decide_eq_true hy
      have h2 : IntKind.i64.max = 9223372036854775807 := by decide
      omega
    exact ⟨.string (x ++ y), fun _ => rfl, fun w => by simp only [binOp, Op.stringOp]; rw [if_neg hy']; rfl⟩
  case eql => subst hb; exact ⟨_, fun _ => rfl, fun w => by simp [binOp, Op.stringOp]⟩
  case neq => subst hb; exact ⟨_, fun _ => rfl, fun w => by simp [binOp, Op.stringOp]⟩
  case lss => subst hb; exact ⟨_, fun _ => rfl, fun w => by simp [binOp, Op.stringOp]⟩
  case leq => subst hb; exact ⟨_, fun _ => rfl, fun w => by simp [binOp, Op.stringOp]⟩
  case gtr => subst hb; exact ⟨_, fun _ => rfl, fun w => by simp [binOp, Op.stringOp]⟩
  case geq => subst hb; exact ⟨_, fun _ => rfl, fun w => by simp [binOp, Op.stringOp]⟩
  all_goals (cases hb)

theorem tinf_eq {P : Program} {t : Nat} {i : TInf} (h : tinf P t = some i) (he : i.eq = true) : P.stoodInHeld t = false ∧ P.eqGuardType P.depth t = false := by
  unfold tinf at h
  split at h
  · simp only [Option.some.injEq] at h
    subst h
    simpa using he
  · cases h
theorem partA_ok (hE : EnvOK B.P E) {C : Cx} {t off : Nat} {j : TInf} (hj : E.T t = some j) {cs : List Cell} {us : Array Value} (ha : All2 (CellRel C) cs us.toList) {y : A} (hy : partA j off cs = some y) :
    ∃ v, ARel C y v ∧ ∀ w', (part t us off).run B.P w' = .ok v w' := by
  unfold partA at hy
  obtain ⟨hlen, hy⟩ := bif_none hy
  refine part_ok hE hj ha hlen ?_
  cases hagg : isAggD j.desc with
  | true => rw [hagg] at hy; simp only [cond_true, Option.some.injEq] at hy; simp only [cond_true, hy]
  | false =>
    rw [hagg] at hy
    simp only [cond_false] at hy ⊢
    split at hy
    · rename_i z hz
      simp only [Option.some.injEq] at hy
      subst hy
      rw [hz]
    · cases hy
theorem eqFs_ok (hE : EnvOK B.P E) {f : Nat → A → A → Option Bool} {n : Nat} {C : Cx}
    (hf : ∀ t x y r u v, f t x y = some r → ARel C x u → ARel C y v → ∀ w, (Op.equalIn n t u v).run B.P w = .ok r w) {cs ds : List Cell} {us vs : Array Value} (ha : All2 (CellRel C) cs us.toList) (hb : All2 (CellRel C) ds vs.toList) :
    ∀ (fs : List Field) (r : Bool), eqFs E f cs ds fs = some r → ∀ w, (Op.eqFields n us vs fs).run B.P w = .ok r w
  | [], r, h, w => by
    simp only [eqFs, Option.some.injEq] at h
    subst h
    rfl
  | fl :: fs, r, h, w => by
    simp only [eqFs] at h
    cases hn : (fl.name == "_") with
    | true => rw [hn] at h; cases h
    | false =>
      rw [hn] at h
      simp only [cond_false] at h
      have hn' : fl.name ≠ "_" := by simpa using hn
      split at h
      · cases h
      rename_i j hj
      split at h
      · rename_i x y hx hy
        split at h
        · rename_i b c hb1 hc1
          simp only [Option.some.injEq] at h
          subst h
          obtain ⟨u, hu, ru⟩ := partA_ok hE hj ha hx
          obtain ⟨v, hv, rv⟩ := partA_ok hE hj hb hy
          have h1 := hf _ _ _ _ _ _ hb1 hu hv
          have h2 := eqFs_ok hE hf ha hb fs c hc1
          simp only [Op.eqFields, if_pos hn', Sem.run_bind, ru, rv, h1, Result.andThen_ok]
          cases b
          · simp only [Bool.not_false, if_true, Sem.run_pure, Bool.false_and]
          · simp only [Bool.not_true, Bool.false_eq_true, if_false, h2, Bool.true_and]
        · cases h
      · cases h
theorem eqA_ok (hE : EnvOK B.P E) {C : Cx} (n : Nat) : ∀ (d t : Nat) (x y : A) (r : Bool) (u v : Value), eqA E d t x y = some r → ARel C x u → ARel C y v → ∀ w, (Op.equalIn (d + n) t u v).run B.P w = .ok r w
  | 0, t, x, y, r, u, v, h, hx, hy, w => by cases h
  | d + 1, t, x, y, r, u, v, h, hx, hy, w => by
    rw [show d + 1 + n = (d + n) + 1 by omega]
    simp only [eqA] at h
    split at h
    · cases h
    rename_i i hi
    obtain ⟨_, _, _, _, _, hu⟩ := tinf_spec (hE.T t i hi)
    split at h
    · rename_i hd
      rw [hd] at hu
      split at h
      · simp only [Option.some.injEq] at h
        subst h
        obtain rfl : u = _ := hx
        obtain rfl : v = _ := hy
        exact run_equalIn_bool' w _ t _ _ hu
      · cases h
    · rename_i hd
      rw [hd] at hu
      split at h
      · split at h
        · rename_i hk _
          simp only [Option.some.injEq] at h
          subst h
          obtain rfl := hk.down
          obtain rfl : u = _ := hx
          obtain rfl : v = _ := hy
          exact run_equalIn_int w _ t _ _ _ _ hu
        · cases h
      · cases h
    · rename_i hd
      rw [hd] at hu
      split at h
      · simp only [Option.some.injEq] at h
        subst h
        obtain rfl : u = _ := hx
        obtain rfl : v = _ := hy
        exact run_equalIn_string w _ t _ _ hu
      · cases h
    · rename_i fs hd
      rw [hd] at hu
      split at h
      · obtain ⟨he, h⟩ := bif_none h
        obtain ⟨us, rfl, ha⟩ := hx
        obtain ⟨vs, rfl, hb⟩ := hy
        have hfs : B.P.fieldsOf t = fs := by simp only [Program.fieldsOf, hu]
        rw [run_equalIn_struct w _ t us vs (by rw [hfs]; exact hu) (tinf_eq (hE.T t i hi) he).1, hfs]
        exact eqFs_ok hE (fun t x y r u v h hx hy w => eqA_ok hE n d t x y r u v h hx hy w) ha hb _ _ h w
      · cases h
    · cases h
theorem eqA_guard {d t : Nat} {cs ds : List Cell} {r : Bool} (hE : EnvOK B.P E) (h : eqA E d t (.agg cs) (.agg ds) = some r) : B.P.eqGuardType B.P.depth t = false := by
  cases d with
  | zero => cases h
  | succ d =>
    simp only [eqA] at h
    split at h
    · cases h
    rename_i i hi
    split at h
    · cases h
    · cases h
    · cases h
    · exact (tinf_eq (hE.T t i hi) (bif_none h).1).2
    · cases h

theorem ov_binOp (hE : EnvOK B.P E) (h : Rel B σ a.tmps w H φ) {o : Oper} {op : BinOp} {t t' : Nat} {x y : Operand} (ho : o.op = .binOp op t x y t') {z : A} (hv : opVal E σ (.binOp op t x y t') = some (true, z)) : ValOK B.P (B.at σ w H φ) a o z := by
  simp only [opVal] at hv
  split at hv
  · rename_i k i k' j ex ey
    have hx := h.int ex
    have hy := h.int ey
    split at hv
    · rename_i s hs
      simp only [Option.some.injEq, Prod.mk.injEq] at hv
      obtain ⟨h0, rfl⟩ := hv
      have hrun := fun w => shift_ok B.P (k' := k') hs (of_decide_eq_true h0) t w
      exact ⟨.int k s, rfl, fun w' _ => by simp [execOp, ho, hx, hy, run_eqGuard_plain, hrun]⟩
    · split at hv
      · rename_i hk hk'
        have := ikEq_spec hk'
        subst this
        split at hv
        · rename_i g c hb
          simp only [Option.some.injEq, Prod.mk.injEq] at hv
          obtain ⟨rfl, rfl⟩ := hv
          obtain ⟨v, hr, hrun⟩ := binInt_ok B.P hb t
          exact ⟨v, hr _, fun w' _ => by simp [execOp, ho, hx, hy, run_eqGuard_plain, hrun]⟩
        · cases hv
      · cases hv
  · rename_i s u ex ey
    split at hv
    · rename_i g c hb
      simp only [Option.some.injEq, Prod.mk.injEq] at hv
      obtain ⟨rfl, rfl⟩ := hv
      obtain ⟨v, hr, hrun⟩ := binStr_ok B.P hb t
      have hx := h.str ex
      have hy := h.str ey
      exact ⟨v, hr _, fun w' _ => by simp [execOp, ho, hx, hy, run_eqGuard_plain, hrun]⟩
    · cases hv
  · rename_i p q ex ey
    have hx := h.bool ex
    have hy := h.bool ey
    split at hv
    · rename_i ti ht
      split at hv
      · rename_i hd
        obtain ⟨_, _, _, _, _, hu⟩ := tinf_spec (hE.T t ti ht)
        rw [hd] at hu
        split at hv
        · simp only [Option.some.injEq, Prod.mk.injEq, true_and] at hv
          subst hv
          refine ⟨.bool (p == q), rfl, fun w' _ => ?_⟩
          simp [execOp, ho, hx, hy, run_eqGuard_plain, binOp, run_equal_bool _ _ _ _ hu]
        · simp only [Option.some.injEq, Prod.mk.injEq, true_and] at hv
          subst hv
          refine ⟨.bool (!(p == q)), rfl, fun w' _ => ?_⟩
          simp [execOp, ho, hx, hy, run_eqGuard_plain, binOp, run_equal_bool _ _ _ _ hu]
        · cases hv
      · cases hv
    · cases hv
  · rename_i cs ds ex ey
    have hx := h.eval x
    have hy := h.eval y
    rw [ex] at hx
    rw [ey] at hy
    split at hv
    · rename_i r hr
      have hg := eqA_guard hE hr
      have hq := eqA_ok hE (C := B.at σ w H φ) 9980 20 t _ _ r _ _ hr hx hy
      obtain ⟨us, ea, _⟩ := hx
      obtain ⟨vs, eb, _⟩ := hy
      rw [ea, eb] at hq
      split at hv
      · simp only [Option.some.injEq, Prod.mk.injEq, true_and] at hv
        subst hv
        refine ⟨.bool r, rfl, fun w' _ => ?_⟩
        have hb : (binOp .eql t (.agg us) (.agg vs)).run B.P w' = .ok (.bool r) w' := by rw [run_eql_struct, hq]; rfl
        simp [execOp, ho, ea, eb, run_eqGuard_agg _ _ _ _ _ _ _ hg, hb]
      · simp only [Option.some.injEq, Prod.mk.injEq, true_and] at hv
        subst hv
        refine ⟨.bool (!r), rfl, fun w' _ => ?_⟩
        have hb : (binOp .neq t (.agg us) (.agg vs)).run B.P w' = .ok (.bool (!r)) w' := by rw [run_neq_struct, hq]; rfl
        simp [execOp, ho, ea, eb, run_eqGuard_agg _ _ _ _ _ _ _ hg, hb]
      · cases hv
    · cases hv
  · cases hv

theorem ov_unOp (h : Rel B σ a.tmps w H φ) {o : Oper} {op : UnOp} {t : Nat} {x : Operand} (ho : o.op = .unOp op t x) {z : A} (hv : opVal E σ (.unOp op t x) = some (true, z)) : ValOK B.P (B.at σ w H φ) a o z := by
  simp only [opVal] at hv
  split at hv
  · rename_i b ex
    have hx := h.bool ex
    simp only [Option.some.injEq, Prod.mk.injEq, true_and] at hv
    subst hv
    exact ⟨.bool (!b), rfl, fun w' _ => by simp [execOp, ho, hx, Op.unary]⟩
  · rename_i k n ex
    have hx := h.int ex
    simp only [Option.some.injEq, Prod.mk.injEq, true_and] at hv
    subst hv
    exact ⟨.int k (k.wrap (0 - n)), rfl, fun w' _ => by simp [execOp, ho, hx, Op.unary, Op.intArith]⟩
  · cases hv

theorem bytes_loop (P : Program) (w : World) : ∀ (ns : List Int) (s : ByteArray),
    (forIn (ns.map fun n => Value.int .u8 n) s (fun c s => do
      let .int .u8 n := c | stuck "bytesToString: byte expected"
      pure (ForInStep.yield (s.push (UInt8.ofNat n.toNat))) : Value → ByteArray → Sem (ForInStep ByteArray))).run P w = .ok ⟨(s.data.toList ++ ns.map fun n => UInt8.ofNat n.toNat).toArray⟩ w
  | [], s => by simp
  | n :: ns, s => by
    simp only [List.map_cons, List.forIn_cons, Sem.run_bind, Sem.run_pure, Result.andThen_ok]
    rw [bytes_loop P w ns]
    simp [ByteArray.push]

theorem ov_extract (h : Rel B σ a.tmps w H φ) {o : Oper} {i : Nat} {x : Operand} (ho : o.op = .extract x i) {z : A} (hv : opVal E σ (.extract x i) = some (true, z)) : ValOK B.P (B.at σ w H φ) a o z := by
  simp only [opVal] at hv
  have hx := h.eval x
  split at hv
  · rename_i vs ex
    rw [ex] at hx
    obtain ⟨us, ea, hal⟩ := hx
    split at hv
    · rename_i cs hi
      simp only [Option.some.injEq, Prod.mk.injEq, true_and] at hv
      subst hv
      obtain ⟨u, hu, hr⟩ := hal.get i _ hi
      have hu' : us[i]? = some u := by simpa using hu
      exact ⟨u, hr, fun w' _ => by simp [execOp, ho, ea, Instr.extract, hu']⟩
    · rename_i y hi
      simp only [Option.some.injEq, Prod.mk.injEq, true_and] at hv
      subst hv
      obtain ⟨u, hu, hr⟩ := hal.get i _ hi
      have hu' : us[i]? = some u := by simpa using hu
      exact ⟨u, hr, fun w' _ => by simp [execOp, ho, ea, Instr.extract, hu']⟩
    · cases hv
  · cases hv

theorem capsOf_rel {C : Cx} : ∀ {xs : List A} {caps : List Cap} {vs : List Value}, capsOf xs = some caps → All2 (ARel C) xs vs → All2 (CapRel C) caps vs
  | [], caps, vs, h, ha => by
    simp only [capsOf, Option.some.injEq] at h
    subst h
    cases vs with
    | nil => trivial
    | cons _ _ => exact ha.elim
  | x :: xs, caps, [], h, ha => ha.elim
  | x :: xs, caps, v :: vs, h, ha => by
    unfold capsOf at h
    split at h
    · rename_i heq; cases heq
    · rename_i n r heq
      simp only [List.cons.injEq] at heq
      obtain ⟨rfl, rfl⟩ := heq
      split at h
      · rename_i l hl
        simp only [Option.some.injEq] at h
        subst h
        exact ⟨ha.1, capsOf_rel hl ha.2⟩
      · cases h
    · rename_i t d r heq
      simp only [List.cons.injEq] at heq
      obtain ⟨rfl, rfl⟩ := heq
      split at h
      · rename_i l hl
        simp only [Option.some.injEq] at h
        subst h
        exact ⟨ha.1, capsOf_rel hl ha.2⟩
      · cases h
    · cases h

theorem Rel.evals (h : Rel B σ a.tmps w H φ) : ∀ xs : List Operand, All2 (ARel (B.at σ w H φ)) (xs.map σ.eval) (xs.map a.eval)
  | [] => trivial
  | x :: xs => ⟨h.eval x, Rel.evals h xs⟩

theorem ov_makeFunc (h : Rel B σ a.tmps w H φ) {o : Oper} {f : Nat} {first captured : Array Operand} (ho : o.op = .makeFunc (.func f) first captured) {z : A} (hv : opVal E σ (.makeFunc (.func f) first captured) = some (true, z)) : ValOK B.P (B.at σ w H φ) a o z := by
  simp only [opVal] at hv
  split at hv
  · rename_i hf
    have hf' : first = #[] := by simpa using hf
    subst hf'
    split at hv
    · rename_i caps hc
      simp only [Option.some.injEq, Prod.mk.injEq, true_and] at hv
      subst hv
      refine ⟨.func (.func f) #[] (captured.map a.eval), ⟨_, rfl, ?_⟩, fun w' _ => by simp [execOp, ho, Instr.makeFunc]⟩
      have := capsOf_rel hc (h.evals captured.toList)
      simpa using this
    · cases hv
  · cases hv

theorem ov_nilCheck (h : Rel B σ a.tmps w H φ) {o : Oper} {x : Operand} (ho : o.op = .nilCheck x) {z : A} (hv : opVal E σ (.nilCheck x) = some (true, z)) : ValOK B.P (B.at σ w H φ) a o z := by
  simp only [opVal] at hv
  have hx := h.eval x
  split at hv
  · rename_i n o' ex
    rw [ex] at hx
    simp only [Option.some.injEq, Prod.mk.injEq, true_and] at hv
    subst hv
    obtain ⟨g, hg, ea⟩ := hx
    exact ⟨a.eval x, ⟨g, hg, ea⟩, fun w' _ => by simp [execOp, ho, ea]⟩
  · rename_i t d o' ex
    rw [ex] at hx
    simp only [Option.some.injEq, Prod.mk.injEq, true_and] at hv
    subst hv
    obtain ⟨b, o'', ea, hr⟩ := hx
    exact ⟨a.eval x, ⟨b, o'', ea, hr⟩, fun w' _ => by simp [execOp, ho, ea]⟩
  · rename_i n i o' ex
    rw [ex] at hx
    simp only [Option.some.injEq, Prod.mk.injEq, true_and] at hv
    subst hv
    obtain ⟨g, L, s, c, h1, h2, h3, ea⟩ := hx
    exact ⟨a.eval x, ⟨g, L, s, c, h1, h2, h3, ea⟩, fun w' _ => by simp [execOp, ho, ea]⟩
  · rename_i f caps ex
    rw [ex] at hx
    simp only [Option.some.injEq, Prod.mk.injEq, true_and] at hv
    subst hv
    obtain ⟨vs, ea, hal⟩ := hx
    exact ⟨a.eval x, ⟨vs, ea, hal⟩, fun w' _ => by simp [execOp, ho, ea]⟩
  · cases hv

end
end Go.Proofs.YtklfnbckoaphpaaGreatDoor
