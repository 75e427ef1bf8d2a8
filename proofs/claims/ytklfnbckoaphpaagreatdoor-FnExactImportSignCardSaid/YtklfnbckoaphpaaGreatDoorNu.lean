/- The specification's decimal numerals. No conditions. -/
import Derived.Test.YtklfnbckoaphpaaGreatDoorEvZk
import Derived.Test.YtklfnbckoaphpaaGreatDoorProg
import Derived.Deep.RegionHeld3
import Derived.Lib.ItoaMem
import Derived.WalkKit
set_option linter.unusedVariables false
set_option linter.unusedSimpArgs false
namespace Go.Proofs.YtklfnbckoaphpaaGreatDoor
open Go Go.RowKit
theorem conv1 (w : World) (b : Nat) (n : Int) (u : UInt8) (hu : n = (u.toNat : Int)) (h : w.cell? ⟨b, 0, none⟩ = some (.int .u8 n)) :
    (convert 119 9 (Value.slice (some { block := b, off := 0 }) 1 1)).run Tryz.prog w = .ok (.string ⟨[u].toArray⟩) w := by
  have hr : RdC Tryz.prog (.slice (.int .u8)) w (fun _ => True) [.slice (some ⟨b, 0, none⟩) 1 1] [n] := by
    refine ⟨some ⟨b, 0, none⟩, 1, rfl, by simp, fun _ => ⟨b, 0, rfl, World.block_lt_of_cell? w _ h, trivial, fun i hi => ?_⟩⟩
    have : i = 0 := by simpa using hi
    subst this
    refine ⟨[.int .u8 n], rfl, rfl, fun j v hj => ?_⟩
    have hj0 : j = 0 := by
      rcases Nat.eq_zero_or_pos j with e | e
      · exact e
      · rw [List.getElem?_eq_none (by simp; omega)] at hj; cases hj
    subst hj0
    simp at hj
    subst hj
    simpa [Ty.cells] using h
  have := run_bytesToString (w' := w) hr (Agree.refl _ _)
  have e : bytesStr [n] = ⟨[u].toArray⟩ := by subst hu; simp [bytesStr]
  rw [e] at this
  simp only [convert, Sem.run_bind, run_underlying (show Tryz.prog.underlying 119 = some (.slice 5) by kernel_rfl), run_underlying (show Tryz.prog.underlying 9 = some .string by kernel_rfl), run_underlying (show Tryz.prog.underlying 5 = some (.int .u8) by kernel_rfl), Result.andThen_ok]
  exact this
theorem cell_new (w : World) (v : Value) (t : TypeId) (k : Nat) : (w.alloc (Obj.cells #[v] t)).cell? ⟨w.heap.size, 0, none⟩ = some v := by
  unfold World.cell?
  rw [heap_alloc_new]
  rfl
theorem cell_new' (w : World) (v : Value) (t : TypeId) (k : Nat) : (w.alloc (Obj.cells #[v] t)).drew.cell? ⟨w.heap.size, 0, none⟩ = some v := cell_new w v t k
theorem decDigits_short (m : Nat) : (Lib.decDigits m).length ≤ m + 1 := by
  induction m using Nat.strongRecOn with
  | ind m ih =>
    by_cases h : m < 10
    · rw [Lib.decDigits_one h]; simp
    · rw [Lib.decDigits, dif_neg h]
      have := ih (m / 10) (by omega)
      simp only [List.length_append, List.length_singleton]
      omega
theorem app_one (a : List UInt8) (m : Nat) : (⟨a.toArray⟩ ++ ⟨#[48 + UInt8.ofNat m]⟩ : ByteArray) = ⟨(a ++ [UInt8.ofNat (48 + m)]).toArray⟩ := by
  apply ByteArray.ext
  simp
theorem digit_wrap (n : Nat) : IntKind.u8.wrap (IntKind.i64.wrap (48 + (n : Int) % 10)) = ((UInt8.ofNat (48 + n % 10)).toNat : Int) := by
  simp [IntKind.wrap, IntKind.bits, IntKind.signed]
  omega
set_option maxRecDepth 100000 in
set_option maxHeartbeats 1000000 in
theorem calls_l1Num : ∀ (n : Nat) (hn : n ≤ 9223372036854775807) (w : World), Calls Tryz.prog 226 #[.int .i64 (n : Int)] w fun e w' => e = .returned (.string ⟨(Lib.decDigits n).toArray⟩) ∧ Below w.heap.size w w' := by
  intro n
  induction n using Nat.strongRecOn with
  | ind n ih =>
    intro hn w
    by_cases h10 : n < 10
    · have h10' : (n : Int) < 10 := by omega
      have hc := conv1 (w.alloc (Obj.cells #[Value.int IntKind.u8 (48 + (n : Int))] 5)) w.heap.size (48 + (n : Int)) (UInt8.ofNat (48 + n)) (by simp; omega) (cell_new _ _ _ 0)
      go_enter Tryz.func226, Tryz.ntmps226
      go_wp2
      go_ret
      refine ⟨?_, Below.alloc (Below.refl _ _) (Nat.le_refl _) _⟩
      rw [Lib.decDigits_one h10]
      simp
    · have h10' : ¬ (n : Int) < 10 := by omega
      have hq : (n : Int).tdiv 10 = ((n / 10 : Nat) : Int) := by rw [Int.tdiv_eq_ediv_of_nonneg (by omega)]; omega
      have hr : (n : Int).tmod 10 = ((n % 10 : Nat) : Int) := by rw [Int.tmod_eq_emod_of_nonneg (by omega)]; omega
      have hlen : ¬ (9223372036854775807 < (Lib.decDigits (n / 10)).length + 1) := by have := decDigits_short (n / 10); omega
      go_enter Tryz.func226, Tryz.ntmps226
      go_wp2
      refine wp_region_held_drew (S := fun w' => Below w.heap.size w w') (by kernel_rfl) (Below.drew (Below.refl _ _)) (fun hHeld => ?_)
      refine wpAnyH_take (i := 0) (oi := ⟨some 10, _, _, _, _, _⟩) (v := ?_) rfl (by kernel_rfl) (by kernel_rfl) (by kernel_rfl) (fun _ _ _ h => h) (Or.inl ⟨by rfl, ?_⟩) (by assumption) ?_
      rotate_left
      · intro w1 hSw
        go_simp
        with_reducible rfl
      try simp only [Act.put, List.setIfInBounds_toArray, List.set_cons_zero, List.set_cons_succ]
      refine wpAnyH_take (i := 1) (oi := ⟨some 11, _, _, _, _, _⟩) (v := ?_) rfl (by kernel_rfl) (by kernel_rfl) (by kernel_rfl) (fun _ _ _ h => h) (Or.inl ⟨by rfl, ?_⟩) (by assumption) ?_
      rotate_left
      · intro w1 hSw
        go_simp
        with_reducible rfl
      try simp only [Act.put, List.setIfInBounds_toArray, List.set_cons_zero, List.set_cons_succ]
      refine wpAnyH_take (i := 3) (oi := ⟨some 13, _, _, _, _, _⟩) (v := ?_) rfl (by kernel_rfl) (by kernel_rfl) (by kernel_rfl) (fun _ _ _ h => h) (Or.inl ⟨by rfl, ?_⟩) (by assumption) ?_
      rotate_left
      · intro w1 hSw
        go_simp
        with_reducible rfl
      try simp only [Act.put, List.setIfInBounds_toArray, List.set_cons_zero, List.set_cons_succ]
      refine wpAnyH_take (i := 4) (oi := ⟨some 14, _, _, _, _, _⟩) (v := ?_) rfl (by kernel_rfl) (by kernel_rfl) (by kernel_rfl) (fun _ _ _ h => h) (Or.inl ⟨by rfl, ?_⟩) (by assumption) ?_
      rotate_left
      · intro w1 hSw
        go_simp
        with_reducible rfl
      try simp only [Act.put, List.setIfInBounds_toArray, List.set_cons_zero, List.set_cons_succ]
      refine wpAnyH_take (i := 5) (oi := ⟨some 15, _, _, _, _, _⟩) (v := ?_) rfl (by kernel_rfl) (by kernel_rfl) (by kernel_rfl) (fun _ _ _ h => h) (Or.inl ⟨by rfl, ?_⟩) (by assumption) ?_
      rotate_left
      · intro w1 hSw
        go_simp
        with_reducible rfl
      try simp only [Act.put, List.setIfInBounds_toArray, List.set_cons_zero, List.set_cons_succ]
      refine wpAnyH_take (i := 6) (oi := ⟨some 16, _, _, _, _, _⟩) (v := ?_) rfl (by kernel_rfl) (by kernel_rfl) (by kernel_rfl) (fun _ _ _ h => h) (Or.inl ⟨by rfl, ?_⟩) (by assumption) ?_
      rotate_left
      · intro w1 hSw
        go_simp
        with_reducible rfl
      try simp only [Act.put, List.setIfInBounds_toArray, List.set_cons_zero, List.set_cons_succ]
      refine wpAnyH_ready (rs := [2, 7]) (by kernel_rfl) (by simp) ?_
      refine AllReadyH.cons (i := 2) (o := ⟨some 12, _, _, _, _, _⟩) rfl (fun K hK => ?_) (AllReadyH.cons (i := 7) (o := ⟨some 17, _, _, _, _, _⟩) rfl (fun K hK => ?_) (AllReadyH.nil))
      · go_simp
        rw [show IntKind.i64.wrap ((n : Int) / 10) = ((n / 10 : Nat) : Int) from by simp [IntKind.wrap, IntKind.bits, IntKind.signed]; omega]
        refine (ih (n / 10) (by omega) (by omega) _).mono ?_
        rintro e w' ⟨rfl, hb⟩
        refine hK.out _ _ (Below.trans (by assumption) (Below.mono hb (Below.size (by assumption)))) (fun hHeld => ?_)
        clear hK K
        try simp only [Act.put, List.setIfInBounds_toArray, List.set_cons_zero, List.set_cons_succ]
        refine wpAnyH_ready (rs := [7]) (by kernel_rfl) (by simp) ?_
        refine AllReadyH.cons (i := 7) (o := ⟨some 17, _, _, _, _, _⟩) rfl (fun K hK => ?_) (AllReadyH.nil)
        · go_simp
          refine hK.out _ _ (Below.alloc (by assumption) (Below.size (by assumption)) _) (fun hHeld => ?_)
          clear hK K
          try simp only [Act.put, List.setIfInBounds_toArray, List.set_cons_zero, List.set_cons_succ]
          refine wpAnyH_ready (rs := [8]) (by kernel_rfl) (by simp) ?_
          refine AllReadyH.cons (i := 8) (o := ⟨some 18, _, _, _, _, _⟩) rfl (fun K hK => ?_) (AllReadyH.nil)
          · go_simp
            rw [conv1 _ _ _ _ (digit_wrap n) (cell_new _ _ _ 0)]
            simp only [Result.andThen]
            rw [Oper.upon_value]
            refine hK.out _ _ (by assumption) (fun hHeld => ?_)
            clear hK K
            try simp only [Act.put, List.setIfInBounds_toArray, List.set_cons_zero, List.set_cons_succ]
            refine wpAnyH_take (i := 9) (oi := ⟨some 19, _, _, _, _, _⟩) (v := ?_) rfl (by kernel_rfl) (by kernel_rfl) (by kernel_rfl) (fun _ _ _ h => h) (Or.inl ⟨by rfl, ?_⟩) (by assumption) ?_
            rotate_left
            · intro w1 hSw
              go_simp
              with_reducible rfl
            try simp only [Act.put, List.setIfInBounds_toArray, List.set_cons_zero, List.set_cons_succ]
            refine wpAnyH_take (i := 10) (oi := ⟨some 2, _, _, _, _, _⟩) (v := ?_) rfl (by kernel_rfl) (by kernel_rfl) (by kernel_rfl) (fun _ _ _ h => h) (Or.inl ⟨by rfl, ?_⟩) (by assumption) ?_
            rotate_left
            · intro w1 hSw
              go_simp
              with_reducible rfl
            try simp only [Act.put, List.setIfInBounds_toArray, List.set_cons_zero, List.set_cons_succ]
            refine wpAnyH_done (by kernel_rfl) ?_ _
            go_wp2
            go_ret
            refine ⟨?_, by assumption⟩
            rw [show Lib.decDigits n = Lib.decDigits (n / 10) ++ [UInt8.ofNat (48 + n % 10)] from by rw [Lib.decDigits, dif_neg h10]]
            exact congrArg (fun q => Ending.returned (Value.string q)) (app_one _ _)
      · go_simp
        refine hK.out _ _ (Below.alloc (by assumption) (Below.size (by assumption)) _) (fun hHeld => ?_)
        clear hK K
        try simp only [Act.put, List.setIfInBounds_toArray, List.set_cons_zero, List.set_cons_succ]
        refine wpAnyH_ready (rs := [2, 8]) (by kernel_rfl) (by simp) ?_
        refine AllReadyH.cons (i := 2) (o := ⟨some 12, _, _, _, _, _⟩) rfl (fun K hK => ?_) (AllReadyH.cons (i := 8) (o := ⟨some 18, _, _, _, _, _⟩) rfl (fun K hK => ?_) (AllReadyH.nil))
        · go_simp
          rw [show IntKind.i64.wrap ((n : Int) / 10) = ((n / 10 : Nat) : Int) from by simp [IntKind.wrap, IntKind.bits, IntKind.signed]; omega]
          refine (ih (n / 10) (by omega) (by omega) _).mono ?_
          rintro e w' ⟨rfl, hb⟩
          refine hK.out _ _ (Below.trans (by assumption) (Below.mono hb (Below.size (by assumption)))) (fun hHeld => ?_)
          clear hK K
          try simp only [Act.put, List.setIfInBounds_toArray, List.set_cons_zero, List.set_cons_succ]
          refine wpAnyH_ready (rs := [8]) (by kernel_rfl) (by simp) ?_
          refine AllReadyH.cons (i := 8) (o := ⟨some 18, _, _, _, _, _⟩) rfl (fun K hK => ?_) (AllReadyH.nil)
          · go_simp
            rw [conv1 _ _ _ _ (digit_wrap n) ((Below.cell hb (by simp)).trans (cell_new' _ _ _ 0))]
            simp only [Result.andThen]
            rw [Oper.upon_value]
            refine hK.out _ _ (by assumption) (fun hHeld => ?_)
            clear hK K
            try simp only [Act.put, List.setIfInBounds_toArray, List.set_cons_zero, List.set_cons_succ]
            refine wpAnyH_take (i := 9) (oi := ⟨some 19, _, _, _, _, _⟩) (v := ?_) rfl (by kernel_rfl) (by kernel_rfl) (by kernel_rfl) (fun _ _ _ h => h) (Or.inl ⟨by rfl, ?_⟩) (by assumption) ?_
            rotate_left
            · intro w1 hSw
              go_simp
              with_reducible rfl
            try simp only [Act.put, List.setIfInBounds_toArray, List.set_cons_zero, List.set_cons_succ]
            refine wpAnyH_take (i := 10) (oi := ⟨some 2, _, _, _, _, _⟩) (v := ?_) rfl (by kernel_rfl) (by kernel_rfl) (by kernel_rfl) (fun _ _ _ h => h) (Or.inl ⟨by rfl, ?_⟩) (by assumption) ?_
            rotate_left
            · intro w1 hSw
              go_simp
              with_reducible rfl
            try simp only [Act.put, List.setIfInBounds_toArray, List.set_cons_zero, List.set_cons_succ]
            refine wpAnyH_done (by kernel_rfl) ?_ _
            go_wp2
            go_ret
            refine ⟨?_, by assumption⟩
            rw [show Lib.decDigits n = Lib.decDigits (n / 10) ++ [UInt8.ofNat (48 + n % 10)] from by rw [Lib.decDigits, dif_neg h10]]
            exact congrArg (fun q => Ending.returned (Value.string q)) (app_one _ _)
        · go_simp
          rw [conv1 _ _ _ _ (digit_wrap n) (cell_new' _ _ _ 0)]
          simp only [Result.andThen]
          rw [Oper.upon_value]
          refine hK.out _ _ (by assumption) (fun hHeld => ?_)
          clear hK K
          try simp only [Act.put, List.setIfInBounds_toArray, List.set_cons_zero, List.set_cons_succ]
          refine wpAnyH_ready (rs := [2]) (by kernel_rfl) (by simp) ?_
          refine AllReadyH.cons (i := 2) (o := ⟨some 12, _, _, _, _, _⟩) rfl (fun K hK => ?_) (AllReadyH.nil)
          · go_simp
            rw [show IntKind.i64.wrap ((n : Int) / 10) = ((n / 10 : Nat) : Int) from by simp [IntKind.wrap, IntKind.bits, IntKind.signed]; omega]
            refine (ih (n / 10) (by omega) (by omega) _).mono ?_
            rintro e w' ⟨rfl, hb⟩
            refine hK.out _ _ (Below.trans (by assumption) (Below.mono hb (Below.size (by assumption)))) (fun hHeld => ?_)
            clear hK K
            try simp only [Act.put, List.setIfInBounds_toArray, List.set_cons_zero, List.set_cons_succ]
            refine wpAnyH_take (i := 9) (oi := ⟨some 19, _, _, _, _, _⟩) (v := ?_) rfl (by kernel_rfl) (by kernel_rfl) (by kernel_rfl) (fun _ _ _ h => h) (Or.inl ⟨by rfl, ?_⟩) (by assumption) ?_
            rotate_left
            · intro w1 hSw
              go_simp
              with_reducible rfl
            try simp only [Act.put, List.setIfInBounds_toArray, List.set_cons_zero, List.set_cons_succ]
            refine wpAnyH_take (i := 10) (oi := ⟨some 2, _, _, _, _, _⟩) (v := ?_) rfl (by kernel_rfl) (by kernel_rfl) (by kernel_rfl) (fun _ _ _ h => h) (Or.inl ⟨by rfl, ?_⟩) (by assumption) ?_
            rotate_left
            · intro w1 hSw
              go_simp
              with_reducible rfl
            try simp only [Act.put, List.setIfInBounds_toArray, List.set_cons_zero, List.set_cons_succ]
            refine wpAnyH_done (by kernel_rfl) ?_ _
            go_wp2
            go_ret
            refine ⟨?_, by assumption⟩
            rw [show Lib.decDigits n = Lib.decDigits (n / 10) ++ [UInt8.ofNat (48 + n % 10)] from by rw [Lib.decDigits, dif_neg h10]]
            exact congrArg (fun q => Ending.returned (Value.string q)) (app_one _ _)

theorem fr_of_below {w w' : World} (h : Below w.heap.size w w') : Fr NoB w w' := ⟨h.os, h.tape, h.output, h.size, fun b hb _ => h.block b hb, fun b _ hb => h.block b hb⟩
theorem l1Num_ex : ∃ f : Int → Option ByteArray, f = fun n => bif decide (0 ≤ n) && decide (n ≤ 9223372036854775807) then some ⟨(Lib.itoa n).toArray⟩ else none := ⟨_, rfl⟩
noncomputable def F_spec_l1Num : Int → Option ByteArray := Classical.choose l1Num_ex
theorem F_spec_l1Num_is (n : Int) : F_spec_l1Num n = bif decide (0 ≤ n) && decide (n ≤ 9223372036854775807) then some ⟨(Lib.itoa n).toArray⟩ else none := congrFun (Classical.choose_spec l1Num_ex) n
noncomputable def c_spec_l1Num : Con := { ps := [(.val, .int .i64)], rs := [(.val, .str)], F := F_spec_l1Num }
theorem calls_F_spec_l1Num (w : World) (x : Int) (y : ByteArray) (hy : F_spec_l1Num x = some y) : Calls Tryz.prog 226 #[.int .i64 x] w fun e w' => e = .returned (.string y) ∧ Fr NoB w w' := by
  rw [F_spec_l1Num_is] at hy
  obtain ⟨hg, hy⟩ := bif_none hy
  obtain ⟨h0, h1⟩ := and_b hg
  have h0 : 0 ≤ x := of_decide_eq_true h0
  have h1 : x ≤ 9223372036854775807 := of_decide_eq_true h1
  have e : y = ⟨(Lib.itoa x).toArray⟩ := (Option.some.inj hy).symm
  subst e
  obtain ⟨n, rfl⟩ : ∃ n : Nat, x = (n : Int) := ⟨x.toNat, by omega⟩
  refine (calls_l1Num n (by omega) w).mono ?_
  rintro e w' ⟨rfl, hb⟩
  rw [← Lib.itoa_nonneg]
  exact ⟨rfl, fr_of_below hb⟩
theorem con_spec_l1Num : ConOK Tryz.prog 226 c_spec_l1Num := con_of_pure ⟨Tryz.f226, Tryz.func226, by kernel_rfl, by kernel_rfl⟩ rfl rfl fun w x y hy _ => calls_F_spec_l1Num w x y hy
end Go.Proofs.YtklfnbckoaphpaaGreatDoor
