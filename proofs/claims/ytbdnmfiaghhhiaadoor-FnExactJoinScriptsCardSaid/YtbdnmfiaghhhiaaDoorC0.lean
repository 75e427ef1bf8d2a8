/- Contracts of functions of the program, written by a program of this claim. No conditions. -/
import Derived.Test.YtbdnmfiaghhhiaaDoorEvZk
import Derived.Test.YtbdnmfiaghhhiaaDoorRows
import Derived.Shelf.Strings.Search1
import Derived.Lib.SplitLaws
import Derived.Test.YtbdnmfiaghhhiaaDoorShelf
set_option linter.unusedVariables false
set_option maxRecDepth 100000
namespace Go.Proofs.YtbdnmfiaghhhiaaDoor
open Go
theorem mixed : Tryd.prog.follows .mixedOrders = true := by kernel_rfl
noncomputable def step_spec_l1Split_0 (s : ByteArray × Int × Int × Int × (List ByteArray)) : Option ((ByteArray × Int × Int × Int × (List ByteArray)) ⊕ ((ByteArray × Int × (List ByteArray)))) :=
  bif (decide (s.2.2.2.1 < (s.1.size : Int))) then
    bif decide (0 ≤ s.2.2.2.1) && decide (s.2.2.2.1 < (s.1.size : Int)) then
      bif (((byteAt s.1 (s.2.2.2.1).toNat) == s.2.1)) then
        bif decide (0 ≤ s.2.2.1) && decide (s.2.2.1 ≤ s.2.2.2.1) && decide (s.2.2.2.1 ≤ (s.1.size : Int)) then
          bif decide ((s.2.2.2.2.length + [(s.1.extract (s.2.2.1).toNat (s.2.2.2.1).toNat)].length) * 16 ≤ 140737488355328) then
            let v8 := s.2.2.2.2 ++ [(s.1.extract (s.2.2.1).toNat (s.2.2.2.1).toNat)]
            let v9 := IntKind.i64.wrap (s.2.2.2.1 + 1)
            let v10 := IntKind.i64.wrap (s.2.2.2.1 + 1)
            some (.inl ((s.1, s.2.1, (v9, v10, v8))))
          else none
        else none
      else
        let v11 := IntKind.i64.wrap (s.2.2.2.1 + 1)
        some (.inl ((s.1, s.2.1, (s.2.2.1, v11, s.2.2.2.2))))
    else none
  else
    some (.inr ((s.1, s.2.2.1, s.2.2.2.2)))
def pat_spec_l1Split_0 : Pat := { tmps := [.v .str, .v (.int .u8), .any, .any, .any, .own 1600, .v (.int .i64), .v (.int .i64), .any, .any, .any, .any, .any, .any, .any, .any, .any, .any, .any, .any, .any, .any, .any, .any, .any, .any, .any, .any, .any, .any, .any, .any, .any, .any], blks := [(1600, .row true .str)] }
def outs_spec_l1Split_0 : List (Exit × Pat) := [(.exit 0, { tmps := [.v .str, .any, .any, .any, .any, .own 1600, .v (.int .i64), .any, .any, .any, .any, .any, .any, .any, .any, .any, .any, .any, .any, .any, .any, .any, .any, .any, .any, .any, .any, .any, .any, .any, .any, .any, .any, .any], blks := [(1600, .row true .str)] })]
noncomputable def F_spec_l1Split (x : ByteArray × Int) : Option ((List ByteArray)) :=
  match runL step_spec_l1Split_0 ((x.1, x.2, (0, 0, []))) with
  | none => none
  | some o12 =>
    bif decide (0 ≤ o12.2.1) && decide (o12.2.1 ≤ (o12.1.size : Int)) && decide ((o12.1.size : Int) ≤ (o12.1.size : Int)) then
      bif decide ((o12.2.2.length + [(o12.1.extract (o12.2.1).toNat ((o12.1.size : Int)).toNat)].length) * 16 ≤ 140737488355328) then
        let v13 := o12.2.2 ++ [(o12.1.extract (o12.2.1).toNat ((o12.1.size : Int)).toNat)]
        some (v13)
      else none
    else none
noncomputable def c_spec_l1Split : Con := { ps := [(.val, .str), (.val, (.int .u8))], rs := [(.io true, (.slice .str))], F := F_spec_l1Split }
noncomputable def env_spec_l1Split : Env := { par := [], con := fun _ => none, clo := fun _ => none, T := tinf Tryd.prog }
noncomputable def loops_spec_l1Split : Nat → Option Loop := fun n => match n with | 4 => some { pat := pat_spec_l1Split_0, outs := outs_spec_l1Split_0, run := runL (step_spec_l1Split_0) } | _ => none
theorem step_spec_l1Split_0_eq (s : ByteArray × Int × Int × Int × (List ByteArray)) : stepEv env_spec_l1Split loops_spec_l1Split pat_spec_l1Split_0 outs_spec_l1Split_0 Tryd.f49 4 s = step_spec_l1Split_0 s := by kernel_rfl
theorem F_spec_l1Split_eq (x : ByteArray × Int) : Fev env_spec_l1Split loops_spec_l1Split c_spec_l1Split.ps c_spec_l1Split.rs Tryd.f49 x = F_spec_l1Split x := by kernel_rfl
theorem env_spec_l1Split_ok : EnvOK Tryd.prog env_spec_l1Split := envOK_of (fun f c h => by cases h) (fun f c h => by cases h) rfl
theorem con_spec_l1Split : ConOK Tryd.prog 49 c_spec_l1Split := con_of_ev' (body := Tryd.f49.body.getD .skip) (Λ := loops_spec_l1Split) mixed Tryd.func49 (by kernel_rfl) (by kernel_rfl) env_spec_l1Split_ok rfl (by kernel_rfl) (fun n L h => by
  unfold loops_spec_l1Split at h
  split at h
  · cases h; exact fun s o ho => loop_ok (stepF := stepEv env_spec_l1Split loops_spec_l1Split pat_spec_l1Split_0 outs_spec_l1Split_0 Tryd.f49 4) (step_spec_l1Split_0_eq) ho
  · cases h) F_spec_l1Split_eq

noncomputable def F_spec_csLines (x : ByteArray) : Option ((List ByteArray) × Bool) :=
  bif (decide ((x.size : Int) > 2000)) then
    some (([], false))
  else
    bif (!(x.toList == (⟨#[]⟩ : ByteArray).toList)) then
      let v1 := IntKind.i64.wrap ((x.size : Int) - 1)
      bif decide (0 ≤ v1) && decide (v1 < (x.size : Int)) then
        bif (((byteAt x (v1).toNat) != 10)) then
          some (([], false))
        else
          match F_spec_l1Split ((x, 10)) with
          | none => none
          | some y2 =>
            let v3 := IntKind.i64.wrap ((y2.length : Int) - 1)
            bif decide (0 ≤ (0 : Int)) && decide ((0 : Int) ≤ v3) && decide (v3 ≤ (y2.length : Int)) then
              bif (decide ((((v3).toNat - ((0 : Int)).toNat) : Int) > 40)) then
                some (([], false))
              else
                some ((((y2.drop ((0 : Int)).toNat).take ((v3).toNat - ((0 : Int)).toNat)), true))
            else none
      else none
    else
      match F_spec_l1Split ((x, 10)) with
      | none => none
      | some y4 =>
        let v5 := IntKind.i64.wrap ((y4.length : Int) - 1)
        bif decide (0 ≤ (0 : Int)) && decide ((0 : Int) ≤ v5) && decide (v5 ≤ (y4.length : Int)) then
          bif (decide ((((v5).toNat - ((0 : Int)).toNat) : Int) > 40)) then
            some (([], false))
          else
            some ((((y4.drop ((0 : Int)).toNat).take ((v5).toNat - ((0 : Int)).toNat)), true))
        else none
noncomputable def c_spec_csLines : Con := { ps := [(.val, .str)], rs := [(.val, (.slice .str)), (.val, .bool)], F := F_spec_csLines }
noncomputable def env_spec_csLines : Env := { par := [], con := fun f => match f with | 49 => some c_spec_l1Split | _ => none, clo := fun _ => none, T := tinf Tryd.prog }
noncomputable def loops_spec_csLines : Nat → Option Loop := fun n => none
theorem F_spec_csLines_eq (x : ByteArray) : Fev env_spec_csLines loops_spec_csLines c_spec_csLines.ps c_spec_csLines.rs Tryd.f29 x = F_spec_csLines x := by kernel_rfl
theorem env_spec_csLines_ok : EnvOK Tryd.prog env_spec_csLines := envOK_of (fun f c h => by
  simp only [env_spec_csLines] at h
  split at h
  · cases h; exact con_spec_l1Split
  · cases h) (fun f c h => by cases h) rfl
theorem con_spec_csLines : ConOK Tryd.prog 29 c_spec_csLines := con_of_ev' (body := Tryd.f29.body.getD .skip) (Λ := loops_spec_csLines) mixed Tryd.func29 (by kernel_rfl) (by kernel_rfl) env_spec_csLines_ok rfl (by kernel_rfl) (fun n L h => by cases h) F_spec_csLines_eq

noncomputable def F_spec_JoinScripts (x : ByteArray × ByteArray) : Option (ByteArray × Bool) :=
  match F_spec_csLines (x.1) with
  | none => none
  | some y1 =>
    match F_spec_csLines (x.2) with
    | none => none
    | some y2 =>
      bif decide (x.1.size + x.2.size ≤ 9223372036854775807) then
        match F_spec_csLines ((x.1 ++ x.2)) with
        | none => none
        | some y3 =>
          bif (!y1.2) then
            some (((⟨#[]⟩ : ByteArray), false))
          else
            bif (!y2.2) then
              some (((⟨#[]⟩ : ByteArray), false))
            else
              bif (!y3.2) then
                some (((⟨#[]⟩ : ByteArray), false))
              else
                bif decide (x.1.size + x.2.size ≤ 9223372036854775807) then
                  some (((x.1 ++ x.2), true))
                else none
      else none
noncomputable def c_spec_JoinScripts : Con := { ps := [(.val, .str), (.val, .str)], rs := [(.val, .str), (.val, .bool)], F := F_spec_JoinScripts }
noncomputable def env_spec_JoinScripts : Env := { par := [], con := fun f => match f with | 29 => some c_spec_csLines | _ => none, clo := fun _ => none, T := tinf Tryd.prog }
noncomputable def loops_spec_JoinScripts : Nat → Option Loop := fun n => none
theorem F_spec_JoinScripts_eq (x : ByteArray × ByteArray) : Fev env_spec_JoinScripts loops_spec_JoinScripts c_spec_JoinScripts.ps c_spec_JoinScripts.rs Tryd.f9 x = F_spec_JoinScripts x := by kernel_rfl
theorem env_spec_JoinScripts_ok : EnvOK Tryd.prog env_spec_JoinScripts := envOK_of (fun f c h => by
  simp only [env_spec_JoinScripts] at h
  split at h
  · cases h; exact con_spec_csLines
  · cases h) (fun f c h => by cases h) rfl
theorem con_spec_JoinScripts : ConOK Tryd.prog 9 c_spec_JoinScripts := con_of_ev' (body := Tryd.f9.body.getD .skip) (Λ := loops_spec_JoinScripts) mixed Tryd.func9 (by kernel_rfl) (by kernel_rfl) env_spec_JoinScripts_ok rfl (by kernel_rfl) (fun n L h => by cases h) F_spec_JoinScripts_eq

theorem HasSuffix_ex : ∃ f : ByteArray × ByteArray → Option Bool, f = fun x => bif decide (x.1.size ≤ 9223372036854775807) then some (Lib.hasSuffix x.1.data.toList x.2.data.toList) else none := ⟨_, rfl⟩
noncomputable def F_strings_HasSuffix : ByteArray × ByteArray → Option Bool := Classical.choose HasSuffix_ex
theorem F_strings_HasSuffix_is (x : ByteArray × ByteArray) : F_strings_HasSuffix x = bif decide (x.1.size ≤ 9223372036854775807) then some (Lib.hasSuffix x.1.data.toList x.2.data.toList) else none := congrFun (Classical.choose_spec HasSuffix_ex) x
noncomputable def c_strings_HasSuffix : Con := { ps := [(.val, .str), (.val, .str)], rs := [(.val, .bool)], F := F_strings_HasSuffix }
theorem calls_F_strings_HasSuffix (w : World) (x : ByteArray × ByteArray) (y : Bool) (hy : F_strings_HasSuffix x = some y) : Calls Tryd.prog 50 #[.string x.1, .string x.2] w fun e w' => e = .returned (.bool y) ∧ Fr NoB w w' := by
  rw [F_strings_HasSuffix_is] at hy
  obtain ⟨hg, hy⟩ := bif_none hy
  have e : y = Lib.hasSuffix x.1.data.toList x.2.data.toList := (Option.some.inj hy).symm
  subst e
  refine (Tryd.strings_HasSuffix x.1 x.2 w (of_decide_eq_true hg)).mono ?_
  rintro e w' ⟨rfl, rfl⟩
  exact ⟨rfl, Fr.refl _ _⟩
theorem con_strings_HasSuffix : ConOK Tryd.prog 50 c_strings_HasSuffix := con_of_pure ⟨Tryd.f50, Tryd.func50, by kernel_rfl, by kernel_rfl⟩ rfl rfl fun w x y hy _ => calls_F_strings_HasSuffix w x y hy

theorem Count_ex : ∃ f : ByteArray × ByteArray → Option Int, f = fun x => match x.2.data.toList with | [c] => some ((Lib.countByte x.1.data.toList c : Nat) : Int) | _ => none := ⟨_, rfl⟩
noncomputable def F_strings_Count : ByteArray × ByteArray → Option Int := Classical.choose Count_ex
theorem F_strings_Count_is (x : ByteArray × ByteArray) : F_strings_Count x = match x.2.data.toList with | [c] => some ((Lib.countByte x.1.data.toList c : Nat) : Int) | _ => none := congrFun (Classical.choose_spec Count_ex) x
noncomputable def c_strings_Count : Con := { ps := [(.val, .str), (.val, .str)], rs := [(.val, .int .i64)], F := F_strings_Count }
theorem calls_F_strings_Count (w : World) (s t : ByteArray) (y : Int) (hy : F_strings_Count (s, t) = some y) : Calls Tryd.prog 51 #[.string s, .string t] w fun e w' => e = .returned (.int .i64 y) ∧ Fr NoB w w' := by
  obtain ⟨⟨l⟩⟩ := t
  rw [F_strings_Count_is] at hy
  match l, hy with
  | [c], hy =>
    have e : y = ((Lib.countByte s.data.toList c : Nat) : Int) := (Option.some.inj hy).symm
    subst e
    refine (Tryd.strings_Count_one s c w).mono ?_
    rintro e w' ⟨rfl, rfl⟩
    exact ⟨rfl, Fr.refl _ _⟩
  | [], hy => cases hy
  | _ :: _ :: _, hy => cases hy
theorem con_strings_Count : ConOK Tryd.prog 51 c_strings_Count := con_of_pure ⟨Tryd.f51, Tryd.func51, by kernel_rfl, by kernel_rfl⟩ rfl rfl fun w x y hy _ => calls_F_strings_Count w x.1 x.2 y hy

theorem Split_ex : ∃ f : ByteArray × ByteArray → Option (List ByteArray), f = fun x => bif decide (x.1.size < 4294967281) && decide (1 ≤ x.2.size) then some (Lib.splitB x.2 0 (Lib.countB x.1 x.2) x.1) else none := ⟨_, rfl⟩
noncomputable def F_strings_Split : ByteArray × ByteArray → Option (List ByteArray) := Classical.choose Split_ex
theorem F_strings_Split_is (x : ByteArray × ByteArray) : F_strings_Split x = bif decide (x.1.size < 4294967281) && decide (1 ≤ x.2.size) then some (Lib.splitB x.2 0 (Lib.countB x.1 x.2) x.1) else none := congrFun (Classical.choose_spec Split_ex) x
noncomputable def c_strings_Split : Con := { ps := [(.val, .str), (.val, .str)], rs := [(.val, .slice .str)], F := F_strings_Split }
theorem cell_of_var {w : World} {u : Value} (hm : ((some 0 : Option Nat).bind fun g => match w.heap[g]? with | some (.cells cs _ _) => some cs | _ => none) = some #[u]) : w.cell? ⟨0, 0, none⟩ = some u := by
  simp only [Option.bind_some] at hm
  split at hm
  · rename_i cs ety fz h
    obtain rfl := Option.some.inj hm
    rw [cell_of_row w 0 0 _ _ _ h]
    rfl
  · cases hm
theorem fr_alloc (w : World) (o : Obj) : Fr NoB w (w.alloc o) := by
  have hs : (w.alloc o).heap.size = w.heap.size + 1 := Array.size_push ..
  have hb : ∀ b, b < w.heap.size → (w.alloc o).heap[b]? = w.heap[b]? := fun b hb => by
    show (w.heap.push o)[b]? = _
    rw [Array.getElem?_push, if_neg (by omega)]
  exact ⟨rfl, rfl, rfl, by omega, fun b h _ => hb b h, fun b _ h => hb b h⟩
theorem calls_F_strings_Split (w : World) (x : ByteArray × ByteArray) (y : List ByteArray) (hy : F_strings_Split x = some y) (ht : Tabs Tryd.prog w) :
    Calls Tryd.prog 52 #[.string x.1, .string x.2] w fun e w' => e = .returned (.slice (some ⟨w.heap.size, 0, none⟩) y.length y.length) ∧ w' = w.alloc (.cells (y.map Value.string).toArray 9) := by
  rw [F_strings_Split_is] at hy
  obtain ⟨hg, hy⟩ := bif_none hy
  obtain ⟨h0, h1⟩ := and_b hg
  have h0 := of_decide_eq_true h0
  have h1 := of_decide_eq_true h1
  have e : y = Lib.splitB x.2 0 (Lib.countB x.1 x.2) x.1 := (Option.some.inj hy).symm
  have hl : y.length = Lib.countB x.1 x.2 + 1 := by rw [e]; exact Lib.splitB_all x.2 h1 0 _ x.1 rfl
  obtain ⟨m, hm⟩ := (ht.2.2 "internal/bytealg.MaxLen" (List.mem_cons_self ..)).2
  have hcell : w.cell? ⟨0, 0, none⟩ = some (.int .i64 m) := by
    have hg : Tryd.prog.globalNamed "internal/bytealg.MaxLen" = some 0 := by kernel_rfl
    unfold World.var? at hm
    rw [hg] at hm
    exact cell_of_var hm
  refine (Tryd.strings_Split x.1 x.2 m w h0 hcell h1).mono ?_
  rintro e' w' ⟨rfl, rfl⟩
  rw [hl, ← e]
  exact ⟨rfl, rfl⟩
theorem rd_strs (P : Program) (w : World) (y : List ByteArray) : RdV P (.slice .str) (w.alloc (.cells (y.map Value.string).toArray 9)) (fun b => w.heap.size ≤ b) (.slice (some ⟨w.heap.size, 0, none⟩) y.length y.length) y := by
  have hk : (w.alloc (.cells ((List.map Value.string y).toArray) 9)).heap[w.heap.size]? = some (.cells ((List.map Value.string y).toArray) 9 (0, 0)) := by
    show (w.heap.push _)[w.heap.size]? = _
    rw [Array.getElem?_push, if_pos rfl]
  refine ⟨_, rfl, _, _, rfl, Nat.le_refl _, fun _ => ⟨w.heap.size, 0, rfl, ?_, Nat.le_refl _, fun i hi => ⟨[.string y[i]], rfl, rfl, ?_⟩⟩⟩
  · show w.heap.size < (w.heap.push _).size
    rw [Array.size_push]; exact Nat.lt_succ_self _
  · intro j u hj
    match j, hj with
    | 0, hj =>
      obtain rfl := Option.some.inj hj
      rw [cell_of_row _ _ _ _ _ _ hk]
      show ((List.map Value.string y).toArray)[0 + i * 1 + 0]? = _
      rw [List.getElem?_toArray, List.getElem?_map, show 0 + i * 1 + 0 = i by omega, List.getElem?_eq_getElem hi]
      rfl
    | j + 1, hj => cases hj
theorem con_strings_Split : ConOK Tryd.prog 52 c_strings_Split := by
  refine ⟨⟨Tryd.f52, Tryd.func52, by kernel_rfl, by kernel_rfl⟩, fun w Z X vals x y hy _ _ hold ht _ => ?_⟩
  rw [holds_valsL c_strings_Split.ps X vals x rfl hold]
  refine (calls_F_strings_Split w x y hy ht).mono ?_
  rintro e' w' ⟨rfl, rfl⟩
  exact ⟨_, [.slice (some ⟨w.heap.size, 0, none⟩) (List.length (α := ByteArray) y) (List.length (α := ByteArray) y)], NoB, NoB, rfl, rfl, rfl, (fr_alloc _ _).le, fun _ f => f.elim, fun _ f => f.elim, fun _ f => f.elim, holds_nil rfl _,
    ⟨_, [], rfl, RdV.agree (Agree.refl _ _) (fun b _ h => .inr ⟨h, fun f => f, fun f => f⟩) (rd_strs Tryd.prog w y), rfl⟩⟩

noncomputable def F_impl_scriptLines (x : ByteArray) : Option ((List ByteArray) × Bool) :=
  bif (decide ((x.size : Int) > 2000)) then
    some (([], false))
  else
    bif (!(x.toList == (⟨#[]⟩ : ByteArray).toList)) then
      match F_strings_HasSuffix ((x, (⟨#[10]⟩ : ByteArray))) with
      | none => none
      | some y1 =>
        bif (!y1) then
          some (([], false))
        else
          match F_strings_Count ((x, (⟨#[10]⟩ : ByteArray))) with
          | none => none
          | some y2 =>
            bif (decide (y2 > 40)) then
              some (([], false))
            else
              match F_strings_Split ((x, (⟨#[10]⟩ : ByteArray))) with
              | none => none
              | some y3 =>
                match F_strings_Count ((x, (⟨#[10]⟩ : ByteArray))) with
                | none => none
                | some y4 =>
                  bif decide (0 ≤ (0 : Int)) && decide ((0 : Int) ≤ y4) && decide (y4 ≤ (y3.length : Int)) then
                    some ((((y3.drop ((0 : Int)).toNat).take ((y4).toNat - ((0 : Int)).toNat)), true))
                  else none
    else
      match F_strings_Count ((x, (⟨#[10]⟩ : ByteArray))) with
      | none => none
      | some y5 =>
        bif (decide (y5 > 40)) then
          some (([], false))
        else
          match F_strings_Split ((x, (⟨#[10]⟩ : ByteArray))) with
          | none => none
          | some y6 =>
            match F_strings_Count ((x, (⟨#[10]⟩ : ByteArray))) with
            | none => none
            | some y7 =>
              bif decide (0 ≤ (0 : Int)) && decide ((0 : Int) ≤ y7) && decide (y7 ≤ (y6.length : Int)) then
                some ((((y6.drop ((0 : Int)).toNat).take ((y7).toNat - ((0 : Int)).toNat)), true))
              else none
noncomputable def c_impl_scriptLines : Con := { ps := [(.val, .str)], rs := [(.val, (.slice .str)), (.val, .bool)], F := F_impl_scriptLines }
noncomputable def env_impl_scriptLines : Env := { par := [], con := fun f => match f with | 50 => some c_strings_HasSuffix | 51 => some c_strings_Count | 52 => some c_strings_Split | _ => none, clo := fun _ => none, T := tinf Tryd.prog }
noncomputable def loops_impl_scriptLines : Nat → Option Loop := fun n => none
theorem F_impl_scriptLines_eq (x : ByteArray) : Fev env_impl_scriptLines loops_impl_scriptLines c_impl_scriptLines.ps c_impl_scriptLines.rs Tryd.f30 x = F_impl_scriptLines x := by kernel_rfl
theorem env_impl_scriptLines_ok : EnvOK Tryd.prog env_impl_scriptLines := envOK_of (fun f c h => by
  simp only [env_impl_scriptLines] at h
  split at h
  · cases h; exact con_strings_HasSuffix
  · cases h; exact con_strings_Count
  · cases h; exact con_strings_Split
  · cases h) (fun f c h => by cases h) rfl
theorem con_impl_scriptLines : ConOK Tryd.prog 30 c_impl_scriptLines := con_of_ev' (body := Tryd.f30.body.getD .skip) (Λ := loops_impl_scriptLines) mixed Tryd.func30 (by kernel_rfl) (by kernel_rfl) env_impl_scriptLines_ok rfl (by kernel_rfl) (fun n L h => by cases h) F_impl_scriptLines_eq

noncomputable def F_impl_JoinScripts (x : ByteArray × ByteArray) : Option (ByteArray × Bool) :=
  match F_impl_scriptLines (x.1) with
  | none => none
  | some y1 =>
    match F_impl_scriptLines (x.2) with
    | none => none
    | some y2 =>
      bif decide (x.1.size + x.2.size ≤ 9223372036854775807) then
        match F_impl_scriptLines ((x.1 ++ x.2)) with
        | none => none
        | some y3 =>
          bif (!y1.2) then
            some (((⟨#[]⟩ : ByteArray), false))
          else
            bif (!y2.2) then
              some (((⟨#[]⟩ : ByteArray), false))
            else
              bif (!y3.2) then
                some (((⟨#[]⟩ : ByteArray), false))
              else
                bif decide (x.1.size + x.2.size ≤ 9223372036854775807) then
                  some (((x.1 ++ x.2), true))
                else none
      else none
noncomputable def c_impl_JoinScripts : Con := { ps := [(.val, .str), (.val, .str)], rs := [(.val, .str), (.val, .bool)], F := F_impl_JoinScripts }
noncomputable def env_impl_JoinScripts : Env := { par := [], con := fun f => match f with | 30 => some c_impl_scriptLines | _ => none, clo := fun _ => none, T := tinf Tryd.prog }
noncomputable def loops_impl_JoinScripts : Nat → Option Loop := fun n => none
theorem F_impl_JoinScripts_eq (x : ByteArray × ByteArray) : Fev env_impl_JoinScripts loops_impl_JoinScripts c_impl_JoinScripts.ps c_impl_JoinScripts.rs Tryd.f10 x = F_impl_JoinScripts x := by kernel_rfl
theorem env_impl_JoinScripts_ok : EnvOK Tryd.prog env_impl_JoinScripts := envOK_of (fun f c h => by
  simp only [env_impl_JoinScripts] at h
  split at h
  · cases h; exact con_impl_scriptLines
  · cases h) (fun f c h => by cases h) rfl
theorem con_impl_JoinScripts : ConOK Tryd.prog 10 c_impl_JoinScripts := con_of_ev' (body := Tryd.f10.body.getD .skip) (Λ := loops_impl_JoinScripts) mixed Tryd.func10 (by kernel_rfl) (by kernel_rfl) env_impl_JoinScripts_ok rfl (by kernel_rfl) (fun n L h => by cases h) F_impl_JoinScripts_eq

noncomputable def F_laws_FnExactJoinScripts (x : ByteArray × ByteArray) : Option (Bool) :=
  bif (decide ((x.1.size : Int) > 1048576)) then
    some (true)
  else
    bif (decide ((x.2.size : Int) > 1048576)) then
      some (true)
    else
      match F_spec_JoinScripts (x) with
      | none => none
      | some y1 =>
        match F_impl_JoinScripts (x) with
        | none => none
        | some y2 =>
          bif (!(y2.1.toList == y1.1.toList)) then
            some (false)
          else
            bif (!(y2.2 == y1.2)) then
              some (false)
            else
              some (true)
noncomputable def c_laws_FnExactJoinScripts : Con := { ps := [(.val, .str), (.val, .str)], rs := [(.val, .bool)], F := F_laws_FnExactJoinScripts }
noncomputable def env_laws_FnExactJoinScripts : Env := { par := [], con := fun f => match f with | 9 => some c_spec_JoinScripts | 10 => some c_impl_JoinScripts | _ => none, clo := fun _ => none, T := tinf Tryd.prog }
noncomputable def loops_laws_FnExactJoinScripts : Nat → Option Loop := fun n => none
theorem F_laws_FnExactJoinScripts_eq (x : ByteArray × ByteArray) : Fev env_laws_FnExactJoinScripts loops_laws_FnExactJoinScripts c_laws_FnExactJoinScripts.ps c_laws_FnExactJoinScripts.rs Tryd.f3 x = F_laws_FnExactJoinScripts x := by kernel_rfl
theorem env_laws_FnExactJoinScripts_ok : EnvOK Tryd.prog env_laws_FnExactJoinScripts := envOK_of (fun f c h => by
  simp only [env_laws_FnExactJoinScripts] at h
  split at h
  · cases h; exact con_spec_JoinScripts
  · cases h; exact con_impl_JoinScripts
  · cases h) (fun f c h => by cases h) rfl
theorem con_laws_FnExactJoinScripts : ConOK Tryd.prog 3 c_laws_FnExactJoinScripts := con_of_ev' (body := Tryd.f3.body.getD .skip) (Λ := loops_laws_FnExactJoinScripts) mixed Tryd.func3 (by kernel_rfl) (by kernel_rfl) env_laws_FnExactJoinScripts_ok rfl (by kernel_rfl) (fun n L h => by cases h) F_laws_FnExactJoinScripts_eq

end Go.Proofs.YtbdnmfiaghhhiaaDoor
