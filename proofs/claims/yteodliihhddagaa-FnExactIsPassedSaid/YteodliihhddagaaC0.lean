/- Contracts of functions of the program, written by a program of this claim. No conditions. -/
import Derived.Test.YteodliihhddagaaEvZk
import Derived.Test.YteodliihhddagaaRows
import Derived.Shelf.Strings.Search1
set_option linter.unusedVariables false
set_option maxRecDepth 100000
namespace Go.Proofs.Yteodliihhddagaa
open Go
theorem mixed : Try.prog.follows .mixedOrders = true := by kernel_rfl
noncomputable def F_laws_szLogEdit (x : (Int × (ByteArray × Bool)) × Int) : Option (Int) :=
  let v1 := IntKind.i64.wrap (x.2 - (x.1.2.1.size : Int))
  bif (decide (v1 < 0)) then
    some ((-1))
  else
    some (v1)
noncomputable def c_laws_szLogEdit : Con := { ps := [(.val, (.st (.pair (.int .i64) (.pair .str .bool)))), (.val, (.int .i64))], rs := [(.val, (.int .i64))], F := F_laws_szLogEdit }
noncomputable def env_laws_szLogEdit : Env := { par := [], con := fun _ => none, clo := fun _ => none, T := tinf Try.prog }
noncomputable def loops_laws_szLogEdit : Nat → Option Loop := fun n => none
theorem F_laws_szLogEdit_eq (x : (Int × (ByteArray × Bool)) × Int) : Fev env_laws_szLogEdit loops_laws_szLogEdit c_laws_szLogEdit.ps c_laws_szLogEdit.rs Try.f32 x = F_laws_szLogEdit x := by kernel_rfl
theorem env_laws_szLogEdit_ok : EnvOK Try.prog env_laws_szLogEdit := envOK_of (fun f c h => by cases h) (fun f c h => by cases h) rfl
theorem con_laws_szLogEdit : ConOK Try.prog 32 c_laws_szLogEdit := con_of_ev' (body := Try.f32.body.getD .skip) (Λ := loops_laws_szLogEdit) mixed Try.func32 (by kernel_rfl) (by kernel_rfl) env_laws_szLogEdit_ok rfl (by kernel_rfl) (fun n L h => by cases h) F_laws_szLogEdit_eq

noncomputable def step_laws_szLogEditS_0 (s : (List (Int × (ByteArray × Bool))) × Int × Int) : Option (((List (Int × (ByteArray × Bool))) × Int × Int) ⊕ ((Int) ⊕ (Int))) :=
  bif (decide (s.2.2 < (s.1.length : Int))) then
    bif decide (0 ≤ s.2.2) && decide (s.2.2 < (s.1.length : Int)) then
      match F_laws_szLogEdit (((s.1.getD (s.2.2).toNat (0, ByteArray.empty, false)), s.2.1)) with
      | none => none
      | some y4 =>
        bif (decide (y4 < 0)) then
          some (.inr (.inl ((-1))))
        else
          let v5 := IntKind.i64.wrap (s.2.2 + 1)
          some (.inl ((s.1, y4, v5)))
    else none
  else
    some (.inr (.inr (s.2.1)))
def pat_laws_szLogEditS_0 : Pat := { tmps := [.v (.slice (.st (.pair (.int .i64) (.pair .str .bool)))), .v (.int .i64), .any, .any, .any, .v (.int .i64), .any, .any, .any, .any, .any, .any, .any, .any, .any, .any, .any, .any, .any, .any, .any, .any, .any, .any, .any, .any, .any], blks := [] }
def outs_laws_szLogEditS_0 : List (Exit × Pat) := [(.ret, { tmps := [.any, .any, .any, .any, .v (.int .i64), .any, .any, .any, .any, .any, .any, .any, .any, .any, .any, .any, .any, .any, .any, .any, .any, .any, .any, .any, .any, .any, .any], blks := [] }), (.exit 0, { tmps := [.any, .v (.int .i64), .any, .any, .any, .any, .any, .any, .any, .any, .any, .any, .any, .any, .any, .any, .any, .any, .any, .any, .any, .any, .any, .any, .any, .any, .any], blks := [] })]
noncomputable def F_laws_szLogEditS (x : (List (Int × (ByteArray × Bool))) × Int) : Option (Int) :=
  let v1 := IntKind.i64.wrap (x.2 - (x.1.length : Int))
  bif (decide (v1 < 0)) then
    some ((-1))
  else
    match runL step_laws_szLogEditS_0 ((x.1, v1, 0)) with
    | none => none
    | some (.inl o6) =>
      some (o6)
    | some (.inr o6) =>
      some (o6)
noncomputable def c_laws_szLogEditS : Con := { ps := [(.val, (.slice (.st (.pair (.int .i64) (.pair .str .bool))))), (.val, (.int .i64))], rs := [(.val, (.int .i64))], F := F_laws_szLogEditS }
noncomputable def env_laws_szLogEditS : Env := { par := [], con := fun f => match f with | 32 => some c_laws_szLogEdit | _ => none, clo := fun _ => none, T := tinf Try.prog }
noncomputable def loops_laws_szLogEditS : Nat → Option Loop := fun n => match n with | 5 => some { pat := pat_laws_szLogEditS_0, outs := outs_laws_szLogEditS_0, run := runL (step_laws_szLogEditS_0) } | _ => none
theorem step_laws_szLogEditS_0_eq (s : (List (Int × (ByteArray × Bool))) × Int × Int) : stepEv env_laws_szLogEditS loops_laws_szLogEditS pat_laws_szLogEditS_0 outs_laws_szLogEditS_0 Try.f9 5 s = step_laws_szLogEditS_0 s := by kernel_rfl
theorem F_laws_szLogEditS_eq (x : (List (Int × (ByteArray × Bool))) × Int) : Fev env_laws_szLogEditS loops_laws_szLogEditS c_laws_szLogEditS.ps c_laws_szLogEditS.rs Try.f9 x = F_laws_szLogEditS x := by kernel_rfl
theorem env_laws_szLogEditS_ok : EnvOK Try.prog env_laws_szLogEditS := envOK_of (fun f c h => by
  simp only [env_laws_szLogEditS] at h
  split at h
  · cases h; exact con_laws_szLogEdit
  · cases h) (fun f c h => by cases h) rfl
theorem con_laws_szLogEditS : ConOK Try.prog 9 c_laws_szLogEditS := con_of_ev' (body := Try.f9.body.getD .skip) (Λ := loops_laws_szLogEditS) mixed Try.func9 (by kernel_rfl) (by kernel_rfl) env_laws_szLogEditS_ok rfl (by kernel_rfl) (fun n L h => by
  unfold loops_laws_szLogEditS at h
  split at h
  · cases h; exact fun s o ho => loop_ok (stepF := stepEv env_laws_szLogEditS loops_laws_szLogEditS pat_laws_szLogEditS_0 outs_laws_szLogEditS_0 Try.f9 5) (step_laws_szLogEditS_0_eq) ho
  · cases h) F_laws_szLogEditS_eq

noncomputable def F_laws_toLogEdit (x : (Int × (ByteArray × Bool))) : Option ((Int × (ByteArray × Bool))) :=
  some (x)
noncomputable def c_laws_toLogEdit : Con := { ps := [(.val, (.st (.pair (.int .i64) (.pair .str .bool))))], rs := [(.val, (.st (.pair (.int .i64) (.pair .str .bool))))], F := F_laws_toLogEdit }
noncomputable def env_laws_toLogEdit : Env := { par := [], con := fun _ => none, clo := fun _ => none, T := tinf Try.prog }
noncomputable def loops_laws_toLogEdit : Nat → Option Loop := fun n => none
theorem F_laws_toLogEdit_eq (x : (Int × (ByteArray × Bool))) : Fev env_laws_toLogEdit loops_laws_toLogEdit c_laws_toLogEdit.ps c_laws_toLogEdit.rs Try.f34 x = F_laws_toLogEdit x := by kernel_rfl
theorem env_laws_toLogEdit_ok : EnvOK Try.prog env_laws_toLogEdit := envOK_of (fun f c h => by cases h) (fun f c h => by cases h) rfl
theorem con_laws_toLogEdit : ConOK Try.prog 34 c_laws_toLogEdit := con_of_ev' (body := Try.f34.body.getD .skip) (Λ := loops_laws_toLogEdit) mixed Try.func34 (by kernel_rfl) (by kernel_rfl) env_laws_toLogEdit_ok rfl (by kernel_rfl) (fun n L h => by cases h) F_laws_toLogEdit_eq

noncomputable def step_laws_toLogEditS_0 (s : (List (Int × (ByteArray × Bool))) × Int × (List (Int × (ByteArray × Bool)))) : Option (((List (Int × (ByteArray × Bool))) × Int × (List (Int × (ByteArray × Bool)))) ⊕ (((List (Int × (ByteArray × Bool)))))) :=
  bif (decide (s.2.1 < (s.1.length : Int))) then
    bif decide (0 ≤ s.2.1) && decide (s.2.1 < (s.1.length : Int)) then
      match F_laws_toLogEdit ((s.1.getD (s.2.1).toNat (0, ByteArray.empty, false))) with
      | none => none
      | some y4 =>
        bif decide (0 ≤ s.2.1) && decide (s.2.1 < (s.2.2.length : Int)) then
          let v5 := s.2.2.set (s.2.1).toNat (y4)
          let v6 := IntKind.i64.wrap (s.2.1 + 1)
          some (.inl ((s.1, v6, v5)))
        else none
    else none
  else
    some (.inr (s.2.2))
def pat_laws_toLogEditS_0 : Pat := { tmps := [.v (.slice (.st (.pair (.int .i64) (.pair .str .bool)))), .any, .any, .own 448, .v (.int .i64), .any, .any, .any, .any, .any, .any, .any, .any, .any, .any, .any, .any, .any, .any, .any, .any, .any, .any], blks := [(448, .row true (.st (.pair (.int .i64) (.pair .str .bool))))] }
def outs_laws_toLogEditS_0 : List (Exit × Pat) := [(.exit 0, { tmps := [.any, .any, .any, .own 448, .any, .any, .any, .any, .any, .any, .any, .any, .any, .any, .any, .any, .any, .any, .any, .any, .any, .any, .any], blks := [(448, .row true (.st (.pair (.int .i64) (.pair .str .bool))))] })]
noncomputable def F_laws_toLogEditS (x : (List (Int × (ByteArray × Bool)))) : Option ((List (Int × (ByteArray × Bool)))) :=
  bif decide (0 ≤ (x.length : Int)) && decide ((x.length : Int) ≤ (x.length : Int)) && decide ((x.length : Int) * (32 : Int) ≤ 140737488355328) then
    match runL step_laws_toLogEditS_0 ((x, 0, (List.replicate ((x.length : Int)).toNat ((0, ByteArray.empty, false))))) with
    | none => none
    | some o7 =>
      some (o7)
  else none
noncomputable def c_laws_toLogEditS : Con := { ps := [(.val, (.slice (.st (.pair (.int .i64) (.pair .str .bool)))))], rs := [(.io true, (.slice (.st (.pair (.int .i64) (.pair .str .bool)))))], F := F_laws_toLogEditS }
noncomputable def env_laws_toLogEditS : Env := { par := [], con := fun f => match f with | 34 => some c_laws_toLogEdit | _ => none, clo := fun _ => none, T := tinf Try.prog }
noncomputable def loops_laws_toLogEditS : Nat → Option Loop := fun n => match n with | 3 => some { pat := pat_laws_toLogEditS_0, outs := outs_laws_toLogEditS_0, run := runL (step_laws_toLogEditS_0) } | _ => none
theorem step_laws_toLogEditS_0_eq (s : (List (Int × (ByteArray × Bool))) × Int × (List (Int × (ByteArray × Bool)))) : stepEv env_laws_toLogEditS loops_laws_toLogEditS pat_laws_toLogEditS_0 outs_laws_toLogEditS_0 Try.f11 3 s = step_laws_toLogEditS_0 s := by kernel_rfl
theorem F_laws_toLogEditS_eq (x : (List (Int × (ByteArray × Bool)))) : Fev env_laws_toLogEditS loops_laws_toLogEditS c_laws_toLogEditS.ps c_laws_toLogEditS.rs Try.f11 x = F_laws_toLogEditS x := by kernel_rfl
theorem env_laws_toLogEditS_ok : EnvOK Try.prog env_laws_toLogEditS := envOK_of (fun f c h => by
  simp only [env_laws_toLogEditS] at h
  split at h
  · cases h; exact con_laws_toLogEdit
  · cases h) (fun f c h => by cases h) rfl
theorem con_laws_toLogEditS : ConOK Try.prog 11 c_laws_toLogEditS := con_of_ev' (body := Try.f11.body.getD .skip) (Λ := loops_laws_toLogEditS) mixed Try.func11 (by kernel_rfl) (by kernel_rfl) env_laws_toLogEditS_ok rfl (by kernel_rfl) (fun n L h => by
  unfold loops_laws_toLogEditS at h
  split at h
  · cases h; exact fun s o ho => loop_ok (stepF := stepEv env_laws_toLogEditS loops_laws_toLogEditS pat_laws_toLogEditS_0 outs_laws_toLogEditS_0 Try.f11 3) (step_laws_toLogEditS_0_eq) ho
  · cases h) F_laws_toLogEditS_eq

noncomputable def F_spec_l1In (x : Int × Int × Int) : Option (Bool) :=
  bif (decide (x.1 ≥ x.2.1)) then
    some ((decide (x.1 ≤ x.2.2)))
  else
    some (false)
noncomputable def c_spec_l1In : Con := { ps := [(.val, (.int .i64)), (.val, (.int .i64)), (.val, (.int .i64))], rs := [(.val, .bool)], F := F_spec_l1In }
noncomputable def env_spec_l1In : Env := { par := [], con := fun _ => none, clo := fun _ => none, T := tinf Try.prog }
noncomputable def loops_spec_l1In : Nat → Option Loop := fun n => none
theorem F_spec_l1In_eq (x : Int × Int × Int) : Fev env_spec_l1In loops_spec_l1In c_spec_l1In.ps c_spec_l1In.rs Try.f66 x = F_spec_l1In x := by kernel_rfl
theorem env_spec_l1In_ok : EnvOK Try.prog env_spec_l1In := envOK_of (fun f c h => by cases h) (fun f c h => by cases h) rfl
theorem con_spec_l1In : ConOK Try.prog 66 c_spec_l1In := con_of_ev' (body := Try.f66.body.getD .skip) (Λ := loops_spec_l1In) mixed Try.func66 (by kernel_rfl) (by kernel_rfl) env_spec_l1In_ok rfl (by kernel_rfl) (fun n L h => by cases h) F_spec_l1In_eq

noncomputable def step_spec_fsWord_0 (s : ByteArray × Int) : Option ((ByteArray × Int) ⊕ ((Bool) ⊕ (ByteArray))) :=
  bif (decide (s.2 < (s.1.size : Int))) then
    bif decide (0 ≤ s.2) && decide (s.2 < (s.1.size : Int)) then
      bif (decide ((byteAt s.1 (s.2).toNat) < 65)) then
        some (.inr (.inl (false)))
      else
        bif decide (0 ≤ s.2) && decide (s.2 < (s.1.size : Int)) then
          bif (decide ((byteAt s.1 (s.2).toNat) > 90)) then
            some (.inr (.inl (false)))
          else
            let v2 := IntKind.i64.wrap (s.2 + 1)
            some (.inl ((s.1, v2)))
        else none
    else none
  else
    some (.inr (.inr (s.1)))
def pat_spec_fsWord_0 : Pat := { tmps := [.v .str, .any, .any, .v (.int .i64), .any, .any, .any, .any, .any, .any, .any, .any, .any, .any, .any, .any, .any, .any, .any, .any, .any, .any, .any], blks := [] }
def outs_spec_fsWord_0 : List (Exit × Pat) := [(.ret, { tmps := [.any, .any, .v .bool, .any, .any, .any, .any, .any, .any, .any, .any, .any, .any, .any, .any, .any, .any, .any, .any, .any, .any, .any, .any], blks := [] }), (.exit 0, { tmps := [.v .str, .any, .any, .any, .any, .any, .any, .any, .any, .any, .any, .any, .any, .any, .any, .any, .any, .any, .any, .any, .any, .any, .any], blks := [] })]
noncomputable def F_spec_fsWord (x : ByteArray) : Option (Bool) :=
  match runL step_spec_fsWord_0 ((x, 0)) with
  | none => none
  | some (.inl o3) =>
    some (o3)
  | some (.inr o3) =>
    match F_spec_l1In (((o3.size : Int), 1, 8)) with
    | none => none
    | some y4 =>
      some (y4)
noncomputable def c_spec_fsWord : Con := { ps := [(.val, .str)], rs := [(.val, .bool)], F := F_spec_fsWord }
noncomputable def env_spec_fsWord : Env := { par := [], con := fun f => match f with | 66 => some c_spec_l1In | _ => none, clo := fun _ => none, T := tinf Try.prog }
noncomputable def loops_spec_fsWord : Nat → Option Loop := fun n => match n with | 2 => some { pat := pat_spec_fsWord_0, outs := outs_spec_fsWord_0, run := runL (step_spec_fsWord_0) } | _ => none
theorem step_spec_fsWord_0_eq (s : ByteArray × Int) : stepEv env_spec_fsWord loops_spec_fsWord pat_spec_fsWord_0 outs_spec_fsWord_0 Try.f67 2 s = step_spec_fsWord_0 s := by kernel_rfl
theorem F_spec_fsWord_eq (x : ByteArray) : Fev env_spec_fsWord loops_spec_fsWord c_spec_fsWord.ps c_spec_fsWord.rs Try.f67 x = F_spec_fsWord x := by kernel_rfl
theorem env_spec_fsWord_ok : EnvOK Try.prog env_spec_fsWord := envOK_of (fun f c h => by
  simp only [env_spec_fsWord] at h
  split at h
  · cases h; exact con_spec_l1In
  · cases h) (fun f c h => by cases h) rfl
theorem con_spec_fsWord : ConOK Try.prog 67 c_spec_fsWord := con_of_ev' (body := Try.f67.body.getD .skip) (Λ := loops_spec_fsWord) mixed Try.func67 (by kernel_rfl) (by kernel_rfl) env_spec_fsWord_ok rfl (by kernel_rfl) (fun n L h => by
  unfold loops_spec_fsWord at h
  split at h
  · cases h; exact fun s o ho => loop_ok (stepF := stepEv env_spec_fsWord loops_spec_fsWord pat_spec_fsWord_0 outs_spec_fsWord_0 Try.f67 2) (step_spec_fsWord_0_eq) ho
  · cases h) F_spec_fsWord_eq

noncomputable def F_spec_joOne (x : (Int × (ByteArray × Bool))) : Option (Bool) :=
  match F_spec_l1In ((x.1, 1, 999)) with
  | none => none
  | some y1 =>
    bif y1 then
      match F_spec_fsWord (x.2.1) with
      | none => none
      | some y2 =>
        some (y2)
    else
      some (false)
noncomputable def c_spec_joOne : Con := { ps := [(.val, (.st (.pair (.int .i64) (.pair .str .bool))))], rs := [(.val, .bool)], F := F_spec_joOne }
noncomputable def env_spec_joOne : Env := { par := [], con := fun f => match f with | 66 => some c_spec_l1In | 67 => some c_spec_fsWord | _ => none, clo := fun _ => none, T := tinf Try.prog }
noncomputable def loops_spec_joOne : Nat → Option Loop := fun n => none
theorem F_spec_joOne_eq (x : (Int × (ByteArray × Bool))) : Fev env_spec_joOne loops_spec_joOne c_spec_joOne.ps c_spec_joOne.rs Try.f52 x = F_spec_joOne x := by kernel_rfl
theorem env_spec_joOne_ok : EnvOK Try.prog env_spec_joOne := envOK_of (fun f c h => by
  simp only [env_spec_joOne] at h
  split at h
  · cases h; exact con_spec_l1In
  · cases h; exact con_spec_fsWord
  · cases h) (fun f c h => by cases h) rfl
theorem con_spec_joOne : ConOK Try.prog 52 c_spec_joOne := con_of_ev' (body := Try.f52.body.getD .skip) (Λ := loops_spec_joOne) mixed Try.func52 (by kernel_rfl) (by kernel_rfl) env_spec_joOne_ok rfl (by kernel_rfl) (fun n L h => by cases h) F_spec_joOne_eq

noncomputable def step_spec_joGood_0 (s : (List (Int × (ByteArray × Bool))) × (List (Int × (ByteArray × Bool))) × Int × Int) : Option (((List (Int × (ByteArray × Bool))) × (List (Int × (ByteArray × Bool))) × Int × Int) ⊕ ((Bool) ⊕ ((List (Int × (ByteArray × Bool)))))) :=
  bif (decide (s.2.2.2 < s.2.2.1)) then
    bif decide (0 ≤ s.2.2.2) && decide (s.2.2.2 < (s.2.1.length : Int)) then
      match F_spec_joOne ((s.2.1.getD (s.2.2.2).toNat (0, ByteArray.empty, false))) with
      | none => none
      | some y5 =>
        bif (!y5) then
          some (.inr (.inl (false)))
        else
          bif (decide (s.2.2.2 > 0)) then
            let v6 := IntKind.i64.wrap (s.2.2.2 - 1)
            bif decide (0 ≤ v6) && decide (v6 < (s.1.length : Int)) then
              bif (decide ((s.1.getD (v6).toNat (0, ByteArray.empty, false)).1 ≥ (s.2.1.getD (s.2.2.2).toNat (0, ByteArray.empty, false)).1)) then
                some (.inr (.inl (false)))
              else
                let v7 := IntKind.i64.wrap (s.2.2.2 + 1)
                some (.inl ((s.1, (s.2.1, s.2.2.1, v7))))
            else none
          else
            let v8 := IntKind.i64.wrap (s.2.2.2 + 1)
            some (.inl ((s.1, (s.2.1, s.2.2.1, v8))))
    else none
  else
    some (.inr (.inr (s.1)))
def pat_spec_joGood_0 : Pat := { tmps := [.v (.slice (.st (.pair (.int .i64) (.pair .str .bool)))), .any, .any, .any, .any, .v (.slice (.st (.pair (.int .i64) (.pair .str .bool)))), .v (.int .i64), .v (.int .i64), .any, .any, .any, .any, .any, .any, .any, .any, .any, .any, .any, .any, .any, .any, .any, .any, .any, .any, .any, .any, .any, .any, .any, .any, .any, .any], blks := [] }
def outs_spec_joGood_0 : List (Exit × Pat) := [(.ret, { tmps := [.any, .any, .v .bool, .any, .any, .any, .any, .any, .any, .any, .any, .any, .any, .any, .any, .any, .any, .any, .any, .any, .any, .any, .any, .any, .any, .any, .any, .any, .any, .any, .any, .any, .any, .any], blks := [] }), (.exit 0, { tmps := [.v (.slice (.st (.pair (.int .i64) (.pair .str .bool)))), .any, .any, .any, .any, .any, .any, .any, .any, .any, .any, .any, .any, .any, .any, .any, .any, .any, .any, .any, .any, .any, .any, .any, .any, .any, .any, .any, .any, .any, .any, .any, .any, .any], blks := [] })]
noncomputable def F_spec_joGood (x : (List (Int × (ByteArray × Bool)))) : Option (Bool) :=
  match runL step_spec_joGood_0 ((x, (x, (x.length : Int), 0))) with
  | none => none
  | some (.inl o9) =>
    some (o9)
  | some (.inr o9) =>
    some ((decide ((o9.length : Int) ≤ 40)))
noncomputable def c_spec_joGood : Con := { ps := [(.val, (.slice (.st (.pair (.int .i64) (.pair .str .bool)))))], rs := [(.val, .bool)], F := F_spec_joGood }
noncomputable def env_spec_joGood : Env := { par := [], con := fun f => match f with | 52 => some c_spec_joOne | _ => none, clo := fun _ => none, T := tinf Try.prog }
noncomputable def loops_spec_joGood : Nat → Option Loop := fun n => match n with | 2 => some { pat := pat_spec_joGood_0, outs := outs_spec_joGood_0, run := runL (step_spec_joGood_0) } | _ => none
theorem step_spec_joGood_0_eq (s : (List (Int × (ByteArray × Bool))) × (List (Int × (ByteArray × Bool))) × Int × Int) : stepEv env_spec_joGood loops_spec_joGood pat_spec_joGood_0 outs_spec_joGood_0 Try.f33 2 s = step_spec_joGood_0 s := by kernel_rfl
theorem F_spec_joGood_eq (x : (List (Int × (ByteArray × Bool)))) : Fev env_spec_joGood loops_spec_joGood c_spec_joGood.ps c_spec_joGood.rs Try.f33 x = F_spec_joGood x := by kernel_rfl
theorem env_spec_joGood_ok : EnvOK Try.prog env_spec_joGood := envOK_of (fun f c h => by
  simp only [env_spec_joGood] at h
  split at h
  · cases h; exact con_spec_joOne
  · cases h) (fun f c h => by cases h) rfl
theorem con_spec_joGood : ConOK Try.prog 33 c_spec_joGood := con_of_ev' (body := Try.f33.body.getD .skip) (Λ := loops_spec_joGood) mixed Try.func33 (by kernel_rfl) (by kernel_rfl) env_spec_joGood_ok rfl (by kernel_rfl) (fun n L h => by
  unfold loops_spec_joGood at h
  split at h
  · cases h; exact fun s o ho => loop_ok (stepF := stepEv env_spec_joGood loops_spec_joGood pat_spec_joGood_0 outs_spec_joGood_0 Try.f33 2) (step_spec_joGood_0_eq) ho
  · cases h) F_spec_joGood_eq

noncomputable def F_spec_AreEdits (x : (List (Int × (ByteArray × Bool)))) : Option (Bool) :=
  match F_spec_joGood (x) with
  | none => none
  | some y1 =>
    some (y1)
noncomputable def c_spec_AreEdits : Con := { ps := [(.val, (.slice (.st (.pair (.int .i64) (.pair .str .bool)))))], rs := [(.val, .bool)], F := F_spec_AreEdits }
noncomputable def env_spec_AreEdits : Env := { par := [], con := fun f => match f with | 33 => some c_spec_joGood | _ => none, clo := fun _ => none, T := tinf Try.prog }
noncomputable def loops_spec_AreEdits : Nat → Option Loop := fun n => none
theorem F_spec_AreEdits_eq (x : (List (Int × (ByteArray × Bool)))) : Fev env_spec_AreEdits loops_spec_AreEdits c_spec_AreEdits.ps c_spec_AreEdits.rs Try.f10 x = F_spec_AreEdits x := by kernel_rfl
theorem env_spec_AreEdits_ok : EnvOK Try.prog env_spec_AreEdits := envOK_of (fun f c h => by
  simp only [env_spec_AreEdits] at h
  split at h
  · cases h; exact con_spec_joGood
  · cases h) (fun f c h => by cases h) rfl
theorem con_spec_AreEdits : ConOK Try.prog 10 c_spec_AreEdits := con_of_ev' (body := Try.f10.body.getD .skip) (Λ := loops_spec_AreEdits) mixed Try.func10 (by kernel_rfl) (by kernel_rfl) env_spec_AreEdits_ok rfl (by kernel_rfl) (fun n L h => by cases h) F_spec_AreEdits_eq

noncomputable def F_impl_within (x : Int × Int × Int) : Option (Bool) :=
  bif (decide (x.1 ≥ x.2.1)) then
    some ((decide (x.1 ≤ x.2.2)))
  else
    some (false)
noncomputable def c_impl_within : Con := { ps := [(.val, (.int .i64)), (.val, (.int .i64)), (.val, (.int .i64))], rs := [(.val, .bool)], F := F_impl_within }
noncomputable def env_impl_within : Env := { par := [], con := fun _ => none, clo := fun _ => none, T := tinf Try.prog }
noncomputable def loops_impl_within : Nat → Option Loop := fun n => none
theorem F_impl_within_eq (x : Int × Int × Int) : Fev env_impl_within loops_impl_within c_impl_within.ps c_impl_within.rs Try.f41 x = F_impl_within x := by kernel_rfl
theorem env_impl_within_ok : EnvOK Try.prog env_impl_within := envOK_of (fun f c h => by cases h) (fun f c h => by cases h) rfl
theorem con_impl_within : ConOK Try.prog 41 c_impl_within := con_of_ev' (body := Try.f41.body.getD .skip) (Λ := loops_impl_within) mixed Try.func41 (by kernel_rfl) (by kernel_rfl) env_impl_within_ok rfl (by kernel_rfl) (fun n L h => by cases h) F_impl_within_eq

set_option maxHeartbeats 1000000 in
theorem calls_strings_IndexByte (s : ByteArray) (c : Int) (w : World) :
    Calls Try.prog 75 #[.string s, .int .u8 c] w fun e w' => e = .returned (.int .i64 (Lib.indexByte s.data.toList c.toNat.toUInt8)) ∧ w' = w := by
  go_enter Try.func75, Try.ntmps75
  go_wp2
  rw [run_callFunc_extern Try.func77 (by kernel_rfl) (by kernel_rfl) (by kernel_rfl) (e := Extern.BytealgIndexByte.indexByte) (by kernel_rfl), Lib.run_indexByteString]
  simp only [Result.andThen]
  rw [Oper.upon_value]
  go_wp2
  go_ret
  exact ⟨rfl, rfl⟩
def F_strings_IndexByte (x : ByteArray × Int) : Option Int := some (Lib.indexByte x.1.data.toList x.2.toNat.toUInt8)
def c_strings_IndexByte : Con := { ps := [(.val, .str), (.val, .int .u8)], rs := [(.val, .int .i64)], F := F_strings_IndexByte }
theorem con_strings_IndexByte : ConOK Try.prog 75 c_strings_IndexByte := con_of_pure ⟨Try.f75, Try.func75, by kernel_rfl, by kernel_rfl⟩ rfl rfl fun w x y hy => by
  have e : y = Lib.indexByte x.1.data.toList x.2.toNat.toUInt8 := (Option.some.inj hy).symm
  subst e
  refine (calls_strings_IndexByte x.1 x.2 w).mono ?_
  rintro e w' ⟨rfl, rfl⟩
  exact ⟨rfl, Fr.refl _ _⟩

noncomputable def step_impl_hasOnly_0 (s : ByteArray × ByteArray × Int × Int) : Option ((ByteArray × ByteArray × Int × Int) ⊕ ((Bool) ⊕ (Unit))) :=
  bif (decide (s.2.2.2 < s.2.2.1)) then
    bif decide (0 ≤ s.2.2.2) && decide (s.2.2.2 < (s.1.size : Int)) then
      match F_strings_IndexByte ((s.2.1, (byteAt s.1 (s.2.2.2).toNat))) with
      | none => none
      | some y3 =>
        bif (decide (y3 < 0)) then
          some (.inr (.inl (false)))
        else
          let v4 := IntKind.i64.wrap (s.2.2.2 + 1)
          some (.inl ((s.1, (s.2.1, s.2.2.1, v4))))
    else none
  else
    some (.inr (.inr (())))
def pat_impl_hasOnly_0 : Pat := { tmps := [.v .str, .v .str, .any, .any, .any, .any, .any, .v (.int .i64), .v (.int .i64), .any, .any, .any, .any, .any, .any, .any, .any, .any], blks := [] }
def outs_impl_hasOnly_0 : List (Exit × Pat) := [(.ret, { tmps := [.any, .any, .any, .any, .v .bool, .any, .any, .any, .any, .any, .any, .any, .any, .any, .any, .any, .any, .any], blks := [] }), (.exit 0, { tmps := [.any, .any, .any, .any, .any, .any, .any, .any, .any, .any, .any, .any, .any, .any, .any, .any, .any, .any], blks := [] })]
noncomputable def F_impl_hasOnly (x : ByteArray × ByteArray) : Option (Bool) :=
  match runL step_impl_hasOnly_0 ((x.1, (x.2, (x.1.size : Int), 0))) with
  | none => none
  | some (.inl o5) =>
    some (o5)
  | some (.inr o5) =>
    some (true)
noncomputable def c_impl_hasOnly : Con := { ps := [(.val, .str), (.val, .str)], rs := [(.val, .bool)], F := F_impl_hasOnly }
noncomputable def env_impl_hasOnly : Env := { par := [], con := fun f => match f with | 75 => some c_strings_IndexByte | _ => none, clo := fun _ => none, T := tinf Try.prog }
noncomputable def loops_impl_hasOnly : Nat → Option Loop := fun n => match n with | 2 => some { pat := pat_impl_hasOnly_0, outs := outs_impl_hasOnly_0, run := runL (step_impl_hasOnly_0) } | _ => none
theorem step_impl_hasOnly_0_eq (s : ByteArray × ByteArray × Int × Int) : stepEv env_impl_hasOnly loops_impl_hasOnly pat_impl_hasOnly_0 outs_impl_hasOnly_0 Try.f73 2 s = step_impl_hasOnly_0 s := by kernel_rfl
theorem F_impl_hasOnly_eq (x : ByteArray × ByteArray) : Fev env_impl_hasOnly loops_impl_hasOnly c_impl_hasOnly.ps c_impl_hasOnly.rs Try.f73 x = F_impl_hasOnly x := by kernel_rfl
theorem env_impl_hasOnly_ok : EnvOK Try.prog env_impl_hasOnly := envOK_of (fun f c h => by
  simp only [env_impl_hasOnly] at h
  split at h
  · cases h; exact con_strings_IndexByte
  · cases h) (fun f c h => by cases h) rfl
theorem con_impl_hasOnly : ConOK Try.prog 73 c_impl_hasOnly := con_of_ev' (body := Try.f73.body.getD .skip) (Λ := loops_impl_hasOnly) mixed Try.func73 (by kernel_rfl) (by kernel_rfl) env_impl_hasOnly_ok rfl (by kernel_rfl) (fun n L h => by
  unfold loops_impl_hasOnly at h
  split at h
  · cases h; exact fun s o ho => loop_ok (stepF := stepEv env_impl_hasOnly loops_impl_hasOnly pat_impl_hasOnly_0 outs_impl_hasOnly_0 Try.f73 2) (step_impl_hasOnly_0_eq) ho
  · cases h) F_impl_hasOnly_eq

noncomputable def F_impl_isWordOf (x : ByteArray × ByteArray) : Option (Bool) :=
  match F_impl_within (((x.1.size : Int), 1, 8)) with
  | none => none
  | some y1 =>
    bif y1 then
      match F_impl_hasOnly (x) with
      | none => none
      | some y2 =>
        some (y2)
    else
      some (false)
noncomputable def c_impl_isWordOf : Con := { ps := [(.val, .str), (.val, .str)], rs := [(.val, .bool)], F := F_impl_isWordOf }
noncomputable def env_impl_isWordOf : Env := { par := [], con := fun f => match f with | 41 => some c_impl_within | 73 => some c_impl_hasOnly | _ => none, clo := fun _ => none, T := tinf Try.prog }
noncomputable def loops_impl_isWordOf : Nat → Option Loop := fun n => none
theorem F_impl_isWordOf_eq (x : ByteArray × ByteArray) : Fev env_impl_isWordOf loops_impl_isWordOf c_impl_isWordOf.ps c_impl_isWordOf.rs Try.f68 x = F_impl_isWordOf x := by kernel_rfl
theorem env_impl_isWordOf_ok : EnvOK Try.prog env_impl_isWordOf := envOK_of (fun f c h => by
  simp only [env_impl_isWordOf] at h
  split at h
  · cases h; exact con_impl_within
  · cases h; exact con_impl_hasOnly
  · cases h) (fun f c h => by cases h) rfl
theorem con_impl_isWordOf : ConOK Try.prog 68 c_impl_isWordOf := con_of_ev' (body := Try.f68.body.getD .skip) (Λ := loops_impl_isWordOf) mixed Try.func68 (by kernel_rfl) (by kernel_rfl) env_impl_isWordOf_ok rfl (by kernel_rfl) (fun n L h => by cases h) F_impl_isWordOf_eq

noncomputable def F_impl_IsGloss (x : ByteArray) : Option (Bool) :=
  match F_impl_isWordOf ((x, (⟨#[65, 66, 67, 68, 69, 70, 71, 72, 73, 74, 75, 76, 77, 78, 79, 80, 81, 82, 83, 84, 85, 86, 87, 88, 89, 90]⟩ : ByteArray))) with
  | none => none
  | some y1 =>
    some (y1)
noncomputable def c_impl_IsGloss : Con := { ps := [(.val, .str)], rs := [(.val, .bool)], F := F_impl_IsGloss }
noncomputable def env_impl_IsGloss : Env := { par := [], con := fun f => match f with | 68 => some c_impl_isWordOf | _ => none, clo := fun _ => none, T := tinf Try.prog }
noncomputable def loops_impl_IsGloss : Nat → Option Loop := fun n => none
theorem F_impl_IsGloss_eq (x : ByteArray) : Fev env_impl_IsGloss loops_impl_IsGloss c_impl_IsGloss.ps c_impl_IsGloss.rs Try.f53 x = F_impl_IsGloss x := by kernel_rfl
theorem env_impl_IsGloss_ok : EnvOK Try.prog env_impl_IsGloss := envOK_of (fun f c h => by
  simp only [env_impl_IsGloss] at h
  split at h
  · cases h; exact con_impl_isWordOf
  · cases h) (fun f c h => by cases h) rfl
theorem con_impl_IsGloss : ConOK Try.prog 53 c_impl_IsGloss := con_of_ev' (body := Try.f53.body.getD .skip) (Λ := loops_impl_IsGloss) mixed Try.func53 (by kernel_rfl) (by kernel_rfl) env_impl_IsGloss_ok rfl (by kernel_rfl) (fun n L h => by cases h) F_impl_IsGloss_eq

noncomputable def F_impl_isLogEdit (x : (Int × (ByteArray × Bool))) : Option (Bool) :=
  match F_impl_within ((x.1, 1, 999)) with
  | none => none
  | some y1 =>
    bif y1 then
      match F_impl_IsGloss (x.2.1) with
      | none => none
      | some y2 =>
        some (y2)
    else
      some (false)
noncomputable def c_impl_isLogEdit : Con := { ps := [(.val, (.st (.pair (.int .i64) (.pair .str .bool))))], rs := [(.val, .bool)], F := F_impl_isLogEdit }
noncomputable def env_impl_isLogEdit : Env := { par := [], con := fun f => match f with | 41 => some c_impl_within | 53 => some c_impl_IsGloss | _ => none, clo := fun _ => none, T := tinf Try.prog }
noncomputable def loops_impl_isLogEdit : Nat → Option Loop := fun n => none
theorem F_impl_isLogEdit_eq (x : (Int × (ByteArray × Bool))) : Fev env_impl_isLogEdit loops_impl_isLogEdit c_impl_isLogEdit.ps c_impl_isLogEdit.rs Try.f35 x = F_impl_isLogEdit x := by kernel_rfl
theorem env_impl_isLogEdit_ok : EnvOK Try.prog env_impl_isLogEdit := envOK_of (fun f c h => by
  simp only [env_impl_isLogEdit] at h
  split at h
  · cases h; exact con_impl_within
  · cases h; exact con_impl_IsGloss
  · cases h) (fun f c h => by cases h) rfl
theorem con_impl_isLogEdit : ConOK Try.prog 35 c_impl_isLogEdit := con_of_ev' (body := Try.f35.body.getD .skip) (Λ := loops_impl_isLogEdit) mixed Try.func35 (by kernel_rfl) (by kernel_rfl) env_impl_isLogEdit_ok rfl (by kernel_rfl) (fun n L h => by cases h) F_impl_isLogEdit_eq

noncomputable def step_impl_AreEdits_0 (s : (List (Int × (ByteArray × Bool))) × (List (Int × (ByteArray × Bool))) × Int × Int) : Option (((List (Int × (ByteArray × Bool))) × (List (Int × (ByteArray × Bool))) × Int × Int) ⊕ ((Bool) ⊕ ((List (Int × (ByteArray × Bool)))))) :=
  bif (decide (s.2.2.2 < s.2.2.1)) then
    bif decide (0 ≤ s.2.2.2) && decide (s.2.2.2 < (s.2.1.length : Int)) then
      match F_impl_isLogEdit ((s.2.1.getD (s.2.2.2).toNat (0, ByteArray.empty, false))) with
      | none => none
      | some y5 =>
        bif (!y5) then
          some (.inr (.inl (false)))
        else
          bif (decide (s.2.2.2 > 0)) then
            let v6 := IntKind.i64.wrap (s.2.2.2 - 1)
            bif decide (0 ≤ v6) && decide (v6 < (s.1.length : Int)) then
              bif (decide ((s.2.1.getD (s.2.2.2).toNat (0, ByteArray.empty, false)).1 ≤ (s.1.getD (v6).toNat (0, ByteArray.empty, false)).1)) then
                some (.inr (.inl (false)))
              else
                let v7 := IntKind.i64.wrap (s.2.2.2 + 1)
                some (.inl ((s.1, (s.2.1, s.2.2.1, v7))))
            else none
          else
            let v8 := IntKind.i64.wrap (s.2.2.2 + 1)
            some (.inl ((s.1, (s.2.1, s.2.2.1, v8))))
    else none
  else
    some (.inr (.inr (s.1)))
def pat_impl_AreEdits_0 : Pat := { tmps := [.v (.slice (.st (.pair (.int .i64) (.pair .str .bool)))), .any, .any, .any, .any, .v (.slice (.st (.pair (.int .i64) (.pair .str .bool)))), .v (.int .i64), .v (.int .i64), .any, .any, .any, .any, .any, .any, .any, .any, .any, .any, .any, .any, .any, .any, .any, .any, .any, .any, .any, .any, .any, .any, .any, .any, .any, .any], blks := [] }
def outs_impl_AreEdits_0 : List (Exit × Pat) := [(.ret, { tmps := [.any, .any, .v .bool, .any, .any, .any, .any, .any, .any, .any, .any, .any, .any, .any, .any, .any, .any, .any, .any, .any, .any, .any, .any, .any, .any, .any, .any, .any, .any, .any, .any, .any, .any, .any], blks := [] }), (.exit 0, { tmps := [.v (.slice (.st (.pair (.int .i64) (.pair .str .bool)))), .any, .any, .any, .any, .any, .any, .any, .any, .any, .any, .any, .any, .any, .any, .any, .any, .any, .any, .any, .any, .any, .any, .any, .any, .any, .any, .any, .any, .any, .any, .any, .any, .any], blks := [] })]
noncomputable def F_impl_AreEdits (x : (List (Int × (ByteArray × Bool)))) : Option (Bool) :=
  match runL step_impl_AreEdits_0 ((x, (x, (x.length : Int), 0))) with
  | none => none
  | some (.inl o9) =>
    some (o9)
  | some (.inr o9) =>
    some ((decide ((o9.length : Int) ≤ 40)))
noncomputable def c_impl_AreEdits : Con := { ps := [(.val, (.slice (.st (.pair (.int .i64) (.pair .str .bool)))))], rs := [(.val, .bool)], F := F_impl_AreEdits }
noncomputable def env_impl_AreEdits : Env := { par := [], con := fun f => match f with | 35 => some c_impl_isLogEdit | _ => none, clo := fun _ => none, T := tinf Try.prog }
noncomputable def loops_impl_AreEdits : Nat → Option Loop := fun n => match n with | 2 => some { pat := pat_impl_AreEdits_0, outs := outs_impl_AreEdits_0, run := runL (step_impl_AreEdits_0) } | _ => none
theorem step_impl_AreEdits_0_eq (s : (List (Int × (ByteArray × Bool))) × (List (Int × (ByteArray × Bool))) × Int × Int) : stepEv env_impl_AreEdits loops_impl_AreEdits pat_impl_AreEdits_0 outs_impl_AreEdits_0 Try.f12 2 s = step_impl_AreEdits_0 s := by kernel_rfl
theorem F_impl_AreEdits_eq (x : (List (Int × (ByteArray × Bool)))) : Fev env_impl_AreEdits loops_impl_AreEdits c_impl_AreEdits.ps c_impl_AreEdits.rs Try.f12 x = F_impl_AreEdits x := by kernel_rfl
theorem env_impl_AreEdits_ok : EnvOK Try.prog env_impl_AreEdits := envOK_of (fun f c h => by
  simp only [env_impl_AreEdits] at h
  split at h
  · cases h; exact con_impl_isLogEdit
  · cases h) (fun f c h => by cases h) rfl
theorem con_impl_AreEdits : ConOK Try.prog 12 c_impl_AreEdits := con_of_ev' (body := Try.f12.body.getD .skip) (Λ := loops_impl_AreEdits) mixed Try.func12 (by kernel_rfl) (by kernel_rfl) env_impl_AreEdits_ok rfl (by kernel_rfl) (fun n L h => by
  unfold loops_impl_AreEdits at h
  split at h
  · cases h; exact fun s o ho => loop_ok (stepF := stepEv env_impl_AreEdits loops_impl_AreEdits pat_impl_AreEdits_0 outs_impl_AreEdits_0 Try.f12 2) (step_impl_AreEdits_0_eq) ho
  · cases h) F_impl_AreEdits_eq

noncomputable def F_laws_eqLogEdit (x : (Int × (ByteArray × Bool)) × (Int × (ByteArray × Bool))) : Option (Bool) :=
  bif ((x.1.1 != x.2.1)) then
    some (false)
  else
    bif (!(x.1.2.1.toList == x.2.2.1.toList)) then
      some (false)
    else
      bif (!(x.1.2.2 == x.2.2.2)) then
        some (false)
      else
        some (true)
noncomputable def c_laws_eqLogEdit : Con := { ps := [(.val, (.st (.pair (.int .i64) (.pair .str .bool)))), (.val, (.st (.pair (.int .i64) (.pair .str .bool))))], rs := [(.val, .bool)], F := F_laws_eqLogEdit }
noncomputable def env_laws_eqLogEdit : Env := { par := [], con := fun _ => none, clo := fun _ => none, T := tinf Try.prog }
noncomputable def loops_laws_eqLogEdit : Nat → Option Loop := fun n => none
theorem F_laws_eqLogEdit_eq (x : (Int × (ByteArray × Bool)) × (Int × (ByteArray × Bool))) : Fev env_laws_eqLogEdit loops_laws_eqLogEdit c_laws_eqLogEdit.ps c_laws_eqLogEdit.rs Try.f36 x = F_laws_eqLogEdit x := by kernel_rfl
theorem env_laws_eqLogEdit_ok : EnvOK Try.prog env_laws_eqLogEdit := envOK_of (fun f c h => by cases h) (fun f c h => by cases h) rfl
theorem con_laws_eqLogEdit : ConOK Try.prog 36 c_laws_eqLogEdit := con_of_ev' (body := Try.f36.body.getD .skip) (Λ := loops_laws_eqLogEdit) mixed Try.func36 (by kernel_rfl) (by kernel_rfl) env_laws_eqLogEdit_ok rfl (by kernel_rfl) (fun n L h => by cases h) F_laws_eqLogEdit_eq

noncomputable def step_laws_eqLogEditS_0 (s : (List (Int × (ByteArray × Bool))) × (List (Int × (ByteArray × Bool))) × Int) : Option (((List (Int × (ByteArray × Bool))) × (List (Int × (ByteArray × Bool))) × Int) ⊕ ((Bool) ⊕ (Unit))) :=
  bif (decide (s.2.2 < (s.1.length : Int))) then
    bif decide (0 ≤ s.2.2) && decide (s.2.2 < (s.1.length : Int)) then
      bif decide (0 ≤ s.2.2) && decide (s.2.2 < (s.2.1.length : Int)) then
        match F_laws_eqLogEdit (((s.1.getD (s.2.2).toNat (0, ByteArray.empty, false)), (s.2.1.getD (s.2.2).toNat (0, ByteArray.empty, false)))) with
        | none => none
        | some y3 =>
          bif (!y3) then
            some (.inr (.inl (false)))
          else
            let v4 := IntKind.i64.wrap (s.2.2 + 1)
            some (.inl ((s.1, s.2.1, v4)))
      else none
    else none
  else
    some (.inr (.inr (())))
def pat_laws_eqLogEditS_0 : Pat := { tmps := [.v (.slice (.st (.pair (.int .i64) (.pair .str .bool)))), .v (.slice (.st (.pair (.int .i64) (.pair .str .bool)))), .any, .any, .any, .v (.int .i64), .any, .any, .any, .any, .any, .any, .any, .any, .any, .any, .any, .any, .any, .any, .any, .any, .any, .any, .any, .any, .any], blks := [] }
def outs_laws_eqLogEditS_0 : List (Exit × Pat) := [(.ret, { tmps := [.any, .any, .any, .any, .v .bool, .any, .any, .any, .any, .any, .any, .any, .any, .any, .any, .any, .any, .any, .any, .any, .any, .any, .any, .any, .any, .any, .any], blks := [] }), (.exit 0, { tmps := [.any, .any, .any, .any, .any, .any, .any, .any, .any, .any, .any, .any, .any, .any, .any, .any, .any, .any, .any, .any, .any, .any, .any, .any, .any, .any, .any], blks := [] })]
noncomputable def F_laws_eqLogEditS (x : (List (Int × (ByteArray × Bool))) × (List (Int × (ByteArray × Bool)))) : Option (Bool) :=
  bif (((x.1.length : Int) != (x.2.length : Int))) then
    some (false)
  else
    match runL step_laws_eqLogEditS_0 ((x.1, x.2, 0)) with
    | none => none
    | some (.inl o5) =>
      some (o5)
    | some (.inr o5) =>
      some (true)
noncomputable def c_laws_eqLogEditS : Con := { ps := [(.val, (.slice (.st (.pair (.int .i64) (.pair .str .bool))))), (.val, (.slice (.st (.pair (.int .i64) (.pair .str .bool)))))], rs := [(.val, .bool)], F := F_laws_eqLogEditS }
noncomputable def env_laws_eqLogEditS : Env := { par := [], con := fun f => match f with | 36 => some c_laws_eqLogEdit | _ => none, clo := fun _ => none, T := tinf Try.prog }
noncomputable def loops_laws_eqLogEditS : Nat → Option Loop := fun n => match n with | 4 => some { pat := pat_laws_eqLogEditS_0, outs := outs_laws_eqLogEditS_0, run := runL (step_laws_eqLogEditS_0) } | _ => none
theorem step_laws_eqLogEditS_0_eq (s : (List (Int × (ByteArray × Bool))) × (List (Int × (ByteArray × Bool))) × Int) : stepEv env_laws_eqLogEditS loops_laws_eqLogEditS pat_laws_eqLogEditS_0 outs_laws_eqLogEditS_0 Try.f13 4 s = step_laws_eqLogEditS_0 s := by kernel_rfl
theorem F_laws_eqLogEditS_eq (x : (List (Int × (ByteArray × Bool))) × (List (Int × (ByteArray × Bool)))) : Fev env_laws_eqLogEditS loops_laws_eqLogEditS c_laws_eqLogEditS.ps c_laws_eqLogEditS.rs Try.f13 x = F_laws_eqLogEditS x := by kernel_rfl
theorem env_laws_eqLogEditS_ok : EnvOK Try.prog env_laws_eqLogEditS := envOK_of (fun f c h => by
  simp only [env_laws_eqLogEditS] at h
  split at h
  · cases h; exact con_laws_eqLogEdit
  · cases h) (fun f c h => by cases h) rfl
theorem con_laws_eqLogEditS : ConOK Try.prog 13 c_laws_eqLogEditS := con_of_ev' (body := Try.f13.body.getD .skip) (Λ := loops_laws_eqLogEditS) mixed Try.func13 (by kernel_rfl) (by kernel_rfl) env_laws_eqLogEditS_ok rfl (by kernel_rfl) (fun n L h => by
  unfold loops_laws_eqLogEditS at h
  split at h
  · cases h; exact fun s o ho => loop_ok (stepF := stepEv env_laws_eqLogEditS loops_laws_eqLogEditS pat_laws_eqLogEditS_0 outs_laws_eqLogEditS_0 Try.f13 4) (step_laws_eqLogEditS_0_eq) ho
  · cases h) F_laws_eqLogEditS_eq

noncomputable def F_laws_FnExactAreEdits (x : (List (Int × (ByteArray × Bool)))) : Option (Bool) :=
  match F_laws_szLogEditS ((x, 1048576)) with
  | none => none
  | some y1 =>
    bif (decide (y1 < 0)) then
      some (true)
    else
      match F_laws_toLogEditS (x) with
      | none => none
      | some y2 =>
        match F_spec_AreEdits (y2) with
        | none => none
        | some y3 =>
          match F_laws_toLogEditS (x) with
          | none => none
          | some y4 =>
            match F_impl_AreEdits (y4) with
            | none => none
            | some y5 =>
              bif (!(y5 == y3)) then
                some (false)
              else
                match F_laws_toLogEditS (x) with
                | none => none
                | some y6 =>
                  match F_laws_eqLogEditS ((y4, y6)) with
                  | none => none
                  | some y7 =>
                    bif (!y7) then
                      some (false)
                    else
                      some (true)
noncomputable def c_laws_FnExactAreEdits : Con := { ps := [(.val, (.slice (.st (.pair (.int .i64) (.pair .str .bool)))))], rs := [(.val, .bool)], F := F_laws_FnExactAreEdits }
noncomputable def env_laws_FnExactAreEdits : Env := { par := [], con := fun f => match f with | 9 => some c_laws_szLogEditS | 10 => some c_spec_AreEdits | 11 => some c_laws_toLogEditS | 12 => some c_impl_AreEdits | 13 => some c_laws_eqLogEditS | _ => none, clo := fun _ => none, T := tinf Try.prog }
noncomputable def loops_laws_FnExactAreEdits : Nat → Option Loop := fun n => none
theorem F_laws_FnExactAreEdits_eq (x : (List (Int × (ByteArray × Bool)))) : Fev env_laws_FnExactAreEdits loops_laws_FnExactAreEdits c_laws_FnExactAreEdits.ps c_laws_FnExactAreEdits.rs Try.f3 x = F_laws_FnExactAreEdits x := by kernel_rfl
theorem env_laws_FnExactAreEdits_ok : EnvOK Try.prog env_laws_FnExactAreEdits := envOK_of (fun f c h => by
  simp only [env_laws_FnExactAreEdits] at h
  split at h
  · cases h; exact con_laws_szLogEditS
  · cases h; exact con_spec_AreEdits
  · cases h; exact con_laws_toLogEditS
  · cases h; exact con_impl_AreEdits
  · cases h; exact con_laws_eqLogEditS
  · cases h) (fun f c h => by cases h) rfl
theorem con_laws_FnExactAreEdits : ConOK Try.prog 3 c_laws_FnExactAreEdits := con_of_ev' (body := Try.f3.body.getD .skip) (Λ := loops_laws_FnExactAreEdits) mixed Try.func3 (by kernel_rfl) (by kernel_rfl) env_laws_FnExactAreEdits_ok rfl (by kernel_rfl) (fun n L h => by cases h) F_laws_FnExactAreEdits_eq

noncomputable def F_laws_szIntS (x : (List Int) × Int) : Option (Int) :=
  let v1 := IntKind.i64.wrap (x.2 - (x.1.length : Int))
  bif (decide (v1 < 0)) then
    some ((-1))
  else
    some (v1)
noncomputable def c_laws_szIntS : Con := { ps := [(.val, (.slice (.int .i64))), (.val, (.int .i64))], rs := [(.val, (.int .i64))], F := F_laws_szIntS }
noncomputable def env_laws_szIntS : Env := { par := [], con := fun _ => none, clo := fun _ => none, T := tinf Try.prog }
noncomputable def loops_laws_szIntS : Nat → Option Loop := fun n => none
theorem F_laws_szIntS_eq (x : (List Int) × Int) : Fev env_laws_szIntS loops_laws_szIntS c_laws_szIntS.ps c_laws_szIntS.rs Try.f54 x = F_laws_szIntS x := by kernel_rfl
theorem env_laws_szIntS_ok : EnvOK Try.prog env_laws_szIntS := envOK_of (fun f c h => by cases h) (fun f c h => by cases h) rfl
theorem con_laws_szIntS : ConOK Try.prog 54 c_laws_szIntS := con_of_ev' (body := Try.f54.body.getD .skip) (Λ := loops_laws_szIntS) mixed Try.func54 (by kernel_rfl) (by kernel_rfl) env_laws_szIntS_ok rfl (by kernel_rfl) (fun n L h => by cases h) F_laws_szIntS_eq

noncomputable def F_laws_szProposal (x : (Int × (Int × (ByteArray × (List Int)))) × Int) : Option (Int) :=
  let v1 := IntKind.i64.wrap (x.2 - (x.1.2.2.1.size : Int))
  bif (decide (v1 < 0)) then
    some ((-1))
  else
    match F_laws_szIntS ((x.1.2.2.2, v1)) with
    | none => none
    | some y2 =>
      bif (decide (y2 < 0)) then
        some ((-1))
      else
        some (y2)
noncomputable def c_laws_szProposal : Con := { ps := [(.val, (.st (.pair (.int .i64) (.pair (.int .i64) (.pair .str (.slice (.int .i64))))))), (.val, (.int .i64))], rs := [(.val, (.int .i64))], F := F_laws_szProposal }
noncomputable def env_laws_szProposal : Env := { par := [], con := fun f => match f with | 54 => some c_laws_szIntS | _ => none, clo := fun _ => none, T := tinf Try.prog }
noncomputable def loops_laws_szProposal : Nat → Option Loop := fun n => none
theorem F_laws_szProposal_eq (x : (Int × (Int × (ByteArray × (List Int)))) × Int) : Fev env_laws_szProposal loops_laws_szProposal c_laws_szProposal.ps c_laws_szProposal.rs Try.f37 x = F_laws_szProposal x := by kernel_rfl
theorem env_laws_szProposal_ok : EnvOK Try.prog env_laws_szProposal := envOK_of (fun f c h => by
  simp only [env_laws_szProposal] at h
  split at h
  · cases h; exact con_laws_szIntS
  · cases h) (fun f c h => by cases h) rfl
theorem con_laws_szProposal : ConOK Try.prog 37 c_laws_szProposal := con_of_ev' (body := Try.f37.body.getD .skip) (Λ := loops_laws_szProposal) mixed Try.func37 (by kernel_rfl) (by kernel_rfl) env_laws_szProposal_ok rfl (by kernel_rfl) (fun n L h => by cases h) F_laws_szProposal_eq

noncomputable def step_laws_szProposalS_0 (s : (List (Int × (Int × (ByteArray × (List Int))))) × Int × Int) : Option (((List (Int × (Int × (ByteArray × (List Int))))) × Int × Int) ⊕ ((Int) ⊕ (Int))) :=
  bif (decide (s.2.2 < (s.1.length : Int))) then
    bif decide (0 ≤ s.2.2) && decide (s.2.2 < (s.1.length : Int)) then
      match F_laws_szProposal (((s.1.getD (s.2.2).toNat (0, (0, ByteArray.empty, []))), s.2.1)) with
      | none => none
      | some y4 =>
        bif (decide (y4 < 0)) then
          some (.inr (.inl ((-1))))
        else
          let v5 := IntKind.i64.wrap (s.2.2 + 1)
          some (.inl ((s.1, y4, v5)))
    else none
  else
    some (.inr (.inr (s.2.1)))
def pat_laws_szProposalS_0 : Pat := { tmps := [.v (.slice (.st (.pair (.int .i64) (.pair (.int .i64) (.pair .str (.slice (.int .i64))))))), .v (.int .i64), .any, .any, .any, .v (.int .i64), .any, .any, .any, .any, .any, .any, .any, .any, .any, .any, .any, .any, .any, .any, .any, .any, .any, .any, .any, .any, .any], blks := [] }
def outs_laws_szProposalS_0 : List (Exit × Pat) := [(.ret, { tmps := [.any, .any, .any, .any, .v (.int .i64), .any, .any, .any, .any, .any, .any, .any, .any, .any, .any, .any, .any, .any, .any, .any, .any, .any, .any, .any, .any, .any, .any], blks := [] }), (.exit 0, { tmps := [.any, .v (.int .i64), .any, .any, .any, .any, .any, .any, .any, .any, .any, .any, .any, .any, .any, .any, .any, .any, .any, .any, .any, .any, .any, .any, .any, .any, .any], blks := [] })]
noncomputable def F_laws_szProposalS (x : (List (Int × (Int × (ByteArray × (List Int))))) × Int) : Option (Int) :=
  let v1 := IntKind.i64.wrap (x.2 - (x.1.length : Int))
  bif (decide (v1 < 0)) then
    some ((-1))
  else
    match runL step_laws_szProposalS_0 ((x.1, v1, 0)) with
    | none => none
    | some (.inl o6) =>
      some (o6)
    | some (.inr o6) =>
      some (o6)
noncomputable def c_laws_szProposalS : Con := { ps := [(.val, (.slice (.st (.pair (.int .i64) (.pair (.int .i64) (.pair .str (.slice (.int .i64)))))))), (.val, (.int .i64))], rs := [(.val, (.int .i64))], F := F_laws_szProposalS }
noncomputable def env_laws_szProposalS : Env := { par := [], con := fun f => match f with | 37 => some c_laws_szProposal | _ => none, clo := fun _ => none, T := tinf Try.prog }
noncomputable def loops_laws_szProposalS : Nat → Option Loop := fun n => match n with | 5 => some { pat := pat_laws_szProposalS_0, outs := outs_laws_szProposalS_0, run := runL (step_laws_szProposalS_0) } | _ => none
theorem step_laws_szProposalS_0_eq (s : (List (Int × (Int × (ByteArray × (List Int))))) × Int × Int) : stepEv env_laws_szProposalS loops_laws_szProposalS pat_laws_szProposalS_0 outs_laws_szProposalS_0 Try.f14 5 s = step_laws_szProposalS_0 s := by kernel_rfl
theorem F_laws_szProposalS_eq (x : (List (Int × (Int × (ByteArray × (List Int))))) × Int) : Fev env_laws_szProposalS loops_laws_szProposalS c_laws_szProposalS.ps c_laws_szProposalS.rs Try.f14 x = F_laws_szProposalS x := by kernel_rfl
theorem env_laws_szProposalS_ok : EnvOK Try.prog env_laws_szProposalS := envOK_of (fun f c h => by
  simp only [env_laws_szProposalS] at h
  split at h
  · cases h; exact con_laws_szProposal
  · cases h) (fun f c h => by cases h) rfl
theorem con_laws_szProposalS : ConOK Try.prog 14 c_laws_szProposalS := con_of_ev' (body := Try.f14.body.getD .skip) (Λ := loops_laws_szProposalS) mixed Try.func14 (by kernel_rfl) (by kernel_rfl) env_laws_szProposalS_ok rfl (by kernel_rfl) (fun n L h => by
  unfold loops_laws_szProposalS at h
  split at h
  · cases h; exact fun s o ho => loop_ok (stepF := stepEv env_laws_szProposalS loops_laws_szProposalS pat_laws_szProposalS_0 outs_laws_szProposalS_0 Try.f14 5) (step_laws_szProposalS_0_eq) ho
  · cases h) F_laws_szProposalS_eq

noncomputable def step_laws_toIntS_0 (s : (List Int) × Int × (List Int)) : Option (((List Int) × Int × (List Int)) ⊕ (((List Int)))) :=
  bif (decide (s.2.1 < (s.1.length : Int))) then
    bif decide (0 ≤ s.2.1) && decide (s.2.1 < (s.1.length : Int)) then
      bif decide (0 ≤ s.2.1) && decide (s.2.1 < (s.2.2.length : Int)) then
        let v3 := s.2.2.set (s.2.1).toNat ((s.1.getD (s.2.1).toNat 0))
        let v4 := IntKind.i64.wrap (s.2.1 + 1)
        some (.inl ((s.1, v4, v3)))
      else none
    else none
  else
    some (.inr (s.2.2))
def pat_laws_toIntS_0 : Pat := { tmps := [.v (.slice (.int .i64)), .any, .any, .own 448, .v (.int .i64), .any, .any, .any, .any, .any, .any, .any, .any, .any, .any, .any, .any, .any, .any, .any, .any, .any], blks := [(448, .row true (.int .i64))] }
def outs_laws_toIntS_0 : List (Exit × Pat) := [(.exit 0, { tmps := [.any, .any, .any, .own 448, .any, .any, .any, .any, .any, .any, .any, .any, .any, .any, .any, .any, .any, .any, .any, .any, .any, .any], blks := [(448, .row true (.int .i64))] })]
noncomputable def F_laws_toIntS (x : (List Int)) : Option ((List Int)) :=
  bif decide (0 ≤ (x.length : Int)) && decide ((x.length : Int) ≤ (x.length : Int)) && decide ((x.length : Int) * (8 : Int) ≤ 140737488355328) then
    match runL step_laws_toIntS_0 ((x, 0, (List.replicate ((x.length : Int)).toNat (0)))) with
    | none => none
    | some o5 =>
      some (o5)
  else none
noncomputable def c_laws_toIntS : Con := { ps := [(.val, (.slice (.int .i64)))], rs := [(.io true, (.slice (.int .i64)))], F := F_laws_toIntS }
noncomputable def env_laws_toIntS : Env := { par := [], con := fun _ => none, clo := fun _ => none, T := tinf Try.prog }
noncomputable def loops_laws_toIntS : Nat → Option Loop := fun n => match n with | 3 => some { pat := pat_laws_toIntS_0, outs := outs_laws_toIntS_0, run := runL (step_laws_toIntS_0) } | _ => none
theorem step_laws_toIntS_0_eq (s : (List Int) × Int × (List Int)) : stepEv env_laws_toIntS loops_laws_toIntS pat_laws_toIntS_0 outs_laws_toIntS_0 Try.f57 3 s = step_laws_toIntS_0 s := by kernel_rfl
theorem F_laws_toIntS_eq (x : (List Int)) : Fev env_laws_toIntS loops_laws_toIntS c_laws_toIntS.ps c_laws_toIntS.rs Try.f57 x = F_laws_toIntS x := by kernel_rfl
theorem env_laws_toIntS_ok : EnvOK Try.prog env_laws_toIntS := envOK_of (fun f c h => by cases h) (fun f c h => by cases h) rfl
theorem con_laws_toIntS : ConOK Try.prog 57 c_laws_toIntS := con_of_ev' (body := Try.f57.body.getD .skip) (Λ := loops_laws_toIntS) mixed Try.func57 (by kernel_rfl) (by kernel_rfl) env_laws_toIntS_ok rfl (by kernel_rfl) (fun n L h => by
  unfold loops_laws_toIntS at h
  split at h
  · cases h; exact fun s o ho => loop_ok (stepF := stepEv env_laws_toIntS loops_laws_toIntS pat_laws_toIntS_0 outs_laws_toIntS_0 Try.f57 3) (step_laws_toIntS_0_eq) ho
  · cases h) F_laws_toIntS_eq

noncomputable def F_laws_toProposal (x : (Int × (Int × (ByteArray × (List Int))))) : Option ((Int × (Int × (ByteArray × (List Int))))) :=
  match F_laws_toIntS (x.2.2.2) with
  | none => none
  | some y1 =>
    some ((x.1, (x.2.1, x.2.2.1, y1)))
noncomputable def c_laws_toProposal : Con := { ps := [(.val, (.st (.pair (.int .i64) (.pair (.int .i64) (.pair .str (.slice (.int .i64)))))))], rs := [(.val, (.st (.pair (.int .i64) (.pair (.int .i64) (.pair .str (.slice (.int .i64)))))))], F := F_laws_toProposal }
noncomputable def env_laws_toProposal : Env := { par := [], con := fun f => match f with | 57 => some c_laws_toIntS | _ => none, clo := fun _ => none, T := tinf Try.prog }
noncomputable def loops_laws_toProposal : Nat → Option Loop := fun n => none
theorem F_laws_toProposal_eq (x : (Int × (Int × (ByteArray × (List Int))))) : Fev env_laws_toProposal loops_laws_toProposal c_laws_toProposal.ps c_laws_toProposal.rs Try.f39 x = F_laws_toProposal x := by kernel_rfl
theorem env_laws_toProposal_ok : EnvOK Try.prog env_laws_toProposal := envOK_of (fun f c h => by
  simp only [env_laws_toProposal] at h
  split at h
  · cases h; exact con_laws_toIntS
  · cases h) (fun f c h => by cases h) rfl
theorem con_laws_toProposal : ConOK Try.prog 39 c_laws_toProposal := con_of_ev' (body := Try.f39.body.getD .skip) (Λ := loops_laws_toProposal) mixed Try.func39 (by kernel_rfl) (by kernel_rfl) env_laws_toProposal_ok rfl (by kernel_rfl) (fun n L h => by cases h) F_laws_toProposal_eq

noncomputable def step_laws_toProposalS_0 (s : (List (Int × (Int × (ByteArray × (List Int))))) × Int × (List (Int × (Int × (ByteArray × (List Int)))))) : Option (((List (Int × (Int × (ByteArray × (List Int))))) × Int × (List (Int × (Int × (ByteArray × (List Int)))))) ⊕ (((List (Int × (Int × (ByteArray × (List Int)))))))) :=
  bif (decide (s.2.1 < (s.1.length : Int))) then
    bif decide (0 ≤ s.2.1) && decide (s.2.1 < (s.1.length : Int)) then
      match F_laws_toProposal ((s.1.getD (s.2.1).toNat (0, (0, ByteArray.empty, [])))) with
      | none => none
      | some y4 =>
        bif decide (0 ≤ s.2.1) && decide (s.2.1 < (s.2.2.length : Int)) then
          let v5 := s.2.2.set (s.2.1).toNat (y4)
          let v6 := IntKind.i64.wrap (s.2.1 + 1)
          some (.inl ((s.1, v6, v5)))
        else none
    else none
  else
    some (.inr (s.2.2))
def pat_laws_toProposalS_0 : Pat := { tmps := [.v (.slice (.st (.pair (.int .i64) (.pair (.int .i64) (.pair .str (.slice (.int .i64))))))), .any, .any, .own 448, .v (.int .i64), .any, .any, .any, .any, .any, .any, .any, .any, .any, .any, .any, .any, .any, .any, .any, .any, .any, .any], blks := [(448, .row false (.st (.pair (.int .i64) (.pair (.int .i64) (.pair .str (.slice (.int .i64)))))))] }
def outs_laws_toProposalS_0 : List (Exit × Pat) := [(.exit 0, { tmps := [.any, .any, .any, .own 448, .any, .any, .any, .any, .any, .any, .any, .any, .any, .any, .any, .any, .any, .any, .any, .any, .any, .any, .any], blks := [(448, .row false (.st (.pair (.int .i64) (.pair (.int .i64) (.pair .str (.slice (.int .i64)))))))] })]
noncomputable def F_laws_toProposalS (x : (List (Int × (Int × (ByteArray × (List Int)))))) : Option ((List (Int × (Int × (ByteArray × (List Int)))))) :=
  bif decide (0 ≤ (x.length : Int)) && decide ((x.length : Int) ≤ (x.length : Int)) && decide ((x.length : Int) * (56 : Int) ≤ 140737488355328) then
    match runL step_laws_toProposalS_0 ((x, 0, (List.replicate ((x.length : Int)).toNat ((0, (0, ByteArray.empty, [])))))) with
    | none => none
    | some o7 =>
      some (o7)
  else none
noncomputable def c_laws_toProposalS : Con := { ps := [(.val, (.slice (.st (.pair (.int .i64) (.pair (.int .i64) (.pair .str (.slice (.int .i64))))))))], rs := [(.io false, (.slice (.st (.pair (.int .i64) (.pair (.int .i64) (.pair .str (.slice (.int .i64))))))))], F := F_laws_toProposalS }
noncomputable def env_laws_toProposalS : Env := { par := [], con := fun f => match f with | 39 => some c_laws_toProposal | _ => none, clo := fun _ => none, T := tinf Try.prog }
noncomputable def loops_laws_toProposalS : Nat → Option Loop := fun n => match n with | 3 => some { pat := pat_laws_toProposalS_0, outs := outs_laws_toProposalS_0, run := runL (step_laws_toProposalS_0) } | _ => none
theorem step_laws_toProposalS_0_eq (s : (List (Int × (Int × (ByteArray × (List Int))))) × Int × (List (Int × (Int × (ByteArray × (List Int)))))) : stepEv env_laws_toProposalS loops_laws_toProposalS pat_laws_toProposalS_0 outs_laws_toProposalS_0 Try.f16 3 s = step_laws_toProposalS_0 s := by kernel_rfl
theorem F_laws_toProposalS_eq (x : (List (Int × (Int × (ByteArray × (List Int)))))) : Fev env_laws_toProposalS loops_laws_toProposalS c_laws_toProposalS.ps c_laws_toProposalS.rs Try.f16 x = F_laws_toProposalS x := by kernel_rfl
theorem env_laws_toProposalS_ok : EnvOK Try.prog env_laws_toProposalS := envOK_of (fun f c h => by
  simp only [env_laws_toProposalS] at h
  split at h
  · cases h; exact con_laws_toProposal
  · cases h) (fun f c h => by cases h) rfl
theorem con_laws_toProposalS : ConOK Try.prog 16 c_laws_toProposalS := con_of_ev' (body := Try.f16.body.getD .skip) (Λ := loops_laws_toProposalS) mixed Try.func16 (by kernel_rfl) (by kernel_rfl) env_laws_toProposalS_ok rfl (by kernel_rfl) (fun n L h => by
  unfold loops_laws_toProposalS at h
  split at h
  · cases h; exact fun s o ho => loop_ok (stepF := stepEv env_laws_toProposalS loops_laws_toProposalS pat_laws_toProposalS_0 outs_laws_toProposalS_0 Try.f16 3) (step_laws_toProposalS_0_eq) ho
  · cases h) F_laws_toProposalS_eq

noncomputable def step_spec_enGloss_0 (s : ByteArray × Int) : Option ((ByteArray × Int) ⊕ ((Bool) ⊕ (ByteArray))) :=
  bif (decide (s.2 < (s.1.size : Int))) then
    bif decide (0 ≤ s.2) && decide (s.2 < (s.1.size : Int)) then
      bif (decide ((byteAt s.1 (s.2).toNat) < 65)) then
        some (.inr (.inl (false)))
      else
        bif decide (0 ≤ s.2) && decide (s.2 < (s.1.size : Int)) then
          bif (decide ((byteAt s.1 (s.2).toNat) > 90)) then
            some (.inr (.inl (false)))
          else
            let v2 := IntKind.i64.wrap (s.2 + 1)
            some (.inl ((s.1, v2)))
        else none
    else none
  else
    some (.inr (.inr (s.1)))
def pat_spec_enGloss_0 : Pat := { tmps := [.v .str, .any, .any, .v (.int .i64), .any, .any, .any, .any, .any, .any, .any, .any, .any, .any, .any, .any, .any, .any, .any, .any, .any, .any, .any], blks := [] }
def outs_spec_enGloss_0 : List (Exit × Pat) := [(.ret, { tmps := [.any, .any, .v .bool, .any, .any, .any, .any, .any, .any, .any, .any, .any, .any, .any, .any, .any, .any, .any, .any, .any, .any, .any, .any], blks := [] }), (.exit 0, { tmps := [.v .str, .any, .any, .any, .any, .any, .any, .any, .any, .any, .any, .any, .any, .any, .any, .any, .any, .any, .any, .any, .any, .any, .any], blks := [] })]
noncomputable def F_spec_enGloss (x : ByteArray) : Option (Bool) :=
  match runL step_spec_enGloss_0 ((x, 0)) with
  | none => none
  | some (.inl o3) =>
    some (o3)
  | some (.inr o3) =>
    match F_spec_l1In (((o3.size : Int), 1, 8)) with
    | none => none
    | some y4 =>
      some (y4)
noncomputable def c_spec_enGloss : Con := { ps := [(.val, .str)], rs := [(.val, .bool)], F := F_spec_enGloss }
noncomputable def env_spec_enGloss : Env := { par := [], con := fun f => match f with | 66 => some c_spec_l1In | _ => none, clo := fun _ => none, T := tinf Try.prog }
noncomputable def loops_spec_enGloss : Nat → Option Loop := fun n => match n with | 2 => some { pat := pat_spec_enGloss_0, outs := outs_spec_enGloss_0, run := runL (step_spec_enGloss_0) } | _ => none
theorem step_spec_enGloss_0_eq (s : ByteArray × Int) : stepEv env_spec_enGloss loops_spec_enGloss pat_spec_enGloss_0 outs_spec_enGloss_0 Try.f69 2 s = step_spec_enGloss_0 s := by kernel_rfl
theorem F_spec_enGloss_eq (x : ByteArray) : Fev env_spec_enGloss loops_spec_enGloss c_spec_enGloss.ps c_spec_enGloss.rs Try.f69 x = F_spec_enGloss x := by kernel_rfl
theorem env_spec_enGloss_ok : EnvOK Try.prog env_spec_enGloss := envOK_of (fun f c h => by
  simp only [env_spec_enGloss] at h
  split at h
  · cases h; exact con_spec_l1In
  · cases h) (fun f c h => by cases h) rfl
theorem con_spec_enGloss : ConOK Try.prog 69 c_spec_enGloss := con_of_ev' (body := Try.f69.body.getD .skip) (Λ := loops_spec_enGloss) mixed Try.func69 (by kernel_rfl) (by kernel_rfl) env_spec_enGloss_ok rfl (by kernel_rfl) (fun n L h => by
  unfold loops_spec_enGloss at h
  split at h
  · cases h; exact fun s o ho => loop_ok (stepF := stepEv env_spec_enGloss loops_spec_enGloss pat_spec_enGloss_0 outs_spec_enGloss_0 Try.f69 2) (step_spec_enGloss_0_eq) ho
  · cases h) F_spec_enGloss_eq

noncomputable def step_spec_l1All_0 (s : Int × Int × (List Int) × Int × Int) : Option ((Int × Int × (List Int) × Int × Int) ⊕ ((Bool) ⊕ (Unit))) :=
  bif (decide (s.2.2.2.2 < s.2.2.2.1)) then
    bif decide (0 ≤ s.2.2.2.2) && decide (s.2.2.2.2 < (s.2.2.1.length : Int)) then
      match F_spec_l1In (((s.2.2.1.getD (s.2.2.2.2).toNat 0), s.1, s.2.1)) with
      | none => none
      | some y3 =>
        bif (!y3) then
          some (.inr (.inl (false)))
        else
          let v4 := IntKind.i64.wrap (s.2.2.2.2 + 1)
          some (.inl ((s.1, s.2.1, (s.2.2.1, s.2.2.2.1, v4))))
    else none
  else
    some (.inr (.inr (())))
def pat_spec_l1All_0 : Pat := { tmps := [.any, .v (.int .i64), .v (.int .i64), .any, .any, .any, .any, .any, .any, .v (.slice (.int .i64)), .v (.int .i64), .v (.int .i64), .any, .any, .any, .any, .any, .any, .any, .any, .any], blks := [] }
def outs_spec_l1All_0 : List (Exit × Pat) := [(.ret, { tmps := [.any, .any, .any, .any, .any, .any, .v .bool, .any, .any, .any, .any, .any, .any, .any, .any, .any, .any, .any, .any, .any, .any], blks := [] }), (.exit 0, { tmps := [.any, .any, .any, .any, .any, .any, .any, .any, .any, .any, .any, .any, .any, .any, .any, .any, .any, .any, .any, .any, .any], blks := [] })]
noncomputable def F_spec_l1All (x : (List Int) × Int × Int) : Option (Bool) :=
  match runL step_spec_l1All_0 ((x.2.1, x.2.2, (x.1, (x.1.length : Int), 0))) with
  | none => none
  | some (.inl o5) =>
    some (o5)
  | some (.inr o5) =>
    some (true)
noncomputable def c_spec_l1All : Con := { ps := [(.val, (.slice (.int .i64))), (.val, (.int .i64)), (.val, (.int .i64))], rs := [(.val, .bool)], F := F_spec_l1All }
noncomputable def env_spec_l1All : Env := { par := [], con := fun f => match f with | 66 => some c_spec_l1In | _ => none, clo := fun _ => none, T := tinf Try.prog }
noncomputable def loops_spec_l1All : Nat → Option Loop := fun n => match n with | 2 => some { pat := pat_spec_l1All_0, outs := outs_spec_l1All_0, run := runL (step_spec_l1All_0) } | _ => none
theorem step_spec_l1All_0_eq (s : Int × Int × (List Int) × Int × Int) : stepEv env_spec_l1All loops_spec_l1All pat_spec_l1All_0 outs_spec_l1All_0 Try.f70 2 s = step_spec_l1All_0 s := by kernel_rfl
theorem F_spec_l1All_eq (x : (List Int) × Int × Int) : Fev env_spec_l1All loops_spec_l1All c_spec_l1All.ps c_spec_l1All.rs Try.f70 x = F_spec_l1All x := by kernel_rfl
theorem env_spec_l1All_ok : EnvOK Try.prog env_spec_l1All := envOK_of (fun f c h => by
  simp only [env_spec_l1All] at h
  split at h
  · cases h; exact con_spec_l1In
  · cases h) (fun f c h => by cases h) rfl
theorem con_spec_l1All : ConOK Try.prog 70 c_spec_l1All := con_of_ev' (body := Try.f70.body.getD .skip) (Λ := loops_spec_l1All) mixed Try.func70 (by kernel_rfl) (by kernel_rfl) env_spec_l1All_ok rfl (by kernel_rfl) (fun n L h => by
  unfold loops_spec_l1All at h
  split at h
  · cases h; exact fun s o ho => loop_ok (stepF := stepEv env_spec_l1All loops_spec_l1All pat_spec_l1All_0 outs_spec_l1All_0 Try.f70 2) (step_spec_l1All_0_eq) ho
  · cases h) F_spec_l1All_eq

noncomputable def F_spec_ofOne (x : (Int × (Int × (ByteArray × (List Int)))) × Int) : Option (Bool) :=
  match F_spec_l1In ((x.1.1, 1, 999)) with
  | none => none
  | some y1 =>
    bif y1 then
      match F_spec_l1In ((x.1.2.1, 0, 1)) with
      | none => none
      | some y2 =>
        bif y2 then
          match F_spec_enGloss (x.1.2.2.1) with
          | none => none
          | some y3 =>
            bif y3 then
              bif (((x.1.2.2.2.length : Int) == x.2)) then
                match F_spec_l1All ((x.1.2.2.2, (-1), 1)) with
                | none => none
                | some y4 =>
                  some (y4)
              else
                some (false)
            else
              some (false)
        else
          some (false)
    else
      some (false)
noncomputable def c_spec_ofOne : Con := { ps := [(.val, (.st (.pair (.int .i64) (.pair (.int .i64) (.pair .str (.slice (.int .i64))))))), (.val, (.int .i64))], rs := [(.val, .bool)], F := F_spec_ofOne }
noncomputable def env_spec_ofOne : Env := { par := [], con := fun f => match f with | 66 => some c_spec_l1In | 69 => some c_spec_enGloss | 70 => some c_spec_l1All | _ => none, clo := fun _ => none, T := tinf Try.prog }
noncomputable def loops_spec_ofOne : Nat → Option Loop := fun n => none
theorem F_spec_ofOne_eq (x : (Int × (Int × (ByteArray × (List Int)))) × Int) : Fev env_spec_ofOne loops_spec_ofOne c_spec_ofOne.ps c_spec_ofOne.rs Try.f55 x = F_spec_ofOne x := by kernel_rfl
theorem env_spec_ofOne_ok : EnvOK Try.prog env_spec_ofOne := envOK_of (fun f c h => by
  simp only [env_spec_ofOne] at h
  split at h
  · cases h; exact con_spec_l1In
  · cases h; exact con_spec_enGloss
  · cases h; exact con_spec_l1All
  · cases h) (fun f c h => by cases h) rfl
theorem con_spec_ofOne : ConOK Try.prog 55 c_spec_ofOne := con_of_ev' (body := Try.f55.body.getD .skip) (Λ := loops_spec_ofOne) mixed Try.func55 (by kernel_rfl) (by kernel_rfl) env_spec_ofOne_ok rfl (by kernel_rfl) (fun n L h => by cases h) F_spec_ofOne_eq

noncomputable def F_spec_ofMembers (x : Int) : Option (Bool) :=
  match F_spec_l1In ((x, 1, 7)) with
  | none => none
  | some y1 =>
    some (y1)
noncomputable def c_spec_ofMembers : Con := { ps := [(.val, (.int .i64))], rs := [(.val, .bool)], F := F_spec_ofMembers }
noncomputable def env_spec_ofMembers : Env := { par := [], con := fun f => match f with | 66 => some c_spec_l1In | _ => none, clo := fun _ => none, T := tinf Try.prog }
noncomputable def loops_spec_ofMembers : Nat → Option Loop := fun n => none
theorem F_spec_ofMembers_eq (x : Int) : Fev env_spec_ofMembers loops_spec_ofMembers c_spec_ofMembers.ps c_spec_ofMembers.rs Try.f56 x = F_spec_ofMembers x := by kernel_rfl
theorem env_spec_ofMembers_ok : EnvOK Try.prog env_spec_ofMembers := envOK_of (fun f c h => by
  simp only [env_spec_ofMembers] at h
  split at h
  · cases h; exact con_spec_l1In
  · cases h) (fun f c h => by cases h) rfl
theorem con_spec_ofMembers : ConOK Try.prog 56 c_spec_ofMembers := con_of_ev' (body := Try.f56.body.getD .skip) (Λ := loops_spec_ofMembers) mixed Try.func56 (by kernel_rfl) (by kernel_rfl) env_spec_ofMembers_ok rfl (by kernel_rfl) (fun n L h => by cases h) F_spec_ofMembers_eq

noncomputable def step_spec_ofGood_0 (s : (List (Int × (Int × (ByteArray × (List Int))))) × Int × (List (Int × (Int × (ByteArray × (List Int))))) × Int × Int) : Option (((List (Int × (Int × (ByteArray × (List Int))))) × Int × (List (Int × (Int × (ByteArray × (List Int))))) × Int × Int) ⊕ ((Bool) ⊕ ((List (Int × (Int × (ByteArray × (List Int))))) × Int))) :=
  bif (decide (s.2.2.2.2 < s.2.2.2.1)) then
    bif decide (0 ≤ s.2.2.2.2) && decide (s.2.2.2.2 < (s.2.2.1.length : Int)) then
      match F_spec_ofOne (((s.2.2.1.getD (s.2.2.2.2).toNat (0, (0, ByteArray.empty, []))), s.2.1)) with
      | none => none
      | some y5 =>
        bif (!y5) then
          some (.inr (.inl (false)))
        else
          bif (decide (s.2.2.2.2 > 0)) then
            let v6 := IntKind.i64.wrap (s.2.2.2.2 - 1)
            bif decide (0 ≤ v6) && decide (v6 < (s.1.length : Int)) then
              bif (decide ((s.1.getD (v6).toNat (0, (0, ByteArray.empty, []))).1 ≥ (s.2.2.1.getD (s.2.2.2.2).toNat (0, (0, ByteArray.empty, []))).1)) then
                some (.inr (.inl (false)))
              else
                let v7 := IntKind.i64.wrap (s.2.2.2.2 + 1)
                some (.inl ((s.1, s.2.1, (s.2.2.1, s.2.2.2.1, v7))))
            else none
          else
            let v8 := IntKind.i64.wrap (s.2.2.2.2 + 1)
            some (.inl ((s.1, s.2.1, (s.2.2.1, s.2.2.2.1, v8))))
    else none
  else
    some (.inr (.inr ((s.1, s.2.1))))
def pat_spec_ofGood_0 : Pat := { tmps := [.v (.slice (.st (.pair (.int .i64) (.pair (.int .i64) (.pair .str (.slice (.int .i64))))))), .v (.int .i64), .any, .any, .any, .any, .any, .v (.slice (.st (.pair (.int .i64) (.pair (.int .i64) (.pair .str (.slice (.int .i64))))))), .v (.int .i64), .v (.int .i64), .any, .any, .any, .any, .any, .any, .any, .any, .any, .any, .any, .any, .any, .any, .any, .any, .any, .any, .any, .any, .any, .any, .any, .any, .any, .any, .any, .any, .any, .any, .any], blks := [] }
def outs_spec_ofGood_0 : List (Exit × Pat) := [(.ret, { tmps := [.any, .any, .any, .any, .v .bool, .any, .any, .any, .any, .any, .any, .any, .any, .any, .any, .any, .any, .any, .any, .any, .any, .any, .any, .any, .any, .any, .any, .any, .any, .any, .any, .any, .any, .any, .any, .any, .any, .any, .any, .any, .any], blks := [] }), (.exit 0, { tmps := [.v (.slice (.st (.pair (.int .i64) (.pair (.int .i64) (.pair .str (.slice (.int .i64))))))), .v (.int .i64), .any, .any, .any, .any, .any, .any, .any, .any, .any, .any, .any, .any, .any, .any, .any, .any, .any, .any, .any, .any, .any, .any, .any, .any, .any, .any, .any, .any, .any, .any, .any, .any, .any, .any, .any, .any, .any, .any, .any], blks := [] })]
noncomputable def F_spec_ofGood (x : (List (Int × (Int × (ByteArray × (List Int))))) × Int) : Option (Bool) :=
  match runL step_spec_ofGood_0 ((x.1, x.2, (x.1, (x.1.length : Int), 0))) with
  | none => none
  | some (.inl o9) =>
    some (o9)
  | some (.inr o9) =>
    match F_spec_ofMembers (o9.2) with
    | none => none
    | some y10 =>
      bif y10 then
        some ((decide ((o9.1.length : Int) ≤ 12)))
      else
        some (false)
noncomputable def c_spec_ofGood : Con := { ps := [(.val, (.slice (.st (.pair (.int .i64) (.pair (.int .i64) (.pair .str (.slice (.int .i64)))))))), (.val, (.int .i64))], rs := [(.val, .bool)], F := F_spec_ofGood }
noncomputable def env_spec_ofGood : Env := { par := [], con := fun f => match f with | 55 => some c_spec_ofOne | 56 => some c_spec_ofMembers | _ => none, clo := fun _ => none, T := tinf Try.prog }
noncomputable def loops_spec_ofGood : Nat → Option Loop := fun n => match n with | 2 => some { pat := pat_spec_ofGood_0, outs := outs_spec_ofGood_0, run := runL (step_spec_ofGood_0) } | _ => none
theorem step_spec_ofGood_0_eq (s : (List (Int × (Int × (ByteArray × (List Int))))) × Int × (List (Int × (Int × (ByteArray × (List Int))))) × Int × Int) : stepEv env_spec_ofGood loops_spec_ofGood pat_spec_ofGood_0 outs_spec_ofGood_0 Try.f38 2 s = step_spec_ofGood_0 s := by kernel_rfl
theorem F_spec_ofGood_eq (x : (List (Int × (Int × (ByteArray × (List Int))))) × Int) : Fev env_spec_ofGood loops_spec_ofGood c_spec_ofGood.ps c_spec_ofGood.rs Try.f38 x = F_spec_ofGood x := by kernel_rfl
theorem env_spec_ofGood_ok : EnvOK Try.prog env_spec_ofGood := envOK_of (fun f c h => by
  simp only [env_spec_ofGood] at h
  split at h
  · cases h; exact con_spec_ofOne
  · cases h; exact con_spec_ofMembers
  · cases h) (fun f c h => by cases h) rfl
theorem con_spec_ofGood : ConOK Try.prog 38 c_spec_ofGood := con_of_ev' (body := Try.f38.body.getD .skip) (Λ := loops_spec_ofGood) mixed Try.func38 (by kernel_rfl) (by kernel_rfl) env_spec_ofGood_ok rfl (by kernel_rfl) (fun n L h => by
  unfold loops_spec_ofGood at h
  split at h
  · cases h; exact fun s o ho => loop_ok (stepF := stepEv env_spec_ofGood loops_spec_ofGood pat_spec_ofGood_0 outs_spec_ofGood_0 Try.f38 2) (step_spec_ofGood_0_eq) ho
  · cases h) F_spec_ofGood_eq

noncomputable def F_spec_AreProposals (x : (List (Int × (Int × (ByteArray × (List Int))))) × Int) : Option (Bool) :=
  match F_spec_ofGood (x) with
  | none => none
  | some y1 =>
    some (y1)
noncomputable def c_spec_AreProposals : Con := { ps := [(.val, (.slice (.st (.pair (.int .i64) (.pair (.int .i64) (.pair .str (.slice (.int .i64)))))))), (.val, (.int .i64))], rs := [(.val, .bool)], F := F_spec_AreProposals }
noncomputable def env_spec_AreProposals : Env := { par := [], con := fun f => match f with | 38 => some c_spec_ofGood | _ => none, clo := fun _ => none, T := tinf Try.prog }
noncomputable def loops_spec_AreProposals : Nat → Option Loop := fun n => none
theorem F_spec_AreProposals_eq (x : (List (Int × (Int × (ByteArray × (List Int))))) × Int) : Fev env_spec_AreProposals loops_spec_AreProposals c_spec_AreProposals.ps c_spec_AreProposals.rs Try.f15 x = F_spec_AreProposals x := by kernel_rfl
theorem env_spec_AreProposals_ok : EnvOK Try.prog env_spec_AreProposals := envOK_of (fun f c h => by
  simp only [env_spec_AreProposals] at h
  split at h
  · cases h; exact con_spec_ofGood
  · cases h) (fun f c h => by cases h) rfl
theorem con_spec_AreProposals : ConOK Try.prog 15 c_spec_AreProposals := con_of_ev' (body := Try.f15.body.getD .skip) (Λ := loops_spec_AreProposals) mixed Try.func15 (by kernel_rfl) (by kernel_rfl) env_spec_AreProposals_ok rfl (by kernel_rfl) (fun n L h => by cases h) F_spec_AreProposals_eq

noncomputable def F_impl_allWithin_1 (x : Int × Int × Int) : Option (Bool) :=
  match F_impl_within (x) with
  | none => none
  | some y1 =>
    some ((!y1))
noncomputable def c_impl_allWithin_1 : Con := { ps := [(.val, (.int .i64)), (.val, (.ptr (.int .i64))), (.val, (.ptr (.int .i64)))], rs := [(.val, .bool)], F := F_impl_allWithin_1 }
noncomputable def env_impl_allWithin_1 : Env := { par := [], con := fun f => match f with | 41 => some c_impl_within | _ => none, clo := fun _ => none, T := tinf Try.prog }
noncomputable def loops_impl_allWithin_1 : Nat → Option Loop := fun n => none
theorem F_impl_allWithin_1_eq (x : Int × Int × Int) : Fev env_impl_allWithin_1 loops_impl_allWithin_1 c_impl_allWithin_1.ps c_impl_allWithin_1.rs Try.f72 x = F_impl_allWithin_1 x := by kernel_rfl
theorem env_impl_allWithin_1_ok : EnvOK Try.prog env_impl_allWithin_1 := envOK_of (fun f c h => by
  simp only [env_impl_allWithin_1] at h
  split at h
  · cases h; exact con_impl_within
  · cases h) (fun f c h => by cases h) rfl
theorem con_impl_allWithin_1 : ConOK Try.prog 72 c_impl_allWithin_1 := con_of_ev' (body := Try.f72.body.getD .skip) (Λ := loops_impl_allWithin_1) mixed Try.func72 (by kernel_rfl) (by kernel_rfl) env_impl_allWithin_1_ok rfl (by kernel_rfl) (fun n L h => by cases h) F_impl_allWithin_1_eq

noncomputable def step_slices_IndexFunc_int_int_0 (s : (List Int) × (Int → Option Bool) × Int × Int) : Option (((List Int) × (Int → Option Bool) × Int × Int) ⊕ ((Int) ⊕ (Unit))) :=
  bif (decide (s.2.2.2 < s.2.2.1)) then
    bif decide (0 ≤ s.2.2.2) && decide (s.2.2.2 < (s.1.length : Int)) then
      match s.2.1 ((s.1.getD (s.2.2.2).toNat 0)) with
      | none => none
      | some y3 =>
        bif y3 then
          some (.inr (.inl (s.2.2.2)))
        else
          let v4 := IntKind.i64.wrap (s.2.2.2 + 1)
          some (.inl ((s.1, (s.2.1, s.2.2.1, v4))))
    else none
  else
    some (.inr (.inr (())))
def pat_slices_IndexFunc_int_int_0 : Pat := { tmps := [.v (.slice (.int .i64)), .v (.fn (.int .i64) .bool), .any, .any, .any, .any, .any, .v (.int .i64), .v (.int .i64), .any, .any, .any, .any, .any, .any, .any, .any, .any, .any], blks := [] }
def outs_slices_IndexFunc_int_int_0 : List (Exit × Pat) := [(.ret, { tmps := [.any, .any, .any, .any, .v (.int .i64), .any, .any, .any, .any, .any, .any, .any, .any, .any, .any, .any, .any, .any, .any], blks := [] }), (.exit 0, { tmps := [.any, .any, .any, .any, .any, .any, .any, .any, .any, .any, .any, .any, .any, .any, .any, .any, .any, .any, .any], blks := [] })]
noncomputable def F_slices_IndexFunc_int_int (x : (List Int) × (Int → Option Bool)) : Option (Int) :=
  match runL step_slices_IndexFunc_int_int_0 ((x.1, (x.2, (x.1.length : Int), 0))) with
  | none => none
  | some (.inl o5) =>
    some (o5)
  | some (.inr o5) =>
    some ((-1))
noncomputable def c_slices_IndexFunc_int_int : Con := { ps := [(.val, (.slice (.int .i64))), (.val, (.fn (.int .i64) .bool))], rs := [(.val, (.int .i64))], F := F_slices_IndexFunc_int_int }
noncomputable def env_slices_IndexFunc_int_int : Env := { par := [], con := fun _ => none, clo := fun _ => none, T := tinf Try.prog }
noncomputable def loops_slices_IndexFunc_int_int : Nat → Option Loop := fun n => match n with | 2 => some { pat := pat_slices_IndexFunc_int_int_0, outs := outs_slices_IndexFunc_int_int_0, run := runL (step_slices_IndexFunc_int_int_0) } | _ => none
theorem step_slices_IndexFunc_int_int_0_eq (s : (List Int) × (Int → Option Bool) × Int × Int) : stepEv env_slices_IndexFunc_int_int loops_slices_IndexFunc_int_int pat_slices_IndexFunc_int_int_0 outs_slices_IndexFunc_int_int_0 Try.f74 2 s = step_slices_IndexFunc_int_int_0 s := by kernel_rfl
theorem F_slices_IndexFunc_int_int_eq (x : (List Int) × (Int → Option Bool)) : Fev env_slices_IndexFunc_int_int loops_slices_IndexFunc_int_int c_slices_IndexFunc_int_int.ps c_slices_IndexFunc_int_int.rs Try.f74 x = F_slices_IndexFunc_int_int x := by kernel_rfl
theorem env_slices_IndexFunc_int_int_ok : EnvOK Try.prog env_slices_IndexFunc_int_int := envOK_of (fun f c h => by cases h) (fun f c h => by cases h) rfl
theorem con_slices_IndexFunc_int_int : ConOK Try.prog 74 c_slices_IndexFunc_int_int := con_of_ev' (body := Try.f74.body.getD .skip) (Λ := loops_slices_IndexFunc_int_int) mixed Try.func74 (by kernel_rfl) (by kernel_rfl) env_slices_IndexFunc_int_int_ok rfl (by kernel_rfl) (fun n L h => by
  unfold loops_slices_IndexFunc_int_int at h
  split at h
  · cases h; exact fun s o ho => loop_ok (stepF := stepEv env_slices_IndexFunc_int_int loops_slices_IndexFunc_int_int pat_slices_IndexFunc_int_int_0 outs_slices_IndexFunc_int_int_0 Try.f74 2) (step_slices_IndexFunc_int_int_0_eq) ho
  · cases h) F_slices_IndexFunc_int_int_eq

noncomputable def F_slices_ContainsFunc_int_int (x : (List Int) × (Int → Option Bool)) : Option (Bool) :=
  match F_slices_IndexFunc_int_int (x) with
  | none => none
  | some y1 =>
    some ((decide (y1 ≥ 0)))
noncomputable def c_slices_ContainsFunc_int_int : Con := { ps := [(.val, (.slice (.int .i64))), (.val, (.fn (.int .i64) .bool))], rs := [(.val, .bool)], F := F_slices_ContainsFunc_int_int }
noncomputable def env_slices_ContainsFunc_int_int : Env := { par := [], con := fun f => match f with | 74 => some c_slices_IndexFunc_int_int | _ => none, clo := fun _ => none, T := tinf Try.prog }
noncomputable def loops_slices_ContainsFunc_int_int : Nat → Option Loop := fun n => none
theorem F_slices_ContainsFunc_int_int_eq (x : (List Int) × (Int → Option Bool)) : Fev env_slices_ContainsFunc_int_int loops_slices_ContainsFunc_int_int c_slices_ContainsFunc_int_int.ps c_slices_ContainsFunc_int_int.rs Try.f71 x = F_slices_ContainsFunc_int_int x := by kernel_rfl
theorem env_slices_ContainsFunc_int_int_ok : EnvOK Try.prog env_slices_ContainsFunc_int_int := envOK_of (fun f c h => by
  simp only [env_slices_ContainsFunc_int_int] at h
  split at h
  · cases h; exact con_slices_IndexFunc_int_int
  · cases h) (fun f c h => by cases h) rfl
theorem con_slices_ContainsFunc_int_int : ConOK Try.prog 71 c_slices_ContainsFunc_int_int := con_of_ev' (body := Try.f71.body.getD .skip) (Λ := loops_slices_ContainsFunc_int_int) mixed Try.func71 (by kernel_rfl) (by kernel_rfl) env_slices_ContainsFunc_int_int_ok rfl (by kernel_rfl) (fun n L h => by cases h) F_slices_ContainsFunc_int_int_eq

noncomputable def K_impl_allWithin_1 (q : Int × Int) (x : Int) : Option (Bool) := F_impl_allWithin_1 (x, q)
noncomputable def k_impl_allWithin_1 : CloCon := { caps := [(.int .i64), (.int .i64)], a := (.int .i64), r := .bool, F := K_impl_allWithin_1 }
theorem clo_impl_allWithin_1 : CloOK Try.prog 72 k_impl_allWithin_1 := clo_of_con k_impl_allWithin_1 F_impl_allWithin_1 con_impl_allWithin_1 rfl (fun kx x y h => ⟨y, h, rfl⟩)
noncomputable def F_impl_allWithin (x : (List Int) × Int × Int) : Option (Bool) :=
  match F_slices_ContainsFunc_int_int ((x.1, (K_impl_allWithin_1 x.2))) with
  | none => none
  | some y1 =>
    some ((!y1))
noncomputable def c_impl_allWithin : Con := { ps := [(.val, (.slice (.int .i64))), (.val, (.int .i64)), (.val, (.int .i64))], rs := [(.val, .bool)], F := F_impl_allWithin }
noncomputable def env_impl_allWithin : Env := { par := [], con := fun f => match f with | 71 => some c_slices_ContainsFunc_int_int | _ => none, clo := fun f => match f with | 72 => some k_impl_allWithin_1 | _ => none, T := tinf Try.prog }
noncomputable def loops_impl_allWithin : Nat → Option Loop := fun n => none
theorem F_impl_allWithin_eq (x : (List Int) × Int × Int) : Fev env_impl_allWithin loops_impl_allWithin c_impl_allWithin.ps c_impl_allWithin.rs Try.f58 x = F_impl_allWithin x := by kernel_rfl
theorem env_impl_allWithin_ok : EnvOK Try.prog env_impl_allWithin := envOK_of (fun f c h => by
  simp only [env_impl_allWithin] at h
  split at h
  · cases h; exact con_slices_ContainsFunc_int_int
  · cases h) (fun f c h => by
  simp only [env_impl_allWithin] at h
  split at h
  · cases h; exact clo_impl_allWithin_1
  · cases h) rfl
theorem con_impl_allWithin : ConOK Try.prog 58 c_impl_allWithin := con_of_ev' (body := Try.f58.body.getD .skip) (Λ := loops_impl_allWithin) mixed Try.func58 (by kernel_rfl) (by kernel_rfl) env_impl_allWithin_ok rfl (by kernel_rfl) (fun n L h => by cases h) F_impl_allWithin_eq

noncomputable def F_impl_isProposal (x : (Int × (Int × (ByteArray × (List Int))))) : Option (Bool) :=
  match F_impl_within ((x.1, 1, 999)) with
  | none => none
  | some y1 =>
    bif y1 then
      match F_impl_within ((x.2.1, 0, 1)) with
      | none => none
      | some y2 =>
        bif y2 then
          match F_impl_IsGloss (x.2.2.1) with
          | none => none
          | some y3 =>
            bif y3 then
              bif (decide ((x.2.2.2.length : Int) ≤ 7)) then
                match F_impl_allWithin ((x.2.2.2, (-1), 1)) with
                | none => none
                | some y4 =>
                  some (y4)
              else
                some (false)
            else
              some (false)
        else
          some (false)
    else
      some (false)
noncomputable def c_impl_isProposal : Con := { ps := [(.val, (.st (.pair (.int .i64) (.pair (.int .i64) (.pair .str (.slice (.int .i64)))))))], rs := [(.val, .bool)], F := F_impl_isProposal }
noncomputable def env_impl_isProposal : Env := { par := [], con := fun f => match f with | 41 => some c_impl_within | 53 => some c_impl_IsGloss | 58 => some c_impl_allWithin | _ => none, clo := fun _ => none, T := tinf Try.prog }
noncomputable def loops_impl_isProposal : Nat → Option Loop := fun n => none
theorem F_impl_isProposal_eq (x : (Int × (Int × (ByteArray × (List Int))))) : Fev env_impl_isProposal loops_impl_isProposal c_impl_isProposal.ps c_impl_isProposal.rs Try.f40 x = F_impl_isProposal x := by kernel_rfl
theorem env_impl_isProposal_ok : EnvOK Try.prog env_impl_isProposal := envOK_of (fun f c h => by
  simp only [env_impl_isProposal] at h
  split at h
  · cases h; exact con_impl_within
  · cases h; exact con_impl_IsGloss
  · cases h; exact con_impl_allWithin
  · cases h) (fun f c h => by cases h) rfl
theorem con_impl_isProposal : ConOK Try.prog 40 c_impl_isProposal := con_of_ev' (body := Try.f40.body.getD .skip) (Λ := loops_impl_isProposal) mixed Try.func40 (by kernel_rfl) (by kernel_rfl) env_impl_isProposal_ok rfl (by kernel_rfl) (fun n L h => by cases h) F_impl_isProposal_eq

noncomputable def step_impl_AreProposals_0 (s : (List (Int × (Int × (ByteArray × (List Int))))) × Int × (List (Int × (Int × (ByteArray × (List Int))))) × Int × Int) : Option (((List (Int × (Int × (ByteArray × (List Int))))) × Int × (List (Int × (Int × (ByteArray × (List Int))))) × Int × Int) ⊕ ((Bool) ⊕ ((List (Int × (Int × (ByteArray × (List Int))))) × Int))) :=
  bif (decide (s.2.2.2.2 < s.2.2.2.1)) then
    bif decide (0 ≤ s.2.2.2.2) && decide (s.2.2.2.2 < (s.2.2.1.length : Int)) then
      match F_impl_isProposal ((s.2.2.1.getD (s.2.2.2.2).toNat (0, (0, ByteArray.empty, [])))) with
      | none => none
      | some y5 =>
        bif (!y5) then
          some (.inr (.inl (false)))
        else
          bif ((((s.2.2.1.getD (s.2.2.2.2).toNat (0, (0, ByteArray.empty, []))).2.2.2.length : Int) != s.2.1)) then
            some (.inr (.inl (false)))
          else
            bif (decide (s.2.2.2.2 > 0)) then
              let v6 := IntKind.i64.wrap (s.2.2.2.2 - 1)
              bif decide (0 ≤ v6) && decide (v6 < (s.1.length : Int)) then
                bif (decide ((s.2.2.1.getD (s.2.2.2.2).toNat (0, (0, ByteArray.empty, []))).1 ≤ (s.1.getD (v6).toNat (0, (0, ByteArray.empty, []))).1)) then
                  some (.inr (.inl (false)))
                else
                  let v7 := IntKind.i64.wrap (s.2.2.2.2 + 1)
                  some (.inl ((s.1, s.2.1, (s.2.2.1, s.2.2.2.1, v7))))
              else none
            else
              let v8 := IntKind.i64.wrap (s.2.2.2.2 + 1)
              some (.inl ((s.1, s.2.1, (s.2.2.1, s.2.2.2.1, v8))))
    else none
  else
    some (.inr (.inr ((s.1, s.2.1))))
def pat_impl_AreProposals_0 : Pat := { tmps := [.v (.slice (.st (.pair (.int .i64) (.pair (.int .i64) (.pair .str (.slice (.int .i64))))))), .v (.int .i64), .any, .any, .any, .any, .any, .v (.slice (.st (.pair (.int .i64) (.pair (.int .i64) (.pair .str (.slice (.int .i64))))))), .v (.int .i64), .v (.int .i64), .any, .any, .any, .any, .any, .any, .any, .any, .any, .any, .any, .any, .any, .any, .any, .any, .any, .any, .any, .any, .any, .any, .any, .any, .any, .any, .any, .any, .any, .any, .any, .any, .any, .any, .any, .any, .any], blks := [] }
def outs_impl_AreProposals_0 : List (Exit × Pat) := [(.ret, { tmps := [.any, .any, .any, .any, .v .bool, .any, .any, .any, .any, .any, .any, .any, .any, .any, .any, .any, .any, .any, .any, .any, .any, .any, .any, .any, .any, .any, .any, .any, .any, .any, .any, .any, .any, .any, .any, .any, .any, .any, .any, .any, .any, .any, .any, .any, .any, .any, .any], blks := [] }), (.exit 0, { tmps := [.v (.slice (.st (.pair (.int .i64) (.pair (.int .i64) (.pair .str (.slice (.int .i64))))))), .v (.int .i64), .any, .any, .any, .any, .any, .any, .any, .any, .any, .any, .any, .any, .any, .any, .any, .any, .any, .any, .any, .any, .any, .any, .any, .any, .any, .any, .any, .any, .any, .any, .any, .any, .any, .any, .any, .any, .any, .any, .any, .any, .any, .any, .any, .any, .any], blks := [] })]
noncomputable def F_impl_AreProposals (x : (List (Int × (Int × (ByteArray × (List Int))))) × Int) : Option (Bool) :=
  match runL step_impl_AreProposals_0 ((x.1, x.2, (x.1, (x.1.length : Int), 0))) with
  | none => none
  | some (.inl o9) =>
    some (o9)
  | some (.inr o9) =>
    match F_impl_within ((o9.2, 1, 7)) with
    | none => none
    | some y10 =>
      bif y10 then
        some ((decide ((o9.1.length : Int) ≤ 12)))
      else
        some (false)
noncomputable def c_impl_AreProposals : Con := { ps := [(.val, (.slice (.st (.pair (.int .i64) (.pair (.int .i64) (.pair .str (.slice (.int .i64)))))))), (.val, (.int .i64))], rs := [(.val, .bool)], F := F_impl_AreProposals }
noncomputable def env_impl_AreProposals : Env := { par := [], con := fun f => match f with | 40 => some c_impl_isProposal | 41 => some c_impl_within | _ => none, clo := fun _ => none, T := tinf Try.prog }
noncomputable def loops_impl_AreProposals : Nat → Option Loop := fun n => match n with | 2 => some { pat := pat_impl_AreProposals_0, outs := outs_impl_AreProposals_0, run := runL (step_impl_AreProposals_0) } | _ => none
theorem step_impl_AreProposals_0_eq (s : (List (Int × (Int × (ByteArray × (List Int))))) × Int × (List (Int × (Int × (ByteArray × (List Int))))) × Int × Int) : stepEv env_impl_AreProposals loops_impl_AreProposals pat_impl_AreProposals_0 outs_impl_AreProposals_0 Try.f17 2 s = step_impl_AreProposals_0 s := by kernel_rfl
theorem F_impl_AreProposals_eq (x : (List (Int × (Int × (ByteArray × (List Int))))) × Int) : Fev env_impl_AreProposals loops_impl_AreProposals c_impl_AreProposals.ps c_impl_AreProposals.rs Try.f17 x = F_impl_AreProposals x := by kernel_rfl
theorem env_impl_AreProposals_ok : EnvOK Try.prog env_impl_AreProposals := envOK_of (fun f c h => by
  simp only [env_impl_AreProposals] at h
  split at h
  · cases h; exact con_impl_isProposal
  · cases h; exact con_impl_within
  · cases h) (fun f c h => by cases h) rfl
theorem con_impl_AreProposals : ConOK Try.prog 17 c_impl_AreProposals := con_of_ev' (body := Try.f17.body.getD .skip) (Λ := loops_impl_AreProposals) mixed Try.func17 (by kernel_rfl) (by kernel_rfl) env_impl_AreProposals_ok rfl (by kernel_rfl) (fun n L h => by
  unfold loops_impl_AreProposals at h
  split at h
  · cases h; exact fun s o ho => loop_ok (stepF := stepEv env_impl_AreProposals loops_impl_AreProposals pat_impl_AreProposals_0 outs_impl_AreProposals_0 Try.f17 2) (step_impl_AreProposals_0_eq) ho
  · cases h) F_impl_AreProposals_eq

noncomputable def step_laws_eqIntS_0 (s : (List Int) × (List Int) × Int) : Option (((List Int) × (List Int) × Int) ⊕ ((Bool) ⊕ (Unit))) :=
  bif (decide (s.2.2 < (s.1.length : Int))) then
    bif decide (0 ≤ s.2.2) && decide (s.2.2 < (s.1.length : Int)) then
      bif decide (0 ≤ s.2.2) && decide (s.2.2 < (s.2.1.length : Int)) then
        bif (((s.1.getD (s.2.2).toNat 0) != (s.2.1.getD (s.2.2).toNat 0))) then
          some (.inr (.inl (false)))
        else
          let v2 := IntKind.i64.wrap (s.2.2 + 1)
          some (.inl ((s.1, s.2.1, v2)))
      else none
    else none
  else
    some (.inr (.inr (())))
def pat_laws_eqIntS_0 : Pat := { tmps := [.v (.slice (.int .i64)), .v (.slice (.int .i64)), .any, .any, .any, .v (.int .i64), .any, .any, .any, .any, .any, .any, .any, .any, .any, .any, .any, .any, .any, .any, .any, .any, .any, .any, .any, .any], blks := [] }
def outs_laws_eqIntS_0 : List (Exit × Pat) := [(.ret, { tmps := [.any, .any, .any, .any, .v .bool, .any, .any, .any, .any, .any, .any, .any, .any, .any, .any, .any, .any, .any, .any, .any, .any, .any, .any, .any, .any, .any], blks := [] }), (.exit 0, { tmps := [.any, .any, .any, .any, .any, .any, .any, .any, .any, .any, .any, .any, .any, .any, .any, .any, .any, .any, .any, .any, .any, .any, .any, .any, .any, .any], blks := [] })]
noncomputable def F_laws_eqIntS (x : (List Int) × (List Int)) : Option (Bool) :=
  bif (((x.1.length : Int) != (x.2.length : Int))) then
    some (false)
  else
    match runL step_laws_eqIntS_0 ((x.1, x.2, 0)) with
    | none => none
    | some (.inl o3) =>
      some (o3)
    | some (.inr o3) =>
      some (true)
noncomputable def c_laws_eqIntS : Con := { ps := [(.val, (.slice (.int .i64))), (.val, (.slice (.int .i64)))], rs := [(.val, .bool)], F := F_laws_eqIntS }
noncomputable def env_laws_eqIntS : Env := { par := [], con := fun _ => none, clo := fun _ => none, T := tinf Try.prog }
noncomputable def loops_laws_eqIntS : Nat → Option Loop := fun n => match n with | 4 => some { pat := pat_laws_eqIntS_0, outs := outs_laws_eqIntS_0, run := runL (step_laws_eqIntS_0) } | _ => none
theorem step_laws_eqIntS_0_eq (s : (List Int) × (List Int) × Int) : stepEv env_laws_eqIntS loops_laws_eqIntS pat_laws_eqIntS_0 outs_laws_eqIntS_0 Try.f25 4 s = step_laws_eqIntS_0 s := by kernel_rfl
theorem F_laws_eqIntS_eq (x : (List Int) × (List Int)) : Fev env_laws_eqIntS loops_laws_eqIntS c_laws_eqIntS.ps c_laws_eqIntS.rs Try.f25 x = F_laws_eqIntS x := by kernel_rfl
theorem env_laws_eqIntS_ok : EnvOK Try.prog env_laws_eqIntS := envOK_of (fun f c h => by cases h) (fun f c h => by cases h) rfl
theorem con_laws_eqIntS : ConOK Try.prog 25 c_laws_eqIntS := con_of_ev' (body := Try.f25.body.getD .skip) (Λ := loops_laws_eqIntS) mixed Try.func25 (by kernel_rfl) (by kernel_rfl) env_laws_eqIntS_ok rfl (by kernel_rfl) (fun n L h => by
  unfold loops_laws_eqIntS at h
  split at h
  · cases h; exact fun s o ho => loop_ok (stepF := stepEv env_laws_eqIntS loops_laws_eqIntS pat_laws_eqIntS_0 outs_laws_eqIntS_0 Try.f25 4) (step_laws_eqIntS_0_eq) ho
  · cases h) F_laws_eqIntS_eq

noncomputable def F_laws_eqProposal (x : (Int × (Int × (ByteArray × (List Int)))) × (Int × (Int × (ByteArray × (List Int))))) : Option (Bool) :=
  bif ((x.1.1 != x.2.1)) then
    some (false)
  else
    bif ((x.1.2.1 != x.2.2.1)) then
      some (false)
    else
      bif (!(x.1.2.2.1.toList == x.2.2.2.1.toList)) then
        some (false)
      else
        match F_laws_eqIntS ((x.1.2.2.2, x.2.2.2.2)) with
        | none => none
        | some y1 =>
          bif (!y1) then
            some (false)
          else
            some (true)
noncomputable def c_laws_eqProposal : Con := { ps := [(.val, (.st (.pair (.int .i64) (.pair (.int .i64) (.pair .str (.slice (.int .i64))))))), (.val, (.st (.pair (.int .i64) (.pair (.int .i64) (.pair .str (.slice (.int .i64)))))))], rs := [(.val, .bool)], F := F_laws_eqProposal }
noncomputable def env_laws_eqProposal : Env := { par := [], con := fun f => match f with | 25 => some c_laws_eqIntS | _ => none, clo := fun _ => none, T := tinf Try.prog }
noncomputable def loops_laws_eqProposal : Nat → Option Loop := fun n => none
theorem F_laws_eqProposal_eq (x : (Int × (Int × (ByteArray × (List Int)))) × (Int × (Int × (ByteArray × (List Int))))) : Fev env_laws_eqProposal loops_laws_eqProposal c_laws_eqProposal.ps c_laws_eqProposal.rs Try.f42 x = F_laws_eqProposal x := by kernel_rfl
theorem env_laws_eqProposal_ok : EnvOK Try.prog env_laws_eqProposal := envOK_of (fun f c h => by
  simp only [env_laws_eqProposal] at h
  split at h
  · cases h; exact con_laws_eqIntS
  · cases h) (fun f c h => by cases h) rfl
theorem con_laws_eqProposal : ConOK Try.prog 42 c_laws_eqProposal := con_of_ev' (body := Try.f42.body.getD .skip) (Λ := loops_laws_eqProposal) mixed Try.func42 (by kernel_rfl) (by kernel_rfl) env_laws_eqProposal_ok rfl (by kernel_rfl) (fun n L h => by cases h) F_laws_eqProposal_eq

noncomputable def step_laws_eqProposalS_0 (s : (List (Int × (Int × (ByteArray × (List Int))))) × (List (Int × (Int × (ByteArray × (List Int))))) × Int) : Option (((List (Int × (Int × (ByteArray × (List Int))))) × (List (Int × (Int × (ByteArray × (List Int))))) × Int) ⊕ ((Bool) ⊕ (Unit))) :=
  bif (decide (s.2.2 < (s.1.length : Int))) then
    bif decide (0 ≤ s.2.2) && decide (s.2.2 < (s.1.length : Int)) then
      bif decide (0 ≤ s.2.2) && decide (s.2.2 < (s.2.1.length : Int)) then
        match F_laws_eqProposal (((s.1.getD (s.2.2).toNat (0, (0, ByteArray.empty, []))), (s.2.1.getD (s.2.2).toNat (0, (0, ByteArray.empty, []))))) with
        | none => none
        | some y3 =>
          bif (!y3) then
            some (.inr (.inl (false)))
          else
            let v4 := IntKind.i64.wrap (s.2.2 + 1)
            some (.inl ((s.1, s.2.1, v4)))
      else none
    else none
  else
    some (.inr (.inr (())))
def pat_laws_eqProposalS_0 : Pat := { tmps := [.v (.slice (.st (.pair (.int .i64) (.pair (.int .i64) (.pair .str (.slice (.int .i64))))))), .v (.slice (.st (.pair (.int .i64) (.pair (.int .i64) (.pair .str (.slice (.int .i64))))))), .any, .any, .any, .v (.int .i64), .any, .any, .any, .any, .any, .any, .any, .any, .any, .any, .any, .any, .any, .any, .any, .any, .any, .any, .any, .any, .any], blks := [] }
def outs_laws_eqProposalS_0 : List (Exit × Pat) := [(.ret, { tmps := [.any, .any, .any, .any, .v .bool, .any, .any, .any, .any, .any, .any, .any, .any, .any, .any, .any, .any, .any, .any, .any, .any, .any, .any, .any, .any, .any, .any], blks := [] }), (.exit 0, { tmps := [.any, .any, .any, .any, .any, .any, .any, .any, .any, .any, .any, .any, .any, .any, .any, .any, .any, .any, .any, .any, .any, .any, .any, .any, .any, .any, .any], blks := [] })]
noncomputable def F_laws_eqProposalS (x : (List (Int × (Int × (ByteArray × (List Int))))) × (List (Int × (Int × (ByteArray × (List Int)))))) : Option (Bool) :=
  bif (((x.1.length : Int) != (x.2.length : Int))) then
    some (false)
  else
    match runL step_laws_eqProposalS_0 ((x.1, x.2, 0)) with
    | none => none
    | some (.inl o5) =>
      some (o5)
    | some (.inr o5) =>
      some (true)
noncomputable def c_laws_eqProposalS : Con := { ps := [(.val, (.slice (.st (.pair (.int .i64) (.pair (.int .i64) (.pair .str (.slice (.int .i64)))))))), (.val, (.slice (.st (.pair (.int .i64) (.pair (.int .i64) (.pair .str (.slice (.int .i64))))))))], rs := [(.val, .bool)], F := F_laws_eqProposalS }
noncomputable def env_laws_eqProposalS : Env := { par := [], con := fun f => match f with | 42 => some c_laws_eqProposal | _ => none, clo := fun _ => none, T := tinf Try.prog }
noncomputable def loops_laws_eqProposalS : Nat → Option Loop := fun n => match n with | 4 => some { pat := pat_laws_eqProposalS_0, outs := outs_laws_eqProposalS_0, run := runL (step_laws_eqProposalS_0) } | _ => none
theorem step_laws_eqProposalS_0_eq (s : (List (Int × (Int × (ByteArray × (List Int))))) × (List (Int × (Int × (ByteArray × (List Int))))) × Int) : stepEv env_laws_eqProposalS loops_laws_eqProposalS pat_laws_eqProposalS_0 outs_laws_eqProposalS_0 Try.f18 4 s = step_laws_eqProposalS_0 s := by kernel_rfl
theorem F_laws_eqProposalS_eq (x : (List (Int × (Int × (ByteArray × (List Int))))) × (List (Int × (Int × (ByteArray × (List Int)))))) : Fev env_laws_eqProposalS loops_laws_eqProposalS c_laws_eqProposalS.ps c_laws_eqProposalS.rs Try.f18 x = F_laws_eqProposalS x := by kernel_rfl
theorem env_laws_eqProposalS_ok : EnvOK Try.prog env_laws_eqProposalS := envOK_of (fun f c h => by
  simp only [env_laws_eqProposalS] at h
  split at h
  · cases h; exact con_laws_eqProposal
  · cases h) (fun f c h => by cases h) rfl
theorem con_laws_eqProposalS : ConOK Try.prog 18 c_laws_eqProposalS := con_of_ev' (body := Try.f18.body.getD .skip) (Λ := loops_laws_eqProposalS) mixed Try.func18 (by kernel_rfl) (by kernel_rfl) env_laws_eqProposalS_ok rfl (by kernel_rfl) (fun n L h => by
  unfold loops_laws_eqProposalS at h
  split at h
  · cases h; exact fun s o ho => loop_ok (stepF := stepEv env_laws_eqProposalS loops_laws_eqProposalS pat_laws_eqProposalS_0 outs_laws_eqProposalS_0 Try.f18 4) (step_laws_eqProposalS_0_eq) ho
  · cases h) F_laws_eqProposalS_eq

noncomputable def F_laws_FnExactAreProposals (x : (List (Int × (Int × (ByteArray × (List Int))))) × Int) : Option (Bool) :=
  match F_laws_szProposalS ((x.1, 1048576)) with
  | none => none
  | some y1 =>
    bif (decide (y1 < 0)) then
      some (true)
    else
      match F_laws_toProposalS (x.1) with
      | none => none
      | some y2 =>
        match F_spec_AreProposals ((y2, x.2)) with
        | none => none
        | some y3 =>
          match F_laws_toProposalS (x.1) with
          | none => none
          | some y4 =>
            match F_impl_AreProposals ((y4, x.2)) with
            | none => none
            | some y5 =>
              bif (!(y5 == y3)) then
                some (false)
              else
                match F_laws_toProposalS (x.1) with
                | none => none
                | some y6 =>
                  match F_laws_eqProposalS ((y4, y6)) with
                  | none => none
                  | some y7 =>
                    bif (!y7) then
                      some (false)
                    else
                      some (true)
noncomputable def c_laws_FnExactAreProposals : Con := { ps := [(.val, (.slice (.st (.pair (.int .i64) (.pair (.int .i64) (.pair .str (.slice (.int .i64)))))))), (.val, (.int .i64))], rs := [(.val, .bool)], F := F_laws_FnExactAreProposals }
noncomputable def env_laws_FnExactAreProposals : Env := { par := [], con := fun f => match f with | 14 => some c_laws_szProposalS | 15 => some c_spec_AreProposals | 16 => some c_laws_toProposalS | 17 => some c_impl_AreProposals | 18 => some c_laws_eqProposalS | _ => none, clo := fun _ => none, T := tinf Try.prog }
noncomputable def loops_laws_FnExactAreProposals : Nat → Option Loop := fun n => none
theorem F_laws_FnExactAreProposals_eq (x : (List (Int × (Int × (ByteArray × (List Int))))) × Int) : Fev env_laws_FnExactAreProposals loops_laws_FnExactAreProposals c_laws_FnExactAreProposals.ps c_laws_FnExactAreProposals.rs Try.f4 x = F_laws_FnExactAreProposals x := by kernel_rfl
theorem env_laws_FnExactAreProposals_ok : EnvOK Try.prog env_laws_FnExactAreProposals := envOK_of (fun f c h => by
  simp only [env_laws_FnExactAreProposals] at h
  split at h
  · cases h; exact con_laws_szProposalS
  · cases h; exact con_spec_AreProposals
  · cases h; exact con_laws_toProposalS
  · cases h; exact con_impl_AreProposals
  · cases h; exact con_laws_eqProposalS
  · cases h) (fun f c h => by cases h) rfl
theorem con_laws_FnExactAreProposals : ConOK Try.prog 4 c_laws_FnExactAreProposals := con_of_ev' (body := Try.f4.body.getD .skip) (Λ := loops_laws_FnExactAreProposals) mixed Try.func4 (by kernel_rfl) (by kernel_rfl) env_laws_FnExactAreProposals_ok rfl (by kernel_rfl) (fun n L h => by cases h) F_laws_FnExactAreProposals_eq

noncomputable def step_spec_ShortenEdits_0 (s : (List (Int × (ByteArray × Bool))) × Bool × (List (Int × (ByteArray × Bool))) × Int × Int × (List (Int × (ByteArray × Bool))) × Int × Int × Int × ByteArray × Bool × (List (Int × (ByteArray × Bool)))) : Option (((List (Int × (ByteArray × Bool))) × Bool × (List (Int × (ByteArray × Bool))) × Int × Int × (List (Int × (ByteArray × Bool))) × Int × Int × Int × ByteArray × Bool × (List (Int × (ByteArray × Bool)))) ⊕ (((List (Int × (ByteArray × Bool))) × Bool × (List (Int × (ByteArray × Bool))) × Int × Int × Int × ByteArray × Bool × (List (Int × (ByteArray × Bool)))))) :=
  bif (decide (s.2.2.2.2.2.2.2.1 < s.2.2.2.2.2.2.1)) then
    bif decide (0 ≤ s.2.2.2.2.2.2.2.1) && decide (s.2.2.2.2.2.2.2.1 < (s.2.2.2.2.2.1.length : Int)) then
      bif s.2.1 then
        let v22 := IntKind.i64.wrap (s.2.2.2.2.2.2.2.1 + 1)
        some (.inl ((s.1, (!((s.2.2.2.2.2.1.getD (s.2.2.2.2.2.2.2.1).toNat (0, ByteArray.empty, false)).2.1.toList == s.2.2.2.2.2.2.2.2.2.1.toList)), (s.2.2.1, s.2.2.2.1, (s.2.2.2.2.1, s.2.2.2.2.2.1, (s.2.2.2.2.2.2.1, v22, s.2.2.2.2.2.2.2.2))))))
      else
        let v23 := IntKind.i64.wrap (s.2.2.2.2.2.2.2.1 + 1)
        some (.inl ((s.1, false, (s.2.2.1, s.2.2.2.1, (s.2.2.2.2.1, s.2.2.2.2.2.1, (s.2.2.2.2.2.2.1, v23, s.2.2.2.2.2.2.2.2))))))
    else none
  else
    some (.inr ((s.1, (s.2.1, s.2.2.1, (s.2.2.2.1, s.2.2.2.2.1, s.2.2.2.2.2.2.2.2)))))
def pat_spec_ShortenEdits_0 : Pat := { tmps := [.v (.slice (.st (.pair (.int .i64) (.pair .str .bool)))), .any, .any, .any, .own 2688, .any, .ptr 384 0, .v .bool, .any, .any, .any, .any, .any, .v (.slice (.st (.pair (.int .i64) (.pair .str .bool)))), .v (.int .i64), .v (.int .i64), .any, .any, .any, .any, .any, .any, .any, .v (.slice (.st (.pair (.int .i64) (.pair .str .bool)))), .v (.int .i64), .v (.int .i64), .any, .any, .any, .any, .any, .any, .any, .any, .any, .any, .any, .any, .any, .any, .any, .any, .any, .any, .any], blks := [(384, .box [.v (.int .i64), .v .str, .v .bool]), (2688, .row true (.st (.pair (.int .i64) (.pair .str .bool))))] }
def outs_spec_ShortenEdits_0 : List (Exit × Pat) := [(.exit 2, { tmps := [.v (.slice (.st (.pair (.int .i64) (.pair .str .bool)))), .any, .any, .any, .own 2688, .any, .ptr 384 0, .v .bool, .any, .any, .any, .any, .any, .v (.slice (.st (.pair (.int .i64) (.pair .str .bool)))), .v (.int .i64), .v (.int .i64), .any, .any, .any, .any, .any, .any, .any, .any, .any, .any, .any, .any, .any, .any, .any, .any, .any, .any, .any, .any, .any, .any, .any, .any, .any, .any, .any, .any, .any], blks := [(384, .box [.v (.int .i64), .v .str, .v .bool]), (2688, .row true (.st (.pair (.int .i64) (.pair .str .bool))))] })]
noncomputable def step_spec_ShortenEdits_1 (s : (List (Int × (ByteArray × Bool))) × (List (Int × (ByteArray × Bool))) × Int × Int × (List (Int × (ByteArray × Bool)))) : Option (((List (Int × (ByteArray × Bool))) × (List (Int × (ByteArray × Bool))) × Int × Int × (List (Int × (ByteArray × Bool)))) ⊕ (((List (Int × (ByteArray × Bool)))))) :=
  bif (decide (s.2.2.2.1 < s.2.2.1)) then
    bif decide (0 ≤ s.2.2.2.1) && decide (s.2.2.2.1 < (s.2.1.length : Int)) then
      let v19 := IntKind.i64.wrap (s.2.2.2.1 + 1)
      bif decide (0 ≤ v19) && decide (v19 ≤ (s.1.length : Int)) && decide ((s.1.length : Int) ≤ (s.1.length : Int)) then
        match runL step_spec_ShortenEdits_0 ((s.1, (true, s.2.1, (s.2.2.1, s.2.2.2.1, (((s.1.drop (v19).toNat).take (((s.1.length : Int)).toNat - (v19).toNat)), (((s.1.drop (v19).toNat).take (((s.1.length : Int)).toNat - (v19).toNat)).length : Int), (0, (s.2.1.getD (s.2.2.2.1).toNat (0, ByteArray.empty, false)).1, ((s.2.1.getD (s.2.2.2.1).toNat (0, ByteArray.empty, false)).2.1, (s.2.1.getD (s.2.2.2.1).toNat (0, ByteArray.empty, false)).2.2, s.2.2.2.2))))))) with
        | none => none
        | some o24 =>
          bif o24.2.1 then
            bif decide ((o24.2.2.2.2.2.2.2.2.length + [(o24.2.2.2.2.2.1, o24.2.2.2.2.2.2.1, o24.2.2.2.2.2.2.2.1)].length) * 32 ≤ 140737488355328) then
              let v25 := o24.2.2.2.2.2.2.2.2 ++ [(o24.2.2.2.2.2.1, o24.2.2.2.2.2.2.1, o24.2.2.2.2.2.2.2.1)]
              let v26 := IntKind.i64.wrap (o24.2.2.2.2.1 + 1)
              some (.inl ((o24.1, o24.2.2.1, (o24.2.2.2.1, v26, v25))))
            else none
          else
            let v27 := IntKind.i64.wrap (o24.2.2.2.2.1 + 1)
            some (.inl ((o24.1, o24.2.2.1, (o24.2.2.2.1, v27, o24.2.2.2.2.2.2.2.2))))
      else none
    else none
  else
    some (.inr (s.2.2.2.2))
def pat_spec_ShortenEdits_1 : Pat := { tmps := [.v (.slice (.st (.pair (.int .i64) (.pair .str .bool)))), .any, .any, .any, .own 2688, .any, .any, .any, .any, .any, .any, .any, .any, .v (.slice (.st (.pair (.int .i64) (.pair .str .bool)))), .v (.int .i64), .v (.int .i64), .any, .any, .any, .any, .any, .any, .any, .any, .any, .any, .any, .any, .any, .any, .any, .any, .any, .any, .any, .any, .any, .any, .any, .any, .any, .any, .any, .any, .any], blks := [(2688, .row true (.st (.pair (.int .i64) (.pair .str .bool))))] }
def outs_spec_ShortenEdits_1 : List (Exit × Pat) := [(.exit 0, { tmps := [.any, .any, .any, .any, .own 2688, .any, .any, .any, .any, .any, .any, .any, .any, .any, .any, .any, .any, .any, .any, .any, .any, .any, .any, .any, .any, .any, .any, .any, .any, .any, .any, .any, .any, .any, .any, .any, .any, .any, .any, .any, .any, .any, .any, .any, .any], blks := [(2688, .row true (.st (.pair (.int .i64) (.pair .str .bool))))] })]
noncomputable def F_spec_ShortenEdits (x : (List (Int × (ByteArray × Bool)))) : Option ((List (Int × (ByteArray × Bool))) × Bool) :=
  match F_spec_joGood (x) with
  | none => none
  | some y1 =>
    bif (!y1) then
      some (([], false))
    else
      match runL step_spec_ShortenEdits_1 ((x, x, ((x.length : Int), 0, []))) with
      | none => none
      | some o28 =>
        some ((o28, true))
noncomputable def c_spec_ShortenEdits : Con := { ps := [(.val, (.slice (.st (.pair (.int .i64) (.pair .str .bool)))))], rs := [(.io true, (.slice (.st (.pair (.int .i64) (.pair .str .bool))))), (.val, .bool)], F := F_spec_ShortenEdits }
noncomputable def env_spec_ShortenEdits : Env := { par := [], con := fun f => match f with | 33 => some c_spec_joGood | _ => none, clo := fun _ => none, T := tinf Try.prog }
noncomputable def loops_spec_ShortenEdits : Nat → Option Loop := fun n => match n with | 9 => some { pat := pat_spec_ShortenEdits_0, outs := outs_spec_ShortenEdits_0, run := runL (step_spec_ShortenEdits_0) } | 5 => some { pat := pat_spec_ShortenEdits_1, outs := outs_spec_ShortenEdits_1, run := runL (step_spec_ShortenEdits_1) } | _ => none
theorem step_spec_ShortenEdits_0_eq (s : (List (Int × (ByteArray × Bool))) × Bool × (List (Int × (ByteArray × Bool))) × Int × Int × (List (Int × (ByteArray × Bool))) × Int × Int × Int × ByteArray × Bool × (List (Int × (ByteArray × Bool)))) : stepEv env_spec_ShortenEdits loops_spec_ShortenEdits pat_spec_ShortenEdits_0 outs_spec_ShortenEdits_0 Try.f19 9 s = step_spec_ShortenEdits_0 s := by kernel_rfl
theorem step_spec_ShortenEdits_1_eq (s : (List (Int × (ByteArray × Bool))) × (List (Int × (ByteArray × Bool))) × Int × Int × (List (Int × (ByteArray × Bool)))) : stepEv env_spec_ShortenEdits loops_spec_ShortenEdits pat_spec_ShortenEdits_1 outs_spec_ShortenEdits_1 Try.f19 5 s = step_spec_ShortenEdits_1 s := by kernel_rfl
theorem F_spec_ShortenEdits_eq (x : (List (Int × (ByteArray × Bool)))) : Fev env_spec_ShortenEdits loops_spec_ShortenEdits c_spec_ShortenEdits.ps c_spec_ShortenEdits.rs Try.f19 x = F_spec_ShortenEdits x := by kernel_rfl
theorem env_spec_ShortenEdits_ok : EnvOK Try.prog env_spec_ShortenEdits := envOK_of (fun f c h => by
  simp only [env_spec_ShortenEdits] at h
  split at h
  · cases h; exact con_spec_joGood
  · cases h) (fun f c h => by cases h) rfl
theorem con_spec_ShortenEdits : ConOK Try.prog 19 c_spec_ShortenEdits := con_of_ev' (body := Try.f19.body.getD .skip) (Λ := loops_spec_ShortenEdits) mixed Try.func19 (by kernel_rfl) (by kernel_rfl) env_spec_ShortenEdits_ok rfl (by kernel_rfl) (fun n L h => by
  unfold loops_spec_ShortenEdits at h
  split at h
  · cases h; exact fun s o ho => loop_ok (stepF := stepEv env_spec_ShortenEdits loops_spec_ShortenEdits pat_spec_ShortenEdits_0 outs_spec_ShortenEdits_0 Try.f19 9) (step_spec_ShortenEdits_0_eq) ho
  · cases h; exact fun s o ho => loop_ok (stepF := stepEv env_spec_ShortenEdits loops_spec_ShortenEdits pat_spec_ShortenEdits_1 outs_spec_ShortenEdits_1 Try.f19 5) (step_spec_ShortenEdits_1_eq) ho
  · cases h) F_spec_ShortenEdits_eq

noncomputable def F_impl_ShortenEdits_1 (x : (Int × (ByteArray × Bool)) × (Int × (ByteArray × Bool))) : Option (Bool) :=
  some ((x.1.2.1.toList == x.2.2.1.toList))
noncomputable def c_impl_ShortenEdits_1 : Con := { ps := [(.val, (.st (.pair (.int .i64) (.pair .str .bool)))), (.val, (.ptr (.st (.pair (.int .i64) (.pair .str .bool)))))], rs := [(.val, .bool)], F := F_impl_ShortenEdits_1 }
noncomputable def env_impl_ShortenEdits_1 : Env := { par := [], con := fun _ => none, clo := fun _ => none, T := tinf Try.prog }
noncomputable def loops_impl_ShortenEdits_1 : Nat → Option Loop := fun n => none
theorem F_impl_ShortenEdits_1_eq (x : (Int × (ByteArray × Bool)) × (Int × (ByteArray × Bool))) : Fev env_impl_ShortenEdits_1 loops_impl_ShortenEdits_1 c_impl_ShortenEdits_1.ps c_impl_ShortenEdits_1.rs Try.f44 x = F_impl_ShortenEdits_1 x := by kernel_rfl
theorem env_impl_ShortenEdits_1_ok : EnvOK Try.prog env_impl_ShortenEdits_1 := envOK_of (fun f c h => by cases h) (fun f c h => by cases h) rfl
theorem con_impl_ShortenEdits_1 : ConOK Try.prog 44 c_impl_ShortenEdits_1 := con_of_ev' (body := Try.f44.body.getD .skip) (Λ := loops_impl_ShortenEdits_1) mixed Try.func44 (by kernel_rfl) (by kernel_rfl) env_impl_ShortenEdits_1_ok rfl (by kernel_rfl) (fun n L h => by cases h) F_impl_ShortenEdits_1_eq

noncomputable def step_slices_IndexFunc_impl_LogEdit_impl_LogEdit_0 (s : (List (Int × (ByteArray × Bool))) × ((Int × (ByteArray × Bool)) → Option Bool) × Int × Int) : Option (((List (Int × (ByteArray × Bool))) × ((Int × (ByteArray × Bool)) → Option Bool) × Int × Int) ⊕ ((Int) ⊕ (Unit))) :=
  bif (decide (s.2.2.2 < s.2.2.1)) then
    bif decide (0 ≤ s.2.2.2) && decide (s.2.2.2 < (s.1.length : Int)) then
      match s.2.1 ((s.1.getD (s.2.2.2).toNat (0, ByteArray.empty, false))) with
      | none => none
      | some y3 =>
        bif y3 then
          some (.inr (.inl (s.2.2.2)))
        else
          let v4 := IntKind.i64.wrap (s.2.2.2 + 1)
          some (.inl ((s.1, (s.2.1, s.2.2.1, v4))))
    else none
  else
    some (.inr (.inr (())))
def pat_slices_IndexFunc_impl_LogEdit_impl_LogEdit_0 : Pat := { tmps := [.v (.slice (.st (.pair (.int .i64) (.pair .str .bool)))), .v (.fn (.st (.pair (.int .i64) (.pair .str .bool))) .bool), .any, .any, .any, .any, .any, .v (.int .i64), .v (.int .i64), .any, .any, .any, .any, .any, .any, .any, .any, .any, .any], blks := [] }
def outs_slices_IndexFunc_impl_LogEdit_impl_LogEdit_0 : List (Exit × Pat) := [(.ret, { tmps := [.any, .any, .any, .any, .v (.int .i64), .any, .any, .any, .any, .any, .any, .any, .any, .any, .any, .any, .any, .any, .any], blks := [] }), (.exit 0, { tmps := [.any, .any, .any, .any, .any, .any, .any, .any, .any, .any, .any, .any, .any, .any, .any, .any, .any, .any, .any], blks := [] })]
noncomputable def F_slices_IndexFunc_impl_LogEdit_impl_LogEdit (x : (List (Int × (ByteArray × Bool))) × ((Int × (ByteArray × Bool)) → Option Bool)) : Option (Int) :=
  match runL step_slices_IndexFunc_impl_LogEdit_impl_LogEdit_0 ((x.1, (x.2, (x.1.length : Int), 0))) with
  | none => none
  | some (.inl o5) =>
    some (o5)
  | some (.inr o5) =>
    some ((-1))
noncomputable def c_slices_IndexFunc_impl_LogEdit_impl_LogEdit : Con := { ps := [(.val, (.slice (.st (.pair (.int .i64) (.pair .str .bool))))), (.val, (.fn (.st (.pair (.int .i64) (.pair .str .bool))) .bool))], rs := [(.val, (.int .i64))], F := F_slices_IndexFunc_impl_LogEdit_impl_LogEdit }
noncomputable def env_slices_IndexFunc_impl_LogEdit_impl_LogEdit : Env := { par := [], con := fun _ => none, clo := fun _ => none, T := tinf Try.prog }
noncomputable def loops_slices_IndexFunc_impl_LogEdit_impl_LogEdit : Nat → Option Loop := fun n => match n with | 2 => some { pat := pat_slices_IndexFunc_impl_LogEdit_impl_LogEdit_0, outs := outs_slices_IndexFunc_impl_LogEdit_impl_LogEdit_0, run := runL (step_slices_IndexFunc_impl_LogEdit_impl_LogEdit_0) } | _ => none
theorem step_slices_IndexFunc_impl_LogEdit_impl_LogEdit_0_eq (s : (List (Int × (ByteArray × Bool))) × ((Int × (ByteArray × Bool)) → Option Bool) × Int × Int) : stepEv env_slices_IndexFunc_impl_LogEdit_impl_LogEdit loops_slices_IndexFunc_impl_LogEdit_impl_LogEdit pat_slices_IndexFunc_impl_LogEdit_impl_LogEdit_0 outs_slices_IndexFunc_impl_LogEdit_impl_LogEdit_0 Try.f59 2 s = step_slices_IndexFunc_impl_LogEdit_impl_LogEdit_0 s := by kernel_rfl
theorem F_slices_IndexFunc_impl_LogEdit_impl_LogEdit_eq (x : (List (Int × (ByteArray × Bool))) × ((Int × (ByteArray × Bool)) → Option Bool)) : Fev env_slices_IndexFunc_impl_LogEdit_impl_LogEdit loops_slices_IndexFunc_impl_LogEdit_impl_LogEdit c_slices_IndexFunc_impl_LogEdit_impl_LogEdit.ps c_slices_IndexFunc_impl_LogEdit_impl_LogEdit.rs Try.f59 x = F_slices_IndexFunc_impl_LogEdit_impl_LogEdit x := by kernel_rfl
theorem env_slices_IndexFunc_impl_LogEdit_impl_LogEdit_ok : EnvOK Try.prog env_slices_IndexFunc_impl_LogEdit_impl_LogEdit := envOK_of (fun f c h => by cases h) (fun f c h => by cases h) rfl
theorem con_slices_IndexFunc_impl_LogEdit_impl_LogEdit : ConOK Try.prog 59 c_slices_IndexFunc_impl_LogEdit_impl_LogEdit := con_of_ev' (body := Try.f59.body.getD .skip) (Λ := loops_slices_IndexFunc_impl_LogEdit_impl_LogEdit) mixed Try.func59 (by kernel_rfl) (by kernel_rfl) env_slices_IndexFunc_impl_LogEdit_impl_LogEdit_ok rfl (by kernel_rfl) (fun n L h => by
  unfold loops_slices_IndexFunc_impl_LogEdit_impl_LogEdit at h
  split at h
  · cases h; exact fun s o ho => loop_ok (stepF := stepEv env_slices_IndexFunc_impl_LogEdit_impl_LogEdit loops_slices_IndexFunc_impl_LogEdit_impl_LogEdit pat_slices_IndexFunc_impl_LogEdit_impl_LogEdit_0 outs_slices_IndexFunc_impl_LogEdit_impl_LogEdit_0 Try.f59 2) (step_slices_IndexFunc_impl_LogEdit_impl_LogEdit_0_eq) ho
  · cases h) F_slices_IndexFunc_impl_LogEdit_impl_LogEdit_eq

noncomputable def F_slices_ContainsFunc_impl_LogEdit_impl_LogEdit (x : (List (Int × (ByteArray × Bool))) × ((Int × (ByteArray × Bool)) → Option Bool)) : Option (Bool) :=
  match F_slices_IndexFunc_impl_LogEdit_impl_LogEdit (x) with
  | none => none
  | some y1 =>
    some ((decide (y1 ≥ 0)))
noncomputable def c_slices_ContainsFunc_impl_LogEdit_impl_LogEdit : Con := { ps := [(.val, (.slice (.st (.pair (.int .i64) (.pair .str .bool))))), (.val, (.fn (.st (.pair (.int .i64) (.pair .str .bool))) .bool))], rs := [(.val, .bool)], F := F_slices_ContainsFunc_impl_LogEdit_impl_LogEdit }
noncomputable def env_slices_ContainsFunc_impl_LogEdit_impl_LogEdit : Env := { par := [], con := fun f => match f with | 59 => some c_slices_IndexFunc_impl_LogEdit_impl_LogEdit | _ => none, clo := fun _ => none, T := tinf Try.prog }
noncomputable def loops_slices_ContainsFunc_impl_LogEdit_impl_LogEdit : Nat → Option Loop := fun n => none
theorem F_slices_ContainsFunc_impl_LogEdit_impl_LogEdit_eq (x : (List (Int × (ByteArray × Bool))) × ((Int × (ByteArray × Bool)) → Option Bool)) : Fev env_slices_ContainsFunc_impl_LogEdit_impl_LogEdit loops_slices_ContainsFunc_impl_LogEdit_impl_LogEdit c_slices_ContainsFunc_impl_LogEdit_impl_LogEdit.ps c_slices_ContainsFunc_impl_LogEdit_impl_LogEdit.rs Try.f43 x = F_slices_ContainsFunc_impl_LogEdit_impl_LogEdit x := by kernel_rfl
theorem env_slices_ContainsFunc_impl_LogEdit_impl_LogEdit_ok : EnvOK Try.prog env_slices_ContainsFunc_impl_LogEdit_impl_LogEdit := envOK_of (fun f c h => by
  simp only [env_slices_ContainsFunc_impl_LogEdit_impl_LogEdit] at h
  split at h
  · cases h; exact con_slices_IndexFunc_impl_LogEdit_impl_LogEdit
  · cases h) (fun f c h => by cases h) rfl
theorem con_slices_ContainsFunc_impl_LogEdit_impl_LogEdit : ConOK Try.prog 43 c_slices_ContainsFunc_impl_LogEdit_impl_LogEdit := con_of_ev' (body := Try.f43.body.getD .skip) (Λ := loops_slices_ContainsFunc_impl_LogEdit_impl_LogEdit) mixed Try.func43 (by kernel_rfl) (by kernel_rfl) env_slices_ContainsFunc_impl_LogEdit_impl_LogEdit_ok rfl (by kernel_rfl) (fun n L h => by cases h) F_slices_ContainsFunc_impl_LogEdit_impl_LogEdit_eq

end Go.Proofs.Yteodliihhddagaa
