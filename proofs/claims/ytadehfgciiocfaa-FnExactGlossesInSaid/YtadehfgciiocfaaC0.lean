/- Contracts of functions of the program, written by a program of this claim. No conditions. -/
import Derived.Test.YtadehfgciiocfaaEvZk
import Derived.Test.YtadehfgciiocfaaRows
import Derived.Shelf.Strings.Search1
import Derived.Test.YtadehfgciiocfaaEvZl
import Derived.OwnWalk
import Derived.Lib.SliceRun
import Derived.WalkKit
import Derived.Deep.LoopGhost
import Derived.Lib.Walk
import Derived.Test.YtadehfgciiocfaaEvZm
import Derived.Sort.Grow
import Derived.Test.YtadehfgciiocfaaShelf
set_option linter.unusedVariables false
set_option maxRecDepth 100000
namespace Go.Proofs.Ytadehfgciiocfaa
open Go
theorem mixed : Try.prog.follows .mixedOrders = true := by kernel_rfl
noncomputable def F_laws_szLogEdit (x : (Int × (ByteArray × Bool)) × Int) : Option (Int) :=
  let v1 := IntKind.i64.wrap (x.2 - (x.1.2.1.size : Int))
  bif (decide (v1 < 0)) then
    some ((-1))
  else
    some (v1)
noncomputable def c_laws_szLogEdit : Con := { ps := [(.val, (.st (.pair (.int .i64) (.pair .str .bool)))), (.val, (.int .i64))], rs := [(.val, (.int .i64))], F := F_laws_szLogEdit }
noncomputable def env_laws_szLogEdit : Env := { par := [], dp := false, settle := [], con := fun _ => none, clo := fun _ => none, T := tinf Try.prog }
noncomputable def loops_laws_szLogEdit : Nat → Option Loop := fun n => none
theorem F_laws_szLogEdit_eq (x : (Int × (ByteArray × Bool)) × Int) : Fev env_laws_szLogEdit loops_laws_szLogEdit c_laws_szLogEdit.ps c_laws_szLogEdit.rs Try.f20 x = F_laws_szLogEdit x := by kernel_rfl
theorem env_laws_szLogEdit_ok : EnvOK Try.prog env_laws_szLogEdit := envOK_of (fun f c h => by cases h) (fun f c h => by cases h) rfl
theorem con_laws_szLogEdit : ConOK Try.prog 20 c_laws_szLogEdit := con_of_ev' (body := Try.f20.body.getD .skip) (Λ := loops_laws_szLogEdit) mixed Try.func20 (by kernel_rfl) (by kernel_rfl) env_laws_szLogEdit_ok (by kernel_rfl) (by kernel_rfl) (fun n L h => by cases h) F_laws_szLogEdit_eq

noncomputable def step_laws_szLogEditS_0 (s : (List (Int × (ByteArray × Bool))) × Int × Int) : Option (((List (Int × (ByteArray × Bool))) × Int × Int) ⊕ ((Int) ⊕ (Int))) :=
  bif (decide (s.2.2 < (s.1.length : Int))) then
    bif decide (0 ≤ s.2.2) && decide (s.2.2 < (s.1.length : Int)) then
      match F_laws_szLogEdit (((s.1.getD (s.2.2).toNat (0, ByteArray.empty, false)), s.2.1)) with
      | none => none
      | some y4 =>
        bif (decide (y4 < 0)) then
          some (.inr (.inl ((-1))))
        else
          let v5 := IntKind.i64.wrap (s.2.2 + 1)
          some (.inl ((s.1, y4, v5)))
    else none
  else
    some (.inr (.inr (s.2.1)))
def pat_laws_szLogEditS_0 : Pat := { tmps := [.v (.slice (.st (.pair (.int .i64) (.pair .str .bool)))), .v (.int .i64), .any, .any, .any, .v (.int .i64), .any, .any, .any, .any, .any, .any, .any, .any, .any, .any, .any, .any, .any, .any, .any, .any, .any, .any, .any, .any, .any], blks := [] }
def outs_laws_szLogEditS_0 : List (Exit × Pat) := [(.ret, { tmps := [.any, .any, .any, .any, .v (.int .i64), .any, .any, .any, .any, .any, .any, .any, .any, .any, .any, .any, .any, .any, .any, .any, .any, .any, .any, .any, .any, .any, .any], blks := [] }), (.exit 0, { tmps := [.any, .v (.int .i64), .any, .any, .any, .any, .any, .any, .any, .any, .any, .any, .any, .any, .any, .any, .any, .any, .any, .any, .any, .any, .any, .any, .any, .any, .any], blks := [] })]
noncomputable def F_laws_szLogEditS (x : (List (Int × (ByteArray × Bool))) × Int) : Option (Int) :=
  let v1 := IntKind.i64.wrap (x.2 - (x.1.length : Int))
  bif (decide (v1 < 0)) then
    some ((-1))
  else
    match runL step_laws_szLogEditS_0 ((x.1, v1, 0)) with
    | none => none
    | some (.inl o6) =>
      some (o6)
    | some (.inr o6) =>
      some (o6)
noncomputable def c_laws_szLogEditS : Con := { ps := [(.val, (.slice (.st (.pair (.int .i64) (.pair .str .bool))))), (.val, (.int .i64))], rs := [(.val, (.int .i64))], F := F_laws_szLogEditS }
noncomputable def env_laws_szLogEditS : Env := { par := [], dp := false, settle := [], con := fun f => match f with | 20 => some c_laws_szLogEdit | _ => none, clo := fun _ => none, T := tinf Try.prog }
noncomputable def loops_laws_szLogEditS : Nat → Option Loop := fun n => match n with | 5 => some { pat := pat_laws_szLogEditS_0, outs := outs_laws_szLogEditS_0, run := runL (step_laws_szLogEditS_0) } | _ => none
theorem step_laws_szLogEditS_0_eq (s : (List (Int × (ByteArray × Bool))) × Int × Int) : stepEv env_laws_szLogEditS loops_laws_szLogEditS pat_laws_szLogEditS_0 outs_laws_szLogEditS_0 Try.f5 5 s = step_laws_szLogEditS_0 s := by kernel_rfl
theorem F_laws_szLogEditS_eq (x : (List (Int × (ByteArray × Bool))) × Int) : Fev env_laws_szLogEditS loops_laws_szLogEditS c_laws_szLogEditS.ps c_laws_szLogEditS.rs Try.f5 x = F_laws_szLogEditS x := by kernel_rfl
theorem env_laws_szLogEditS_ok : EnvOK Try.prog env_laws_szLogEditS := envOK_of (fun f c h => by
  simp only [env_laws_szLogEditS] at h
  split at h
  · cases h; exact con_laws_szLogEdit
  · cases h) (fun f c h => by cases h) rfl
theorem con_laws_szLogEditS : ConOK Try.prog 5 c_laws_szLogEditS := con_of_ev' (body := Try.f5.body.getD .skip) (Λ := loops_laws_szLogEditS) mixed Try.func5 (by kernel_rfl) (by kernel_rfl) env_laws_szLogEditS_ok (by kernel_rfl) (by kernel_rfl) (fun n L h => by
  unfold loops_laws_szLogEditS at h
  split at h
  · cases h; exact fun s o ho => loop_ok (stepF := stepEv env_laws_szLogEditS loops_laws_szLogEditS pat_laws_szLogEditS_0 outs_laws_szLogEditS_0 Try.f5 5) (step_laws_szLogEditS_0_eq) ho
  · cases h) F_laws_szLogEditS_eq

noncomputable def F_laws_toLogEdit (x : (Int × (ByteArray × Bool))) : Option ((Int × (ByteArray × Bool))) :=
  some (x)
noncomputable def c_laws_toLogEdit : Con := { ps := [(.val, (.st (.pair (.int .i64) (.pair .str .bool))))], rs := [(.val, (.st (.pair (.int .i64) (.pair .str .bool))))], F := F_laws_toLogEdit }
noncomputable def env_laws_toLogEdit : Env := { par := [], dp := false, settle := [], con := fun _ => none, clo := fun _ => none, T := tinf Try.prog }
noncomputable def loops_laws_toLogEdit : Nat → Option Loop := fun n => none
theorem F_laws_toLogEdit_eq (x : (Int × (ByteArray × Bool))) : Fev env_laws_toLogEdit loops_laws_toLogEdit c_laws_toLogEdit.ps c_laws_toLogEdit.rs Try.f22 x = F_laws_toLogEdit x := by kernel_rfl
theorem env_laws_toLogEdit_ok : EnvOK Try.prog env_laws_toLogEdit := envOK_of (fun f c h => by cases h) (fun f c h => by cases h) rfl
theorem con_laws_toLogEdit : ConOK Try.prog 22 c_laws_toLogEdit := con_of_ev' (body := Try.f22.body.getD .skip) (Λ := loops_laws_toLogEdit) mixed Try.func22 (by kernel_rfl) (by kernel_rfl) env_laws_toLogEdit_ok (by kernel_rfl) (by kernel_rfl) (fun n L h => by cases h) F_laws_toLogEdit_eq

noncomputable def step_laws_toLogEditS_0 (s : (List (Int × (ByteArray × Bool))) × Int × (List (Int × (ByteArray × Bool)))) : Option (((List (Int × (ByteArray × Bool))) × Int × (List (Int × (ByteArray × Bool)))) ⊕ (((List (Int × (ByteArray × Bool)))))) :=
  bif (decide (s.2.1 < (s.1.length : Int))) then
    bif decide (0 ≤ s.2.1) && decide (s.2.1 < (s.1.length : Int)) then
      match F_laws_toLogEdit ((s.1.getD (s.2.1).toNat (0, ByteArray.empty, false))) with
      | none => none
      | some y4 =>
        bif decide (0 ≤ s.2.1) && decide (s.2.1 < (s.2.2.length : Int)) then
          let v5 := s.2.2.set (s.2.1).toNat (y4)
          let v6 := IntKind.i64.wrap (s.2.1 + 1)
          some (.inl ((s.1, v6, v5)))
        else none
    else none
  else
    some (.inr (s.2.2))
def pat_laws_toLogEditS_0 : Pat := { tmps := [.v (.slice (.st (.pair (.int .i64) (.pair .str .bool)))), .any, .any, .own 448, .v (.int .i64), .any, .any, .any, .any, .any, .any, .any, .any, .any, .any, .any, .any, .any, .any, .any, .any, .any, .any], blks := [(448, .row true (.st (.pair (.int .i64) (.pair .str .bool))))] }
def outs_laws_toLogEditS_0 : List (Exit × Pat) := [(.exit 0, { tmps := [.any, .any, .any, .own 448, .any, .any, .any, .any, .any, .any, .any, .any, .any, .any, .any, .any, .any, .any, .any, .any, .any, .any, .any], blks := [(448, .row true (.st (.pair (.int .i64) (.pair .str .bool))))] })]
noncomputable def F_laws_toLogEditS (x : (List (Int × (ByteArray × Bool)))) : Option ((List (Int × (ByteArray × Bool)))) :=
  bif decide (0 ≤ (x.length : Int)) && decide ((x.length : Int) ≤ (x.length : Int)) && decide ((x.length : Int) * (32 : Int) ≤ 140737488355328) then
    match runL step_laws_toLogEditS_0 ((x, 0, (List.replicate ((x.length : Int)).toNat (((0, ByteArray.empty, false)) : (Int × (ByteArray × Bool)))))) with
    | none => none
    | some o7 =>
      some (o7)
  else none
noncomputable def c_laws_toLogEditS : Con := { ps := [(.val, (.slice (.st (.pair (.int .i64) (.pair .str .bool)))))], rs := [(.io true, (.slice (.st (.pair (.int .i64) (.pair .str .bool)))))], F := F_laws_toLogEditS }
noncomputable def env_laws_toLogEditS : Env := { par := [], dp := false, settle := [], con := fun f => match f with | 22 => some c_laws_toLogEdit | _ => none, clo := fun _ => none, T := tinf Try.prog }
noncomputable def loops_laws_toLogEditS : Nat → Option Loop := fun n => match n with | 3 => some { pat := pat_laws_toLogEditS_0, outs := outs_laws_toLogEditS_0, run := runL (step_laws_toLogEditS_0) } | _ => none
theorem step_laws_toLogEditS_0_eq (s : (List (Int × (ByteArray × Bool))) × Int × (List (Int × (ByteArray × Bool)))) : stepEv env_laws_toLogEditS loops_laws_toLogEditS pat_laws_toLogEditS_0 outs_laws_toLogEditS_0 Try.f7 3 s = step_laws_toLogEditS_0 s := by kernel_rfl
theorem F_laws_toLogEditS_eq (x : (List (Int × (ByteArray × Bool)))) : Fev env_laws_toLogEditS loops_laws_toLogEditS c_laws_toLogEditS.ps c_laws_toLogEditS.rs Try.f7 x = F_laws_toLogEditS x := by kernel_rfl
theorem env_laws_toLogEditS_ok : EnvOK Try.prog env_laws_toLogEditS := envOK_of (fun f c h => by
  simp only [env_laws_toLogEditS] at h
  split at h
  · cases h; exact con_laws_toLogEdit
  · cases h) (fun f c h => by cases h) rfl
theorem con_laws_toLogEditS : ConOK Try.prog 7 c_laws_toLogEditS := con_of_ev' (body := Try.f7.body.getD .skip) (Λ := loops_laws_toLogEditS) mixed Try.func7 (by kernel_rfl) (by kernel_rfl) env_laws_toLogEditS_ok (by kernel_rfl) (by kernel_rfl) (fun n L h => by
  unfold loops_laws_toLogEditS at h
  split at h
  · cases h; exact fun s o ho => loop_ok (stepF := stepEv env_laws_toLogEditS loops_laws_toLogEditS pat_laws_toLogEditS_0 outs_laws_toLogEditS_0 Try.f7 3) (step_laws_toLogEditS_0_eq) ho
  · cases h) F_laws_toLogEditS_eq

noncomputable def F_spec_l1In (x : Int × Int × Int) : Option (Bool) :=
  bif (decide (x.1 ≥ x.2.1)) then
    some ((decide (x.1 ≤ x.2.2)))
  else
    some (false)
noncomputable def c_spec_l1In : Con := { ps := [(.val, (.int .i64)), (.val, (.int .i64)), (.val, (.int .i64))], rs := [(.val, .bool)], F := F_spec_l1In }
noncomputable def env_spec_l1In : Env := { par := [], dp := false, settle := [], con := fun _ => none, clo := fun _ => none, T := tinf Try.prog }
noncomputable def loops_spec_l1In : Nat → Option Loop := fun n => none
theorem F_spec_l1In_eq (x : Int × Int × Int) : Fev env_spec_l1In loops_spec_l1In c_spec_l1In.ps c_spec_l1In.rs Try.f58 x = F_spec_l1In x := by kernel_rfl
theorem env_spec_l1In_ok : EnvOK Try.prog env_spec_l1In := envOK_of (fun f c h => by cases h) (fun f c h => by cases h) rfl
theorem con_spec_l1In : ConOK Try.prog 58 c_spec_l1In := con_of_ev' (body := Try.f58.body.getD .skip) (Λ := loops_spec_l1In) mixed Try.func58 (by kernel_rfl) (by kernel_rfl) env_spec_l1In_ok (by kernel_rfl) (by kernel_rfl) (fun n L h => by cases h) F_spec_l1In_eq

noncomputable def step_spec_fsWord_0 (s : ByteArray × Int) : Option ((ByteArray × Int) ⊕ ((Bool) ⊕ (ByteArray))) :=
  bif (decide (s.2 < (s.1.size : Int))) then
    bif decide (0 ≤ s.2) && decide (s.2 < (s.1.size : Int)) then
      bif (decide ((byteAt s.1 (s.2).toNat) < 65)) then
        some (.inr (.inl (false)))
      else
        bif decide (0 ≤ s.2) && decide (s.2 < (s.1.size : Int)) then
          bif (decide ((byteAt s.1 (s.2).toNat) > 90)) then
            some (.inr (.inl (false)))
          else
            let v2 := IntKind.i64.wrap (s.2 + 1)
            some (.inl ((s.1, v2)))
        else none
    else none
  else
    some (.inr (.inr (s.1)))
def pat_spec_fsWord_0 : Pat := { tmps := [.v .str, .any, .any, .v (.int .i64), .any, .any, .any, .any, .any, .any, .any, .any, .any, .any, .any, .any, .any, .any, .any, .any, .any, .any, .any], blks := [] }
def outs_spec_fsWord_0 : List (Exit × Pat) := [(.ret, { tmps := [.any, .any, .v .bool, .any, .any, .any, .any, .any, .any, .any, .any, .any, .any, .any, .any, .any, .any, .any, .any, .any, .any, .any, .any], blks := [] }), (.exit 0, { tmps := [.v .str, .any, .any, .any, .any, .any, .any, .any, .any, .any, .any, .any, .any, .any, .any, .any, .any, .any, .any, .any, .any, .any, .any], blks := [] })]
noncomputable def F_spec_fsWord (x : ByteArray) : Option (Bool) :=
  match runL step_spec_fsWord_0 ((x, 0)) with
  | none => none
  | some (.inl o3) =>
    some (o3)
  | some (.inr o3) =>
    match F_spec_l1In (((o3.size : Int), 1, 8)) with
    | none => none
    | some y4 =>
      some (y4)
noncomputable def c_spec_fsWord : Con := { ps := [(.val, .str)], rs := [(.val, .bool)], F := F_spec_fsWord }
noncomputable def env_spec_fsWord : Env := { par := [], dp := false, settle := [], con := fun f => match f with | 58 => some c_spec_l1In | _ => none, clo := fun _ => none, T := tinf Try.prog }
noncomputable def loops_spec_fsWord : Nat → Option Loop := fun n => match n with | 2 => some { pat := pat_spec_fsWord_0, outs := outs_spec_fsWord_0, run := runL (step_spec_fsWord_0) } | _ => none
theorem step_spec_fsWord_0_eq (s : ByteArray × Int) : stepEv env_spec_fsWord loops_spec_fsWord pat_spec_fsWord_0 outs_spec_fsWord_0 Try.f59 2 s = step_spec_fsWord_0 s := by kernel_rfl
theorem F_spec_fsWord_eq (x : ByteArray) : Fev env_spec_fsWord loops_spec_fsWord c_spec_fsWord.ps c_spec_fsWord.rs Try.f59 x = F_spec_fsWord x := by kernel_rfl
theorem env_spec_fsWord_ok : EnvOK Try.prog env_spec_fsWord := envOK_of (fun f c h => by
  simp only [env_spec_fsWord] at h
  split at h
  · cases h; exact con_spec_l1In
  · cases h) (fun f c h => by cases h) rfl
theorem con_spec_fsWord : ConOK Try.prog 59 c_spec_fsWord := con_of_ev' (body := Try.f59.body.getD .skip) (Λ := loops_spec_fsWord) mixed Try.func59 (by kernel_rfl) (by kernel_rfl) env_spec_fsWord_ok (by kernel_rfl) (by kernel_rfl) (fun n L h => by
  unfold loops_spec_fsWord at h
  split at h
  · cases h; exact fun s o ho => loop_ok (stepF := stepEv env_spec_fsWord loops_spec_fsWord pat_spec_fsWord_0 outs_spec_fsWord_0 Try.f59 2) (step_spec_fsWord_0_eq) ho
  · cases h) F_spec_fsWord_eq

noncomputable def F_spec_joOne (x : (Int × (ByteArray × Bool))) : Option (Bool) :=
  match F_spec_l1In ((x.1, 1, 999)) with
  | none => none
  | some y1 =>
    bif y1 then
      match F_spec_fsWord (x.2.1) with
      | none => none
      | some y2 =>
        some (y2)
    else
      some (false)
noncomputable def c_spec_joOne : Con := { ps := [(.val, (.st (.pair (.int .i64) (.pair .str .bool))))], rs := [(.val, .bool)], F := F_spec_joOne }
noncomputable def env_spec_joOne : Env := { par := [], dp := false, settle := [], con := fun f => match f with | 58 => some c_spec_l1In | 59 => some c_spec_fsWord | _ => none, clo := fun _ => none, T := tinf Try.prog }
noncomputable def loops_spec_joOne : Nat → Option Loop := fun n => none
theorem F_spec_joOne_eq (x : (Int × (ByteArray × Bool))) : Fev env_spec_joOne loops_spec_joOne c_spec_joOne.ps c_spec_joOne.rs Try.f40 x = F_spec_joOne x := by kernel_rfl
theorem env_spec_joOne_ok : EnvOK Try.prog env_spec_joOne := envOK_of (fun f c h => by
  simp only [env_spec_joOne] at h
  split at h
  · cases h; exact con_spec_l1In
  · cases h; exact con_spec_fsWord
  · cases h) (fun f c h => by cases h) rfl
theorem con_spec_joOne : ConOK Try.prog 40 c_spec_joOne := con_of_ev' (body := Try.f40.body.getD .skip) (Λ := loops_spec_joOne) mixed Try.func40 (by kernel_rfl) (by kernel_rfl) env_spec_joOne_ok (by kernel_rfl) (by kernel_rfl) (fun n L h => by cases h) F_spec_joOne_eq

noncomputable def step_spec_joGood_0 (s : (List (Int × (ByteArray × Bool))) × (List (Int × (ByteArray × Bool))) × Int × Int) : Option (((List (Int × (ByteArray × Bool))) × (List (Int × (ByteArray × Bool))) × Int × Int) ⊕ ((Bool) ⊕ ((List (Int × (ByteArray × Bool)))))) :=
  bif (decide (s.2.2.2 < s.2.2.1)) then
    bif decide (0 ≤ s.2.2.2) && decide (s.2.2.2 < (s.2.1.length : Int)) then
      match F_spec_joOne ((s.2.1.getD (s.2.2.2).toNat (0, ByteArray.empty, false))) with
      | none => none
      | some y5 =>
        bif (!y5) then
          some (.inr (.inl (false)))
        else
          bif (decide (s.2.2.2 > 0)) then
            let v6 := IntKind.i64.wrap (s.2.2.2 - 1)
            bif decide (0 ≤ v6) && decide (v6 < (s.1.length : Int)) then
              bif (decide ((s.1.getD (v6).toNat (0, ByteArray.empty, false)).1 ≥ (s.2.1.getD (s.2.2.2).toNat (0, ByteArray.empty, false)).1)) then
                some (.inr (.inl (false)))
              else
                let v7 := IntKind.i64.wrap (s.2.2.2 + 1)
                some (.inl ((s.1, (s.2.1, s.2.2.1, v7))))
            else none
          else
            let v8 := IntKind.i64.wrap (s.2.2.2 + 1)
            some (.inl ((s.1, (s.2.1, s.2.2.1, v8))))
    else none
  else
    some (.inr (.inr (s.1)))
def pat_spec_joGood_0 : Pat := { tmps := [.v (.slice (.st (.pair (.int .i64) (.pair .str .bool)))), .any, .any, .any, .any, .v (.slice (.st (.pair (.int .i64) (.pair .str .bool)))), .v (.int .i64), .v (.int .i64), .any, .any, .any, .any, .any, .any, .any, .any, .any, .any, .any, .any, .any, .any, .any, .any, .any, .any, .any, .any, .any, .any, .any, .any, .any, .any], blks := [] }
def outs_spec_joGood_0 : List (Exit × Pat) := [(.ret, { tmps := [.any, .any, .v .bool, .any, .any, .any, .any, .any, .any, .any, .any, .any, .any, .any, .any, .any, .any, .any, .any, .any, .any, .any, .any, .any, .any, .any, .any, .any, .any, .any, .any, .any, .any, .any], blks := [] }), (.exit 0, { tmps := [.v (.slice (.st (.pair (.int .i64) (.pair .str .bool)))), .any, .any, .any, .any, .any, .any, .any, .any, .any, .any, .any, .any, .any, .any, .any, .any, .any, .any, .any, .any, .any, .any, .any, .any, .any, .any, .any, .any, .any, .any, .any, .any, .any], blks := [] })]
noncomputable def F_spec_joGood (x : (List (Int × (ByteArray × Bool)))) : Option (Bool) :=
  match runL step_spec_joGood_0 ((x, (x, (x.length : Int), 0))) with
  | none => none
  | some (.inl o9) =>
    some (o9)
  | some (.inr o9) =>
    some ((decide ((o9.length : Int) ≤ 40)))
noncomputable def c_spec_joGood : Con := { ps := [(.val, (.slice (.st (.pair (.int .i64) (.pair .str .bool)))))], rs := [(.val, .bool)], F := F_spec_joGood }
noncomputable def env_spec_joGood : Env := { par := [], dp := false, settle := [], con := fun f => match f with | 40 => some c_spec_joOne | _ => none, clo := fun _ => none, T := tinf Try.prog }
noncomputable def loops_spec_joGood : Nat → Option Loop := fun n => match n with | 2 => some { pat := pat_spec_joGood_0, outs := outs_spec_joGood_0, run := runL (step_spec_joGood_0) } | _ => none
theorem step_spec_joGood_0_eq (s : (List (Int × (ByteArray × Bool))) × (List (Int × (ByteArray × Bool))) × Int × Int) : stepEv env_spec_joGood loops_spec_joGood pat_spec_joGood_0 outs_spec_joGood_0 Try.f21 2 s = step_spec_joGood_0 s := by kernel_rfl
theorem F_spec_joGood_eq (x : (List (Int × (ByteArray × Bool)))) : Fev env_spec_joGood loops_spec_joGood c_spec_joGood.ps c_spec_joGood.rs Try.f21 x = F_spec_joGood x := by kernel_rfl
theorem env_spec_joGood_ok : EnvOK Try.prog env_spec_joGood := envOK_of (fun f c h => by
  simp only [env_spec_joGood] at h
  split at h
  · cases h; exact con_spec_joOne
  · cases h) (fun f c h => by cases h) rfl
theorem con_spec_joGood : ConOK Try.prog 21 c_spec_joGood := con_of_ev' (body := Try.f21.body.getD .skip) (Λ := loops_spec_joGood) mixed Try.func21 (by kernel_rfl) (by kernel_rfl) env_spec_joGood_ok (by kernel_rfl) (by kernel_rfl) (fun n L h => by
  unfold loops_spec_joGood at h
  split at h
  · cases h; exact fun s o ho => loop_ok (stepF := stepEv env_spec_joGood loops_spec_joGood pat_spec_joGood_0 outs_spec_joGood_0 Try.f21 2) (step_spec_joGood_0_eq) ho
  · cases h) F_spec_joGood_eq

noncomputable def step_spec_GlossesIn_0 (s : (List ByteArray) × Int × (List (Int × (ByteArray × Bool))) × Int × Int × Int × ByteArray × Bool) : Option (((List ByteArray) × Int × (List (Int × (ByteArray × Bool))) × Int × Int × Int × ByteArray × Bool) ⊕ (((List ByteArray) × Int × (List (Int × (ByteArray × Bool))) × Int × Int × Int × ByteArray × Bool))) :=
  bif (decide (s.2.1 < (s.1.length : Int))) then
    bif decide (0 ≤ s.2.1) && decide (s.2.1 < (s.1.length : Int)) then
      bif (Op.bytesLess (s.1.getD (s.2.1).toNat ByteArray.empty).toList s.2.2.2.2.2.2.1.toList) then
        let v31 := IntKind.i64.wrap (s.2.1 + 1)
        some (.inl ((s.1, v31, s.2.2)))
      else
        some (.inr (s))
    else none
  else
    some (.inr (s))
def pat_spec_GlossesIn_0 : Pat := { tmps := [.any, .any, .any, .any, .v (.slice .str), .any, .ptr 384 0, .v (.int .i64), .any, .any, .any, .any, .any, .v (.slice (.st (.pair (.int .i64) (.pair .str .bool)))), .v (.int .i64), .v (.int .i64), .any, .any, .any, .any, .any, .any, .any, .any, .any, .any, .any, .any, .any, .any, .any, .any, .any, .any, .any, .any, .any, .any, .any, .any, .any, .any, .any, .any, .any, .any, .any, .any, .any, .any, .any, .any, .any, .any, .any, .any, .any, .any, .any, .any, .any, .any, .any, .any, .any, .any, .any, .any], blks := [(384, .box [.v (.int .i64), .v .str, .v .bool])] }
def outs_spec_GlossesIn_0 : List (Exit × Pat) := [(.exit 2, { tmps := [.any, .any, .any, .any, .v (.slice .str), .any, .ptr 384 0, .v (.int .i64), .any, .any, .any, .any, .any, .v (.slice (.st (.pair (.int .i64) (.pair .str .bool)))), .v (.int .i64), .v (.int .i64), .any, .any, .any, .any, .any, .any, .any, .any, .any, .any, .any, .any, .any, .any, .any, .any, .any, .any, .any, .any, .any, .any, .any, .any, .any, .any, .any, .any, .any, .any, .any, .any, .any, .any, .any, .any, .any, .any, .any, .any, .any, .any, .any, .any, .any, .any, .any, .any, .any, .any, .any, .any], blks := [(384, .box [.v (.int .i64), .v .str, .v .bool])] })]
noncomputable def step_spec_GlossesIn_1 (s : (List ByteArray) × (List (Int × (ByteArray × Bool))) × Int × Int) : Option (((List ByteArray) × (List (Int × (ByteArray × Bool))) × Int × Int) ⊕ (((List ByteArray)))) :=
  bif (decide (s.2.2.2 < s.2.2.1)) then
    bif decide (0 ≤ s.2.2.2) && decide (s.2.2.2 < (s.2.1.length : Int)) then
      match runL step_spec_GlossesIn_0 ((s.1, (0, s.2.1, (s.2.2.1, s.2.2.2, (s.2.1.getD (s.2.2.2).toNat (0, ByteArray.empty, false)))))) with
      | none => none
      | some o32 =>
        bif decide (0 ≤ o32.2.1) && decide (o32.2.1 ≤ (o32.1.length : Int)) && decide ((o32.1.length : Int) ≤ (o32.1.length : Int)) then
          bif (decide ((((o32.1.drop (o32.2.1).toNat).take (((o32.1.length : Int)).toNat - (o32.2.1).toNat)).length : Int) > 0)) then
            bif decide (0 ≤ 0) && decide (0 < (((o32.1.drop (o32.2.1).toNat).take (((o32.1.length : Int)).toNat - (o32.2.1).toNat)).length : Int)) then
              bif ((((o32.1.drop (o32.2.1).toNat).take (((o32.1.length : Int)).toNat - (o32.2.1).toNat)).getD (0 : Int).toNat ByteArray.empty).toList == o32.2.2.2.2.2.2.1.toList) then
                bif decide (0 ≤ 1) && decide (1 ≤ (((o32.1.drop (o32.2.1).toNat).take (((o32.1.length : Int)).toNat - (o32.2.1).toNat)).length : Int)) && decide ((((o32.1.drop (o32.2.1).toNat).take (((o32.1.length : Int)).toNat - (o32.2.1).toNat)).length : Int) ≤ (((o32.1.drop (o32.2.1).toNat).take (((o32.1.length : Int)).toNat - (o32.2.1).toNat)).length : Int)) then
                  bif decide (0 ≤ (0 : Int)) && decide ((0 : Int) ≤ o32.2.1) && decide (o32.2.1 ≤ (o32.1.length : Int)) then
                    bif decide ((([] : List ByteArray).length + ((o32.1.drop ((0 : Int)).toNat).take ((o32.2.1).toNat - ((0 : Int)).toNat)).length) * 16 ≤ 140737488355328) then
                      let v33 := ([] : List ByteArray) ++ ((o32.1.drop ((0 : Int)).toNat).take ((o32.2.1).toNat - ((0 : Int)).toNat))
                      bif (!o32.2.2.2.2.2.2.2) then
                        bif decide ((v33.length + [o32.2.2.2.2.2.2.1].length) * 16 ≤ 140737488355328) then
                          let v34 := v33 ++ [o32.2.2.2.2.2.2.1]
                          bif decide ((v34.length + ((((o32.1.drop (o32.2.1).toNat).take (((o32.1.length : Int)).toNat - (o32.2.1).toNat)).drop (1 : Int).toNat).take (((((o32.1.drop (o32.2.1).toNat).take (((o32.1.length : Int)).toNat - (o32.2.1).toNat)).length : Int)).toNat - (1 : Int).toNat)).length) * 16 ≤ 140737488355328) then
                            let v35 := v34 ++ ((((o32.1.drop (o32.2.1).toNat).take (((o32.1.length : Int)).toNat - (o32.2.1).toNat)).drop (1 : Int).toNat).take (((((o32.1.drop (o32.2.1).toNat).take (((o32.1.length : Int)).toNat - (o32.2.1).toNat)).length : Int)).toNat - (1 : Int).toNat))
                            let v36 := IntKind.i64.wrap (o32.2.2.2.2.1 + 1)
                            some (.inl ((v35, (o32.2.2.1, o32.2.2.2.1, v36))))
                          else none
                        else none
                      else
                        bif decide ((v33.length + ((((o32.1.drop (o32.2.1).toNat).take (((o32.1.length : Int)).toNat - (o32.2.1).toNat)).drop (1 : Int).toNat).take (((((o32.1.drop (o32.2.1).toNat).take (((o32.1.length : Int)).toNat - (o32.2.1).toNat)).length : Int)).toNat - (1 : Int).toNat)).length) * 16 ≤ 140737488355328) then
                          let v37 := v33 ++ ((((o32.1.drop (o32.2.1).toNat).take (((o32.1.length : Int)).toNat - (o32.2.1).toNat)).drop (1 : Int).toNat).take (((((o32.1.drop (o32.2.1).toNat).take (((o32.1.length : Int)).toNat - (o32.2.1).toNat)).length : Int)).toNat - (1 : Int).toNat))
                          let v38 := IntKind.i64.wrap (o32.2.2.2.2.1 + 1)
                          some (.inl ((v37, (o32.2.2.1, o32.2.2.2.1, v38))))
                        else none
                    else none
                  else none
                else none
              else
                bif decide (0 ≤ (0 : Int)) && decide ((0 : Int) ≤ o32.2.1) && decide (o32.2.1 ≤ (o32.1.length : Int)) then
                  bif decide ((([] : List ByteArray).length + ((o32.1.drop ((0 : Int)).toNat).take ((o32.2.1).toNat - ((0 : Int)).toNat)).length) * 16 ≤ 140737488355328) then
                    let v39 := ([] : List ByteArray) ++ ((o32.1.drop ((0 : Int)).toNat).take ((o32.2.1).toNat - ((0 : Int)).toNat))
                    bif (!o32.2.2.2.2.2.2.2) then
                      bif decide ((v39.length + [o32.2.2.2.2.2.2.1].length) * 16 ≤ 140737488355328) then
                        let v40 := v39 ++ [o32.2.2.2.2.2.2.1]
                        bif decide ((v40.length + ((o32.1.drop (o32.2.1).toNat).take (((o32.1.length : Int)).toNat - (o32.2.1).toNat)).length) * 16 ≤ 140737488355328) then
                          let v41 := v40 ++ ((o32.1.drop (o32.2.1).toNat).take (((o32.1.length : Int)).toNat - (o32.2.1).toNat))
                          let v42 := IntKind.i64.wrap (o32.2.2.2.2.1 + 1)
                          some (.inl ((v41, (o32.2.2.1, o32.2.2.2.1, v42))))
                        else none
                      else none
                    else
                      bif decide ((v39.length + ((o32.1.drop (o32.2.1).toNat).take (((o32.1.length : Int)).toNat - (o32.2.1).toNat)).length) * 16 ≤ 140737488355328) then
                        let v43 := v39 ++ ((o32.1.drop (o32.2.1).toNat).take (((o32.1.length : Int)).toNat - (o32.2.1).toNat))
                        let v44 := IntKind.i64.wrap (o32.2.2.2.2.1 + 1)
                        some (.inl ((v43, (o32.2.2.1, o32.2.2.2.1, v44))))
                      else none
                  else none
                else none
            else none
          else
            bif decide (0 ≤ (0 : Int)) && decide ((0 : Int) ≤ o32.2.1) && decide (o32.2.1 ≤ (o32.1.length : Int)) then
              bif decide ((([] : List ByteArray).length + ((o32.1.drop ((0 : Int)).toNat).take ((o32.2.1).toNat - ((0 : Int)).toNat)).length) * 16 ≤ 140737488355328) then
                let v45 := ([] : List ByteArray) ++ ((o32.1.drop ((0 : Int)).toNat).take ((o32.2.1).toNat - ((0 : Int)).toNat))
                bif (!o32.2.2.2.2.2.2.2) then
                  bif decide ((v45.length + [o32.2.2.2.2.2.2.1].length) * 16 ≤ 140737488355328) then
                    let v46 := v45 ++ [o32.2.2.2.2.2.2.1]
                    bif decide ((v46.length + ((o32.1.drop (o32.2.1).toNat).take (((o32.1.length : Int)).toNat - (o32.2.1).toNat)).length) * 16 ≤ 140737488355328) then
                      let v47 := v46 ++ ((o32.1.drop (o32.2.1).toNat).take (((o32.1.length : Int)).toNat - (o32.2.1).toNat))
                      let v48 := IntKind.i64.wrap (o32.2.2.2.2.1 + 1)
                      some (.inl ((v47, (o32.2.2.1, o32.2.2.2.1, v48))))
                    else none
                  else none
                else
                  bif decide ((v45.length + ((o32.1.drop (o32.2.1).toNat).take (((o32.1.length : Int)).toNat - (o32.2.1).toNat)).length) * 16 ≤ 140737488355328) then
                    let v49 := v45 ++ ((o32.1.drop (o32.2.1).toNat).take (((o32.1.length : Int)).toNat - (o32.2.1).toNat))
                    let v50 := IntKind.i64.wrap (o32.2.2.2.2.1 + 1)
                    some (.inl ((v49, (o32.2.2.1, o32.2.2.2.1, v50))))
                  else none
              else none
            else none
        else none
    else none
  else
    some (.inr (s.1))
def pat_spec_GlossesIn_1 : Pat := { tmps := [.any, .any, .any, .any, .v (.slice .str), .any, .any, .any, .any, .any, .any, .any, .any, .v (.slice (.st (.pair (.int .i64) (.pair .str .bool)))), .v (.int .i64), .v (.int .i64), .any, .any, .any, .any, .any, .any, .any, .any, .any, .any, .any, .any, .any, .any, .any, .any, .any, .any, .any, .any, .any, .any, .any, .any, .any, .any, .any, .any, .any, .any, .any, .any, .any, .any, .any, .any, .any, .any, .any, .any, .any, .any, .any, .any, .any, .any, .any, .any, .any, .any, .any, .any], blks := [] }
def outs_spec_GlossesIn_1 : List (Exit × Pat) := [(.exit 0, { tmps := [.any, .any, .any, .any, .v (.slice .str), .any, .any, .any, .any, .any, .any, .any, .any, .any, .any, .any, .any, .any, .any, .any, .any, .any, .any, .any, .any, .any, .any, .any, .any, .any, .any, .any, .any, .any, .any, .any, .any, .any, .any, .any, .any, .any, .any, .any, .any, .any, .any, .any, .any, .any, .any, .any, .any, .any, .any, .any, .any, .any, .any, .any, .any, .any, .any, .any, .any, .any, .any, .any], blks := [] })]
noncomputable def F_spec_GlossesIn (x : (List (Int × (ByteArray × Bool)))) : Option ((List ByteArray) × Bool) :=
  match F_spec_joGood (x) with
  | none => none
  | some y1 =>
    bif (!y1) then
      some (([], false))
    else
      match runL step_spec_GlossesIn_1 (([], (x, (x.length : Int), 0))) with
      | none => none
      | some o51 =>
        some ((o51, true))
noncomputable def c_spec_GlossesIn : Con := { ps := [(.val, (.slice (.st (.pair (.int .i64) (.pair .str .bool)))))], rs := [(.val, (.slice .str)), (.val, .bool)], F := F_spec_GlossesIn }
noncomputable def env_spec_GlossesIn : Env := { par := [], dp := false, settle := [], con := fun f => match f with | 21 => some c_spec_joGood | _ => none, clo := fun _ => none, T := tinf Try.prog }
noncomputable def loops_spec_GlossesIn : Nat → Option Loop := fun n => match n with | 8 => some { pat := pat_spec_GlossesIn_0, outs := outs_spec_GlossesIn_0, run := runL (step_spec_GlossesIn_0) } | 5 => some { pat := pat_spec_GlossesIn_1, outs := outs_spec_GlossesIn_1, run := runL (step_spec_GlossesIn_1) } | _ => none
theorem step_spec_GlossesIn_0_eq (s : (List ByteArray) × Int × (List (Int × (ByteArray × Bool))) × Int × Int × Int × ByteArray × Bool) : stepEv env_spec_GlossesIn loops_spec_GlossesIn pat_spec_GlossesIn_0 outs_spec_GlossesIn_0 Try.f6 8 s = step_spec_GlossesIn_0 s := by kernel_rfl
theorem step_spec_GlossesIn_1_eq (s : (List ByteArray) × (List (Int × (ByteArray × Bool))) × Int × Int) : stepEv env_spec_GlossesIn loops_spec_GlossesIn pat_spec_GlossesIn_1 outs_spec_GlossesIn_1 Try.f6 5 s = step_spec_GlossesIn_1 s := by kernel_rfl
theorem F_spec_GlossesIn_eq (x : (List (Int × (ByteArray × Bool)))) : Fev env_spec_GlossesIn loops_spec_GlossesIn c_spec_GlossesIn.ps c_spec_GlossesIn.rs Try.f6 x = F_spec_GlossesIn x := by kernel_rfl
theorem env_spec_GlossesIn_ok : EnvOK Try.prog env_spec_GlossesIn := envOK_of (fun f c h => by
  simp only [env_spec_GlossesIn] at h
  split at h
  · cases h; exact con_spec_joGood
  · cases h) (fun f c h => by cases h) rfl
theorem con_spec_GlossesIn : ConOK Try.prog 6 c_spec_GlossesIn := con_of_ev' (body := Try.f6.body.getD .skip) (Λ := loops_spec_GlossesIn) mixed Try.func6 (by kernel_rfl) (by kernel_rfl) env_spec_GlossesIn_ok (by kernel_rfl) (by kernel_rfl) (fun n L h => by
  unfold loops_spec_GlossesIn at h
  split at h
  · cases h; exact fun s o ho => loop_ok (stepF := stepEv env_spec_GlossesIn loops_spec_GlossesIn pat_spec_GlossesIn_0 outs_spec_GlossesIn_0 Try.f6 8) (step_spec_GlossesIn_0_eq) ho
  · cases h; exact fun s o ho => loop_ok (stepF := stepEv env_spec_GlossesIn loops_spec_GlossesIn pat_spec_GlossesIn_1 outs_spec_GlossesIn_1 Try.f6 5) (step_spec_GlossesIn_1_eq) ho
  · cases h) F_spec_GlossesIn_eq

noncomputable def F_impl_within (x : Int × Int × Int) : Option (Bool) :=
  bif (decide (x.1 ≥ x.2.1)) then
    some ((decide (x.1 ≤ x.2.2)))
  else
    some (false)
noncomputable def c_impl_within : Con := { ps := [(.val, (.int .i64)), (.val, (.int .i64)), (.val, (.int .i64))], rs := [(.val, .bool)], F := F_impl_within }
noncomputable def env_impl_within : Env := { par := [], dp := false, settle := [], con := fun _ => none, clo := fun _ => none, T := tinf Try.prog }
noncomputable def loops_impl_within : Nat → Option Loop := fun n => none
theorem F_impl_within_eq (x : Int × Int × Int) : Fev env_impl_within loops_impl_within c_impl_within.ps c_impl_within.rs Try.f52 x = F_impl_within x := by kernel_rfl
theorem env_impl_within_ok : EnvOK Try.prog env_impl_within := envOK_of (fun f c h => by cases h) (fun f c h => by cases h) rfl
theorem con_impl_within : ConOK Try.prog 52 c_impl_within := con_of_ev' (body := Try.f52.body.getD .skip) (Λ := loops_impl_within) mixed Try.func52 (by kernel_rfl) (by kernel_rfl) env_impl_within_ok (by kernel_rfl) (by kernel_rfl) (fun n L h => by cases h) F_impl_within_eq

set_option maxHeartbeats 1000000 in
theorem calls_strings_IndexByte (s : ByteArray) (c : Int) (w : World) :
    Calls Try.prog 88 #[.string s, .int .u8 c] w fun e w' => e = .returned (.int .i64 (Lib.indexByte s.data.toList c.toNat.toUInt8)) ∧ w' = w := by
  go_enter Try.func88, Try.ntmps88
  go_wp2
  rw [run_callFunc_extern Try.func91 (by kernel_rfl) (by kernel_rfl) (by kernel_rfl) (e := Extern.BytealgIndexByte.indexByte) (by kernel_rfl), Lib.run_indexByteString]
  simp only [Result.andThen]
  rw [Oper.upon_value]
  go_wp2
  go_ret
  exact ⟨rfl, rfl⟩
def F_strings_IndexByte (x : ByteArray × Int) : Option Int := some (Lib.indexByte x.1.data.toList x.2.toNat.toUInt8)
def c_strings_IndexByte : Con := { ps := [(.val, .str), (.val, .int .u8)], rs := [(.val, .int .i64)], F := F_strings_IndexByte }
theorem con_strings_IndexByte : ConOK Try.prog 88 c_strings_IndexByte := con_of_pure ⟨Try.f88, Try.func88, by kernel_rfl, by kernel_rfl⟩ rfl rfl fun w x y hy _ => by
  have e : y = Lib.indexByte x.1.data.toList x.2.toNat.toUInt8 := (Option.some.inj hy).symm
  subst e
  refine (calls_strings_IndexByte x.1 x.2 w).mono ?_
  rintro e w' ⟨rfl, rfl⟩
  exact ⟨rfl, Fr.refl _ _⟩

noncomputable def step_impl_hasOnly_0 (s : ByteArray × ByteArray × Int × Int) : Option ((ByteArray × ByteArray × Int × Int) ⊕ ((Bool) ⊕ (Unit))) :=
  bif (decide (s.2.2.2 < s.2.2.1)) then
    bif decide (0 ≤ s.2.2.2) && decide (s.2.2.2 < (s.1.size : Int)) then
      match F_strings_IndexByte ((s.2.1, (byteAt s.1 (s.2.2.2).toNat))) with
      | none => none
      | some y3 =>
        bif (decide (y3 < 0)) then
          some (.inr (.inl (false)))
        else
          let v4 := IntKind.i64.wrap (s.2.2.2 + 1)
          some (.inl ((s.1, (s.2.1, s.2.2.1, v4))))
    else none
  else
    some (.inr (.inr (())))
def pat_impl_hasOnly_0 : Pat := { tmps := [.v .str, .v .str, .any, .any, .any, .any, .any, .v (.int .i64), .v (.int .i64), .any, .any, .any, .any, .any, .any, .any, .any, .any], blks := [] }
def outs_impl_hasOnly_0 : List (Exit × Pat) := [(.ret, { tmps := [.any, .any, .any, .any, .v .bool, .any, .any, .any, .any, .any, .any, .any, .any, .any, .any, .any, .any, .any], blks := [] }), (.exit 0, { tmps := [.any, .any, .any, .any, .any, .any, .any, .any, .any, .any, .any, .any, .any, .any, .any, .any, .any, .any], blks := [] })]
noncomputable def F_impl_hasOnly (x : ByteArray × ByteArray) : Option (Bool) :=
  match runL step_impl_hasOnly_0 ((x.1, (x.2, (x.1.size : Int), 0))) with
  | none => none
  | some (.inl o5) =>
    some (o5)
  | some (.inr o5) =>
    some (true)
noncomputable def c_impl_hasOnly : Con := { ps := [(.val, .str), (.val, .str)], rs := [(.val, .bool)], F := F_impl_hasOnly }
noncomputable def env_impl_hasOnly : Env := { par := [], dp := false, settle := [], con := fun f => match f with | 88 => some c_strings_IndexByte | _ => none, clo := fun _ => none, T := tinf Try.prog }
noncomputable def loops_impl_hasOnly : Nat → Option Loop := fun n => match n with | 2 => some { pat := pat_impl_hasOnly_0, outs := outs_impl_hasOnly_0, run := runL (step_impl_hasOnly_0) } | _ => none
theorem step_impl_hasOnly_0_eq (s : ByteArray × ByteArray × Int × Int) : stepEv env_impl_hasOnly loops_impl_hasOnly pat_impl_hasOnly_0 outs_impl_hasOnly_0 Try.f80 2 s = step_impl_hasOnly_0 s := by kernel_rfl
theorem F_impl_hasOnly_eq (x : ByteArray × ByteArray) : Fev env_impl_hasOnly loops_impl_hasOnly c_impl_hasOnly.ps c_impl_hasOnly.rs Try.f80 x = F_impl_hasOnly x := by kernel_rfl
theorem env_impl_hasOnly_ok : EnvOK Try.prog env_impl_hasOnly := envOK_of (fun f c h => by
  simp only [env_impl_hasOnly] at h
  split at h
  · cases h; exact con_strings_IndexByte
  · cases h) (fun f c h => by cases h) rfl
theorem con_impl_hasOnly : ConOK Try.prog 80 c_impl_hasOnly := con_of_ev' (body := Try.f80.body.getD .skip) (Λ := loops_impl_hasOnly) mixed Try.func80 (by kernel_rfl) (by kernel_rfl) env_impl_hasOnly_ok (by kernel_rfl) (by kernel_rfl) (fun n L h => by
  unfold loops_impl_hasOnly at h
  split at h
  · cases h; exact fun s o ho => loop_ok (stepF := stepEv env_impl_hasOnly loops_impl_hasOnly pat_impl_hasOnly_0 outs_impl_hasOnly_0 Try.f80 2) (step_impl_hasOnly_0_eq) ho
  · cases h) F_impl_hasOnly_eq

noncomputable def F_impl_isWordOf (x : ByteArray × ByteArray) : Option (Bool) :=
  match F_impl_within (((x.1.size : Int), 1, 8)) with
  | none => none
  | some y1 =>
    bif y1 then
      match F_impl_hasOnly (x) with
      | none => none
      | some y2 =>
        some (y2)
    else
      some (false)
noncomputable def c_impl_isWordOf : Con := { ps := [(.val, .str), (.val, .str)], rs := [(.val, .bool)], F := F_impl_isWordOf }
noncomputable def env_impl_isWordOf : Env := { par := [], dp := false, settle := [], con := fun f => match f with | 52 => some c_impl_within | 80 => some c_impl_hasOnly | _ => none, clo := fun _ => none, T := tinf Try.prog }
noncomputable def loops_impl_isWordOf : Nat → Option Loop := fun n => none
theorem F_impl_isWordOf_eq (x : ByteArray × ByteArray) : Fev env_impl_isWordOf loops_impl_isWordOf c_impl_isWordOf.ps c_impl_isWordOf.rs Try.f66 x = F_impl_isWordOf x := by kernel_rfl
theorem env_impl_isWordOf_ok : EnvOK Try.prog env_impl_isWordOf := envOK_of (fun f c h => by
  simp only [env_impl_isWordOf] at h
  split at h
  · cases h; exact con_impl_within
  · cases h; exact con_impl_hasOnly
  · cases h) (fun f c h => by cases h) rfl
theorem con_impl_isWordOf : ConOK Try.prog 66 c_impl_isWordOf := con_of_ev' (body := Try.f66.body.getD .skip) (Λ := loops_impl_isWordOf) mixed Try.func66 (by kernel_rfl) (by kernel_rfl) env_impl_isWordOf_ok (by kernel_rfl) (by kernel_rfl) (fun n L h => by cases h) F_impl_isWordOf_eq

noncomputable def F_impl_IsGloss (x : ByteArray) : Option (Bool) :=
  match F_impl_isWordOf ((x, (⟨#[65, 66, 67, 68, 69, 70, 71, 72, 73, 74, 75, 76, 77, 78, 79, 80, 81, 82, 83, 84, 85, 86, 87, 88, 89, 90]⟩ : ByteArray))) with
  | none => none
  | some y1 =>
    some (y1)
noncomputable def c_impl_IsGloss : Con := { ps := [(.val, .str)], rs := [(.val, .bool)], F := F_impl_IsGloss }
noncomputable def env_impl_IsGloss : Env := { par := [], dp := false, settle := [], con := fun f => match f with | 66 => some c_impl_isWordOf | _ => none, clo := fun _ => none, T := tinf Try.prog }
noncomputable def loops_impl_IsGloss : Nat → Option Loop := fun n => none
theorem F_impl_IsGloss_eq (x : ByteArray) : Fev env_impl_IsGloss loops_impl_IsGloss c_impl_IsGloss.ps c_impl_IsGloss.rs Try.f60 x = F_impl_IsGloss x := by kernel_rfl
theorem env_impl_IsGloss_ok : EnvOK Try.prog env_impl_IsGloss := envOK_of (fun f c h => by
  simp only [env_impl_IsGloss] at h
  split at h
  · cases h; exact con_impl_isWordOf
  · cases h) (fun f c h => by cases h) rfl
theorem con_impl_IsGloss : ConOK Try.prog 60 c_impl_IsGloss := con_of_ev' (body := Try.f60.body.getD .skip) (Λ := loops_impl_IsGloss) mixed Try.func60 (by kernel_rfl) (by kernel_rfl) env_impl_IsGloss_ok (by kernel_rfl) (by kernel_rfl) (fun n L h => by cases h) F_impl_IsGloss_eq

noncomputable def F_impl_isLogEdit (x : (Int × (ByteArray × Bool))) : Option (Bool) :=
  match F_impl_within ((x.1, 1, 999)) with
  | none => none
  | some y1 =>
    bif y1 then
      match F_impl_IsGloss (x.2.1) with
      | none => none
      | some y2 =>
        some (y2)
    else
      some (false)
noncomputable def c_impl_isLogEdit : Con := { ps := [(.val, (.st (.pair (.int .i64) (.pair .str .bool))))], rs := [(.val, .bool)], F := F_impl_isLogEdit }
noncomputable def env_impl_isLogEdit : Env := { par := [], dp := false, settle := [], con := fun f => match f with | 52 => some c_impl_within | 60 => some c_impl_IsGloss | _ => none, clo := fun _ => none, T := tinf Try.prog }
noncomputable def loops_impl_isLogEdit : Nat → Option Loop := fun n => none
theorem F_impl_isLogEdit_eq (x : (Int × (ByteArray × Bool))) : Fev env_impl_isLogEdit loops_impl_isLogEdit c_impl_isLogEdit.ps c_impl_isLogEdit.rs Try.f41 x = F_impl_isLogEdit x := by kernel_rfl
theorem env_impl_isLogEdit_ok : EnvOK Try.prog env_impl_isLogEdit := envOK_of (fun f c h => by
  simp only [env_impl_isLogEdit] at h
  split at h
  · cases h; exact con_impl_within
  · cases h; exact con_impl_IsGloss
  · cases h) (fun f c h => by cases h) rfl
theorem con_impl_isLogEdit : ConOK Try.prog 41 c_impl_isLogEdit := con_of_ev' (body := Try.f41.body.getD .skip) (Λ := loops_impl_isLogEdit) mixed Try.func41 (by kernel_rfl) (by kernel_rfl) env_impl_isLogEdit_ok (by kernel_rfl) (by kernel_rfl) (fun n L h => by cases h) F_impl_isLogEdit_eq

noncomputable def step_impl_AreEdits_0 (s : (List (Int × (ByteArray × Bool))) × (List (Int × (ByteArray × Bool))) × Int × Int) : Option (((List (Int × (ByteArray × Bool))) × (List (Int × (ByteArray × Bool))) × Int × Int) ⊕ ((Bool) ⊕ ((List (Int × (ByteArray × Bool)))))) :=
  bif (decide (s.2.2.2 < s.2.2.1)) then
    bif decide (0 ≤ s.2.2.2) && decide (s.2.2.2 < (s.2.1.length : Int)) then
      match F_impl_isLogEdit ((s.2.1.getD (s.2.2.2).toNat (0, ByteArray.empty, false))) with
      | none => none
      | some y5 =>
        bif (!y5) then
          some (.inr (.inl (false)))
        else
          bif (decide (s.2.2.2 > 0)) then
            let v6 := IntKind.i64.wrap (s.2.2.2 - 1)
            bif decide (0 ≤ v6) && decide (v6 < (s.1.length : Int)) then
              bif (decide ((s.2.1.getD (s.2.2.2).toNat (0, ByteArray.empty, false)).1 ≤ (s.1.getD (v6).toNat (0, ByteArray.empty, false)).1)) then
                some (.inr (.inl (false)))
              else
                let v7 := IntKind.i64.wrap (s.2.2.2 + 1)
                some (.inl ((s.1, (s.2.1, s.2.2.1, v7))))
            else none
          else
            let v8 := IntKind.i64.wrap (s.2.2.2 + 1)
            some (.inl ((s.1, (s.2.1, s.2.2.1, v8))))
    else none
  else
    some (.inr (.inr (s.1)))
def pat_impl_AreEdits_0 : Pat := { tmps := [.v (.slice (.st (.pair (.int .i64) (.pair .str .bool)))), .any, .any, .any, .any, .v (.slice (.st (.pair (.int .i64) (.pair .str .bool)))), .v (.int .i64), .v (.int .i64), .any, .any, .any, .any, .any, .any, .any, .any, .any, .any, .any, .any, .any, .any, .any, .any, .any, .any, .any, .any, .any, .any, .any, .any, .any, .any], blks := [] }
def outs_impl_AreEdits_0 : List (Exit × Pat) := [(.ret, { tmps := [.any, .any, .v .bool, .any, .any, .any, .any, .any, .any, .any, .any, .any, .any, .any, .any, .any, .any, .any, .any, .any, .any, .any, .any, .any, .any, .any, .any, .any, .any, .any, .any, .any, .any, .any], blks := [] }), (.exit 0, { tmps := [.v (.slice (.st (.pair (.int .i64) (.pair .str .bool)))), .any, .any, .any, .any, .any, .any, .any, .any, .any, .any, .any, .any, .any, .any, .any, .any, .any, .any, .any, .any, .any, .any, .any, .any, .any, .any, .any, .any, .any, .any, .any, .any, .any], blks := [] })]
noncomputable def F_impl_AreEdits (x : (List (Int × (ByteArray × Bool)))) : Option (Bool) :=
  match runL step_impl_AreEdits_0 ((x, (x, (x.length : Int), 0))) with
  | none => none
  | some (.inl o9) =>
    some (o9)
  | some (.inr o9) =>
    some ((decide ((o9.length : Int) ≤ 40)))
noncomputable def c_impl_AreEdits : Con := { ps := [(.val, (.slice (.st (.pair (.int .i64) (.pair .str .bool)))))], rs := [(.val, .bool)], F := F_impl_AreEdits }
noncomputable def env_impl_AreEdits : Env := { par := [], dp := false, settle := [], con := fun f => match f with | 41 => some c_impl_isLogEdit | _ => none, clo := fun _ => none, T := tinf Try.prog }
noncomputable def loops_impl_AreEdits : Nat → Option Loop := fun n => match n with | 2 => some { pat := pat_impl_AreEdits_0, outs := outs_impl_AreEdits_0, run := runL (step_impl_AreEdits_0) } | _ => none
theorem step_impl_AreEdits_0_eq (s : (List (Int × (ByteArray × Bool))) × (List (Int × (ByteArray × Bool))) × Int × Int) : stepEv env_impl_AreEdits loops_impl_AreEdits pat_impl_AreEdits_0 outs_impl_AreEdits_0 Try.f23 2 s = step_impl_AreEdits_0 s := by kernel_rfl
theorem F_impl_AreEdits_eq (x : (List (Int × (ByteArray × Bool)))) : Fev env_impl_AreEdits loops_impl_AreEdits c_impl_AreEdits.ps c_impl_AreEdits.rs Try.f23 x = F_impl_AreEdits x := by kernel_rfl
theorem env_impl_AreEdits_ok : EnvOK Try.prog env_impl_AreEdits := envOK_of (fun f c h => by
  simp only [env_impl_AreEdits] at h
  split at h
  · cases h; exact con_impl_isLogEdit
  · cases h) (fun f c h => by cases h) rfl
theorem con_impl_AreEdits : ConOK Try.prog 23 c_impl_AreEdits := con_of_ev' (body := Try.f23.body.getD .skip) (Λ := loops_impl_AreEdits) mixed Try.func23 (by kernel_rfl) (by kernel_rfl) env_impl_AreEdits_ok (by kernel_rfl) (by kernel_rfl) (fun n L h => by
  unfold loops_impl_AreEdits at h
  split at h
  · cases h; exact fun s o ho => loop_ok (stepF := stepEv env_impl_AreEdits loops_impl_AreEdits pat_impl_AreEdits_0 outs_impl_AreEdits_0 Try.f23 2) (step_impl_AreEdits_0_eq) ho
  · cases h) F_impl_AreEdits_eq

section
open Go.RowKit
theorem nil_slices_Clone_string_string (n c : Nat) (w : World) : Calls Try.prog 43 #[.slice none n c] w fun e w' => e = .returned (.slice none 0 0) ∧ w' = w := by
  have q : ∀ (w : World) (a : Option Addr) (n c n' c' : Nat), (binOp .eql 24 (.slice a n c) (.slice none n' c')).run Try.prog w = .ok (.bool a.isNone) w := fun w a n c n' c' => Lib.run_eql_slice_nil w _ _ a n c n' c' (show Try.prog.underlying 24 = some (.slice 9) by kernel_rfl)
  go_enter Try.func43, Try.ntmps43
  go_wp2
  go_ret
  exact ⟨rfl, rfl⟩
set_option maxHeartbeats 2000000 in
theorem some_slices_Clone_string_string (ad : Addr) (n c : Nat) (news : List Value) (w : World) (hl : news.length = n * 1) (hc : ∀ j u, news[j]? = some u → w.cell? (ad.add j) = some u) (h1 : ∀ u ∈ news, u.oneCell' = true) (hbig : n * 16 ≤ 140737488355328) :
    Calls Try.prog 43 #[.slice (some ad) n c] w fun e w' => ∃ v', e = .returned v' ∧ w'.ownsRow w.heap.size 9 1 v' n news ∧ Below w.heap.size w w' := by
  have q : ∀ (w : World) (a : Option Addr) (n c n' c' : Nat), (binOp .eql 24 (.slice a n c) (.slice none n' c')).run Try.prog w = .ok (.bool a.isNone) w := fun w a n c n' c' => Lib.run_eql_slice_nil w _ _ a n c n' c' (show Try.prog.underlying 24 = some (.slice 9) by kernel_rfl)
  obtain ⟨i0, hi, hz0, hz1, hz2⟩ := info_parts (P := Try.prog) (e := 9) (z := (.string ⟨#[]⟩)) (size := 1) (bytes := 16) (by kernel_rfl)
  have A : Aside (∀ j u, news[j]? = some u → w.cell? (ad.add j) = some u) := hc
  clear hc
  go_enter Try.func43, Try.ntmps43
  go_wp2_with (at_builtin; refine wpList_append_own _ rfl _ _ 24 rfl w.heap.size 9 i0 (.string ⟨#[]⟩) 1 16 (by kernel_rfl) hi hz0 hz1 hz2 rfl (by decide) _ _ _ rfl (World.ownsRow_made w #[] 0 (Nat.le_refl _) (Nat.zero_le _) rfl) ad n c news rfl ?qc1 ?qc2 ?qc3 ?qc4 ?qc5 ?qc6 ?_)
  case qc1 => exact hl
  case qc2 => exact fun j u hj => Lib.cell?_alloc_some _ (A.out j u hj)
  case qc3 => exact h1
  case qc4 => unfold maxLen; omega
  case qc5 => omega
  case qc6 => simp
  intro v' w1 hown hgrow hnil
  go_wp2
  go_ret
  refine ⟨v', rfl, by simpa using hown, ?_⟩
  exact ((Below.refl _ w).alloc (Nat.le_refl _) _).grown hgrow (by simp) (by intro k hk; simp [Value.ownBlock] at hk; omega)
def F_slices_Clone_string_string (x : List ByteArray) : Option (List ByteArray) := bif decide (x.length * 16 ≤ 140737488355328) then some x else none
noncomputable def c_slices_Clone_string_string : Con := { ps := [(.val, .slice .str)], rs := [(.io true, .slice .str)], F := F_slices_Clone_string_string }
theorem con_slices_Clone_string_string : ConOK Try.prog 43 c_slices_Clone_string_string := con_clone ⟨Try.f43, Try.func43, by kernel_rfl, by kernel_rfl⟩ .str true rfl 16 9 nil_slices_Clone_string_string some_slices_Clone_string_string
end

section
open Go.RowKit Go.Sort
noncomputable def F_slices_Sort_string_string (x : List ByteArray) : Option (List ByteArray) := F_sort (α := List UInt8) .str (fun b => b.data.toList) (fun l => ⟨l.toArray⟩) (fun l => l.mergeSort fun x y => decide (x ≤ y)) x
noncomputable def c_slices_Sort_string_string : Con := { ps := [(.io true, .slice .str)], rs := [], F := F_slices_Sort_string_string }
theorem con_slices_Sort_string_string : ConOK Try.prog 44 c_slices_Sort_string_string := con_sort (α := List UInt8) ⟨Try.f44, Try.func44, by kernel_rfl, by kernel_rfl⟩ .str rfl rfl encStr (fun b => b.data.toList) (fun l => ⟨l.toArray⟩) (by rintro ⟨⟨l⟩⟩; rfl) (fun a => rfl) _ (fun l => by simp)
  (fun A w => (Try.slices_Sort_string_none A 0 w).mono (by rintro e w' ⟨rfl, rfl⟩; exact ⟨rfl, Fr.refl _ _⟩)) (fun g cap zs w hH hlt hsz => Try.slices_Sort_string g 0 cap zs w hH hlt hsz)
end

noncomputable def step_slices_Compact_string_string_0 (s : Int × Int × Int × Int × (List ByteArray)) : Option ((Int × Int × Int × Int × (List ByteArray)) ⊕ ((Int × (List ByteArray)))) :=
  bif (decide (s.2.2.2.1 < ((s.2.2.1).toNat : Int))) then
    bif decide (0 ≤ s.2.2.2.1) && decide (s.2.2.2.1 < ((s.2.2.1).toNat : Int)) then
      let v21 := IntKind.i64.wrap (s.2.2.2.1 - 1)
      bif decide (0 ≤ v21) && decide (v21 < ((s.2.2.1).toNat : Int)) then
        bif (!((s.2.2.2.2.getD ((s.2.1).toNat + (s.2.2.2.1).toNat) ByteArray.empty).toList == (s.2.2.2.2.getD ((s.2.1).toNat + (v21).toNat) ByteArray.empty).toList)) then
          bif decide (0 ≤ s.2.2.2.1) && decide (s.2.2.2.1 < ((s.2.2.1).toNat : Int)) then
            bif decide (0 ≤ s.1) && decide (s.1 < (s.2.2.2.2.length : Int)) then
              let v22 := s.2.2.2.2.set (s.1).toNat ((s.2.2.2.2.getD ((s.2.1).toNat + (s.2.2.2.1).toNat) ByteArray.empty))
              let v23 := IntKind.i64.wrap (s.1 + 1)
              let v24 := IntKind.i64.wrap (s.2.2.2.1 + 1)
              some (.inl ((v23, (((s.2.1).toNat : Nat) : Int), ((((s.2.2.1).toNat : Nat) : Int), v24, v22))))
            else none
          else none
        else
          let v25 := IntKind.i64.wrap (s.2.2.2.1 + 1)
          some (.inl ((s.1, (((s.2.1).toNat : Nat) : Int), ((((s.2.2.1).toNat : Nat) : Int), v25, s.2.2.2.2))))
      else none
    else none
  else
    some (.inr ((s.1, s.2.2.2.2)))
def pat_slices_Compact_string_string_0 : Pat := { tmps := [.own 62, .any, .any, .v (.int .i64), .sub 62, .v (.int .i64), .any, .any, .any, .any, .any, .any, .any, .any, .any, .any, .any, .any, .any, .any, .any, .any, .any, .any, .any, .any, .any, .any, .any, .any, .any, .any, .any, .any, .any, .any, .any, .any, .any, .any, .any, .any, .any, .any, .any, .any, .any, .any, .any, .any, .any, .any, .any, .any, .any, .any, .any, .any, .any, .any, .any], blks := [(62, .row true .str)] }
def outs_slices_Compact_string_string_0 : List (Exit × Pat) := [(.exit 2, { tmps := [.own 62, .any, .any, .v (.int .i64), .any, .any, .any, .any, .any, .any, .any, .any, .any, .any, .any, .any, .any, .any, .any, .any, .any, .any, .any, .any, .any, .any, .any, .any, .any, .any, .any, .any, .any, .any, .any, .any, .any, .any, .any, .any, .any, .any, .any, .any, .any, .any, .any, .any, .any, .any, .any, .any, .any, .any, .any, .any, .any, .any, .any, .any, .any], blks := [(62, .row true .str)] })]
noncomputable def step_slices_Compact_string_string_1 (s : Int × (List ByteArray)) : Option ((Int × (List ByteArray)) ⊕ ((Int × Int × (List ByteArray)) ⊕ ((List ByteArray)))) :=
  bif (decide (s.1 < (s.2.length : Int))) then
    bif decide (0 ≤ s.1) && decide (s.1 < (s.2.length : Int)) then
      let v15 := IntKind.i64.wrap (s.1 - 1)
      bif decide (0 ≤ v15) && decide (v15 < (s.2.length : Int)) then
        bif ((s.2.getD (s.1).toNat ByteArray.empty).toList == (s.2.getD (v15).toNat ByteArray.empty).toList) then
          bif decide (0 ≤ s.1) && decide (s.1 ≤ (s.2.length : Int)) && decide ((s.2.length : Int) ≤ (s.2.length : Int)) then
            match runL step_slices_Compact_string_string_0 ((s.1, (((s.1).toNat : Nat) : Int), ((((((s.2.length : Int)).toNat - (s.1).toNat) : Nat) : Int), 1, s.2))) with
            | none => none
            | some o26 =>
              bif decide (0 ≤ o26.1) && decide (o26.1 ≤ (o26.2.length : Int)) && decide ((o26.2.length : Int) ≤ (o26.2.length : Int)) then
                bif decide ((o26.1).toNat + (((o26.2.length : Int)).toNat - (o26.1).toNat) ≤ o26.2.length) then
                  let v27 := o26.2.take (o26.1).toNat ++ List.replicate (((o26.2.length : Int)).toNat - (o26.1).toNat) (ByteArray.empty) ++ o26.2.drop ((o26.1).toNat + (((o26.2.length : Int)).toNat - (o26.1).toNat))
                  bif decide (0 ≤ (0 : Int)) && decide ((0 : Int) ≤ o26.1) && decide (o26.1 ≤ (v27.length : Int)) then
                    some (.inr (.inl ((((((0 : Int)).toNat : Nat) : Int), ((((o26.1).toNat - ((0 : Int)).toNat) : Nat) : Int), v27))))
                  else none
                else none
              else none
          else none
        else
          let v28 := IntKind.i64.wrap (s.1 + 1)
          some (.inl ((v28, s.2)))
      else none
    else none
  else
    some (.inr (.inr (s.2)))
def pat_slices_Compact_string_string_1 : Pat := { tmps := [.own 62, .any, .any, .v (.int .i64), .any, .any, .any, .any, .any, .any, .any, .any, .any, .any, .any, .any, .any, .any, .any, .any, .any, .any, .any, .any, .any, .any, .any, .any, .any, .any, .any, .any, .any, .any, .any, .any, .any, .any, .any, .any, .any, .any, .any, .any, .any, .any, .any, .any, .any, .any, .any, .any, .any, .any, .any, .any, .any, .any, .any, .any, .any], blks := [(62, .row true .str)] }
def outs_slices_Compact_string_string_1 : List (Exit × Pat) := [(.ret, { tmps := [.any, .any, .sub 62, .any, .any, .any, .any, .any, .any, .any, .any, .any, .any, .any, .any, .any, .any, .any, .any, .any, .any, .any, .any, .any, .any, .any, .any, .any, .any, .any, .any, .any, .any, .any, .any, .any, .any, .any, .any, .any, .any, .any, .any, .any, .any, .any, .any, .any, .any, .any, .any, .any, .any, .any, .any, .any, .any, .any, .any, .any, .any], blks := [(62, .row true .str)] }), (.exit 0, { tmps := [.own 62, .any, .any, .any, .any, .any, .any, .any, .any, .any, .any, .any, .any, .any, .any, .any, .any, .any, .any, .any, .any, .any, .any, .any, .any, .any, .any, .any, .any, .any, .any, .any, .any, .any, .any, .any, .any, .any, .any, .any, .any, .any, .any, .any, .any, .any, .any, .any, .any, .any, .any, .any, .any, .any, .any, .any, .any, .any, .any, .any, .any], blks := [(62, .row true .str)] })]
noncomputable def F_slices_Compact_string_string (x : (List ByteArray)) : Option ((List ByteArray)) :=
  bif (decide ((x.length : Int) < 2)) then
    some (x)
  else
    match runL step_slices_Compact_string_string_1 ((1, x)) with
    | none => none
    | some (.inl o29) =>
      bif (decide ((o29.1).toNat = 0) && true) then
        some ((o29.2.2.take (o29.2.1).toNat))
      else none
    | some (.inr o29) =>
      some (o29)
noncomputable def c_slices_Compact_string_string : Con := { ps := [(.eat true, (.slice .str))], rs := [(.io true, (.slice .str))], F := F_slices_Compact_string_string }
noncomputable def env_slices_Compact_string_string : Env := { par := [62], dp := false, settle := [], con := fun _ => none, clo := fun _ => none, T := tinf Try.prog }
noncomputable def loops_slices_Compact_string_string : Nat → Option Loop := fun n => match n with | 9 => some { pat := pat_slices_Compact_string_string_0, outs := outs_slices_Compact_string_string_0, run := runL (step_slices_Compact_string_string_0) } | 4 => some { pat := pat_slices_Compact_string_string_1, outs := outs_slices_Compact_string_string_1, run := runL (step_slices_Compact_string_string_1) } | _ => none
theorem step_slices_Compact_string_string_0_eq (s : Int × Int × Int × Int × (List ByteArray)) : stepEv env_slices_Compact_string_string loops_slices_Compact_string_string pat_slices_Compact_string_string_0 outs_slices_Compact_string_string_0 Try.f45 9 s = step_slices_Compact_string_string_0 s := by kernel_rfl
theorem step_slices_Compact_string_string_1_eq (s : Int × (List ByteArray)) : stepEv env_slices_Compact_string_string loops_slices_Compact_string_string pat_slices_Compact_string_string_1 outs_slices_Compact_string_string_1 Try.f45 4 s = step_slices_Compact_string_string_1 s := by kernel_rfl
theorem F_slices_Compact_string_string_eq (x : (List ByteArray)) : Fev env_slices_Compact_string_string loops_slices_Compact_string_string c_slices_Compact_string_string.ps c_slices_Compact_string_string.rs Try.f45 x = F_slices_Compact_string_string x := by kernel_rfl
theorem env_slices_Compact_string_string_ok : EnvOK Try.prog env_slices_Compact_string_string := envOK_of (fun f c h => by cases h) (fun f c h => by cases h) rfl
theorem con_slices_Compact_string_string : ConOK Try.prog 45 c_slices_Compact_string_string := con_of_ev' (body := Try.f45.body.getD .skip) (Λ := loops_slices_Compact_string_string) mixed Try.func45 (by kernel_rfl) (by kernel_rfl) env_slices_Compact_string_string_ok (by kernel_rfl) (by kernel_rfl) (fun n L h => by
  unfold loops_slices_Compact_string_string at h
  split at h
  · cases h; exact fun s o ho => loop_ok (stepF := stepEv env_slices_Compact_string_string loops_slices_Compact_string_string pat_slices_Compact_string_string_0 outs_slices_Compact_string_string_0 Try.f45 9) (step_slices_Compact_string_string_0_eq) ho
  · cases h; exact fun s o ho => loop_ok (stepF := stepEv env_slices_Compact_string_string loops_slices_Compact_string_string pat_slices_Compact_string_string_1 outs_slices_Compact_string_string_1 Try.f45 4) (step_slices_Compact_string_string_1_eq) ho
  · cases h) F_slices_Compact_string_string_eq

noncomputable def F_impl_distinct_string (x : (List ByteArray)) : Option ((List ByteArray)) :=
  match F_slices_Clone_string_string (x) with
  | none => none
  | some y1 =>
    match F_slices_Sort_string_string (y1) with
    | none => none
    | some y2 =>
      match F_slices_Compact_string_string (y2) with
      | none => none
      | some y3 =>
        some (y3)
noncomputable def c_impl_distinct_string : Con := { ps := [(.val, (.slice .str))], rs := [(.io true, (.slice .str))], F := F_impl_distinct_string }
noncomputable def env_impl_distinct_string : Env := { par := [], dp := false, settle := [], con := fun f => match f with | 43 => some c_slices_Clone_string_string | 44 => some c_slices_Sort_string_string | 45 => some c_slices_Compact_string_string | _ => none, clo := fun _ => none, T := tinf Try.prog }
noncomputable def loops_impl_distinct_string : Nat → Option Loop := fun n => none
theorem F_impl_distinct_string_eq (x : (List ByteArray)) : Fev env_impl_distinct_string loops_impl_distinct_string c_impl_distinct_string.ps c_impl_distinct_string.rs Try.f25 x = F_impl_distinct_string x := by kernel_rfl
theorem env_impl_distinct_string_ok : EnvOK Try.prog env_impl_distinct_string := envOK_of (fun f c h => by
  simp only [env_impl_distinct_string] at h
  split at h
  · cases h; exact con_slices_Clone_string_string
  · cases h; exact con_slices_Sort_string_string
  · cases h; exact con_slices_Compact_string_string
  · cases h) (fun f c h => by cases h) rfl
theorem con_impl_distinct_string : ConOK Try.prog 25 c_impl_distinct_string := con_of_ev' (body := Try.f25.body.getD .skip) (Λ := loops_impl_distinct_string) mixed Try.func25 (by kernel_rfl) (by kernel_rfl) env_impl_distinct_string_ok (by kernel_rfl) (by kernel_rfl) (fun n L h => by cases h) F_impl_distinct_string_eq

noncomputable def F_impl_GlossesIn_1 (x : ByteArray × (List (ByteArray × Bool))) : Option (Bool) :=
  let v1 := mget (.str) (.bool) x.1 x.2 ((false) : Bool)
  some ((!v1))
noncomputable def c_impl_GlossesIn_1 : Con := { ps := [(.val, .str), (.val, (.ptr (.map .str .bool)))], rs := [(.val, .bool)], F := F_impl_GlossesIn_1 }
noncomputable def env_impl_GlossesIn_1 : Env := { par := [], dp := false, settle := [], con := fun _ => none, clo := fun _ => none, T := tinf Try.prog }
noncomputable def loops_impl_GlossesIn_1 : Nat → Option Loop := fun n => none
theorem F_impl_GlossesIn_1_eq (x : ByteArray × (List (ByteArray × Bool))) : Fev env_impl_GlossesIn_1 loops_impl_GlossesIn_1 c_impl_GlossesIn_1.ps c_impl_GlossesIn_1.rs Try.f26 x = F_impl_GlossesIn_1 x := by kernel_rfl
theorem env_impl_GlossesIn_1_ok : EnvOK Try.prog env_impl_GlossesIn_1 := envOK_of (fun f c h => by cases h) (fun f c h => by cases h) rfl
theorem con_impl_GlossesIn_1 : ConOK Try.prog 26 c_impl_GlossesIn_1 := con_of_ev' (body := Try.f26.body.getD .skip) (Λ := loops_impl_GlossesIn_1) mixed Try.func26 (by kernel_rfl) (by kernel_rfl) env_impl_GlossesIn_1_ok (by kernel_rfl) (by kernel_rfl) (fun n L h => by cases h) F_impl_GlossesIn_1_eq

noncomputable def step_slices_IndexFunc_string_string_0 (s : (List ByteArray) × (ByteArray → Option Bool) × Int × Int) : Option (((List ByteArray) × (ByteArray → Option Bool) × Int × Int) ⊕ ((Int) ⊕ (Unit))) :=
  bif (decide (s.2.2.2 < s.2.2.1)) then
    bif decide (0 ≤ s.2.2.2) && decide (s.2.2.2 < (s.1.length : Int)) then
      match s.2.1 ((s.1.getD (s.2.2.2).toNat ByteArray.empty)) with
      | none => none
      | some y3 =>
        bif y3 then
          some (.inr (.inl (s.2.2.2)))
        else
          let v4 := IntKind.i64.wrap (s.2.2.2 + 1)
          some (.inl ((s.1, (s.2.1, s.2.2.1, v4))))
    else none
  else
    some (.inr (.inr (())))
def pat_slices_IndexFunc_string_string_0 : Pat := { tmps := [.v (.slice .str), .v (.fn .str .bool), .any, .any, .any, .any, .any, .v (.int .i64), .v (.int .i64), .any, .any, .any, .any, .any, .any, .any, .any, .any, .any], blks := [] }
def outs_slices_IndexFunc_string_string_0 : List (Exit × Pat) := [(.ret, { tmps := [.any, .any, .any, .any, .v (.int .i64), .any, .any, .any, .any, .any, .any, .any, .any, .any, .any, .any, .any, .any, .any], blks := [] }), (.exit 0, { tmps := [.any, .any, .any, .any, .any, .any, .any, .any, .any, .any, .any, .any, .any, .any, .any, .any, .any, .any, .any], blks := [] })]
noncomputable def F_slices_IndexFunc_string_string (x : (List ByteArray) × (ByteArray → Option Bool)) : Option (Int) :=
  match runL step_slices_IndexFunc_string_string_0 ((x.1, (x.2, (x.1.length : Int), 0))) with
  | none => none
  | some (.inl o5) =>
    some (o5)
  | some (.inr o5) =>
    some ((-1))
noncomputable def c_slices_IndexFunc_string_string : Con := { ps := [(.val, (.slice .str)), (.val, (.fn .str .bool))], rs := [(.val, (.int .i64))], F := F_slices_IndexFunc_string_string }
noncomputable def env_slices_IndexFunc_string_string : Env := { par := [], dp := false, settle := [], con := fun _ => none, clo := fun _ => none, T := tinf Try.prog }
noncomputable def loops_slices_IndexFunc_string_string : Nat → Option Loop := fun n => match n with | 2 => some { pat := pat_slices_IndexFunc_string_string_0, outs := outs_slices_IndexFunc_string_string_0, run := runL (step_slices_IndexFunc_string_string_0) } | _ => none
theorem step_slices_IndexFunc_string_string_0_eq (s : (List ByteArray) × (ByteArray → Option Bool) × Int × Int) : stepEv env_slices_IndexFunc_string_string loops_slices_IndexFunc_string_string pat_slices_IndexFunc_string_string_0 outs_slices_IndexFunc_string_string_0 Try.f42 2 s = step_slices_IndexFunc_string_string_0 s := by kernel_rfl
theorem F_slices_IndexFunc_string_string_eq (x : (List ByteArray) × (ByteArray → Option Bool)) : Fev env_slices_IndexFunc_string_string loops_slices_IndexFunc_string_string c_slices_IndexFunc_string_string.ps c_slices_IndexFunc_string_string.rs Try.f42 x = F_slices_IndexFunc_string_string x := by kernel_rfl
theorem env_slices_IndexFunc_string_string_ok : EnvOK Try.prog env_slices_IndexFunc_string_string := envOK_of (fun f c h => by cases h) (fun f c h => by cases h) rfl
theorem con_slices_IndexFunc_string_string : ConOK Try.prog 42 c_slices_IndexFunc_string_string := con_of_ev' (body := Try.f42.body.getD .skip) (Λ := loops_slices_IndexFunc_string_string) mixed Try.func42 (by kernel_rfl) (by kernel_rfl) env_slices_IndexFunc_string_string_ok (by kernel_rfl) (by kernel_rfl) (fun n L h => by
  unfold loops_slices_IndexFunc_string_string at h
  split at h
  · cases h; exact fun s o ho => loop_ok (stepF := stepEv env_slices_IndexFunc_string_string loops_slices_IndexFunc_string_string pat_slices_IndexFunc_string_string_0 outs_slices_IndexFunc_string_string_0 Try.f42 2) (step_slices_IndexFunc_string_string_0_eq) ho
  · cases h) F_slices_IndexFunc_string_string_eq

noncomputable def step_slices_DeleteFunc_string_string_0 (s : (ByteArray → Option Bool) × Int × Int × (List ByteArray)) : Option (((ByteArray → Option Bool) × Int × Int × (List ByteArray)) ⊕ ((Int × (List ByteArray)))) :=
  bif (decide (s.2.2.1 < (s.2.2.2.length : Int))) then
    bif decide (0 ≤ s.2.2.1) && decide (s.2.2.1 < (s.2.2.2.length : Int)) then
      match s.1 ((s.2.2.2.getD (s.2.2.1).toNat ByteArray.empty)) with
      | none => none
      | some y8 =>
        bif (!y8) then
          bif decide (0 ≤ s.2.1) && decide (s.2.1 < (s.2.2.2.length : Int)) then
            let v9 := s.2.2.2.set (s.2.1).toNat ((s.2.2.2.getD (s.2.2.1).toNat ByteArray.empty))
            let v10 := IntKind.i64.wrap (s.2.1 + 1)
            let v11 := IntKind.i64.wrap (s.2.2.1 + 1)
            some (.inl ((s.1, (v10, v11, v9))))
          else none
        else
          let v12 := IntKind.i64.wrap (s.2.2.1 + 1)
          some (.inl ((s.1, (s.2.1, v12, s.2.2.2))))
    else none
  else
    some (.inr ((s.2.1, s.2.2.2)))
def pat_slices_DeleteFunc_string_string_0 : Pat := { tmps := [.own 62, .v (.fn .str .bool), .any, .any, .any, .v (.int .i64), .v (.int .i64), .any, .any, .any, .any, .any, .any, .any, .any, .any, .any, .any, .any, .any, .any, .any, .any, .any, .any, .any, .any, .any, .any, .any, .any, .any, .any, .any, .any, .any, .any, .any, .any, .any, .any, .any], blks := [(62, .row true .str)] }
def outs_slices_DeleteFunc_string_string_0 : List (Exit × Pat) := [(.exit 0, { tmps := [.own 62, .any, .any, .any, .any, .v (.int .i64), .any, .any, .any, .any, .any, .any, .any, .any, .any, .any, .any, .any, .any, .any, .any, .any, .any, .any, .any, .any, .any, .any, .any, .any, .any, .any, .any, .any, .any, .any, .any, .any, .any, .any, .any, .any], blks := [(62, .row true .str)] })]
noncomputable def F_slices_DeleteFunc_string_string (x : (List ByteArray) × (ByteArray → Option Bool)) : Option ((List ByteArray)) :=
  match F_slices_IndexFunc_string_string (x) with
  | none => none
  | some y1 =>
    bif ((y1 == (-1))) then
      some (x.1)
    else
      let v2 := IntKind.i64.wrap (y1 + 1)
      match runL step_slices_DeleteFunc_string_string_0 ((x.2, (y1, v2, x.1))) with
      | none => none
      | some o13 =>
        bif decide (0 ≤ o13.1) && decide (o13.1 ≤ (o13.2.length : Int)) && decide ((o13.2.length : Int) ≤ (o13.2.length : Int)) then
          bif decide ((o13.1).toNat + (((o13.2.length : Int)).toNat - (o13.1).toNat) ≤ o13.2.length) then
            let v14 := o13.2.take (o13.1).toNat ++ List.replicate (((o13.2.length : Int)).toNat - (o13.1).toNat) (ByteArray.empty) ++ o13.2.drop ((o13.1).toNat + (((o13.2.length : Int)).toNat - (o13.1).toNat))
            bif decide (0 ≤ (0 : Int)) && decide ((0 : Int) ≤ o13.1) && decide (o13.1 ≤ (v14.length : Int)) then
              some ((v14.take ((o13.1).toNat - ((0 : Int)).toNat)))
            else none
          else none
        else none
noncomputable def c_slices_DeleteFunc_string_string : Con := { ps := [(.eat true, (.slice .str)), (.val, (.fn .str .bool))], rs := [(.io true, (.slice .str))], F := F_slices_DeleteFunc_string_string }
noncomputable def env_slices_DeleteFunc_string_string : Env := { par := [62], dp := false, settle := [], con := fun f => match f with | 42 => some c_slices_IndexFunc_string_string | _ => none, clo := fun _ => none, T := tinf Try.prog }
noncomputable def loops_slices_DeleteFunc_string_string : Nat → Option Loop := fun n => match n with | 5 => some { pat := pat_slices_DeleteFunc_string_string_0, outs := outs_slices_DeleteFunc_string_string_0, run := runL (step_slices_DeleteFunc_string_string_0) } | _ => none
theorem step_slices_DeleteFunc_string_string_0_eq (s : (ByteArray → Option Bool) × Int × Int × (List ByteArray)) : stepEv env_slices_DeleteFunc_string_string loops_slices_DeleteFunc_string_string pat_slices_DeleteFunc_string_string_0 outs_slices_DeleteFunc_string_string_0 Try.f24 5 s = step_slices_DeleteFunc_string_string_0 s := by kernel_rfl
theorem F_slices_DeleteFunc_string_string_eq (x : (List ByteArray) × (ByteArray → Option Bool)) : Fev env_slices_DeleteFunc_string_string loops_slices_DeleteFunc_string_string c_slices_DeleteFunc_string_string.ps c_slices_DeleteFunc_string_string.rs Try.f24 x = F_slices_DeleteFunc_string_string x := by kernel_rfl
theorem env_slices_DeleteFunc_string_string_ok : EnvOK Try.prog env_slices_DeleteFunc_string_string := envOK_of (fun f c h => by
  simp only [env_slices_DeleteFunc_string_string] at h
  split at h
  · cases h; exact con_slices_IndexFunc_string_string
  · cases h) (fun f c h => by cases h) rfl
theorem con_slices_DeleteFunc_string_string : ConOK Try.prog 24 c_slices_DeleteFunc_string_string := con_of_ev' (body := Try.f24.body.getD .skip) (Λ := loops_slices_DeleteFunc_string_string) mixed Try.func24 (by kernel_rfl) (by kernel_rfl) env_slices_DeleteFunc_string_string_ok (by kernel_rfl) (by kernel_rfl) (fun n L h => by
  unfold loops_slices_DeleteFunc_string_string at h
  split at h
  · cases h; exact fun s o ho => loop_ok (stepF := stepEv env_slices_DeleteFunc_string_string loops_slices_DeleteFunc_string_string pat_slices_DeleteFunc_string_string_0 outs_slices_DeleteFunc_string_string_0 Try.f24 5) (step_slices_DeleteFunc_string_string_0_eq) ho
  · cases h) F_slices_DeleteFunc_string_string_eq

noncomputable def K_impl_GlossesIn_1 (q : (List (ByteArray × Bool))) (x : ByteArray) : Option (Bool) := F_impl_GlossesIn_1 (x, q)
noncomputable def k_impl_GlossesIn_1 : CloCon := { caps := [(.map .str .bool)], a := .str, r := .bool, F := K_impl_GlossesIn_1 }
theorem clo_impl_GlossesIn_1 : CloOK Try.prog 26 k_impl_GlossesIn_1 := clo_of_con k_impl_GlossesIn_1 F_impl_GlossesIn_1 con_impl_GlossesIn_1 rfl (fun kx x y h => ⟨y, h, rfl⟩)
noncomputable def step_impl_GlossesIn_0 (s : (List (Int × (ByteArray × Bool))) × Int × Int × (List (ByteArray × Bool)) × (List ByteArray)) : Option (((List (Int × (ByteArray × Bool))) × Int × Int × (List (ByteArray × Bool)) × (List ByteArray)) ⊕ (((List ByteArray) × (List (ByteArray × Bool))))) :=
  bif (decide (s.2.2.1 < s.2.1)) then
    bif decide (0 ≤ s.2.2.1) && decide (s.2.2.1 < (s.1.length : Int)) then
      let v7 := mput (.str) (.bool) (s.1.getD (s.2.2.1).toNat (0, ByteArray.empty, false)).2.1 (!(s.1.getD (s.2.2.1).toNat (0, ByteArray.empty, false)).2.2) s.2.2.2.1
      bif decide ((s.2.2.2.2.length + [(s.1.getD (s.2.2.1).toNat (0, ByteArray.empty, false)).2.1].length) * 16 ≤ 140737488355328) then
        let v8 := s.2.2.2.2 ++ [(s.1.getD (s.2.2.1).toNat (0, ByteArray.empty, false)).2.1]
        let v9 := IntKind.i64.wrap (s.2.2.1 + 1)
        some (.inl ((s.1, s.2.1, (v9, v7, v8))))
      else none
    else none
  else
    some (.inr ((s.2.2.2.2, s.2.2.2.1)))
def pat_impl_GlossesIn_0 : Pat := { tmps := [.any, .any, .any, .any, .ptr 256 0, .own 1792, .any, .any, .any, .any, .any, .any, .v (.slice (.st (.pair (.int .i64) (.pair .str .bool)))), .v (.int .i64), .v (.int .i64), .any, .any, .any, .any, .any, .any, .any, .any, .any, .any, .any, .any, .any, .any, .any, .any, .any, .any, .any], blks := [(256, .box [.mp 704]), (704, .map .str .bool), (1792, .row true .str)] }
def outs_impl_GlossesIn_0 : List (Exit × Pat) := [(.exit 0, { tmps := [.any, .any, .any, .any, .ptr 256 0, .own 1792, .any, .any, .any, .any, .any, .any, .any, .any, .any, .any, .any, .any, .any, .any, .any, .any, .any, .any, .any, .any, .any, .any, .any, .any, .any, .any, .any, .any], blks := [(1792, .row true .str), (256, .box [.mp 704]), (704, .map .str .bool)] })]
noncomputable def F_impl_GlossesIn (x : (List (Int × (ByteArray × Bool)))) : Option ((List ByteArray) × Bool) :=
  match F_impl_AreEdits (x) with
  | none => none
  | some y1 =>
    bif (!y1) then
      some (([], false))
    else
      match runL step_impl_GlossesIn_0 ((x, (x.length : Int), (0, [], []))) with
      | none => none
      | some o10 =>
        match F_impl_distinct_string (o10.1) with
        | none => none
        | some y11 =>
          match F_slices_DeleteFunc_string_string ((y11, (K_impl_GlossesIn_1 o10.2))) with
          | none => none
          | some y12 =>
            some ((y12, true))
noncomputable def c_impl_GlossesIn : Con := { ps := [(.val, (.slice (.st (.pair (.int .i64) (.pair .str .bool)))))], rs := [(.io true, (.slice .str)), (.val, .bool)], F := F_impl_GlossesIn }
noncomputable def env_impl_GlossesIn : Env := { par := [], dp := false, settle := [], con := fun f => match f with | 23 => some c_impl_AreEdits | 24 => some c_slices_DeleteFunc_string_string | 25 => some c_impl_distinct_string | _ => none, clo := fun f => match f with | 26 => some k_impl_GlossesIn_1 | _ => none, T := tinf Try.prog }
noncomputable def loops_impl_GlossesIn : Nat → Option Loop := fun n => match n with | 6 => some { pat := pat_impl_GlossesIn_0, outs := outs_impl_GlossesIn_0, run := runL (step_impl_GlossesIn_0) } | _ => none
theorem step_impl_GlossesIn_0_eq (s : (List (Int × (ByteArray × Bool))) × Int × Int × (List (ByteArray × Bool)) × (List ByteArray)) : stepEv env_impl_GlossesIn loops_impl_GlossesIn pat_impl_GlossesIn_0 outs_impl_GlossesIn_0 Try.f8 6 s = step_impl_GlossesIn_0 s := by kernel_rfl
theorem F_impl_GlossesIn_eq (x : (List (Int × (ByteArray × Bool)))) : Fev env_impl_GlossesIn loops_impl_GlossesIn c_impl_GlossesIn.ps c_impl_GlossesIn.rs Try.f8 x = F_impl_GlossesIn x := by kernel_rfl
theorem env_impl_GlossesIn_ok : EnvOK Try.prog env_impl_GlossesIn := envOK_of (fun f c h => by
  simp only [env_impl_GlossesIn] at h
  split at h
  · cases h; exact con_impl_AreEdits
  · cases h; exact con_slices_DeleteFunc_string_string
  · cases h; exact con_impl_distinct_string
  · cases h) (fun f c h => by
  simp only [env_impl_GlossesIn] at h
  split at h
  · cases h; exact clo_impl_GlossesIn_1
  · cases h) rfl
theorem con_impl_GlossesIn : ConOK Try.prog 8 c_impl_GlossesIn := con_of_ev' (body := Try.f8.body.getD .skip) (Λ := loops_impl_GlossesIn) mixed Try.func8 (by kernel_rfl) (by kernel_rfl) env_impl_GlossesIn_ok (by kernel_rfl) (by kernel_rfl) (fun n L h => by
  unfold loops_impl_GlossesIn at h
  split at h
  · cases h; exact fun s o ho => loop_ok (stepF := stepEv env_impl_GlossesIn loops_impl_GlossesIn pat_impl_GlossesIn_0 outs_impl_GlossesIn_0 Try.f8 6) (step_impl_GlossesIn_0_eq) ho
  · cases h) F_impl_GlossesIn_eq

noncomputable def step_laws_eqStringS_0 (s : (List ByteArray) × (List ByteArray) × Int) : Option (((List ByteArray) × (List ByteArray) × Int) ⊕ ((Bool) ⊕ (Unit))) :=
  bif (decide (s.2.2 < (s.1.length : Int))) then
    bif decide (0 ≤ s.2.2) && decide (s.2.2 < (s.1.length : Int)) then
      bif decide (0 ≤ s.2.2) && decide (s.2.2 < (s.2.1.length : Int)) then
        bif (!((s.1.getD (s.2.2).toNat ByteArray.empty).toList == (s.2.1.getD (s.2.2).toNat ByteArray.empty).toList)) then
          some (.inr (.inl (false)))
        else
          let v2 := IntKind.i64.wrap (s.2.2 + 1)
          some (.inl ((s.1, s.2.1, v2)))
      else none
    else none
  else
    some (.inr (.inr (())))
def pat_laws_eqStringS_0 : Pat := { tmps := [.v (.slice .str), .v (.slice .str), .any, .any, .any, .v (.int .i64), .any, .any, .any, .any, .any, .any, .any, .any, .any, .any, .any, .any, .any, .any, .any, .any, .any, .any, .any, .any], blks := [] }
def outs_laws_eqStringS_0 : List (Exit × Pat) := [(.ret, { tmps := [.any, .any, .any, .any, .v .bool, .any, .any, .any, .any, .any, .any, .any, .any, .any, .any, .any, .any, .any, .any, .any, .any, .any, .any, .any, .any, .any], blks := [] }), (.exit 0, { tmps := [.any, .any, .any, .any, .any, .any, .any, .any, .any, .any, .any, .any, .any, .any, .any, .any, .any, .any, .any, .any, .any, .any, .any, .any, .any, .any], blks := [] })]
noncomputable def F_laws_eqStringS (x : (List ByteArray) × (List ByteArray)) : Option (Bool) :=
  bif (((x.1.length : Int) != (x.2.length : Int))) then
    some (false)
  else
    match runL step_laws_eqStringS_0 ((x.1, x.2, 0)) with
    | none => none
    | some (.inl o3) =>
      some (o3)
    | some (.inr o3) =>
      some (true)
noncomputable def c_laws_eqStringS : Con := { ps := [(.val, (.slice .str)), (.val, (.slice .str))], rs := [(.val, .bool)], F := F_laws_eqStringS }
noncomputable def env_laws_eqStringS : Env := { par := [], dp := false, settle := [], con := fun _ => none, clo := fun _ => none, T := tinf Try.prog }
noncomputable def loops_laws_eqStringS : Nat → Option Loop := fun n => match n with | 4 => some { pat := pat_laws_eqStringS_0, outs := outs_laws_eqStringS_0, run := runL (step_laws_eqStringS_0) } | _ => none
theorem step_laws_eqStringS_0_eq (s : (List ByteArray) × (List ByteArray) × Int) : stepEv env_laws_eqStringS loops_laws_eqStringS pat_laws_eqStringS_0 outs_laws_eqStringS_0 Try.f9 4 s = step_laws_eqStringS_0 s := by kernel_rfl
theorem F_laws_eqStringS_eq (x : (List ByteArray) × (List ByteArray)) : Fev env_laws_eqStringS loops_laws_eqStringS c_laws_eqStringS.ps c_laws_eqStringS.rs Try.f9 x = F_laws_eqStringS x := by kernel_rfl
theorem env_laws_eqStringS_ok : EnvOK Try.prog env_laws_eqStringS := envOK_of (fun f c h => by cases h) (fun f c h => by cases h) rfl
theorem con_laws_eqStringS : ConOK Try.prog 9 c_laws_eqStringS := con_of_ev' (body := Try.f9.body.getD .skip) (Λ := loops_laws_eqStringS) mixed Try.func9 (by kernel_rfl) (by kernel_rfl) env_laws_eqStringS_ok (by kernel_rfl) (by kernel_rfl) (fun n L h => by
  unfold loops_laws_eqStringS at h
  split at h
  · cases h; exact fun s o ho => loop_ok (stepF := stepEv env_laws_eqStringS loops_laws_eqStringS pat_laws_eqStringS_0 outs_laws_eqStringS_0 Try.f9 4) (step_laws_eqStringS_0_eq) ho
  · cases h) F_laws_eqStringS_eq

noncomputable def F_laws_eqLogEdit (x : (Int × (ByteArray × Bool)) × (Int × (ByteArray × Bool))) : Option (Bool) :=
  bif ((x.1.1 != x.2.1)) then
    some (false)
  else
    bif (!(x.1.2.1.toList == x.2.2.1.toList)) then
      some (false)
    else
      bif (!(x.1.2.2 == x.2.2.2)) then
        some (false)
      else
        some (true)
noncomputable def c_laws_eqLogEdit : Con := { ps := [(.val, (.st (.pair (.int .i64) (.pair .str .bool)))), (.val, (.st (.pair (.int .i64) (.pair .str .bool))))], rs := [(.val, .bool)], F := F_laws_eqLogEdit }
noncomputable def env_laws_eqLogEdit : Env := { par := [], dp := false, settle := [], con := fun _ => none, clo := fun _ => none, T := tinf Try.prog }
noncomputable def loops_laws_eqLogEdit : Nat → Option Loop := fun n => none
theorem F_laws_eqLogEdit_eq (x : (Int × (ByteArray × Bool)) × (Int × (ByteArray × Bool))) : Fev env_laws_eqLogEdit loops_laws_eqLogEdit c_laws_eqLogEdit.ps c_laws_eqLogEdit.rs Try.f27 x = F_laws_eqLogEdit x := by kernel_rfl
theorem env_laws_eqLogEdit_ok : EnvOK Try.prog env_laws_eqLogEdit := envOK_of (fun f c h => by cases h) (fun f c h => by cases h) rfl
theorem con_laws_eqLogEdit : ConOK Try.prog 27 c_laws_eqLogEdit := con_of_ev' (body := Try.f27.body.getD .skip) (Λ := loops_laws_eqLogEdit) mixed Try.func27 (by kernel_rfl) (by kernel_rfl) env_laws_eqLogEdit_ok (by kernel_rfl) (by kernel_rfl) (fun n L h => by cases h) F_laws_eqLogEdit_eq

noncomputable def step_laws_eqLogEditS_0 (s : (List (Int × (ByteArray × Bool))) × (List (Int × (ByteArray × Bool))) × Int) : Option (((List (Int × (ByteArray × Bool))) × (List (Int × (ByteArray × Bool))) × Int) ⊕ ((Bool) ⊕ (Unit))) :=
  bif (decide (s.2.2 < (s.1.length : Int))) then
    bif decide (0 ≤ s.2.2) && decide (s.2.2 < (s.1.length : Int)) then
      bif decide (0 ≤ s.2.2) && decide (s.2.2 < (s.2.1.length : Int)) then
        match F_laws_eqLogEdit (((s.1.getD (s.2.2).toNat (0, ByteArray.empty, false)), (s.2.1.getD (s.2.2).toNat (0, ByteArray.empty, false)))) with
        | none => none
        | some y3 =>
          bif (!y3) then
            some (.inr (.inl (false)))
          else
            let v4 := IntKind.i64.wrap (s.2.2 + 1)
            some (.inl ((s.1, s.2.1, v4)))
      else none
    else none
  else
    some (.inr (.inr (())))
def pat_laws_eqLogEditS_0 : Pat := { tmps := [.v (.slice (.st (.pair (.int .i64) (.pair .str .bool)))), .v (.slice (.st (.pair (.int .i64) (.pair .str .bool)))), .any, .any, .any, .v (.int .i64), .any, .any, .any, .any, .any, .any, .any, .any, .any, .any, .any, .any, .any, .any, .any, .any, .any, .any, .any, .any, .any], blks := [] }
def outs_laws_eqLogEditS_0 : List (Exit × Pat) := [(.ret, { tmps := [.any, .any, .any, .any, .v .bool, .any, .any, .any, .any, .any, .any, .any, .any, .any, .any, .any, .any, .any, .any, .any, .any, .any, .any, .any, .any, .any, .any], blks := [] }), (.exit 0, { tmps := [.any, .any, .any, .any, .any, .any, .any, .any, .any, .any, .any, .any, .any, .any, .any, .any, .any, .any, .any, .any, .any, .any, .any, .any, .any, .any, .any], blks := [] })]
noncomputable def F_laws_eqLogEditS (x : (List (Int × (ByteArray × Bool))) × (List (Int × (ByteArray × Bool)))) : Option (Bool) :=
  bif (((x.1.length : Int) != (x.2.length : Int))) then
    some (false)
  else
    match runL step_laws_eqLogEditS_0 ((x.1, x.2, 0)) with
    | none => none
    | some (.inl o5) =>
      some (o5)
    | some (.inr o5) =>
      some (true)
noncomputable def c_laws_eqLogEditS : Con := { ps := [(.val, (.slice (.st (.pair (.int .i64) (.pair .str .bool))))), (.val, (.slice (.st (.pair (.int .i64) (.pair .str .bool)))))], rs := [(.val, .bool)], F := F_laws_eqLogEditS }
noncomputable def env_laws_eqLogEditS : Env := { par := [], dp := false, settle := [], con := fun f => match f with | 27 => some c_laws_eqLogEdit | _ => none, clo := fun _ => none, T := tinf Try.prog }
noncomputable def loops_laws_eqLogEditS : Nat → Option Loop := fun n => match n with | 4 => some { pat := pat_laws_eqLogEditS_0, outs := outs_laws_eqLogEditS_0, run := runL (step_laws_eqLogEditS_0) } | _ => none
theorem step_laws_eqLogEditS_0_eq (s : (List (Int × (ByteArray × Bool))) × (List (Int × (ByteArray × Bool))) × Int) : stepEv env_laws_eqLogEditS loops_laws_eqLogEditS pat_laws_eqLogEditS_0 outs_laws_eqLogEditS_0 Try.f10 4 s = step_laws_eqLogEditS_0 s := by kernel_rfl
theorem F_laws_eqLogEditS_eq (x : (List (Int × (ByteArray × Bool))) × (List (Int × (ByteArray × Bool)))) : Fev env_laws_eqLogEditS loops_laws_eqLogEditS c_laws_eqLogEditS.ps c_laws_eqLogEditS.rs Try.f10 x = F_laws_eqLogEditS x := by kernel_rfl
theorem env_laws_eqLogEditS_ok : EnvOK Try.prog env_laws_eqLogEditS := envOK_of (fun f c h => by
  simp only [env_laws_eqLogEditS] at h
  split at h
  · cases h; exact con_laws_eqLogEdit
  · cases h) (fun f c h => by cases h) rfl
theorem con_laws_eqLogEditS : ConOK Try.prog 10 c_laws_eqLogEditS := con_of_ev' (body := Try.f10.body.getD .skip) (Λ := loops_laws_eqLogEditS) mixed Try.func10 (by kernel_rfl) (by kernel_rfl) env_laws_eqLogEditS_ok (by kernel_rfl) (by kernel_rfl) (fun n L h => by
  unfold loops_laws_eqLogEditS at h
  split at h
  · cases h; exact fun s o ho => loop_ok (stepF := stepEv env_laws_eqLogEditS loops_laws_eqLogEditS pat_laws_eqLogEditS_0 outs_laws_eqLogEditS_0 Try.f10 4) (step_laws_eqLogEditS_0_eq) ho
  · cases h) F_laws_eqLogEditS_eq

noncomputable def step_laws_markText_0 (s : Int × ByteArray) : Option ((Int × ByteArray) ⊕ ((ByteArray))) :=
  bif (decide (s.1 > 0)) then
    bif !decide (10 = 0) then
      let v5 := (s.1).tmod 10
      let v6 := IntKind.i64.wrap (48 + v5)
      let v7 := IntKind.u8.wrap v6
      bif decide ((bytesStr [v7]).size + s.2.size ≤ 9223372036854775807) then
        bif !decide (10 = 0) then
          let v8 := IntKind.i64.wrap ((s.1).tdiv 10)
          some (.inl ((v8, ((bytesStr [v7]) ++ s.2))))
        else none
      else none
    else none
  else
    some (.inr (s.2))
def pat_laws_markText_0 : Pat := { tmps := [.v (.int .i64), .any, .any, .v .str, .any, .any, .any, .any, .any, .any, .any, .any, .any, .any, .any, .any, .any, .any, .any, .any], blks := [] }
def outs_laws_markText_0 : List (Exit × Pat) := [(.exit 0, { tmps := [.any, .any, .any, .v .str, .any, .any, .any, .any, .any, .any, .any, .any, .any, .any, .any, .any, .any, .any, .any, .any], blks := [] })]
noncomputable def F_laws_markText (x : Int) : Option (ByteArray) :=
  bif (decide (x ≤ 0)) then
    some ((⟨#[109, 48]⟩ : ByteArray))
  else
    match runL step_laws_markText_0 ((x, (⟨#[]⟩ : ByteArray))) with
    | none => none
    | some o9 =>
      bif decide ((⟨#[109]⟩ : ByteArray).size + o9.size ≤ 9223372036854775807) then
        some (((⟨#[109]⟩ : ByteArray) ++ o9))
      else none
noncomputable def c_laws_markText : Con := { ps := [(.val, (.int .i64))], rs := [(.val, .str)], F := F_laws_markText }
noncomputable def env_laws_markText : Env := { par := [], dp := false, settle := [], con := fun _ => none, clo := fun _ => none, T := tinf Try.prog }
noncomputable def loops_laws_markText : Nat → Option Loop := fun n => match n with | 4 => some { pat := pat_laws_markText_0, outs := outs_laws_markText_0, run := runL (step_laws_markText_0) } | _ => none
theorem step_laws_markText_0_eq (s : Int × ByteArray) : stepEv env_laws_markText loops_laws_markText pat_laws_markText_0 outs_laws_markText_0 Try.f28 4 s = step_laws_markText_0 s := by kernel_rfl
theorem F_laws_markText_eq (x : Int) : Fev env_laws_markText loops_laws_markText c_laws_markText.ps c_laws_markText.rs Try.f28 x = F_laws_markText x := by kernel_rfl
theorem env_laws_markText_ok : EnvOK Try.prog env_laws_markText := envOK_of (fun f c h => by cases h) (fun f c h => by cases h) rfl
theorem con_laws_markText : ConOK Try.prog 28 c_laws_markText := con_of_ev' (body := Try.f28.body.getD .skip) (Λ := loops_laws_markText) mixed Try.func28 (by kernel_rfl) (by kernel_rfl) env_laws_markText_ok (by kernel_rfl) (by kernel_rfl) (fun n L h => by
  unfold loops_laws_markText at h
  split at h
  · cases h; exact fun s o ho => loop_ok (stepF := stepEv env_laws_markText loops_laws_markText pat_laws_markText_0 outs_laws_markText_0 Try.f28 4) (step_laws_markText_0_eq) ho
  · cases h) F_laws_markText_eq

noncomputable def step_laws_markLogEditS_0 (s : Int × Int × (List (Int × (ByteArray × Bool)))) : Option ((Int × Int × (List (Int × (ByteArray × Bool)))) ⊕ ((Int × (List (Int × (ByteArray × Bool)))))) :=
  bif (decide (s.2.1 < (s.2.2.length : Int))) then
    bif decide (0 ≤ s.2.1) && decide (s.2.1 < (s.2.2.length : Int)) then
      let v10 := s.2.2.set (s.2.1).toNat ((s.1, (s.2.2.getD (s.2.1).toNat (0, ByteArray.empty, false)).2))
      let v11 := IntKind.i64.wrap (s.1 + 1)
      match F_laws_markText (v11) with
      | none => none
      | some y12 =>
        bif decide (0 ≤ s.2.1) && decide (s.2.1 < (v10.length : Int)) then
          let v13 := v10.set (s.2.1).toNat (((v10.getD (s.2.1).toNat (0, ByteArray.empty, false)).1, y12, (v10.getD (s.2.1).toNat (0, ByteArray.empty, false)).2.2))
          let v14 := IntKind.i64.wrap (v11 + 1)
          bif !decide (3 = 0) then
            let v15 := (v14).tmod 3
            bif decide (0 ≤ s.2.1) && decide (s.2.1 < (v13.length : Int)) then
              let v16 := v13.set (s.2.1).toNat (((v13.getD (s.2.1).toNat (0, ByteArray.empty, false)).1, (v13.getD (s.2.1).toNat (0, ByteArray.empty, false)).2.1, ((v15 == 0))))
              let v17 := IntKind.i64.wrap (v14 + 1)
              let v18 := IntKind.i64.wrap (s.2.1 + 1)
              some (.inl ((v17, v18, v16)))
            else none
          else none
        else none
    else none
  else
    some (.inr ((s.1, s.2.2)))
def pat_laws_markLogEditS_0 : Pat := { tmps := [.own 63, .v (.int .i64), .any, .any, .any, .v (.int .i64), .any, .any, .any, .any, .any, .any, .any, .any, .any, .any, .any, .any, .any, .any, .any, .any, .any, .any, .any, .any, .any, .any, .any, .any, .any, .any, .any, .any, .any, .any, .any], blks := [(63, .row true (.st (.pair (.int .i64) (.pair .str .bool))))] }
def outs_laws_markLogEditS_0 : List (Exit × Pat) := [(.exit 0, { tmps := [.any, .v (.int .i64), .any, .any, .any, .any, .any, .any, .any, .any, .any, .any, .any, .any, .any, .any, .any, .any, .any, .any, .any, .any, .any, .any, .any, .any, .any, .any, .any, .any, .any, .any, .any, .any, .any, .any, .any], blks := [(63, .row true (.st (.pair (.int .i64) (.pair .str .bool))))] })]
noncomputable def F_laws_markLogEditS (x : (List (Int × (ByteArray × Bool))) × Int) : Option ((List (Int × (ByteArray × Bool))) × Int) :=
  match runL step_laws_markLogEditS_0 ((x.2, 0, x.1)) with
  | none => none
  | some o19 =>
    some ((o19.2, o19.1))
noncomputable def c_laws_markLogEditS : Con := { ps := [(.io true, (.slice (.st (.pair (.int .i64) (.pair .str .bool))))), (.val, (.int .i64))], rs := [(.val, (.int .i64))], F := F_laws_markLogEditS }
noncomputable def env_laws_markLogEditS : Env := { par := [63], dp := false, settle := [], con := fun f => match f with | 28 => some c_laws_markText | _ => none, clo := fun _ => none, T := tinf Try.prog }
noncomputable def loops_laws_markLogEditS : Nat → Option Loop := fun n => match n with | 2 => some { pat := pat_laws_markLogEditS_0, outs := outs_laws_markLogEditS_0, run := runL (step_laws_markLogEditS_0) } | _ => none
theorem step_laws_markLogEditS_0_eq (s : Int × Int × (List (Int × (ByteArray × Bool)))) : stepEv env_laws_markLogEditS loops_laws_markLogEditS pat_laws_markLogEditS_0 outs_laws_markLogEditS_0 Try.f11 2 s = step_laws_markLogEditS_0 s := by kernel_rfl
theorem F_laws_markLogEditS_eq (x : (List (Int × (ByteArray × Bool))) × Int) : Fev env_laws_markLogEditS loops_laws_markLogEditS c_laws_markLogEditS.ps c_laws_markLogEditS.rs Try.f11 x = F_laws_markLogEditS x := by kernel_rfl
theorem env_laws_markLogEditS_ok : EnvOK Try.prog env_laws_markLogEditS := envOK_of (fun f c h => by
  simp only [env_laws_markLogEditS] at h
  split at h
  · cases h; exact con_laws_markText
  · cases h) (fun f c h => by cases h) rfl
theorem con_laws_markLogEditS : ConOK Try.prog 11 c_laws_markLogEditS := con_of_ev' (body := Try.f11.body.getD .skip) (Λ := loops_laws_markLogEditS) mixed Try.func11 (by kernel_rfl) (by kernel_rfl) env_laws_markLogEditS_ok (by kernel_rfl) (by kernel_rfl) (fun n L h => by
  unfold loops_laws_markLogEditS at h
  split at h
  · cases h; exact fun s o ho => loop_ok (stepF := stepEv env_laws_markLogEditS loops_laws_markLogEditS pat_laws_markLogEditS_0 outs_laws_markLogEditS_0 Try.f11 2) (step_laws_markLogEditS_0_eq) ho
  · cases h) F_laws_markLogEditS_eq

noncomputable def step_laws_markStringS_0 (s : Int × Int × (List ByteArray)) : Option ((Int × Int × (List ByteArray)) ⊕ ((Int × (List ByteArray)))) :=
  bif (decide (s.2.1 < (s.2.2.length : Int))) then
    match F_laws_markText (s.1) with
    | none => none
    | some y5 =>
      bif decide (0 ≤ s.2.1) && decide (s.2.1 < (s.2.2.length : Int)) then
        let v6 := s.2.2.set (s.2.1).toNat (y5)
        let v7 := IntKind.i64.wrap (s.1 + 1)
        let v8 := IntKind.i64.wrap (s.2.1 + 1)
        some (.inl ((v7, v8, v6)))
      else none
  else
    some (.inr ((s.1, s.2.2)))
def pat_laws_markStringS_0 : Pat := { tmps := [.own 63, .v (.int .i64), .any, .any, .any, .v (.int .i64), .any, .any, .any, .any, .any, .any, .any, .any, .any, .any, .any, .any, .any, .any], blks := [(63, .row true .str)] }
def outs_laws_markStringS_0 : List (Exit × Pat) := [(.exit 0, { tmps := [.any, .v (.int .i64), .any, .any, .any, .any, .any, .any, .any, .any, .any, .any, .any, .any, .any, .any, .any, .any, .any, .any], blks := [(63, .row true .str)] })]
noncomputable def F_laws_markStringS (x : (List ByteArray) × Int) : Option ((List ByteArray) × Int) :=
  match runL step_laws_markStringS_0 ((x.2, 0, x.1)) with
  | none => none
  | some o9 =>
    some ((o9.2, o9.1))
noncomputable def c_laws_markStringS : Con := { ps := [(.io true, (.slice .str)), (.val, (.int .i64))], rs := [(.val, (.int .i64))], F := F_laws_markStringS }
noncomputable def env_laws_markStringS : Env := { par := [63], dp := false, settle := [], con := fun f => match f with | 28 => some c_laws_markText | _ => none, clo := fun _ => none, T := tinf Try.prog }
noncomputable def loops_laws_markStringS : Nat → Option Loop := fun n => match n with | 2 => some { pat := pat_laws_markStringS_0, outs := outs_laws_markStringS_0, run := runL (step_laws_markStringS_0) } | _ => none
theorem step_laws_markStringS_0_eq (s : Int × Int × (List ByteArray)) : stepEv env_laws_markStringS loops_laws_markStringS pat_laws_markStringS_0 outs_laws_markStringS_0 Try.f12 2 s = step_laws_markStringS_0 s := by kernel_rfl
theorem F_laws_markStringS_eq (x : (List ByteArray) × Int) : Fev env_laws_markStringS loops_laws_markStringS c_laws_markStringS.ps c_laws_markStringS.rs Try.f12 x = F_laws_markStringS x := by kernel_rfl
theorem env_laws_markStringS_ok : EnvOK Try.prog env_laws_markStringS := envOK_of (fun f c h => by
  simp only [env_laws_markStringS] at h
  split at h
  · cases h; exact con_laws_markText
  · cases h) (fun f c h => by cases h) rfl
theorem con_laws_markStringS : ConOK Try.prog 12 c_laws_markStringS := con_of_ev' (body := Try.f12.body.getD .skip) (Λ := loops_laws_markStringS) mixed Try.func12 (by kernel_rfl) (by kernel_rfl) env_laws_markStringS_ok (by kernel_rfl) (by kernel_rfl) (fun n L h => by
  unfold loops_laws_markStringS at h
  split at h
  · cases h; exact fun s o ho => loop_ok (stepF := stepEv env_laws_markStringS loops_laws_markStringS pat_laws_markStringS_0 outs_laws_markStringS_0 Try.f12 2) (step_laws_markStringS_0_eq) ho
  · cases h) F_laws_markStringS_eq

noncomputable def step_laws_heldStringS_0 (s : (List ByteArray) × Int × Int) : Option (((List ByteArray) × Int × Int) ⊕ ((Int) ⊕ (Int))) :=
  bif (decide (s.2.2 < (s.1.length : Int))) then
    bif decide (0 ≤ s.2.2) && decide (s.2.2 < (s.1.length : Int)) then
      match F_laws_markText (s.2.1) with
      | none => none
      | some y4 =>
        bif (!((s.1.getD (s.2.2).toNat ByteArray.empty).toList == y4.toList)) then
          some (.inr (.inl ((-1))))
        else
          let v5 := IntKind.i64.wrap (s.2.1 + 1)
          let v6 := IntKind.i64.wrap (s.2.2 + 1)
          some (.inl ((s.1, v5, v6)))
    else none
  else
    some (.inr (.inr (s.2.1)))
def pat_laws_heldStringS_0 : Pat := { tmps := [.v (.slice .str), .v (.int .i64), .any, .any, .any, .v (.int .i64), .any, .any, .any, .any, .any, .any, .any, .any, .any, .any, .any, .any, .any, .any, .any, .any], blks := [] }
def outs_laws_heldStringS_0 : List (Exit × Pat) := [(.ret, { tmps := [.any, .any, .any, .any, .v (.int .i64), .any, .any, .any, .any, .any, .any, .any, .any, .any, .any, .any, .any, .any, .any, .any, .any, .any], blks := [] }), (.exit 0, { tmps := [.any, .v (.int .i64), .any, .any, .any, .any, .any, .any, .any, .any, .any, .any, .any, .any, .any, .any, .any, .any, .any, .any, .any, .any], blks := [] })]
noncomputable def F_laws_heldStringS (x : (List ByteArray) × Int) : Option (Int) :=
  match runL step_laws_heldStringS_0 ((x.1, x.2, 0)) with
  | none => none
  | some (.inl o7) =>
    some (o7)
  | some (.inr o7) =>
    some (o7)
noncomputable def c_laws_heldStringS : Con := { ps := [(.val, (.slice .str)), (.val, (.int .i64))], rs := [(.val, (.int .i64))], F := F_laws_heldStringS }
noncomputable def env_laws_heldStringS : Env := { par := [], dp := false, settle := [], con := fun f => match f with | 28 => some c_laws_markText | _ => none, clo := fun _ => none, T := tinf Try.prog }
noncomputable def loops_laws_heldStringS : Nat → Option Loop := fun n => match n with | 2 => some { pat := pat_laws_heldStringS_0, outs := outs_laws_heldStringS_0, run := runL (step_laws_heldStringS_0) } | _ => none
theorem step_laws_heldStringS_0_eq (s : (List ByteArray) × Int × Int) : stepEv env_laws_heldStringS loops_laws_heldStringS pat_laws_heldStringS_0 outs_laws_heldStringS_0 Try.f13 2 s = step_laws_heldStringS_0 s := by kernel_rfl
theorem F_laws_heldStringS_eq (x : (List ByteArray) × Int) : Fev env_laws_heldStringS loops_laws_heldStringS c_laws_heldStringS.ps c_laws_heldStringS.rs Try.f13 x = F_laws_heldStringS x := by kernel_rfl
theorem env_laws_heldStringS_ok : EnvOK Try.prog env_laws_heldStringS := envOK_of (fun f c h => by
  simp only [env_laws_heldStringS] at h
  split at h
  · cases h; exact con_laws_markText
  · cases h) (fun f c h => by cases h) rfl
theorem con_laws_heldStringS : ConOK Try.prog 13 c_laws_heldStringS := con_of_ev' (body := Try.f13.body.getD .skip) (Λ := loops_laws_heldStringS) mixed Try.func13 (by kernel_rfl) (by kernel_rfl) env_laws_heldStringS_ok (by kernel_rfl) (by kernel_rfl) (fun n L h => by
  unfold loops_laws_heldStringS at h
  split at h
  · cases h; exact fun s o ho => loop_ok (stepF := stepEv env_laws_heldStringS loops_laws_heldStringS pat_laws_heldStringS_0 outs_laws_heldStringS_0 Try.f13 2) (step_laws_heldStringS_0_eq) ho
  · cases h) F_laws_heldStringS_eq

noncomputable def F_laws_FnExactGlossesIn (x : (List (Int × (ByteArray × Bool)))) : Option (Bool) :=
  match F_laws_szLogEditS ((x, 1048576)) with
  | none => none
  | some y1 =>
    bif (decide (y1 < 0)) then
      some (true)
    else
      match F_laws_toLogEditS (x) with
      | none => none
      | some y2 =>
        match F_spec_GlossesIn (y2) with
        | none => none
        | some y3 =>
          match F_laws_toLogEditS (x) with
          | none => none
          | some y4 =>
            match F_impl_GlossesIn (y4) with
            | none => none
            | some y5 =>
              match F_laws_eqStringS ((y5.1, y3.1)) with
              | none => none
              | some y6 =>
                bif (!y6) then
                  some (false)
                else
                  bif (!(y5.2 == y3.2)) then
                    some (false)
                  else
                    match F_laws_toLogEditS (x) with
                    | none => none
                    | some y7 =>
                      match F_laws_eqLogEditS ((y4, y7)) with
                      | none => none
                      | some y8 =>
                        bif (!y8) then
                          some (false)
                        else
                          match F_laws_markLogEditS ((y4, 1)) with
                          | none => none
                          | some y9 =>
                            bif (decide (y9.2 < 0)) then
                              some (false)
                            else
                              match F_laws_eqStringS ((y5.1, y3.1)) with
                              | none => none
                              | some y10 =>
                                bif (!y10) then
                                  some (false)
                                else
                                  bif (!(y5.2 == y3.2)) then
                                    some (false)
                                  else
                                    match F_laws_markStringS ((y5.1, 1)) with
                                    | none => none
                                    | some y11 =>
                                      match F_laws_heldStringS ((y11.1, 1)) with
                                      | none => none
                                      | some y12 =>
                                        bif (decide (y12 < 0)) then
                                          some (false)
                                        else
                                          bif ((y12 != y11.2)) then
                                            some (false)
                                          else
                                            match F_laws_toLogEditS (x) with
                                            | none => none
                                            | some y13 =>
                                              match F_impl_GlossesIn (y13) with
                                              | none => none
                                              | some y14 =>
                                                match F_laws_eqStringS ((y14.1, y3.1)) with
                                                | none => none
                                                | some y15 =>
                                                  bif (!y15) then
                                                    some (false)
                                                  else
                                                    bif (!(y14.2 == y3.2)) then
                                                      some (false)
                                                    else
                                                      match F_laws_heldStringS ((y11.1, 1)) with
                                                      | none => none
                                                      | some y16 =>
                                                        bif (decide (y16 < 0)) then
                                                          some (false)
                                                        else
                                                          bif ((y16 != y11.2)) then
                                                            some (false)
                                                          else
                                                            some (true)
noncomputable def c_laws_FnExactGlossesIn : Con := { ps := [(.val, (.slice (.st (.pair (.int .i64) (.pair .str .bool)))))], rs := [(.val, .bool)], F := F_laws_FnExactGlossesIn }
noncomputable def env_laws_FnExactGlossesIn : Env := { par := [], dp := false, settle := [], con := fun f => match f with | 5 => some c_laws_szLogEditS | 6 => some c_spec_GlossesIn | 7 => some c_laws_toLogEditS | 8 => some c_impl_GlossesIn | 9 => some c_laws_eqStringS | 10 => some c_laws_eqLogEditS | 11 => some c_laws_markLogEditS | 12 => some c_laws_markStringS | 13 => some c_laws_heldStringS | _ => none, clo := fun _ => none, T := tinf Try.prog }
noncomputable def loops_laws_FnExactGlossesIn : Nat → Option Loop := fun n => none
theorem F_laws_FnExactGlossesIn_eq (x : (List (Int × (ByteArray × Bool)))) : Fev env_laws_FnExactGlossesIn loops_laws_FnExactGlossesIn c_laws_FnExactGlossesIn.ps c_laws_FnExactGlossesIn.rs Try.f3 x = F_laws_FnExactGlossesIn x := by kernel_rfl
theorem env_laws_FnExactGlossesIn_ok : EnvOK Try.prog env_laws_FnExactGlossesIn := envOK_of (fun f c h => by
  simp only [env_laws_FnExactGlossesIn] at h
  split at h
  · cases h; exact con_laws_szLogEditS
  · cases h; exact con_spec_GlossesIn
  · cases h; exact con_laws_toLogEditS
  · cases h; exact con_impl_GlossesIn
  · cases h; exact con_laws_eqStringS
  · cases h; exact con_laws_eqLogEditS
  · cases h; exact con_laws_markLogEditS
  · cases h; exact con_laws_markStringS
  · cases h; exact con_laws_heldStringS
  · cases h) (fun f c h => by cases h) rfl
theorem con_laws_FnExactGlossesIn : ConOK Try.prog 3 c_laws_FnExactGlossesIn := con_of_ev' (body := Try.f3.body.getD .skip) (Λ := loops_laws_FnExactGlossesIn) mixed Try.func3 (by kernel_rfl) (by kernel_rfl) env_laws_FnExactGlossesIn_ok (by kernel_rfl) (by kernel_rfl) (fun n L h => by cases h) F_laws_FnExactGlossesIn_eq

end Go.Proofs.Ytadehfgciiocfaa
