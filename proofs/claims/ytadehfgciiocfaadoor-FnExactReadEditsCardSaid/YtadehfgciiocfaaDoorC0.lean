/- Contracts of functions of the program, written by a program of this claim. No conditions. -/
import Derived.Test.YtadehfgciiocfaaDoorEvZk
import Derived.Test.YtadehfgciiocfaaDoorRows
import Derived.Shelf.Strings.Search1
import Derived.Lib.AppendIntMem
import Derived.Test.YtadehfgciiocfaaDoorEvZl
import Derived.OwnWalk
import Derived.Lib.SliceRun
import Derived.WalkKit
import Derived.Deep.LoopGhost
import Derived.Lib.Walk
import Derived.OwnWalk
import Derived.OwnWalk
import Derived.Test.YtadehfgciiocfaaDoorNu
import Derived.Test.YtadehfgciiocfaaDoorIdz
import Derived.Test.YtadehfgciiocfaaDoorShelf
import Derived.Test.YtadehfgciiocfaaDoorEvZt
import Derived.Test.YtadehfgciiocfaaDoorLi
set_option linter.unusedVariables false
set_option maxRecDepth 100000
namespace Go.Proofs.YtadehfgciiocfaaDoor
open Go
theorem mixed : Tryd.prog.follows .mixedOrders = true := by kernel_rfl
noncomputable def step_spec_joParts_0 (s : ByteArray × Int × Int × (List ByteArray)) : Option ((ByteArray × Int × Int × (List ByteArray)) ⊕ (((List ByteArray)))) :=
  bif (decide (s.2.2.1 < (s.1.size : Int))) then
    bif decide (0 ≤ s.2.2.1) && decide (s.2.2.1 < (s.1.size : Int)) then
      bif (((byteAt s.1 (s.2.2.1).toNat) == 10)) then
        let v10 := IntKind.i64.wrap (s.2.2.1 + 1)
        bif decide (0 ≤ s.2.1) && decide (s.2.1 ≤ v10) && decide (v10 ≤ (s.1.size : Int)) then
          bif decide ((s.2.2.2.length + [(s.1.extract (s.2.1).toNat (v10).toNat)].length) * 16 ≤ 140737488355328) then
            let v11 := s.2.2.2 ++ [(s.1.extract (s.2.1).toNat (v10).toNat)]
            let v12 := IntKind.i64.wrap (s.2.2.1 + 1)
            let v13 := IntKind.i64.wrap (s.2.2.1 + 1)
            some (.inl ((s.1, (v12, v13, v11))))
          else none
        else none
      else
        let v14 := IntKind.i64.wrap (s.2.2.1 + 1)
        some (.inl ((s.1, (s.2.1, v14, s.2.2.2))))
    else none
  else
    some (.inr (s.2.2.2))
def pat_spec_joParts_0 : Pat := { tmps := [.v .str, .any, .any, .own 1472, .v (.int .i64), .v (.int .i64), .any, .any, .any, .any, .any, .any, .any, .any, .any, .any, .any, .any, .any, .any, .any, .any, .any, .any, .any, .any, .any], blks := [(1472, .row true .str)] }
def outs_spec_joParts_0 : List (Exit × Pat) := [(.exit 0, { tmps := [.any, .any, .any, .own 1472, .any, .any, .any, .any, .any, .any, .any, .any, .any, .any, .any, .any, .any, .any, .any, .any, .any, .any, .any, .any, .any, .any, .any], blks := [(1472, .row true .str)] })]
noncomputable def F_spec_joParts (x : ByteArray) : Option ((List ByteArray)) :=
  match runL step_spec_joParts_0 ((x, (0, 0, []))) with
  | none => none
  | some o15 =>
    some (o15)
noncomputable def c_spec_joParts : Con := { ps := [(.val, .str)], rs := [(.io true, (.slice .str))], F := F_spec_joParts }
noncomputable def env_spec_joParts : Env := { par := [], dp := false, settle := [], con := fun _ => none, clo := fun _ => none, T := tinf Tryd.prog }
noncomputable def loops_spec_joParts : Nat → Option Loop := fun n => match n with | 4 => some { pat := pat_spec_joParts_0, outs := outs_spec_joParts_0, run := runL (step_spec_joParts_0) } | _ => none
theorem step_spec_joParts_0_eq (s : ByteArray × Int × Int × (List ByteArray)) : stepEv env_spec_joParts loops_spec_joParts pat_spec_joParts_0 outs_spec_joParts_0 Tryd.f22 4 s = step_spec_joParts_0 s := by kernel_rfl
theorem F_spec_joParts_eq (x : ByteArray) : Fev env_spec_joParts loops_spec_joParts c_spec_joParts.ps c_spec_joParts.rs Tryd.f22 x = F_spec_joParts x := by kernel_rfl
theorem env_spec_joParts_ok : EnvOK Tryd.prog env_spec_joParts := envOK_of (fun f c h => by cases h) (fun f c h => by cases h) rfl
theorem con_spec_joParts : ConOK Tryd.prog 22 c_spec_joParts := con_of_ev' (body := Tryd.f22.body.getD .skip) (Λ := loops_spec_joParts) mixed Tryd.func22 (by kernel_rfl) (by kernel_rfl) env_spec_joParts_ok (by kernel_rfl) (by kernel_rfl) (fun n L h => by
  unfold loops_spec_joParts at h
  split at h
  · cases h; exact fun s o ho => loop_ok (stepF := stepEv env_spec_joParts loops_spec_joParts pat_spec_joParts_0 outs_spec_joParts_0 Tryd.f22 4) (step_spec_joParts_0_eq) ho
  · cases h) F_spec_joParts_eq

noncomputable def step_spec_l1Split_0 (s : ByteArray × Int × Int × Int × (List ByteArray)) : Option ((ByteArray × Int × Int × Int × (List ByteArray)) ⊕ ((ByteArray × Int × (List ByteArray)))) :=
  bif (decide (s.2.2.2.1 < (s.1.size : Int))) then
    bif decide (0 ≤ s.2.2.2.1) && decide (s.2.2.2.1 < (s.1.size : Int)) then
      bif (((byteAt s.1 (s.2.2.2.1).toNat) == s.2.1)) then
        bif decide (0 ≤ s.2.2.1) && decide (s.2.2.1 ≤ s.2.2.2.1) && decide (s.2.2.2.1 ≤ (s.1.size : Int)) then
          bif decide ((s.2.2.2.2.length + [(s.1.extract (s.2.2.1).toNat (s.2.2.2.1).toNat)].length) * 16 ≤ 140737488355328) then
            let v8 := s.2.2.2.2 ++ [(s.1.extract (s.2.2.1).toNat (s.2.2.2.1).toNat)]
            let v9 := IntKind.i64.wrap (s.2.2.2.1 + 1)
            let v10 := IntKind.i64.wrap (s.2.2.2.1 + 1)
            some (.inl ((s.1, s.2.1, (v9, v10, v8))))
          else none
        else none
      else
        let v11 := IntKind.i64.wrap (s.2.2.2.1 + 1)
        some (.inl ((s.1, s.2.1, (s.2.2.1, v11, s.2.2.2.2))))
    else none
  else
    some (.inr ((s.1, s.2.2.1, s.2.2.2.2)))
def pat_spec_l1Split_0 : Pat := { tmps := [.v .str, .v (.int .u8), .any, .any, .any, .own 1600, .v (.int .i64), .v (.int .i64), .any, .any, .any, .any, .any, .any, .any, .any, .any, .any, .any, .any, .any, .any, .any, .any, .any, .any, .any, .any, .any, .any, .any, .any, .any, .any], blks := [(1600, .row true .str)] }
def outs_spec_l1Split_0 : List (Exit × Pat) := [(.exit 0, { tmps := [.v .str, .any, .any, .any, .any, .own 1600, .v (.int .i64), .any, .any, .any, .any, .any, .any, .any, .any, .any, .any, .any, .any, .any, .any, .any, .any, .any, .any, .any, .any, .any, .any, .any, .any, .any, .any, .any], blks := [(1600, .row true .str)] })]
noncomputable def F_spec_l1Split (x : ByteArray × Int) : Option ((List ByteArray)) :=
  match runL step_spec_l1Split_0 ((x.1, x.2, (0, 0, []))) with
  | none => none
  | some o12 =>
    bif decide (0 ≤ o12.2.1) && decide (o12.2.1 ≤ (o12.1.size : Int)) && decide ((o12.1.size : Int) ≤ (o12.1.size : Int)) then
      bif decide ((o12.2.2.length + [(o12.1.extract (o12.2.1).toNat ((o12.1.size : Int)).toNat)].length) * 16 ≤ 140737488355328) then
        let v13 := o12.2.2 ++ [(o12.1.extract (o12.2.1).toNat ((o12.1.size : Int)).toNat)]
        some (v13)
      else none
    else none
noncomputable def c_spec_l1Split : Con := { ps := [(.val, .str), (.val, (.int .u8))], rs := [(.io true, (.slice .str))], F := F_spec_l1Split }
noncomputable def env_spec_l1Split : Env := { par := [], dp := false, settle := [], con := fun _ => none, clo := fun _ => none, T := tinf Tryd.prog }
noncomputable def loops_spec_l1Split : Nat → Option Loop := fun n => match n with | 4 => some { pat := pat_spec_l1Split_0, outs := outs_spec_l1Split_0, run := runL (step_spec_l1Split_0) } | _ => none
theorem step_spec_l1Split_0_eq (s : ByteArray × Int × Int × Int × (List ByteArray)) : stepEv env_spec_l1Split loops_spec_l1Split pat_spec_l1Split_0 outs_spec_l1Split_0 Tryd.f28 4 s = step_spec_l1Split_0 s := by kernel_rfl
theorem F_spec_l1Split_eq (x : ByteArray × Int) : Fev env_spec_l1Split loops_spec_l1Split c_spec_l1Split.ps c_spec_l1Split.rs Tryd.f28 x = F_spec_l1Split x := by kernel_rfl
theorem env_spec_l1Split_ok : EnvOK Tryd.prog env_spec_l1Split := envOK_of (fun f c h => by cases h) (fun f c h => by cases h) rfl
theorem con_spec_l1Split : ConOK Tryd.prog 28 c_spec_l1Split := con_of_ev' (body := Tryd.f28.body.getD .skip) (Λ := loops_spec_l1Split) mixed Tryd.func28 (by kernel_rfl) (by kernel_rfl) env_spec_l1Split_ok (by kernel_rfl) (by kernel_rfl) (fun n L h => by
  unfold loops_spec_l1Split at h
  split at h
  · cases h; exact fun s o ho => loop_ok (stepF := stepEv env_spec_l1Split loops_spec_l1Split pat_spec_l1Split_0 outs_spec_l1Split_0 Tryd.f28 4) (step_spec_l1Split_0_eq) ho
  · cases h) F_spec_l1Split_eq

noncomputable def F_spec_l1In (x : Int × Int × Int) : Option (Bool) :=
  bif (decide (x.1 ≥ x.2.1)) then
    some ((decide (x.1 ≤ x.2.2)))
  else
    some (false)
noncomputable def c_spec_l1In : Con := { ps := [(.val, (.int .i64)), (.val, (.int .i64)), (.val, (.int .i64))], rs := [(.val, .bool)], F := F_spec_l1In }
noncomputable def env_spec_l1In : Env := { par := [], dp := false, settle := [], con := fun _ => none, clo := fun _ => none, T := tinf Tryd.prog }
noncomputable def loops_spec_l1In : Nat → Option Loop := fun n => none
theorem F_spec_l1In_eq (x : Int × Int × Int) : Fev env_spec_l1In loops_spec_l1In c_spec_l1In.ps c_spec_l1In.rs Tryd.f42 x = F_spec_l1In x := by kernel_rfl
theorem env_spec_l1In_ok : EnvOK Tryd.prog env_spec_l1In := envOK_of (fun f c h => by cases h) (fun f c h => by cases h) rfl
theorem con_spec_l1In : ConOK Tryd.prog 42 c_spec_l1In := con_of_ev' (body := Tryd.f42.body.getD .skip) (Λ := loops_spec_l1In) mixed Tryd.func42 (by kernel_rfl) (by kernel_rfl) env_spec_l1In_ok (by kernel_rfl) (by kernel_rfl) (fun n L h => by cases h) F_spec_l1In_eq

noncomputable def step_spec_l1Read_0 (s : ByteArray × Int × Int) : Option ((ByteArray × Int × Int) ⊕ ((Int) ⊕ (Int))) :=
  bif (decide (s.2.2 < (s.1.size : Int))) then
    bif decide (0 ≤ s.2.2) && decide (s.2.2 < (s.1.size : Int)) then
      bif (decide ((byteAt s.1 (s.2.2).toNat) < 48)) then
        some (.inr (.inl ((-1))))
      else
        bif decide (0 ≤ s.2.2) && decide (s.2.2 < (s.1.size : Int)) then
          bif (decide ((byteAt s.1 (s.2.2).toNat) > 57)) then
            some (.inr (.inl ((-1))))
          else
            let v18 := IntKind.i64.wrap (10 * s.2.1)
            bif decide (0 ≤ s.2.2) && decide (s.2.2 < (s.1.size : Int)) then
              let v19 := IntKind.u8.wrap ((byteAt s.1 (s.2.2).toNat) - 48)
              let v20 := IntKind.i64.wrap v19
              let v21 := IntKind.i64.wrap (v18 + v20)
              let v22 := IntKind.i64.wrap (s.2.2 + 1)
              some (.inl ((s.1, v21, v22)))
            else none
        else none
    else none
  else
    some (.inr (.inr (s.2.1)))
def pat_spec_l1Read_0 : Pat := { tmps := [.v .str, .any, .any, .v (.int .i64), .v (.int .i64), .any, .any, .any, .any, .any, .any, .any, .any, .any, .any, .any, .any, .any, .any, .any, .any, .any, .any, .any, .any, .any, .any, .any, .any, .any, .any, .any, .any, .any, .any, .any, .any, .any, .any, .any, .any, .any, .any, .any], blks := [] }
def outs_spec_l1Read_0 : List (Exit × Pat) := [(.ret, { tmps := [.any, .any, .v (.int .i64), .any, .any, .any, .any, .any, .any, .any, .any, .any, .any, .any, .any, .any, .any, .any, .any, .any, .any, .any, .any, .any, .any, .any, .any, .any, .any, .any, .any, .any, .any, .any, .any, .any, .any, .any, .any, .any, .any, .any, .any, .any], blks := [] }), (.exit 0, { tmps := [.any, .any, .any, .v (.int .i64), .any, .any, .any, .any, .any, .any, .any, .any, .any, .any, .any, .any, .any, .any, .any, .any, .any, .any, .any, .any, .any, .any, .any, .any, .any, .any, .any, .any, .any, .any, .any, .any, .any, .any, .any, .any, .any, .any, .any, .any], blks := [] })]
noncomputable def F_spec_l1Read (x : ByteArray) : Option (Int) :=
  match F_spec_l1In (((x.size : Int), 1, 6)) with
  | none => none
  | some y1 =>
    bif (!y1) then
      some ((-1))
    else
      bif decide (0 ≤ 0) && decide (0 < (x.size : Int)) then
        bif (((byteAt x (0 : Int).toNat) == 48)) then
          bif (decide ((x.size : Int) > 1)) then
            some ((-1))
          else
            match runL step_spec_l1Read_0 ((x, 0, 0)) with
            | none => none
            | some (.inl o12) =>
              some (o12)
            | some (.inr o12) =>
              some (o12)
        else
          match runL step_spec_l1Read_0 ((x, 0, 0)) with
          | none => none
          | some (.inl o23) =>
            some (o23)
          | some (.inr o23) =>
            some (o23)
      else none
noncomputable def c_spec_l1Read : Con := { ps := [(.val, .str)], rs := [(.val, (.int .i64))], F := F_spec_l1Read }
noncomputable def env_spec_l1Read : Env := { par := [], dp := false, settle := [], con := fun f => match f with | 42 => some c_spec_l1In | _ => none, clo := fun _ => none, T := tinf Tryd.prog }
noncomputable def loops_spec_l1Read : Nat → Option Loop := fun n => match n with | 5 => some { pat := pat_spec_l1Read_0, outs := outs_spec_l1Read_0, run := runL (step_spec_l1Read_0) } | _ => none
theorem step_spec_l1Read_0_eq (s : ByteArray × Int × Int) : stepEv env_spec_l1Read loops_spec_l1Read pat_spec_l1Read_0 outs_spec_l1Read_0 Tryd.f29 5 s = step_spec_l1Read_0 s := by kernel_rfl
theorem F_spec_l1Read_eq (x : ByteArray) : Fev env_spec_l1Read loops_spec_l1Read c_spec_l1Read.ps c_spec_l1Read.rs Tryd.f29 x = F_spec_l1Read x := by kernel_rfl
theorem env_spec_l1Read_ok : EnvOK Tryd.prog env_spec_l1Read := envOK_of (fun f c h => by
  simp only [env_spec_l1Read] at h
  split at h
  · cases h; exact con_spec_l1In
  · cases h) (fun f c h => by cases h) rfl
theorem con_spec_l1Read : ConOK Tryd.prog 29 c_spec_l1Read := con_of_ev' (body := Tryd.f29.body.getD .skip) (Λ := loops_spec_l1Read) mixed Tryd.func29 (by kernel_rfl) (by kernel_rfl) env_spec_l1Read_ok (by kernel_rfl) (by kernel_rfl) (fun n L h => by
  unfold loops_spec_l1Read at h
  split at h
  · cases h; exact fun s o ho => loop_ok (stepF := stepEv env_spec_l1Read loops_spec_l1Read pat_spec_l1Read_0 outs_spec_l1Read_0 Tryd.f29 5) (step_spec_l1Read_0_eq) ho
  · cases h) F_spec_l1Read_eq

noncomputable def step_spec_fsWord_0 (s : ByteArray × Int) : Option ((ByteArray × Int) ⊕ ((Bool) ⊕ (ByteArray))) :=
  bif (decide (s.2 < (s.1.size : Int))) then
    bif decide (0 ≤ s.2) && decide (s.2 < (s.1.size : Int)) then
      bif (decide ((byteAt s.1 (s.2).toNat) < 65)) then
        some (.inr (.inl (false)))
      else
        bif decide (0 ≤ s.2) && decide (s.2 < (s.1.size : Int)) then
          bif (decide ((byteAt s.1 (s.2).toNat) > 90)) then
            some (.inr (.inl (false)))
          else
            let v2 := IntKind.i64.wrap (s.2 + 1)
            some (.inl ((s.1, v2)))
        else none
    else none
  else
    some (.inr (.inr (s.1)))
def pat_spec_fsWord_0 : Pat := { tmps := [.v .str, .any, .any, .v (.int .i64), .any, .any, .any, .any, .any, .any, .any, .any, .any, .any, .any, .any, .any, .any, .any, .any, .any, .any, .any], blks := [] }
def outs_spec_fsWord_0 : List (Exit × Pat) := [(.ret, { tmps := [.any, .any, .v .bool, .any, .any, .any, .any, .any, .any, .any, .any, .any, .any, .any, .any, .any, .any, .any, .any, .any, .any, .any, .any], blks := [] }), (.exit 0, { tmps := [.v .str, .any, .any, .any, .any, .any, .any, .any, .any, .any, .any, .any, .any, .any, .any, .any, .any, .any, .any, .any, .any, .any, .any], blks := [] })]
noncomputable def F_spec_fsWord (x : ByteArray) : Option (Bool) :=
  match runL step_spec_fsWord_0 ((x, 0)) with
  | none => none
  | some (.inl o3) =>
    some (o3)
  | some (.inr o3) =>
    match F_spec_l1In (((o3.size : Int), 1, 8)) with
    | none => none
    | some y4 =>
      some (y4)
noncomputable def c_spec_fsWord : Con := { ps := [(.val, .str)], rs := [(.val, .bool)], F := F_spec_fsWord }
noncomputable def env_spec_fsWord : Env := { par := [], dp := false, settle := [], con := fun f => match f with | 42 => some c_spec_l1In | _ => none, clo := fun _ => none, T := tinf Tryd.prog }
noncomputable def loops_spec_fsWord : Nat → Option Loop := fun n => match n with | 2 => some { pat := pat_spec_fsWord_0, outs := outs_spec_fsWord_0, run := runL (step_spec_fsWord_0) } | _ => none
theorem step_spec_fsWord_0_eq (s : ByteArray × Int) : stepEv env_spec_fsWord loops_spec_fsWord pat_spec_fsWord_0 outs_spec_fsWord_0 Tryd.f43 2 s = step_spec_fsWord_0 s := by kernel_rfl
theorem F_spec_fsWord_eq (x : ByteArray) : Fev env_spec_fsWord loops_spec_fsWord c_spec_fsWord.ps c_spec_fsWord.rs Tryd.f43 x = F_spec_fsWord x := by kernel_rfl
theorem env_spec_fsWord_ok : EnvOK Tryd.prog env_spec_fsWord := envOK_of (fun f c h => by
  simp only [env_spec_fsWord] at h
  split at h
  · cases h; exact con_spec_l1In
  · cases h) (fun f c h => by cases h) rfl
theorem con_spec_fsWord : ConOK Tryd.prog 43 c_spec_fsWord := con_of_ev' (body := Tryd.f43.body.getD .skip) (Λ := loops_spec_fsWord) mixed Tryd.func43 (by kernel_rfl) (by kernel_rfl) env_spec_fsWord_ok (by kernel_rfl) (by kernel_rfl) (fun n L h => by
  unfold loops_spec_fsWord at h
  split at h
  · cases h; exact fun s o ho => loop_ok (stepF := stepEv env_spec_fsWord loops_spec_fsWord pat_spec_fsWord_0 outs_spec_fsWord_0 Tryd.f43 2) (step_spec_fsWord_0_eq) ho
  · cases h) F_spec_fsWord_eq

noncomputable def F_spec_joOne (x : (Int × (ByteArray × Bool))) : Option (Bool) :=
  match F_spec_l1In ((x.1, 1, 999)) with
  | none => none
  | some y1 =>
    bif y1 then
      match F_spec_fsWord (x.2.1) with
      | none => none
      | some y2 =>
        some (y2)
    else
      some (false)
noncomputable def c_spec_joOne : Con := { ps := [(.val, (.st (.pair (.int .i64) (.pair .str .bool))))], rs := [(.val, .bool)], F := F_spec_joOne }
noncomputable def env_spec_joOne : Env := { par := [], dp := false, settle := [], con := fun f => match f with | 42 => some c_spec_l1In | 43 => some c_spec_fsWord | _ => none, clo := fun _ => none, T := tinf Tryd.prog }
noncomputable def loops_spec_joOne : Nat → Option Loop := fun n => none
theorem F_spec_joOne_eq (x : (Int × (ByteArray × Bool))) : Fev env_spec_joOne loops_spec_joOne c_spec_joOne.ps c_spec_joOne.rs Tryd.f30 x = F_spec_joOne x := by kernel_rfl
theorem env_spec_joOne_ok : EnvOK Tryd.prog env_spec_joOne := envOK_of (fun f c h => by
  simp only [env_spec_joOne] at h
  split at h
  · cases h; exact con_spec_l1In
  · cases h; exact con_spec_fsWord
  · cases h) (fun f c h => by cases h) rfl
theorem con_spec_joOne : ConOK Tryd.prog 30 c_spec_joOne := con_of_ev' (body := Tryd.f30.body.getD .skip) (Λ := loops_spec_joOne) mixed Tryd.func30 (by kernel_rfl) (by kernel_rfl) env_spec_joOne_ok (by kernel_rfl) (by kernel_rfl) (fun n L h => by cases h) F_spec_joOne_eq


noncomputable def step_spec_joLine_0 (s : ByteArray × Int × Int) : Option ((ByteArray × Int × Int) ⊕ ((ByteArray × Int))) :=
  bif (decide (s.2.2 < (s.1.size : Int))) then
    let v20 := IntKind.i64.wrap (7 * s.2.1)
    bif decide (0 ≤ s.2.2) && decide (s.2.2 < (s.1.size : Int)) then
      let v21 := IntKind.i64.wrap (byteAt s.1 (s.2.2).toNat)
      let v22 := IntKind.i64.wrap (v20 + v21)
      bif !decide (9973 = 0) then
        let v23 := (v22).tmod 9973
        let v24 := IntKind.i64.wrap (s.2.2 + 1)
        some (.inl ((s.1, v23, v24)))
      else none
    else none
  else
    some (.inr ((s.1, s.2.1)))
def pat_spec_joLine_0 : Pat := { tmps := [.any, .any, .any, .v .str, .v (.int .i64), .v (.int .i64), .any, .any, .any, .any, .any, .any, .any, .any, .any, .any, .any, .any, .any, .any, .any, .any, .any, .any, .any, .any, .any, .any, .any, .any, .any, .any, .any, .any, .any, .any, .any, .any, .any, .any, .any, .any], blks := [] }
def outs_spec_joLine_0 : List (Exit × Pat) := [(.exit 0, { tmps := [.any, .any, .any, .v .str, .v (.int .i64), .any, .any, .any, .any, .any, .any, .any, .any, .any, .any, .any, .any, .any, .any, .any, .any, .any, .any, .any, .any, .any, .any, .any, .any, .any, .any, .any, .any, .any, .any, .any, .any, .any, .any, .any, .any, .any], blks := [] })]
noncomputable def F_spec_joLine (x : (Int × (ByteArray × Bool))) : Option (ByteArray) :=
  match F_spec_l1Num (x.1) with
  | none => none
  | some y1 =>
    bif decide (y1.size + (⟨#[43]⟩ : ByteArray).size ≤ 9223372036854775807) then
      bif decide ((y1 ++ (⟨#[43]⟩ : ByteArray)).size + x.2.1.size ≤ 9223372036854775807) then
        bif x.2.2 then
          match F_spec_l1Num (x.1) with
          | none => none
          | some y2 =>
            bif decide (y2.size + (⟨#[45]⟩ : ByteArray).size ≤ 9223372036854775807) then
              bif decide ((y2 ++ (⟨#[45]⟩ : ByteArray)).size + x.2.1.size ≤ 9223372036854775807) then
                match runL step_spec_joLine_0 ((((y2 ++ (⟨#[45]⟩ : ByteArray)) ++ x.2.1), 3, 0)) with
                | none => none
                | some o13 =>
                  bif decide (o13.1.size + (⟨#[46]⟩ : ByteArray).size ≤ 9223372036854775807) then
                    match F_spec_l1Num (o13.2) with
                    | none => none
                    | some y14 =>
                      bif decide ((o13.1 ++ (⟨#[46]⟩ : ByteArray)).size + y14.size ≤ 9223372036854775807) then
                        bif decide (((o13.1 ++ (⟨#[46]⟩ : ByteArray)) ++ y14).size + (⟨#[10]⟩ : ByteArray).size ≤ 9223372036854775807) then
                          some ((((o13.1 ++ (⟨#[46]⟩ : ByteArray)) ++ y14) ++ (⟨#[10]⟩ : ByteArray)))
                        else none
                      else none
                  else none
              else none
            else none
        else
          match runL step_spec_joLine_0 ((((y1 ++ (⟨#[43]⟩ : ByteArray)) ++ x.2.1), 3, 0)) with
          | none => none
          | some o25 =>
            bif decide (o25.1.size + (⟨#[46]⟩ : ByteArray).size ≤ 9223372036854775807) then
              match F_spec_l1Num (o25.2) with
              | none => none
              | some y26 =>
                bif decide ((o25.1 ++ (⟨#[46]⟩ : ByteArray)).size + y26.size ≤ 9223372036854775807) then
                  bif decide (((o25.1 ++ (⟨#[46]⟩ : ByteArray)) ++ y26).size + (⟨#[10]⟩ : ByteArray).size ≤ 9223372036854775807) then
                    some ((((o25.1 ++ (⟨#[46]⟩ : ByteArray)) ++ y26) ++ (⟨#[10]⟩ : ByteArray)))
                  else none
                else none
            else none
      else none
    else none
noncomputable def c_spec_joLine : Con := { ps := [(.val, (.st (.pair (.int .i64) (.pair .str .bool))))], rs := [(.val, .str)], F := F_spec_joLine }
noncomputable def env_spec_joLine : Env := { par := [], dp := false, settle := [], con := fun f => match f with | 44 => some c_spec_l1Num | _ => none, clo := fun _ => none, T := tinf Tryd.prog }
noncomputable def loops_spec_joLine : Nat → Option Loop := fun n => match n with | 6 => some { pat := pat_spec_joLine_0, outs := outs_spec_joLine_0, run := runL (step_spec_joLine_0) } | _ => none
theorem step_spec_joLine_0_eq (s : ByteArray × Int × Int) : stepEv env_spec_joLine loops_spec_joLine pat_spec_joLine_0 outs_spec_joLine_0 Tryd.f31 6 s = step_spec_joLine_0 s := by kernel_rfl
theorem F_spec_joLine_eq (x : (Int × (ByteArray × Bool))) : Fev env_spec_joLine loops_spec_joLine c_spec_joLine.ps c_spec_joLine.rs Tryd.f31 x = F_spec_joLine x := by kernel_rfl
theorem env_spec_joLine_ok : EnvOK Tryd.prog env_spec_joLine := envOK_of (fun f c h => by
  simp only [env_spec_joLine] at h
  split at h
  · cases h; exact con_spec_l1Num
  · cases h) (fun f c h => by cases h) rfl
theorem con_spec_joLine : ConOK Tryd.prog 31 c_spec_joLine := con_of_ev' (body := Tryd.f31.body.getD .skip) (Λ := loops_spec_joLine) mixed Tryd.func31 (by kernel_rfl) (by kernel_rfl) env_spec_joLine_ok (by kernel_rfl) (by kernel_rfl) (fun n L h => by
  unfold loops_spec_joLine at h
  split at h
  · cases h; exact fun s o ho => loop_ok (stepF := stepEv env_spec_joLine loops_spec_joLine pat_spec_joLine_0 outs_spec_joLine_0 Tryd.f31 6) (step_spec_joLine_0_eq) ho
  · cases h) F_spec_joLine_eq

noncomputable def step_spec_joParse_0 (s : ByteArray × Int × Int × ByteArray × Bool) : Option ((ByteArray × Int × Int × ByteArray × Bool) ⊕ ((Bool × Int × ByteArray × Bool) ⊕ (Int × ByteArray × Bool))) :=
  bif (decide (s.2.1 < (s.1.size : Int))) then
    bif (decide (s.2.1 < 4)) then
      bif decide (0 ≤ s.2.1) && decide (s.2.1 < (s.1.size : Int)) then
        bif (((byteAt s.1 (s.2.1).toNat) != 43)) then
          bif decide (0 ≤ s.2.1) && decide (s.2.1 < (s.1.size : Int)) then
            bif (((byteAt s.1 (s.2.1).toNat) != 45)) then
              let v12 := IntKind.i64.wrap (s.2.1 + 1)
              some (.inl ((s.1, v12, s.2.2)))
            else
              let v13 := IntKind.i64.wrap (s.2.1 + 1)
              bif decide (0 ≤ v13) && decide (v13 ≤ (s.1.size : Int)) && decide ((s.1.size : Int) ≤ (s.1.size : Int)) then
                match F_spec_l1Split (((s.1.extract (v13).toNat ((s.1.size : Int)).toNat), 46)) with
                | none => none
                | some y14 =>
                  bif decide (0 ≤ (0 : Int)) && decide ((0 : Int) ≤ s.2.1) && decide (s.2.1 ≤ (s.1.size : Int)) then
                    bif decide (0 ≤ 0) && decide (0 < (y14.length : Int)) then
                      bif decide (0 ≤ s.2.1) && decide (s.2.1 < (s.1.size : Int)) then
                        match F_spec_l1Read ((s.1.extract ((0 : Int)).toNat (s.2.1).toNat)) with
                        | none => none
                        | some y15 =>
                          match F_spec_joOne ((y15, (y14.getD (0 : Int).toNat ByteArray.empty), (((byteAt s.1 (s.2.1).toNat) == 45)))) with
                          | none => none
                          | some y16 =>
                            bif y16 then
                              match F_spec_joLine ((y15, (y14.getD (0 : Int).toNat ByteArray.empty), (((byteAt s.1 (s.2.1).toNat) == 45)))) with
                              | none => none
                              | some y17 =>
                                bif (y17.toList == s.1.toList) then
                                  some (.inr (.inl ((true, (y15, (y14.getD (0 : Int).toNat ByteArray.empty), (((byteAt s.1 (s.2.1).toNat) == 45)))))))
                                else
                                  some (.inr (.inr (s.2.2)))
                            else
                              some (.inr (.inr (s.2.2)))
                      else none
                    else none
                  else none
              else none
          else none
        else
          let v18 := IntKind.i64.wrap (s.2.1 + 1)
          bif decide (0 ≤ v18) && decide (v18 ≤ (s.1.size : Int)) && decide ((s.1.size : Int) ≤ (s.1.size : Int)) then
            match F_spec_l1Split (((s.1.extract (v18).toNat ((s.1.size : Int)).toNat), 46)) with
            | none => none
            | some y19 =>
              bif decide (0 ≤ (0 : Int)) && decide ((0 : Int) ≤ s.2.1) && decide (s.2.1 ≤ (s.1.size : Int)) then
                bif decide (0 ≤ 0) && decide (0 < (y19.length : Int)) then
                  bif decide (0 ≤ s.2.1) && decide (s.2.1 < (s.1.size : Int)) then
                    match F_spec_l1Read ((s.1.extract ((0 : Int)).toNat (s.2.1).toNat)) with
                    | none => none
                    | some y20 =>
                      match F_spec_joOne ((y20, (y19.getD (0 : Int).toNat ByteArray.empty), (((byteAt s.1 (s.2.1).toNat) == 45)))) with
                      | none => none
                      | some y21 =>
                        bif y21 then
                          match F_spec_joLine ((y20, (y19.getD (0 : Int).toNat ByteArray.empty), (((byteAt s.1 (s.2.1).toNat) == 45)))) with
                          | none => none
                          | some y22 =>
                            bif (y22.toList == s.1.toList) then
                              some (.inr (.inl ((true, (y20, (y19.getD (0 : Int).toNat ByteArray.empty), (((byteAt s.1 (s.2.1).toNat) == 45)))))))
                            else
                              some (.inr (.inr (s.2.2)))
                        else
                          some (.inr (.inr (s.2.2)))
                  else none
                else none
              else none
          else none
      else none
    else
      some (.inr (.inr (s.2.2)))
  else
    some (.inr (.inr (s.2.2)))
def pat_spec_joParse_0 : Pat := { tmps := [.v .str, .any, .ptr 128 0, .any, .v (.int .i64), .any, .any, .any, .any, .any, .any, .any, .any, .any, .any, .any, .any, .any, .any, .any, .any, .any, .any, .any, .any, .any, .any, .any, .any, .any, .any, .any, .any, .any, .any, .any, .any, .any, .any, .any, .any, .any, .any, .any, .any, .any, .any, .any, .any, .any, .any, .any, .any, .any], blks := [(128, .box [.v (.int .i64), .v .str, .v .bool])] }
def outs_spec_joParse_0 : List (Exit × Pat) := [(.ret, { tmps := [.any, .any, .ptr 128 0, .v .bool, .any, .any, .any, .any, .any, .any, .any, .any, .any, .any, .any, .any, .any, .any, .any, .any, .any, .any, .any, .any, .any, .any, .any, .any, .any, .any, .any, .any, .any, .any, .any, .any, .any, .any, .any, .any, .any, .any, .any, .any, .any, .any, .any, .any, .any, .any, .any, .any, .any, .any], blks := [(128, .box [.v (.int .i64), .v .str, .v .bool])] }), (.exit 0, { tmps := [.any, .any, .ptr 128 0, .any, .any, .any, .any, .any, .any, .any, .any, .any, .any, .any, .any, .any, .any, .any, .any, .any, .any, .any, .any, .any, .any, .any, .any, .any, .any, .any, .any, .any, .any, .any, .any, .any, .any, .any, .any, .any, .any, .any, .any, .any, .any, .any, .any, .any, .any, .any, .any, .any, .any, .any], blks := [(128, .box [.v (.int .i64), .v .str, .v .bool])] })]
noncomputable def F_spec_joParse (x : ByteArray) : Option ((Int × (ByteArray × Bool)) × Bool) :=
  match runL step_spec_joParse_0 ((x, 0, (0, ByteArray.empty, false))) with
  | none => none
  | some (.inl o23) =>
    some ((o23.2, o23.1))
  | some (.inr o23) =>
    some (((0, ByteArray.empty, false), false))
noncomputable def c_spec_joParse : Con := { ps := [(.val, .str)], rs := [(.val, (.st (.pair (.int .i64) (.pair .str .bool)))), (.val, .bool)], F := F_spec_joParse }
noncomputable def env_spec_joParse : Env := { par := [], dp := false, settle := [], con := fun f => match f with | 28 => some c_spec_l1Split | 29 => some c_spec_l1Read | 30 => some c_spec_joOne | 31 => some c_spec_joLine | _ => none, clo := fun _ => none, T := tinf Tryd.prog }
noncomputable def loops_spec_joParse : Nat → Option Loop := fun n => match n with | 2 => some { pat := pat_spec_joParse_0, outs := outs_spec_joParse_0, run := runL (step_spec_joParse_0) } | _ => none
theorem step_spec_joParse_0_eq (s : ByteArray × Int × Int × ByteArray × Bool) : stepEv env_spec_joParse loops_spec_joParse pat_spec_joParse_0 outs_spec_joParse_0 Tryd.f16 2 s = step_spec_joParse_0 s := by kernel_rfl
theorem F_spec_joParse_eq (x : ByteArray) : Fev env_spec_joParse loops_spec_joParse c_spec_joParse.ps c_spec_joParse.rs Tryd.f16 x = F_spec_joParse x := by kernel_rfl
theorem env_spec_joParse_ok : EnvOK Tryd.prog env_spec_joParse := envOK_of (fun f c h => by
  simp only [env_spec_joParse] at h
  split at h
  · cases h; exact con_spec_l1Split
  · cases h; exact con_spec_l1Read
  · cases h; exact con_spec_joOne
  · cases h; exact con_spec_joLine
  · cases h) (fun f c h => by cases h) rfl
theorem con_spec_joParse : ConOK Tryd.prog 16 c_spec_joParse := con_of_ev' (body := Tryd.f16.body.getD .skip) (Λ := loops_spec_joParse) mixed Tryd.func16 (by kernel_rfl) (by kernel_rfl) env_spec_joParse_ok (by kernel_rfl) (by kernel_rfl) (fun n L h => by
  unfold loops_spec_joParse at h
  split at h
  · cases h; exact fun s o ho => loop_ok (stepF := stepEv env_spec_joParse loops_spec_joParse pat_spec_joParse_0 outs_spec_joParse_0 Tryd.f16 2) (step_spec_joParse_0_eq) ho
  · cases h) F_spec_joParse_eq

noncomputable def F_spec_joNext (x : (List (Int × (ByteArray × Bool))) × (Int × (ByteArray × Bool))) : Option (Bool) :=
  bif (decide ((x.1.length : Int) < 40)) then
    bif (((x.1.length : Int) == 0)) then
      some (true)
    else
      let v1 := IntKind.i64.wrap ((x.1.length : Int) - 1)
      bif decide (0 ≤ v1) && decide (v1 < (x.1.length : Int)) then
        some ((decide ((x.1.getD (v1).toNat (0, ByteArray.empty, false)).1 < x.2.1)))
      else none
  else
    some (false)
noncomputable def c_spec_joNext : Con := { ps := [(.val, (.slice (.st (.pair (.int .i64) (.pair .str .bool))))), (.val, (.st (.pair (.int .i64) (.pair .str .bool))))], rs := [(.val, .bool)], F := F_spec_joNext }
noncomputable def env_spec_joNext : Env := { par := [], dp := false, settle := [], con := fun _ => none, clo := fun _ => none, T := tinf Tryd.prog }
noncomputable def loops_spec_joNext : Nat → Option Loop := fun n => none
theorem F_spec_joNext_eq (x : (List (Int × (ByteArray × Bool))) × (Int × (ByteArray × Bool))) : Fev env_spec_joNext loops_spec_joNext c_spec_joNext.ps c_spec_joNext.rs Tryd.f23 x = F_spec_joNext x := by kernel_rfl
theorem env_spec_joNext_ok : EnvOK Tryd.prog env_spec_joNext := envOK_of (fun f c h => by cases h) (fun f c h => by cases h) rfl
theorem con_spec_joNext : ConOK Tryd.prog 23 c_spec_joNext := con_of_ev' (body := Tryd.f23.body.getD .skip) (Λ := loops_spec_joNext) mixed Tryd.func23 (by kernel_rfl) (by kernel_rfl) env_spec_joNext_ok (by kernel_rfl) (by kernel_rfl) (fun n L h => by cases h) F_spec_joNext_eq

noncomputable def step_spec_SalvageEdits_0 (s : Int × Int × (List ByteArray) × (List (Int × (ByteArray × Bool)))) : Option ((Int × Int × (List ByteArray) × (List (Int × (ByteArray × Bool)))) ⊕ (((List (Int × (ByteArray × Bool)))))) :=
  bif (decide (s.2.1 < s.1)) then
    bif decide (0 ≤ s.2.1) && decide (s.2.1 < (s.2.2.1.length : Int)) then
      match F_spec_joParse ((s.2.2.1.getD (s.2.1).toNat ByteArray.empty)) with
      | none => none
      | some y13 =>
        bif y13.2 then
          match F_spec_joNext ((s.2.2.2, y13.1)) with
          | none => none
          | some y14 =>
            bif y14 then
              bif decide ((s.2.2.2.length + [y13.1].length) * 32 ≤ 140737488355328) then
                let v15 := s.2.2.2 ++ [y13.1]
                let v16 := IntKind.i64.wrap (s.2.1 + 1)
                some (.inl ((s.1, (v16, s.2.2.1, v15))))
              else none
            else
              let v17 := IntKind.i64.wrap (s.2.1 + 1)
              some (.inl ((s.1, v17, s.2.2)))
        else
          let v18 := IntKind.i64.wrap (s.2.1 + 1)
          some (.inl ((s.1, v18, s.2.2)))
    else none
  else
    some (.inr (s.2.2.2))
def pat_spec_SalvageEdits_0 : Pat := { tmps := [.any, .any, .any, .any, .own 2112, .any, .any, .any, .any, .any, .any, .any, .any, .own 832, .v (.int .i64), .v (.int .i64), .any, .any, .any, .any, .any, .any, .any, .any, .any, .any, .any, .any, .any, .any, .any, .any, .any, .any, .any, .any], blks := [(832, .row true .str), (2112, .row true (.st (.pair (.int .i64) (.pair .str .bool))))] }
def outs_spec_SalvageEdits_0 : List (Exit × Pat) := [(.exit 0, { tmps := [.any, .any, .any, .any, .own 2112, .any, .any, .any, .any, .any, .any, .any, .any, .any, .any, .any, .any, .any, .any, .any, .any, .any, .any, .any, .any, .any, .any, .any, .any, .any, .any, .any, .any, .any, .any, .any], blks := [(2112, .row true (.st (.pair (.int .i64) (.pair .str .bool))))] })]
noncomputable def F_spec_SalvageEdits (x : ByteArray) : Option ((List (Int × (ByteArray × Bool))) × Bool) :=
  bif (decide ((x.size : Int) > 2000)) then
    some (([], false))
  else
    match F_spec_joParts (x) with
    | none => none
    | some y1 =>
      match runL step_spec_SalvageEdits_0 (((y1.length : Int), (0, y1, []))) with
      | none => none
      | some o19 =>
        some ((o19, true))
noncomputable def c_spec_SalvageEdits : Con := { ps := [(.val, .str)], rs := [(.io true, (.slice (.st (.pair (.int .i64) (.pair .str .bool))))), (.val, .bool)], F := F_spec_SalvageEdits }
noncomputable def env_spec_SalvageEdits : Env := { par := [], dp := false, settle := [], con := fun f => match f with | 16 => some c_spec_joParse | 22 => some c_spec_joParts | 23 => some c_spec_joNext | _ => none, clo := fun _ => none, T := tinf Tryd.prog }
noncomputable def loops_spec_SalvageEdits : Nat → Option Loop := fun n => match n with | 5 => some { pat := pat_spec_SalvageEdits_0, outs := outs_spec_SalvageEdits_0, run := runL (step_spec_SalvageEdits_0) } | _ => none
theorem step_spec_SalvageEdits_0_eq (s : Int × Int × (List ByteArray) × (List (Int × (ByteArray × Bool)))) : stepEv env_spec_SalvageEdits loops_spec_SalvageEdits pat_spec_SalvageEdits_0 outs_spec_SalvageEdits_0 Tryd.f9 5 s = step_spec_SalvageEdits_0 s := by kernel_rfl
theorem F_spec_SalvageEdits_eq (x : ByteArray) : Fev env_spec_SalvageEdits loops_spec_SalvageEdits c_spec_SalvageEdits.ps c_spec_SalvageEdits.rs Tryd.f9 x = F_spec_SalvageEdits x := by kernel_rfl
theorem env_spec_SalvageEdits_ok : EnvOK Tryd.prog env_spec_SalvageEdits := envOK_of (fun f c h => by
  simp only [env_spec_SalvageEdits] at h
  split at h
  · cases h; exact con_spec_joParse
  · cases h; exact con_spec_joParts
  · cases h; exact con_spec_joNext
  · cases h) (fun f c h => by cases h) rfl
theorem con_spec_SalvageEdits : ConOK Tryd.prog 9 c_spec_SalvageEdits := con_of_ev' (body := Tryd.f9.body.getD .skip) (Λ := loops_spec_SalvageEdits) mixed Tryd.func9 (by kernel_rfl) (by kernel_rfl) env_spec_SalvageEdits_ok (by kernel_rfl) (by kernel_rfl) (fun n L h => by
  unfold loops_spec_SalvageEdits at h
  split at h
  · cases h; exact fun s o ho => loop_ok (stepF := stepEv env_spec_SalvageEdits loops_spec_SalvageEdits pat_spec_SalvageEdits_0 outs_spec_SalvageEdits_0 Tryd.f9 5) (step_spec_SalvageEdits_0_eq) ho
  · cases h) F_spec_SalvageEdits_eq

theorem IndexAny_ex : ∃ f : ByteArray × ByteArray → Option Int, f = fun x => bif decide (x.1.size < 4294967281) && decide (x.2 = pm) then some (Lib.indexAny x.1.data.toList [43, 45]) else none := ⟨_, rfl⟩
noncomputable def F_strings_IndexAny : ByteArray × ByteArray → Option Int := Classical.choose IndexAny_ex
theorem F_strings_IndexAny_is (x : ByteArray × ByteArray) : F_strings_IndexAny x = bif decide (x.1.size < 4294967281) && decide (x.2 = pm) then some (Lib.indexAny x.1.data.toList [43, 45]) else none := congrFun (Classical.choose_spec IndexAny_ex) x
noncomputable def c_strings_IndexAny : Con := { ps := [(.val, .str), (.val, .str)], rs := [(.val, .int .i64)], F := F_strings_IndexAny }
theorem calls_F_strings_IndexAny (w : World) (s t : ByteArray) (y : Int) (hy : F_strings_IndexAny (s, t) = some y) : Calls Tryd.prog 17 #[.string s, .string t] w fun e w' => e = .returned (.int .i64 y) ∧ Fr NoB w w' := by
  rw [F_strings_IndexAny_is] at hy
  obtain ⟨hg, hy⟩ := bif_none hy
  have hg : (decide (s.size < 4294967281) && decide (t = pm)) = true := hg
  obtain ⟨h0, h1⟩ := and_b hg
  have h0 : s.size < 4294967281 := of_decide_eq_true h0
  have h1 : t = pm := of_decide_eq_true h1
  subst h1
  have e : y = Lib.indexAny s.data.toList [43, 45] := (Option.some.inj hy).symm
  subst e
  refine (idxAny s h0 w).mono ?_
  rintro e w' ⟨rfl, hw⟩
  exact ⟨rfl, fr_of_below hw⟩
theorem con_strings_IndexAny : ConOK Tryd.prog 17 c_strings_IndexAny := con_of_pure ⟨Tryd.f17, Tryd.func17, by kernel_rfl, by kernel_rfl⟩ rfl rfl fun w x y hy _ => calls_F_strings_IndexAny w x.1 x.2 y hy

set_option maxHeartbeats 1000000 in
theorem calls_strings_IndexByte (s : ByteArray) (c : Int) (w : World) :
    Calls Tryd.prog 18 #[.string s, .int .u8 c] w fun e w' => e = .returned (.int .i64 (Lib.indexByte s.data.toList c.toNat.toUInt8)) ∧ w' = w := by
  go_enter Tryd.func18, Tryd.ntmps18
  go_wp2
  rw [run_callFunc_extern Tryd.func48 (by kernel_rfl) (by kernel_rfl) (by kernel_rfl) (e := Extern.BytealgIndexByte.indexByte) (by kernel_rfl), Lib.run_indexByteString]
  simp only [Result.andThen]
  rw [Oper.upon_value]
  go_wp2
  go_ret
  exact ⟨rfl, rfl⟩
def F_strings_IndexByte (x : ByteArray × Int) : Option Int := some (Lib.indexByte x.1.data.toList x.2.toNat.toUInt8)
def c_strings_IndexByte : Con := { ps := [(.val, .str), (.val, .int .u8)], rs := [(.val, .int .i64)], F := F_strings_IndexByte }
theorem con_strings_IndexByte : ConOK Tryd.prog 18 c_strings_IndexByte := con_of_pure ⟨Tryd.f18, Tryd.func18, by kernel_rfl, by kernel_rfl⟩ rfl rfl fun w x y hy _ => by
  have e : y = Lib.indexByte x.1.data.toList x.2.toNat.toUInt8 := (Option.some.inj hy).symm
  subst e
  refine (calls_strings_IndexByte x.1 x.2 w).mono ?_
  rintro e w' ⟨rfl, rfl⟩
  exact ⟨rfl, Fr.refl _ _⟩

theorem decimal_ex : ∃ f : ByteArray → Option (Int × Bool), f = fun x => bif decide (x.size ≤ 281474976710656) then some (decOf x) else none := ⟨_, rfl⟩
noncomputable def F_impl_decimal : ByteArray → Option (Int × Bool) := Classical.choose decimal_ex
theorem F_impl_decimal_is (x : ByteArray) : F_impl_decimal x = bif decide (x.size ≤ 281474976710656) then some (decOf x) else none := congrFun (Classical.choose_spec decimal_ex) x
noncomputable def c_impl_decimal : Con := { ps := [(.val, .str)], rs := [(.val, .int .i64), (.val, .bool)], F := F_impl_decimal }
theorem var_of_ifc {w : World} (ht : Tabs Tryd.prog w) {q : String} (hq : q ∈ ifcList) : ∃ tp p, w.var? Tryd.prog q = some #[.iface tp p] := (ht.2.2.2 q hq).2
theorem calls_F_impl_decimal (w : World) (s : ByteArray) (y : Int × Bool) (hy : F_impl_decimal s = some y) (ht : Tabs Tryd.prog w) : Calls Tryd.prog 19 #[.string s] w fun e w' => e = .returned (.tuple #[.int .i64 y.1, .bool y.2]) ∧ Fr NoB w w' := by
  rw [F_impl_decimal_is] at hy
  obtain ⟨hg, hy⟩ := bif_none hy
  have h0 : s.size ≤ 281474976710656 := of_decide_eq_true hg
  have e : y = decOf s := (Option.some.inj hy).symm
  subst e
  refine (calls_decimal s h0 w (var_of_ifc ht (by simp [ifcList])) (var_of_ifc ht (by simp [ifcList])) fun w' hw => (((fr_of_below hw).tabs ht).1 _ (List.mem_cons_self ..)).2).mono ?_
  rintro e w' ⟨rfl, hw⟩
  exact ⟨rfl, fr_of_below hw⟩
theorem con_impl_decimal : ConOK Tryd.prog 19 c_impl_decimal := con_of_pure ⟨Tryd.f19, Tryd.func19, by kernel_rfl, by kernel_rfl⟩ rfl rfl fun w x y hy ht => calls_F_impl_decimal w x y hy ht

noncomputable def F_impl_within (x : Int × Int × Int) : Option (Bool) :=
  bif (decide (x.1 ≥ x.2.1)) then
    some ((decide (x.1 ≤ x.2.2)))
  else
    some (false)
noncomputable def c_impl_within : Con := { ps := [(.val, (.int .i64)), (.val, (.int .i64)), (.val, (.int .i64))], rs := [(.val, .bool)], F := F_impl_within }
noncomputable def env_impl_within : Env := { par := [], dp := false, settle := [], con := fun _ => none, clo := fun _ => none, T := tinf Tryd.prog }
noncomputable def loops_impl_within : Nat → Option Loop := fun n => none
theorem F_impl_within_eq (x : Int × Int × Int) : Fev env_impl_within loops_impl_within c_impl_within.ps c_impl_within.rs Tryd.f39 x = F_impl_within x := by kernel_rfl
theorem env_impl_within_ok : EnvOK Tryd.prog env_impl_within := envOK_of (fun f c h => by cases h) (fun f c h => by cases h) rfl
theorem con_impl_within : ConOK Tryd.prog 39 c_impl_within := con_of_ev' (body := Tryd.f39.body.getD .skip) (Λ := loops_impl_within) mixed Tryd.func39 (by kernel_rfl) (by kernel_rfl) env_impl_within_ok (by kernel_rfl) (by kernel_rfl) (fun n L h => by cases h) F_impl_within_eq

noncomputable def step_impl_hasOnly_0 (s : ByteArray × ByteArray × Int × Int) : Option ((ByteArray × ByteArray × Int × Int) ⊕ ((Bool) ⊕ (Unit))) :=
  bif (decide (s.2.2.2 < s.2.2.1)) then
    bif decide (0 ≤ s.2.2.2) && decide (s.2.2.2 < (s.1.size : Int)) then
      match F_strings_IndexByte ((s.2.1, (byteAt s.1 (s.2.2.2).toNat))) with
      | none => none
      | some y3 =>
        bif (decide (y3 < 0)) then
          some (.inr (.inl (false)))
        else
          let v4 := IntKind.i64.wrap (s.2.2.2 + 1)
          some (.inl ((s.1, (s.2.1, s.2.2.1, v4))))
    else none
  else
    some (.inr (.inr (())))
def pat_impl_hasOnly_0 : Pat := { tmps := [.v .str, .v .str, .any, .any, .any, .any, .any, .v (.int .i64), .v (.int .i64), .any, .any, .any, .any, .any, .any, .any, .any, .any], blks := [] }
def outs_impl_hasOnly_0 : List (Exit × Pat) := [(.ret, { tmps := [.any, .any, .any, .any, .v .bool, .any, .any, .any, .any, .any, .any, .any, .any, .any, .any, .any, .any, .any], blks := [] }), (.exit 0, { tmps := [.any, .any, .any, .any, .any, .any, .any, .any, .any, .any, .any, .any, .any, .any, .any, .any, .any, .any], blks := [] })]
noncomputable def F_impl_hasOnly (x : ByteArray × ByteArray) : Option (Bool) :=
  match runL step_impl_hasOnly_0 ((x.1, (x.2, (x.1.size : Int), 0))) with
  | none => none
  | some (.inl o5) =>
    some (o5)
  | some (.inr o5) =>
    some (true)
noncomputable def c_impl_hasOnly : Con := { ps := [(.val, .str), (.val, .str)], rs := [(.val, .bool)], F := F_impl_hasOnly }
noncomputable def env_impl_hasOnly : Env := { par := [], dp := false, settle := [], con := fun f => match f with | 18 => some c_strings_IndexByte | _ => none, clo := fun _ => none, T := tinf Tryd.prog }
noncomputable def loops_impl_hasOnly : Nat → Option Loop := fun n => match n with | 2 => some { pat := pat_impl_hasOnly_0, outs := outs_impl_hasOnly_0, run := runL (step_impl_hasOnly_0) } | _ => none
theorem step_impl_hasOnly_0_eq (s : ByteArray × ByteArray × Int × Int) : stepEv env_impl_hasOnly loops_impl_hasOnly pat_impl_hasOnly_0 outs_impl_hasOnly_0 Tryd.f59 2 s = step_impl_hasOnly_0 s := by kernel_rfl
theorem F_impl_hasOnly_eq (x : ByteArray × ByteArray) : Fev env_impl_hasOnly loops_impl_hasOnly c_impl_hasOnly.ps c_impl_hasOnly.rs Tryd.f59 x = F_impl_hasOnly x := by kernel_rfl
theorem env_impl_hasOnly_ok : EnvOK Tryd.prog env_impl_hasOnly := envOK_of (fun f c h => by
  simp only [env_impl_hasOnly] at h
  split at h
  · cases h; exact con_strings_IndexByte
  · cases h) (fun f c h => by cases h) rfl
theorem con_impl_hasOnly : ConOK Tryd.prog 59 c_impl_hasOnly := con_of_ev' (body := Tryd.f59.body.getD .skip) (Λ := loops_impl_hasOnly) mixed Tryd.func59 (by kernel_rfl) (by kernel_rfl) env_impl_hasOnly_ok (by kernel_rfl) (by kernel_rfl) (fun n L h => by
  unfold loops_impl_hasOnly at h
  split at h
  · cases h; exact fun s o ho => loop_ok (stepF := stepEv env_impl_hasOnly loops_impl_hasOnly pat_impl_hasOnly_0 outs_impl_hasOnly_0 Tryd.f59 2) (step_impl_hasOnly_0_eq) ho
  · cases h) F_impl_hasOnly_eq

noncomputable def F_impl_isWordOf (x : ByteArray × ByteArray) : Option (Bool) :=
  match F_impl_within (((x.1.size : Int), 1, 8)) with
  | none => none
  | some y1 =>
    bif y1 then
      match F_impl_hasOnly (x) with
      | none => none
      | some y2 =>
        some (y2)
    else
      some (false)
noncomputable def c_impl_isWordOf : Con := { ps := [(.val, .str), (.val, .str)], rs := [(.val, .bool)], F := F_impl_isWordOf }
noncomputable def env_impl_isWordOf : Env := { par := [], dp := false, settle := [], con := fun f => match f with | 39 => some c_impl_within | 59 => some c_impl_hasOnly | _ => none, clo := fun _ => none, T := tinf Tryd.prog }
noncomputable def loops_impl_isWordOf : Nat → Option Loop := fun n => none
theorem F_impl_isWordOf_eq (x : ByteArray × ByteArray) : Fev env_impl_isWordOf loops_impl_isWordOf c_impl_isWordOf.ps c_impl_isWordOf.rs Tryd.f52 x = F_impl_isWordOf x := by kernel_rfl
theorem env_impl_isWordOf_ok : EnvOK Tryd.prog env_impl_isWordOf := envOK_of (fun f c h => by
  simp only [env_impl_isWordOf] at h
  split at h
  · cases h; exact con_impl_within
  · cases h; exact con_impl_hasOnly
  · cases h) (fun f c h => by cases h) rfl
theorem con_impl_isWordOf : ConOK Tryd.prog 52 c_impl_isWordOf := con_of_ev' (body := Tryd.f52.body.getD .skip) (Λ := loops_impl_isWordOf) mixed Tryd.func52 (by kernel_rfl) (by kernel_rfl) env_impl_isWordOf_ok (by kernel_rfl) (by kernel_rfl) (fun n L h => by cases h) F_impl_isWordOf_eq

noncomputable def F_impl_IsGloss (x : ByteArray) : Option (Bool) :=
  match F_impl_isWordOf ((x, (⟨#[65, 66, 67, 68, 69, 70, 71, 72, 73, 74, 75, 76, 77, 78, 79, 80, 81, 82, 83, 84, 85, 86, 87, 88, 89, 90]⟩ : ByteArray))) with
  | none => none
  | some y1 =>
    some (y1)
noncomputable def c_impl_IsGloss : Con := { ps := [(.val, .str)], rs := [(.val, .bool)], F := F_impl_IsGloss }
noncomputable def env_impl_IsGloss : Env := { par := [], dp := false, settle := [], con := fun f => match f with | 52 => some c_impl_isWordOf | _ => none, clo := fun _ => none, T := tinf Tryd.prog }
noncomputable def loops_impl_IsGloss : Nat → Option Loop := fun n => none
theorem F_impl_IsGloss_eq (x : ByteArray) : Fev env_impl_IsGloss loops_impl_IsGloss c_impl_IsGloss.ps c_impl_IsGloss.rs Tryd.f40 x = F_impl_IsGloss x := by kernel_rfl
theorem env_impl_IsGloss_ok : EnvOK Tryd.prog env_impl_IsGloss := envOK_of (fun f c h => by
  simp only [env_impl_IsGloss] at h
  split at h
  · cases h; exact con_impl_isWordOf
  · cases h) (fun f c h => by cases h) rfl
theorem con_impl_IsGloss : ConOK Tryd.prog 40 c_impl_IsGloss := con_of_ev' (body := Tryd.f40.body.getD .skip) (Λ := loops_impl_IsGloss) mixed Tryd.func40 (by kernel_rfl) (by kernel_rfl) env_impl_IsGloss_ok (by kernel_rfl) (by kernel_rfl) (fun n L h => by cases h) F_impl_IsGloss_eq

noncomputable def F_impl_isLogEdit (x : (Int × (ByteArray × Bool))) : Option (Bool) :=
  match F_impl_within ((x.1, 1, 999)) with
  | none => none
  | some y1 =>
    bif y1 then
      match F_impl_IsGloss (x.2.1) with
      | none => none
      | some y2 =>
        some (y2)
    else
      some (false)
noncomputable def c_impl_isLogEdit : Con := { ps := [(.val, (.st (.pair (.int .i64) (.pair .str .bool))))], rs := [(.val, .bool)], F := F_impl_isLogEdit }
noncomputable def env_impl_isLogEdit : Env := { par := [], dp := false, settle := [], con := fun f => match f with | 39 => some c_impl_within | 40 => some c_impl_IsGloss | _ => none, clo := fun _ => none, T := tinf Tryd.prog }
noncomputable def loops_impl_isLogEdit : Nat → Option Loop := fun n => none
theorem F_impl_isLogEdit_eq (x : (Int × (ByteArray × Bool))) : Fev env_impl_isLogEdit loops_impl_isLogEdit c_impl_isLogEdit.ps c_impl_isLogEdit.rs Tryd.f20 x = F_impl_isLogEdit x := by kernel_rfl
theorem env_impl_isLogEdit_ok : EnvOK Tryd.prog env_impl_isLogEdit := envOK_of (fun f c h => by
  simp only [env_impl_isLogEdit] at h
  split at h
  · cases h; exact con_impl_within
  · cases h; exact con_impl_IsGloss
  · cases h) (fun f c h => by cases h) rfl
theorem con_impl_isLogEdit : ConOK Tryd.prog 20 c_impl_isLogEdit := con_of_ev' (body := Tryd.f20.body.getD .skip) (Λ := loops_impl_isLogEdit) mixed Tryd.func20 (by kernel_rfl) (by kernel_rfl) env_impl_isLogEdit_ok (by kernel_rfl) (by kernel_rfl) (fun n L h => by cases h) F_impl_isLogEdit_eq

theorem Itoa_ex : ∃ f : Int → Option ByteArray, f = fun n => bif decide (-9223372036854775808 ≤ n) && decide (n ≤ 9223372036854775807) then some ⟨(Lib.itoa n).toArray⟩ else none := ⟨_, rfl⟩
noncomputable def F_strconv_Itoa : Int → Option ByteArray := Classical.choose Itoa_ex
theorem F_strconv_Itoa_is (n : Int) : F_strconv_Itoa n = bif decide (-9223372036854775808 ≤ n) && decide (n ≤ 9223372036854775807) then some ⟨(Lib.itoa n).toArray⟩ else none := congrFun (Classical.choose_spec Itoa_ex) n
noncomputable def c_strconv_Itoa : Con := { ps := [(.val, .int .i64)], rs := [(.val, .str)], F := F_strconv_Itoa }
theorem calls_F_strconv_Itoa (w : World) (x : Int) (y : ByteArray) (hy : F_strconv_Itoa x = some y) (ht : Tabs Tryd.prog w) : Calls Tryd.prog 38 #[.int .i64 x] w fun e w' => e = .returned (.string y) ∧ Fr NoB w w' := by
  rw [F_strconv_Itoa_is] at hy
  obtain ⟨hg, hy⟩ := bif_none hy
  obtain ⟨h0, h1⟩ := and_b hg
  have h0 : -9223372036854775808 ≤ x := of_decide_eq_true h0
  have h1 : x ≤ 9223372036854775807 := of_decide_eq_true h1
  have e : y = ⟨(Lib.itoa x).toArray⟩ := (Option.some.inj hy).symm
  subst e
  refine (Tryd.strconv_Itoa x h0 h1 w (ht.1 _ (List.mem_cons_self ..)).2).mono ?_
  rintro e w' ⟨rfl, k, os, rfl⟩
  exact ⟨rfl, fr_of_below (Go.Lib.below_grow _ _ (Nat.le_refl _) k os)⟩
theorem con_strconv_Itoa : ConOK Tryd.prog 38 c_strconv_Itoa := con_of_pure ⟨Tryd.f38, Tryd.func38, by kernel_rfl, by kernel_rfl⟩ rfl rfl fun w x y hy ht => calls_F_strconv_Itoa w x y hy ht

noncomputable def step_impl_LogEdit_line_0 (s : ByteArray × Int × Int × Int) : Option ((ByteArray × Int × Int × Int) ⊕ ((ByteArray × Int))) :=
  bif (decide (s.2.2.2 < s.2.2.1)) then
    let v20 := IntKind.i64.wrap (7 * s.2.1)
    bif decide (0 ≤ s.2.2.2) && decide (s.2.2.2 < (s.1.size : Int)) then
      let v21 := IntKind.i64.wrap (byteAt s.1 (s.2.2.2).toNat)
      let v22 := IntKind.i64.wrap (v20 + v21)
      bif !decide (9973 = 0) then
        let v23 := (v22).tmod 9973
        let v24 := IntKind.i64.wrap (s.2.2.2 + 1)
        some (.inl ((s.1, (v23, s.2.2.1, v24))))
      else none
    else none
  else
    some (.inr ((s.1, s.2.1)))
def pat_impl_LogEdit_line_0 : Pat := { tmps := [.any, .any, .any, .v .str, .v (.int .i64), .any, .any, .any, .any, .any, .any, .any, .any, .any, .any, .any, .any, .any, .any, .any, .any, .any, .any, .v (.int .i64), .v (.int .i64), .any, .any, .any, .any, .any, .any, .any, .any, .any, .any, .any, .any, .any, .any, .any, .any, .any], blks := [] }
def outs_impl_LogEdit_line_0 : List (Exit × Pat) := [(.exit 0, { tmps := [.any, .any, .any, .v .str, .v (.int .i64), .any, .any, .any, .any, .any, .any, .any, .any, .any, .any, .any, .any, .any, .any, .any, .any, .any, .any, .any, .any, .any, .any, .any, .any, .any, .any, .any, .any, .any, .any, .any, .any, .any, .any, .any, .any, .any], blks := [] })]
noncomputable def F_impl_LogEdit_line (x : (Int × (ByteArray × Bool))) : Option (ByteArray) :=
  match F_strconv_Itoa (x.1) with
  | none => none
  | some y1 =>
    bif decide (y1.size + (⟨#[43]⟩ : ByteArray).size ≤ 9223372036854775807) then
      bif decide ((y1 ++ (⟨#[43]⟩ : ByteArray)).size + x.2.1.size ≤ 9223372036854775807) then
        bif x.2.2 then
          match F_strconv_Itoa (x.1) with
          | none => none
          | some y2 =>
            bif decide (y2.size + (⟨#[45]⟩ : ByteArray).size ≤ 9223372036854775807) then
              bif decide ((y2 ++ (⟨#[45]⟩ : ByteArray)).size + x.2.1.size ≤ 9223372036854775807) then
                match runL step_impl_LogEdit_line_0 ((((y2 ++ (⟨#[45]⟩ : ByteArray)) ++ x.2.1), (3, (((y2 ++ (⟨#[45]⟩ : ByteArray)) ++ x.2.1).size : Int), 0))) with
                | none => none
                | some o13 =>
                  bif decide (o13.1.size + (⟨#[46]⟩ : ByteArray).size ≤ 9223372036854775807) then
                    match F_strconv_Itoa (o13.2) with
                    | none => none
                    | some y14 =>
                      bif decide ((o13.1 ++ (⟨#[46]⟩ : ByteArray)).size + y14.size ≤ 9223372036854775807) then
                        bif decide (((o13.1 ++ (⟨#[46]⟩ : ByteArray)) ++ y14).size + (⟨#[10]⟩ : ByteArray).size ≤ 9223372036854775807) then
                          some ((((o13.1 ++ (⟨#[46]⟩ : ByteArray)) ++ y14) ++ (⟨#[10]⟩ : ByteArray)))
                        else none
                      else none
                  else none
              else none
            else none
        else
          match runL step_impl_LogEdit_line_0 ((((y1 ++ (⟨#[43]⟩ : ByteArray)) ++ x.2.1), (3, (((y1 ++ (⟨#[43]⟩ : ByteArray)) ++ x.2.1).size : Int), 0))) with
          | none => none
          | some o25 =>
            bif decide (o25.1.size + (⟨#[46]⟩ : ByteArray).size ≤ 9223372036854775807) then
              match F_strconv_Itoa (o25.2) with
              | none => none
              | some y26 =>
                bif decide ((o25.1 ++ (⟨#[46]⟩ : ByteArray)).size + y26.size ≤ 9223372036854775807) then
                  bif decide (((o25.1 ++ (⟨#[46]⟩ : ByteArray)) ++ y26).size + (⟨#[10]⟩ : ByteArray).size ≤ 9223372036854775807) then
                    some ((((o25.1 ++ (⟨#[46]⟩ : ByteArray)) ++ y26) ++ (⟨#[10]⟩ : ByteArray)))
                  else none
                else none
            else none
      else none
    else none
noncomputable def c_impl_LogEdit_line : Con := { ps := [(.val, (.st (.pair (.int .i64) (.pair .str .bool))))], rs := [(.val, .str)], F := F_impl_LogEdit_line }
noncomputable def env_impl_LogEdit_line : Env := { par := [], dp := false, settle := [], con := fun f => match f with | 38 => some c_strconv_Itoa | _ => none, clo := fun _ => none, T := tinf Tryd.prog }
noncomputable def loops_impl_LogEdit_line : Nat → Option Loop := fun n => match n with | 6 => some { pat := pat_impl_LogEdit_line_0, outs := outs_impl_LogEdit_line_0, run := runL (step_impl_LogEdit_line_0) } | _ => none
theorem step_impl_LogEdit_line_0_eq (s : ByteArray × Int × Int × Int) : stepEv env_impl_LogEdit_line loops_impl_LogEdit_line pat_impl_LogEdit_line_0 outs_impl_LogEdit_line_0 Tryd.f21 6 s = step_impl_LogEdit_line_0 s := by kernel_rfl
theorem F_impl_LogEdit_line_eq (x : (Int × (ByteArray × Bool))) : Fev env_impl_LogEdit_line loops_impl_LogEdit_line c_impl_LogEdit_line.ps c_impl_LogEdit_line.rs Tryd.f21 x = F_impl_LogEdit_line x := by kernel_rfl
theorem env_impl_LogEdit_line_ok : EnvOK Tryd.prog env_impl_LogEdit_line := envOK_of (fun f c h => by
  simp only [env_impl_LogEdit_line] at h
  split at h
  · cases h; exact con_strconv_Itoa
  · cases h) (fun f c h => by cases h) rfl
theorem con_impl_LogEdit_line : ConOK Tryd.prog 21 c_impl_LogEdit_line := con_of_ev' (body := Tryd.f21.body.getD .skip) (Λ := loops_impl_LogEdit_line) mixed Tryd.func21 (by kernel_rfl) (by kernel_rfl) env_impl_LogEdit_line_ok (by kernel_rfl) (by kernel_rfl) (fun n L h => by
  unfold loops_impl_LogEdit_line at h
  split at h
  · cases h; exact fun s o ho => loop_ok (stepF := stepEv env_impl_LogEdit_line loops_impl_LogEdit_line pat_impl_LogEdit_line_0 outs_impl_LogEdit_line_0 Tryd.f21 6) (step_impl_LogEdit_line_0_eq) ho
  · cases h) F_impl_LogEdit_line_eq

noncomputable def F_impl_ParseEditLine (x : ByteArray) : Option ((Int × (ByteArray × Bool)) × Bool) :=
  match F_strings_IndexAny ((x, (⟨#[43, 45]⟩ : ByteArray))) with
  | none => none
  | some y1 =>
    match F_strings_IndexByte ((x, 46)) with
    | none => none
    | some y2 =>
      bif (decide (y1 < 0)) then
        some (((0, ByteArray.empty, false), false))
      else
        bif (decide (y2 < y1)) then
          some (((0, ByteArray.empty, false), false))
        else
          bif (decide ((x.size : Int) > 2000)) then
            some (((0, ByteArray.empty, false), false))
          else
            let v3 := IntKind.i64.wrap (y1 + 1)
            bif decide (0 ≤ v3) && decide (v3 ≤ y2) && decide (y2 ≤ (x.size : Int)) then
              bif decide (0 ≤ y1) && decide (y1 < (x.size : Int)) then
                bif decide (0 ≤ (0 : Int)) && decide ((0 : Int) ≤ y1) && decide (y1 ≤ (x.size : Int)) then
                  match F_impl_decimal ((x.extract ((0 : Int)).toNat (y1).toNat)) with
                  | none => none
                  | some y4 =>
                    match F_impl_isLogEdit ((y4.1, (x.extract (v3).toNat (y2).toNat), (((byteAt x (y1).toNat) == 45)))) with
                    | none => none
                    | some y5 =>
                      bif (!y5) then
                        some (((0, ByteArray.empty, false), false))
                      else
                        match F_impl_LogEdit_line ((y4.1, (x.extract (v3).toNat (y2).toNat), (((byteAt x (y1).toNat) == 45)))) with
                        | none => none
                        | some y6 =>
                          bif (!(y6.toList == x.toList)) then
                            some (((0, ByteArray.empty, false), false))
                          else
                            some (((y4.1, (x.extract (v3).toNat (y2).toNat), (((byteAt x (y1).toNat) == 45))), true))
                else none
              else none
            else none
noncomputable def c_impl_ParseEditLine : Con := { ps := [(.val, .str)], rs := [(.val, (.st (.pair (.int .i64) (.pair .str .bool)))), (.val, .bool)], F := F_impl_ParseEditLine }
noncomputable def env_impl_ParseEditLine : Env := { par := [], dp := false, settle := [], con := fun f => match f with | 17 => some c_strings_IndexAny | 18 => some c_strings_IndexByte | 19 => some c_impl_decimal | 20 => some c_impl_isLogEdit | 21 => some c_impl_LogEdit_line | _ => none, clo := fun _ => none, T := tinf Tryd.prog }
noncomputable def loops_impl_ParseEditLine : Nat → Option Loop := fun n => none
theorem F_impl_ParseEditLine_eq (x : ByteArray) : Fev env_impl_ParseEditLine loops_impl_ParseEditLine c_impl_ParseEditLine.ps c_impl_ParseEditLine.rs Tryd.f7 x = F_impl_ParseEditLine x := by kernel_rfl
theorem env_impl_ParseEditLine_ok : EnvOK Tryd.prog env_impl_ParseEditLine := envOK_of (fun f c h => by
  simp only [env_impl_ParseEditLine] at h
  split at h
  · cases h; exact con_strings_IndexAny
  · cases h; exact con_strings_IndexByte
  · cases h; exact con_impl_decimal
  · cases h; exact con_impl_isLogEdit
  · cases h; exact con_impl_LogEdit_line
  · cases h) (fun f c h => by cases h) rfl
theorem con_impl_ParseEditLine : ConOK Tryd.prog 7 c_impl_ParseEditLine := con_of_ev' (body := Tryd.f7.body.getD .skip) (Λ := loops_impl_ParseEditLine) mixed Tryd.func7 (by kernel_rfl) (by kernel_rfl) env_impl_ParseEditLine_ok (by kernel_rfl) (by kernel_rfl) (fun n L h => by cases h) F_impl_ParseEditLine_eq

noncomputable def step_impl_AreEdits_0 (s : (List (Int × (ByteArray × Bool))) × (List (Int × (ByteArray × Bool))) × Int × Int) : Option (((List (Int × (ByteArray × Bool))) × (List (Int × (ByteArray × Bool))) × Int × Int) ⊕ ((Bool) ⊕ ((List (Int × (ByteArray × Bool)))))) :=
  bif (decide (s.2.2.2 < s.2.2.1)) then
    bif decide (0 ≤ s.2.2.2) && decide (s.2.2.2 < (s.2.1.length : Int)) then
      match F_impl_isLogEdit ((s.2.1.getD (s.2.2.2).toNat (0, ByteArray.empty, false))) with
      | none => none
      | some y5 =>
        bif (!y5) then
          some (.inr (.inl (false)))
        else
          bif (decide (s.2.2.2 > 0)) then
            let v6 := IntKind.i64.wrap (s.2.2.2 - 1)
            bif decide (0 ≤ v6) && decide (v6 < (s.1.length : Int)) then
              bif (decide ((s.2.1.getD (s.2.2.2).toNat (0, ByteArray.empty, false)).1 ≤ (s.1.getD (v6).toNat (0, ByteArray.empty, false)).1)) then
                some (.inr (.inl (false)))
              else
                let v7 := IntKind.i64.wrap (s.2.2.2 + 1)
                some (.inl ((s.1, (s.2.1, s.2.2.1, v7))))
            else none
          else
            let v8 := IntKind.i64.wrap (s.2.2.2 + 1)
            some (.inl ((s.1, (s.2.1, s.2.2.1, v8))))
    else none
  else
    some (.inr (.inr (s.1)))
def pat_impl_AreEdits_0 : Pat := { tmps := [.v (.slice (.st (.pair (.int .i64) (.pair .str .bool)))), .any, .any, .any, .any, .v (.slice (.st (.pair (.int .i64) (.pair .str .bool)))), .v (.int .i64), .v (.int .i64), .any, .any, .any, .any, .any, .any, .any, .any, .any, .any, .any, .any, .any, .any, .any, .any, .any, .any, .any, .any, .any, .any, .any, .any, .any, .any], blks := [] }
def outs_impl_AreEdits_0 : List (Exit × Pat) := [(.ret, { tmps := [.any, .any, .v .bool, .any, .any, .any, .any, .any, .any, .any, .any, .any, .any, .any, .any, .any, .any, .any, .any, .any, .any, .any, .any, .any, .any, .any, .any, .any, .any, .any, .any, .any, .any, .any], blks := [] }), (.exit 0, { tmps := [.v (.slice (.st (.pair (.int .i64) (.pair .str .bool)))), .any, .any, .any, .any, .any, .any, .any, .any, .any, .any, .any, .any, .any, .any, .any, .any, .any, .any, .any, .any, .any, .any, .any, .any, .any, .any, .any, .any, .any, .any, .any, .any, .any], blks := [] })]
noncomputable def F_impl_AreEdits (x : (List (Int × (ByteArray × Bool)))) : Option (Bool) :=
  match runL step_impl_AreEdits_0 ((x, (x, (x.length : Int), 0))) with
  | none => none
  | some (.inl o9) =>
    some (o9)
  | some (.inr o9) =>
    some ((decide ((o9.length : Int) ≤ 40)))
noncomputable def c_impl_AreEdits : Con := { ps := [(.val, (.slice (.st (.pair (.int .i64) (.pair .str .bool)))))], rs := [(.val, .bool)], F := F_impl_AreEdits }
noncomputable def env_impl_AreEdits : Env := { par := [], dp := false, settle := [], con := fun f => match f with | 20 => some c_impl_isLogEdit | _ => none, clo := fun _ => none, T := tinf Tryd.prog }
noncomputable def loops_impl_AreEdits : Nat → Option Loop := fun n => match n with | 2 => some { pat := pat_impl_AreEdits_0, outs := outs_impl_AreEdits_0, run := runL (step_impl_AreEdits_0) } | _ => none
theorem step_impl_AreEdits_0_eq (s : (List (Int × (ByteArray × Bool))) × (List (Int × (ByteArray × Bool))) × Int × Int) : stepEv env_impl_AreEdits loops_impl_AreEdits pat_impl_AreEdits_0 outs_impl_AreEdits_0 Tryd.f25 2 s = step_impl_AreEdits_0 s := by kernel_rfl
theorem F_impl_AreEdits_eq (x : (List (Int × (ByteArray × Bool)))) : Fev env_impl_AreEdits loops_impl_AreEdits c_impl_AreEdits.ps c_impl_AreEdits.rs Tryd.f25 x = F_impl_AreEdits x := by kernel_rfl
theorem env_impl_AreEdits_ok : EnvOK Tryd.prog env_impl_AreEdits := envOK_of (fun f c h => by
  simp only [env_impl_AreEdits] at h
  split at h
  · cases h; exact con_impl_isLogEdit
  · cases h) (fun f c h => by cases h) rfl
theorem con_impl_AreEdits : ConOK Tryd.prog 25 c_impl_AreEdits := con_of_ev' (body := Tryd.f25.body.getD .skip) (Λ := loops_impl_AreEdits) mixed Tryd.func25 (by kernel_rfl) (by kernel_rfl) env_impl_AreEdits_ok (by kernel_rfl) (by kernel_rfl) (fun n L h => by
  unfold loops_impl_AreEdits at h
  split at h
  · cases h; exact fun s o ho => loop_ok (stepF := stepEv env_impl_AreEdits loops_impl_AreEdits pat_impl_AreEdits_0 outs_impl_AreEdits_0 Tryd.f25 2) (step_impl_AreEdits_0_eq) ho
  · cases h) F_impl_AreEdits_eq

section
open Go.RowKit
theorem nil_slices_Clone_impl_LogEdit_impl_LogEdit (n c : Nat) (w : World) : Calls Tryd.prog 26 #[.slice none n c] w fun e w' => e = .returned (.slice none 0 0) ∧ w' = w := by
  have q : ∀ (w : World) (a : Option Addr) (n c n' c' : Nat), (binOp .eql 28 (.slice a n c) (.slice none n' c')).run Tryd.prog w = .ok (.bool a.isNone) w := fun w a n c n' c' => Lib.run_eql_slice_nil w _ _ a n c n' c' (show Tryd.prog.underlying 28 = some (.slice 23) by kernel_rfl)
  go_enter Tryd.func26, Tryd.ntmps26
  go_wp2
  go_ret
  exact ⟨rfl, rfl⟩
set_option maxHeartbeats 2000000 in
theorem some_slices_Clone_impl_LogEdit_impl_LogEdit (ad : Addr) (n c : Nat) (news : List Value) (w : World) (hl : news.length = n * 3) (hc : ∀ j u, news[j]? = some u → w.cell? (ad.add j) = some u) (h1 : ∀ u ∈ news, u.oneCell' = true) (hbig : n * 32 ≤ 140737488355328) :
    Calls Tryd.prog 26 #[.slice (some ad) n c] w fun e w' => ∃ v', e = .returned v' ∧ w'.ownsRow w.heap.size 23 3 v' n news ∧ Below w.heap.size w w' := by
  have q : ∀ (w : World) (a : Option Addr) (n c n' c' : Nat), (binOp .eql 28 (.slice a n c) (.slice none n' c')).run Tryd.prog w = .ok (.bool a.isNone) w := fun w a n c n' c' => Lib.run_eql_slice_nil w _ _ a n c n' c' (show Tryd.prog.underlying 28 = some (.slice 23) by kernel_rfl)
  obtain ⟨i0, hi, hz0, hz1, hz2⟩ := info_parts (P := Tryd.prog) (e := 23) (z := (.agg #[(.int .i64 0), (.string ⟨#[]⟩), (.bool false)])) (size := 3) (bytes := 32) (by kernel_rfl)
  have A : Aside (∀ j u, news[j]? = some u → w.cell? (ad.add j) = some u) := hc
  clear hc
  go_enter Tryd.func26, Tryd.ntmps26
  go_wp2_with (at_builtin; refine wpList_append_own _ rfl _ _ 28 rfl w.heap.size 23 i0 (.agg #[(.int .i64 0), (.string ⟨#[]⟩), (.bool false)]) 3 32 (by kernel_rfl) hi hz0 hz1 hz2 rfl (by decide) _ _ _ rfl (World.ownsRow_made w #[] 0 (Nat.le_refl _) (Nat.zero_le _) rfl) ad n c news rfl ?qc1 ?qc2 ?qc3 ?qc4 ?qc5 ?qc6 ?_)
  case qc1 => exact hl
  case qc2 => exact fun j u hj => Lib.cell?_alloc_some _ (A.out j u hj)
  case qc3 => exact h1
  case qc4 => unfold maxLen; omega
  case qc5 => omega
  case qc6 => simp
  intro v' w1 hown hgrow hnil
  go_wp2
  go_ret
  refine ⟨v', rfl, by simpa using hown, ?_⟩
  exact ((Below.refl _ w).alloc (Nat.le_refl _) _).grown hgrow (by simp) (by intro k hk; simp [Value.ownBlock] at hk; omega)
def F_slices_Clone_impl_LogEdit_impl_LogEdit (x : List (Int × (ByteArray × Bool))) : Option (List (Int × (ByteArray × Bool))) := bif decide (x.length * 32 ≤ 140737488355328) then some x else none
noncomputable def c_slices_Clone_impl_LogEdit_impl_LogEdit : Con := { ps := [(.val, .slice (.st (.pair (.int .i64) (.pair .str .bool))))], rs := [(.io true, .slice (.st (.pair (.int .i64) (.pair .str .bool))))], F := F_slices_Clone_impl_LogEdit_impl_LogEdit }
theorem con_slices_Clone_impl_LogEdit_impl_LogEdit : ConOK Tryd.prog 26 c_slices_Clone_impl_LogEdit_impl_LogEdit := con_clone ⟨Tryd.f26, Tryd.func26, by kernel_rfl, by kernel_rfl⟩ (.st (.pair (.int .i64) (.pair .str .bool))) true rfl 32 23 nil_slices_Clone_impl_LogEdit_impl_LogEdit some_slices_Clone_impl_LogEdit_impl_LogEdit
end

set_option maxHeartbeats 1000000 in
theorem calls_strings_Lines (s : ByteArray) (w : World) : Calls Tryd.prog 24 #[.string s] w fun e w' => e = .returned (.func (.func 41) #[] #[.pointer (some ⟨w.heap.size, 0, none⟩)]) ∧ w' = w.alloc (.cells #[.string s] 9) := by
  go_enter Tryd.func24, Tryd.ntmps24
  go_wp2
  go_ret
  exact ⟨rfl, rfl⟩
abbrev tyE : Ty := .st (.pair (.int .i64) (.pair .str .bool))
attribute [local go_sem] Oper.semAt_some
noncomputable def step_impl_SalvageEdits_L (s : (List (Int × (ByteArray × Bool)))) (x : ByteArray) : Option (((List (Int × (ByteArray × Bool)))) ⊕ ((List (Int × (ByteArray × Bool))))) :=
  match F_impl_ParseEditLine (x) with
  | none => none
  | some y1 =>
    bif y1.2 then
      match F_slices_Clone_impl_LogEdit_impl_LogEdit (s) with
      | none => none
      | some y2 =>
        bif decide ((y2.length + ([y1.1] : List ((Int × (ByteArray × Bool)))).length) * 32 ≤ 140737488355328) then
          let v3 := y2 ++ ([y1.1] : List ((Int × (ByteArray × Bool))))
          match F_impl_AreEdits (v3) with
          | none => none
          | some y4 =>
            bif y4 then
              bif decide ((s.length + [y1.1].length) * 32 ≤ 140737488355328) then
                let v5 := s ++ [y1.1]
                some (.inl (v5))
              else none
            else
              some (.inl (s))
        else none
    else
      some (.inl (s))
def pat_impl_SalvageEdits_L : Pat := { tmps := [.any, .any, .any, .any, .ptr 62 0, .any, .any, .any, .any, .any, .any, .any, .any, .any, .any, .any, .any, .any, .any, .any, .any, .any, .any, .any, .any, .any, .any, .any, .any, .any, .any, .any, .any], blks := [(62, .box [.own 126]), (126, .row true (.st (.pair (.int .i64) (.pair .str .bool))))] }
noncomputable def env_impl_SalvageEdits : Env := { par := [62, 126], dp := false, settle := [], con := fun f => match f with | 7 => some c_impl_ParseEditLine | 25 => some c_impl_AreEdits | 26 => some c_slices_Clone_impl_LogEdit_impl_LogEdit | _ => none, clo := fun _ => none, T := tinf Tryd.prog }
noncomputable def body_impl_SalvageEdits : Code := rfBody (Tryd.f10.body.getD .skip)
theorem step_impl_SalvageEdits_L_eq (s : (List (Int × (ByteArray × Bool)))) (x : ByteArray) : ev env_impl_SalvageEdits (fun _ => none) body_impl_SalvageEdits (((pat_impl_SalvageEdits_L.enc s).set 13 (.c (.str x))).set 5 (.c (.str x))) (kstep pat_impl_SalvageEdits_L [(.exit 0, pat_impl_SalvageEdits_L)]) = step_impl_SalvageEdits_L s x := by kernel_rfl
theorem env_impl_SalvageEdits_ok : EnvOK Tryd.prog env_impl_SalvageEdits := envOK_of (fun f c h => by
  simp only [env_impl_SalvageEdits] at h
  split at h
  · cases h; exact con_impl_ParseEditLine
  · cases h; exact con_impl_AreEdits
  · cases h; exact con_slices_Clone_impl_LogEdit_impl_LogEdit
  · cases h) (fun f c h => by cases h) rfl
noncomputable def F_impl_SalvageEdits (x : ByteArray) : Option (List (Int × (ByteArray × Bool)) × Bool) :=
  bif decide ((x.size : Int) > 2000) then some ([], false) else
  match foldL step_impl_SalvageEdits_L [] (linesOf x) with
  | none => none
  | some (.inl s) => some (s, true)
  | some (.inr s) => some (s, true)
def Post_impl_SalvageEdits (w : World) (y : List (Int × (ByteArray × Bool)) × Bool) (e : Ending) (w' : World) : Prop := ∃ v, ∃ F : Nat → Prop, e = .returned (.tuple #[v, .bool y.2]) ∧ (∀ b, F b → w.heap.size ≤ b ∧ b < w'.heap.size) ∧ RowOf Tryd.prog false true tyE w' NoB F v y.1 ∧ Fr NoB w w'
open Go.RowKit in
set_option maxHeartbeats 8000000 in
set_option maxRecDepth 1000000 in
theorem calls_impl_SalvageEdits (x : ByteArray) (w : World) (y : List (Int × (ByteArray × Bool)) × Bool) (hF : F_impl_SalvageEdits x = some y) (ht : Tabs Tryd.prog w) :
    Calls Tryd.prog 10 #[.string x] w fun e w' => Post_impl_SalvageEdits w y e w' := by
  refine (callsIn_wide (n := 3)).1 ?_
  refine callsIn_of_wp_marks (F := Fence.wide) Tryd.func10 rfl trivial ?_ rfl
  simp only [Tryd.ntmps10, List.size_toArray, List.length_cons, List.length_nil, Nat.reduceAdd, Nat.reduceSub, Array.replicate_succ, Array.replicate_zero, List.push_toArray, List.append_toArray, List.nil_append, List.cons_append]
  unfold F_impl_SalvageEdits at hF
  cases hbig : decide ((x.size : Int) > 2000) with
  | true =>
    rw [hbig] at hF
    obtain rfl : y = ([], false) := (Option.some.inj hF).symm
    have hb : (2000 : Int) < (x.size : Int) := of_decide_eq_true hbig
    gi_wp2
    refine ⟨_, results_tmp2 rfl _ _ _, ?_⟩
    show Post_impl_SalvageEdits _ _ _ _
    unfold Post_impl_SalvageEdits
    exact ⟨_, NoB, rfl, fun _ f => f.elim, ⟨none, 0, rfl, Nat.le_refl _, .inl rfl⟩, Fr.refl _ _⟩
  | false =>
    rw [hbig] at hF
    simp only [cond_false] at hF
    have hb : ¬ (2000 : Int) < (x.size : Int) := of_decide_eq_false hbig
    gi_wp2_with (refine ⟨trivial, ?_⟩; refine (callsIn_wide.2 (calls_strings_Lines _ _)).mono ?_; rintro e w' ⟨rfl, hw⟩; rw [hw])
    generalize hact : ({ tmps := _, defers := _ } : Act) = act
    obtain ⟨W1, hW1⟩ : ∃ W1, (w.alloc (.cells #[.slice none 0 0] 28)).alloc (.cells #[.string x] 9) = W1 := ⟨_, rfl⟩
    rw [hW1]
    have hs1 : W1.heap.size = w.heap.size + 2 := by rw [← hW1]; simp
    have h4 : W1.heap[w.heap.size]? = some (.cells #[.slice none 0 0] 28 (0, 0)) := by rw [← hW1]; exact (Below.heap_alloc _ _ _ (by simp)).trans (World.alloc_heap_new w _)
    have hbs : W1.heap[w.heap.size + 1]? = some (.cells #[.string x] 9 (0, 0)) := by
      rw [← hW1]; have := World.alloc_heap_new (w.alloc (.cells #[.slice none 0 0] 28)) (.cells #[.string x] 9); rwa [World.size_alloc] at this
    have hb1 : Below w.heap.size w W1 := by rw [← hW1]; exact ((Below.refl _ w).alloc (Nat.le_refl _) _).alloc (by simp) _
    have ht1 : Tabs Tryd.prog W1 := (fr_of_below hb1).tabs ht
    cases hfold : foldL step_impl_SalvageEdits_L [] (linesOf x) with
    | none => rw [hfold] at hF; cases hF
    | some r =>
    rw [hfold] at hF
    have hact4 : act.tmps[4]? = some (.pointer (some ⟨w.heap.size, 0, none⟩)) := by rw [← hact]; rfl
    have hLM : LM Tryd.prog [62, 126] (fun b => b = w.heap.size + 1 ∨ b = W1.heap.size ∨ b = W1.heap.size + 1) w.heap.size (pat_impl_SalvageEdits_L.enc []) act.tmps W1 :=
      lm_start1 (ty := tyE) (t := 4) (b4 := w.heap.size) ht1 ht.2.1 h4 ⟨Nat.le_refl _, by omega⟩ hact4 (by rw [← hact]; rfl) rfl
    refine wp_lines (E := env_impl_SalvageEdits) (Λ := fun _ => none) (T := [15, 16, 14, 17, 18, 6, 7, 19, 20, 21, 22, 23, 24, 25, 26, 27, 28, 29, 30, 31]) (pat := pat_impl_SalvageEdits_L) (id := 0) (body := body_impl_SalvageEdits) (n₀ := w.heap.size) (stp := step_impl_SalvageEdits_L) mixed env_impl_SalvageEdits_ok rfl (by kernel_rfl) (by kernel_rfl) (by kernel_rfl)
      (fun l n a W K h => assign_ok h) lines_ok (enters_of Tryd.func41 (by kernel_rfl) rfl) (by rw [← hact]) (by rw [← hact]; rfl) (by rw [← hact]; show 13 < 33; omega) (by omega) (by rw [← hact]; rfl) hbs ht.2.1 (by omega)
      (fun s x r h => (step_impl_SalvageEdits_L_eq s x).trans h) (fun b => Iff.rfl) hLM hfold ?_
    intro s' W' hb' hLM' hD
    obtain ⟨b, v, e, q1, q2, q3, q4, F, qF, q5⟩ := lm_slice (t := 4) (ty := tyE) (xs := s') hLM' rfl rfl rfl rfl
    obtain rfl : w.heap.size = b := by
      rw [hact4] at q1
      have := Option.some.inj q1
      simpa using this
    have hcell : W'.cell? ⟨w.heap.size, 0, none⟩ = some v := by simp [World.cell?, q2]
    rw [hs1] at hD
    have hsz' : (W'.putObj (w.heap.size + 2) (.deferred none)).heap.size = W'.heap.size := World.putObj_size
    have hrd : RowOf Tryd.prog false true tyE (W'.putObj (w.heap.size + 2) (.deferred none)) NoB F v s' := q5.agree (fun _ _ f => f.elim) (w' := W'.putObj (w.heap.size + 2) (.deferred none)) ⟨by rw [hsz']; exact Nat.le_refl _, fun _ _ f => f.elim⟩ (fun _ h => h) ⟨by rw [hsz']; exact Nat.le_refl _, fun b _ hb => World.putObj_heap_other (w := W') (fun e => (qF b hb).2.1 (.inr (.inl (by omega))))⟩
    have hfr : Fr NoB w (W'.putObj (w.heap.size + 2) (.deferred none)) := fr_of_below ((hb1.trans hb').trans ⟨rfl, rfl, rfl, by simp, fun k hk => World.putObj_heap_other (by omega)⟩)
    subst hact
    refine ⟨fun hr => ?_, fun hr => ?_⟩
    all_goals
      subst hr
      obtain rfl : y = (s', true) := (Option.some.inj hF).symm
      gi_wp2
      refine ⟨by simp, .inl ⟨_, _, rfl, run_takeDeferred hD, ?_⟩⟩
      refine ⟨_, results_tmp2 rfl _ _ _, ?_⟩
      show Post_impl_SalvageEdits _ _ _ _
      unfold Post_impl_SalvageEdits
      exact ⟨v, F, rfl, fun b hb => ⟨(qF b hb).1, by rw [hsz']; exact (qF b hb).2.2⟩, hrd, hfr⟩
noncomputable def c_impl_SalvageEdits : Con := { ps := [(.val, .str)], rs := [(.io true, .slice tyE), (.val, .bool)], F := F_impl_SalvageEdits }
theorem con_impl_SalvageEdits : ConOK Tryd.prog 10 c_impl_SalvageEdits := by
  refine ⟨⟨Tryd.f10, Tryd.func10, by kernel_rfl, by kernel_rfl⟩, fun w Z X vals x y hy _ _ hold ht _ => ?_⟩
  rw [holds_valsL [(.val, .str)] X vals x rfl hold]
  refine (calls_impl_SalvageEdits x w y hy ht).mono ?_
  rintro e' w' ⟨v, F, rfl, hF, hrd, hfr⟩
  exact ⟨_, [v, .bool y.2], F, NoB, rfl, rfl, rfl, hfr.le, fun b hb => ⟨.inl (hF b hb).1, (hF b hb).2⟩, fun _ f => f.elim, fun _ _ f => f, holds_nil rfl _,
    ⟨v, _, F, NoB, rfl, fun _ h => h, fun _ f => f.elim, fun _ _ f => f, RowOf.agree hrd (fun _ _ f => f.elim) (Agree.refl _ _) (fun _ h => h) (Agree.refl _ _), _, [], rfl, ⟨[.bool y.2], rfl, rfl⟩, rfl⟩⟩

noncomputable def F_laws_eqLogEdit (x : (Int × (ByteArray × Bool)) × (Int × (ByteArray × Bool))) : Option (Bool) :=
  bif ((x.1.1 != x.2.1)) then
    some (false)
  else
    bif (!(x.1.2.1.toList == x.2.2.1.toList)) then
      some (false)
    else
      bif (!(x.1.2.2 == x.2.2.2)) then
        some (false)
      else
        some (true)
noncomputable def c_laws_eqLogEdit : Con := { ps := [(.val, (.st (.pair (.int .i64) (.pair .str .bool)))), (.val, (.st (.pair (.int .i64) (.pair .str .bool))))], rs := [(.val, .bool)], F := F_laws_eqLogEdit }
noncomputable def env_laws_eqLogEdit : Env := { par := [], dp := false, settle := [], con := fun _ => none, clo := fun _ => none, T := tinf Tryd.prog }
noncomputable def loops_laws_eqLogEdit : Nat → Option Loop := fun n => none
theorem F_laws_eqLogEdit_eq (x : (Int × (ByteArray × Bool)) × (Int × (ByteArray × Bool))) : Fev env_laws_eqLogEdit loops_laws_eqLogEdit c_laws_eqLogEdit.ps c_laws_eqLogEdit.rs Tryd.f8 x = F_laws_eqLogEdit x := by kernel_rfl
theorem env_laws_eqLogEdit_ok : EnvOK Tryd.prog env_laws_eqLogEdit := envOK_of (fun f c h => by cases h) (fun f c h => by cases h) rfl
theorem con_laws_eqLogEdit : ConOK Tryd.prog 8 c_laws_eqLogEdit := con_of_ev' (body := Tryd.f8.body.getD .skip) (Λ := loops_laws_eqLogEdit) mixed Tryd.func8 (by kernel_rfl) (by kernel_rfl) env_laws_eqLogEdit_ok (by kernel_rfl) (by kernel_rfl) (fun n L h => by cases h) F_laws_eqLogEdit_eq

noncomputable def step_laws_eqLogEditS_0 (s : (List (Int × (ByteArray × Bool))) × (List (Int × (ByteArray × Bool))) × Int) : Option (((List (Int × (ByteArray × Bool))) × (List (Int × (ByteArray × Bool))) × Int) ⊕ ((Bool) ⊕ (Unit))) :=
  bif (decide (s.2.2 < (s.1.length : Int))) then
    bif decide (0 ≤ s.2.2) && decide (s.2.2 < (s.1.length : Int)) then
      bif decide (0 ≤ s.2.2) && decide (s.2.2 < (s.2.1.length : Int)) then
        match F_laws_eqLogEdit (((s.1.getD (s.2.2).toNat (0, ByteArray.empty, false)), (s.2.1.getD (s.2.2).toNat (0, ByteArray.empty, false)))) with
        | none => none
        | some y3 =>
          bif (!y3) then
            some (.inr (.inl (false)))
          else
            let v4 := IntKind.i64.wrap (s.2.2 + 1)
            some (.inl ((s.1, s.2.1, v4)))
      else none
    else none
  else
    some (.inr (.inr (())))
def pat_laws_eqLogEditS_0 : Pat := { tmps := [.v (.slice (.st (.pair (.int .i64) (.pair .str .bool)))), .v (.slice (.st (.pair (.int .i64) (.pair .str .bool)))), .any, .any, .any, .v (.int .i64), .any, .any, .any, .any, .any, .any, .any, .any, .any, .any, .any, .any, .any, .any, .any, .any, .any, .any, .any, .any, .any], blks := [] }
def outs_laws_eqLogEditS_0 : List (Exit × Pat) := [(.ret, { tmps := [.any, .any, .any, .any, .v .bool, .any, .any, .any, .any, .any, .any, .any, .any, .any, .any, .any, .any, .any, .any, .any, .any, .any, .any, .any, .any, .any, .any], blks := [] }), (.exit 0, { tmps := [.any, .any, .any, .any, .any, .any, .any, .any, .any, .any, .any, .any, .any, .any, .any, .any, .any, .any, .any, .any, .any, .any, .any, .any, .any, .any, .any], blks := [] })]
noncomputable def F_laws_eqLogEditS (x : (List (Int × (ByteArray × Bool))) × (List (Int × (ByteArray × Bool)))) : Option (Bool) :=
  bif (((x.1.length : Int) != (x.2.length : Int))) then
    some (false)
  else
    match runL step_laws_eqLogEditS_0 ((x.1, x.2, 0)) with
    | none => none
    | some (.inl o5) =>
      some (o5)
    | some (.inr o5) =>
      some (true)
noncomputable def c_laws_eqLogEditS : Con := { ps := [(.val, (.slice (.st (.pair (.int .i64) (.pair .str .bool))))), (.val, (.slice (.st (.pair (.int .i64) (.pair .str .bool)))))], rs := [(.val, .bool)], F := F_laws_eqLogEditS }
noncomputable def env_laws_eqLogEditS : Env := { par := [], dp := false, settle := [], con := fun f => match f with | 8 => some c_laws_eqLogEdit | _ => none, clo := fun _ => none, T := tinf Tryd.prog }
noncomputable def loops_laws_eqLogEditS : Nat → Option Loop := fun n => match n with | 4 => some { pat := pat_laws_eqLogEditS_0, outs := outs_laws_eqLogEditS_0, run := runL (step_laws_eqLogEditS_0) } | _ => none
theorem step_laws_eqLogEditS_0_eq (s : (List (Int × (ByteArray × Bool))) × (List (Int × (ByteArray × Bool))) × Int) : stepEv env_laws_eqLogEditS loops_laws_eqLogEditS pat_laws_eqLogEditS_0 outs_laws_eqLogEditS_0 Tryd.f11 4 s = step_laws_eqLogEditS_0 s := by kernel_rfl
theorem F_laws_eqLogEditS_eq (x : (List (Int × (ByteArray × Bool))) × (List (Int × (ByteArray × Bool)))) : Fev env_laws_eqLogEditS loops_laws_eqLogEditS c_laws_eqLogEditS.ps c_laws_eqLogEditS.rs Tryd.f11 x = F_laws_eqLogEditS x := by kernel_rfl
theorem env_laws_eqLogEditS_ok : EnvOK Tryd.prog env_laws_eqLogEditS := envOK_of (fun f c h => by
  simp only [env_laws_eqLogEditS] at h
  split at h
  · cases h; exact con_laws_eqLogEdit
  · cases h) (fun f c h => by cases h) rfl
theorem con_laws_eqLogEditS : ConOK Tryd.prog 11 c_laws_eqLogEditS := con_of_ev' (body := Tryd.f11.body.getD .skip) (Λ := loops_laws_eqLogEditS) mixed Tryd.func11 (by kernel_rfl) (by kernel_rfl) env_laws_eqLogEditS_ok (by kernel_rfl) (by kernel_rfl) (fun n L h => by
  unfold loops_laws_eqLogEditS at h
  split at h
  · cases h; exact fun s o ho => loop_ok (stepF := stepEv env_laws_eqLogEditS loops_laws_eqLogEditS pat_laws_eqLogEditS_0 outs_laws_eqLogEditS_0 Tryd.f11 4) (step_laws_eqLogEditS_0_eq) ho
  · cases h) F_laws_eqLogEditS_eq

noncomputable def step_laws_markText_0 (s : Int × ByteArray) : Option ((Int × ByteArray) ⊕ ((ByteArray))) :=
  bif (decide (s.1 > 0)) then
    bif !decide (10 = 0) then
      let v5 := (s.1).tmod 10
      let v6 := IntKind.i64.wrap (48 + v5)
      let v7 := IntKind.u8.wrap v6
      bif decide ((bytesStr [v7]).size + s.2.size ≤ 9223372036854775807) then
        bif !decide (10 = 0) then
          let v8 := IntKind.i64.wrap ((s.1).tdiv 10)
          some (.inl ((v8, ((bytesStr [v7]) ++ s.2))))
        else none
      else none
    else none
  else
    some (.inr (s.2))
def pat_laws_markText_0 : Pat := { tmps := [.v (.int .i64), .any, .any, .v .str, .any, .any, .any, .any, .any, .any, .any, .any, .any, .any, .any, .any, .any, .any, .any, .any], blks := [] }
def outs_laws_markText_0 : List (Exit × Pat) := [(.exit 0, { tmps := [.any, .any, .any, .v .str, .any, .any, .any, .any, .any, .any, .any, .any, .any, .any, .any, .any, .any, .any, .any, .any], blks := [] })]
noncomputable def F_laws_markText (x : Int) : Option (ByteArray) :=
  bif (decide (x ≤ 0)) then
    some ((⟨#[109, 48]⟩ : ByteArray))
  else
    match runL step_laws_markText_0 ((x, (⟨#[]⟩ : ByteArray))) with
    | none => none
    | some o9 =>
      bif decide ((⟨#[109]⟩ : ByteArray).size + o9.size ≤ 9223372036854775807) then
        some (((⟨#[109]⟩ : ByteArray) ++ o9))
      else none
noncomputable def c_laws_markText : Con := { ps := [(.val, (.int .i64))], rs := [(.val, .str)], F := F_laws_markText }
noncomputable def env_laws_markText : Env := { par := [], dp := false, settle := [], con := fun _ => none, clo := fun _ => none, T := tinf Tryd.prog }
noncomputable def loops_laws_markText : Nat → Option Loop := fun n => match n with | 4 => some { pat := pat_laws_markText_0, outs := outs_laws_markText_0, run := runL (step_laws_markText_0) } | _ => none
theorem step_laws_markText_0_eq (s : Int × ByteArray) : stepEv env_laws_markText loops_laws_markText pat_laws_markText_0 outs_laws_markText_0 Tryd.f27 4 s = step_laws_markText_0 s := by kernel_rfl
theorem F_laws_markText_eq (x : Int) : Fev env_laws_markText loops_laws_markText c_laws_markText.ps c_laws_markText.rs Tryd.f27 x = F_laws_markText x := by kernel_rfl
theorem env_laws_markText_ok : EnvOK Tryd.prog env_laws_markText := envOK_of (fun f c h => by cases h) (fun f c h => by cases h) rfl
theorem con_laws_markText : ConOK Tryd.prog 27 c_laws_markText := con_of_ev' (body := Tryd.f27.body.getD .skip) (Λ := loops_laws_markText) mixed Tryd.func27 (by kernel_rfl) (by kernel_rfl) env_laws_markText_ok (by kernel_rfl) (by kernel_rfl) (fun n L h => by
  unfold loops_laws_markText at h
  split at h
  · cases h; exact fun s o ho => loop_ok (stepF := stepEv env_laws_markText loops_laws_markText pat_laws_markText_0 outs_laws_markText_0 Tryd.f27 4) (step_laws_markText_0_eq) ho
  · cases h) F_laws_markText_eq

noncomputable def step_laws_markLogEditS_0 (s : Int × Int × (List (Int × (ByteArray × Bool)))) : Option ((Int × Int × (List (Int × (ByteArray × Bool)))) ⊕ ((Int × (List (Int × (ByteArray × Bool)))))) :=
  bif (decide (s.2.1 < (s.2.2.length : Int))) then
    bif decide (0 ≤ s.2.1) && decide (s.2.1 < (s.2.2.length : Int)) then
      let v10 := s.2.2.set (s.2.1).toNat ((s.1, (s.2.2.getD (s.2.1).toNat (0, ByteArray.empty, false)).2))
      let v11 := IntKind.i64.wrap (s.1 + 1)
      match F_laws_markText (v11) with
      | none => none
      | some y12 =>
        bif decide (0 ≤ s.2.1) && decide (s.2.1 < (v10.length : Int)) then
          let v13 := v10.set (s.2.1).toNat (((v10.getD (s.2.1).toNat (0, ByteArray.empty, false)).1, y12, (v10.getD (s.2.1).toNat (0, ByteArray.empty, false)).2.2))
          let v14 := IntKind.i64.wrap (v11 + 1)
          bif !decide (3 = 0) then
            let v15 := (v14).tmod 3
            bif decide (0 ≤ s.2.1) && decide (s.2.1 < (v13.length : Int)) then
              let v16 := v13.set (s.2.1).toNat (((v13.getD (s.2.1).toNat (0, ByteArray.empty, false)).1, (v13.getD (s.2.1).toNat (0, ByteArray.empty, false)).2.1, ((v15 == 0))))
              let v17 := IntKind.i64.wrap (v14 + 1)
              let v18 := IntKind.i64.wrap (s.2.1 + 1)
              some (.inl ((v17, v18, v16)))
            else none
          else none
        else none
    else none
  else
    some (.inr ((s.1, s.2.2)))
def pat_laws_markLogEditS_0 : Pat := { tmps := [.own 63, .v (.int .i64), .any, .any, .any, .v (.int .i64), .any, .any, .any, .any, .any, .any, .any, .any, .any, .any, .any, .any, .any, .any, .any, .any, .any, .any, .any, .any, .any, .any, .any, .any, .any, .any, .any, .any, .any, .any, .any], blks := [(63, .row true (.st (.pair (.int .i64) (.pair .str .bool))))] }
def outs_laws_markLogEditS_0 : List (Exit × Pat) := [(.exit 0, { tmps := [.any, .v (.int .i64), .any, .any, .any, .any, .any, .any, .any, .any, .any, .any, .any, .any, .any, .any, .any, .any, .any, .any, .any, .any, .any, .any, .any, .any, .any, .any, .any, .any, .any, .any, .any, .any, .any, .any, .any], blks := [(63, .row true (.st (.pair (.int .i64) (.pair .str .bool))))] })]
noncomputable def F_laws_markLogEditS (x : (List (Int × (ByteArray × Bool))) × Int) : Option ((List (Int × (ByteArray × Bool))) × Int) :=
  match runL step_laws_markLogEditS_0 ((x.2, 0, x.1)) with
  | none => none
  | some o19 =>
    some ((o19.2, o19.1))
noncomputable def c_laws_markLogEditS : Con := { ps := [(.io true, (.slice (.st (.pair (.int .i64) (.pair .str .bool))))), (.val, (.int .i64))], rs := [(.val, (.int .i64))], F := F_laws_markLogEditS }
noncomputable def env_laws_markLogEditS : Env := { par := [63], dp := false, settle := [], con := fun f => match f with | 27 => some c_laws_markText | _ => none, clo := fun _ => none, T := tinf Tryd.prog }
noncomputable def loops_laws_markLogEditS : Nat → Option Loop := fun n => match n with | 2 => some { pat := pat_laws_markLogEditS_0, outs := outs_laws_markLogEditS_0, run := runL (step_laws_markLogEditS_0) } | _ => none
theorem step_laws_markLogEditS_0_eq (s : Int × Int × (List (Int × (ByteArray × Bool)))) : stepEv env_laws_markLogEditS loops_laws_markLogEditS pat_laws_markLogEditS_0 outs_laws_markLogEditS_0 Tryd.f12 2 s = step_laws_markLogEditS_0 s := by kernel_rfl
theorem F_laws_markLogEditS_eq (x : (List (Int × (ByteArray × Bool))) × Int) : Fev env_laws_markLogEditS loops_laws_markLogEditS c_laws_markLogEditS.ps c_laws_markLogEditS.rs Tryd.f12 x = F_laws_markLogEditS x := by kernel_rfl
theorem env_laws_markLogEditS_ok : EnvOK Tryd.prog env_laws_markLogEditS := envOK_of (fun f c h => by
  simp only [env_laws_markLogEditS] at h
  split at h
  · cases h; exact con_laws_markText
  · cases h) (fun f c h => by cases h) rfl
theorem con_laws_markLogEditS : ConOK Tryd.prog 12 c_laws_markLogEditS := con_of_ev' (body := Tryd.f12.body.getD .skip) (Λ := loops_laws_markLogEditS) mixed Tryd.func12 (by kernel_rfl) (by kernel_rfl) env_laws_markLogEditS_ok (by kernel_rfl) (by kernel_rfl) (fun n L h => by
  unfold loops_laws_markLogEditS at h
  split at h
  · cases h; exact fun s o ho => loop_ok (stepF := stepEv env_laws_markLogEditS loops_laws_markLogEditS pat_laws_markLogEditS_0 outs_laws_markLogEditS_0 Tryd.f12 2) (step_laws_markLogEditS_0_eq) ho
  · cases h) F_laws_markLogEditS_eq

noncomputable def step_laws_heldLogEditS_0 (s : (List (Int × (ByteArray × Bool))) × Int × Int) : Option (((List (Int × (ByteArray × Bool))) × Int × Int) ⊕ ((Int) ⊕ (Int))) :=
  bif (decide (s.2.2 < (s.1.length : Int))) then
    bif decide (0 ≤ s.2.2) && decide (s.2.2 < (s.1.length : Int)) then
      bif (((s.1.getD (s.2.2).toNat (0, ByteArray.empty, false)).1 != s.2.1)) then
        some (.inr (.inl ((-1))))
      else
        let v7 := IntKind.i64.wrap (s.2.1 + 1)
        bif decide (0 ≤ s.2.2) && decide (s.2.2 < (s.1.length : Int)) then
          match F_laws_markText (v7) with
          | none => none
          | some y8 =>
            bif (!((s.1.getD (s.2.2).toNat (0, ByteArray.empty, false)).2.1.toList == y8.toList)) then
              some (.inr (.inl ((-1))))
            else
              let v9 := IntKind.i64.wrap (v7 + 1)
              bif decide (0 ≤ s.2.2) && decide (s.2.2 < (s.1.length : Int)) then
                bif !decide (3 = 0) then
                  let v10 := (v9).tmod 3
                  bif (!((s.1.getD (s.2.2).toNat (0, ByteArray.empty, false)).2.2 == ((v10 == 0)))) then
                    some (.inr (.inl ((-1))))
                  else
                    let v11 := IntKind.i64.wrap (v9 + 1)
                    let v12 := IntKind.i64.wrap (s.2.2 + 1)
                    some (.inl ((s.1, v11, v12)))
                else none
              else none
        else none
    else none
  else
    some (.inr (.inr (s.2.1)))
def pat_laws_heldLogEditS_0 : Pat := { tmps := [.v (.slice (.st (.pair (.int .i64) (.pair .str .bool)))), .v (.int .i64), .any, .any, .any, .v (.int .i64), .any, .any, .any, .any, .any, .any, .any, .any, .any, .any, .any, .any, .any, .any, .any, .any, .any, .any, .any, .any, .any, .any, .any, .any, .any, .any, .any, .any, .any, .any, .any, .any, .any, .any, .any, .any, .any], blks := [] }
def outs_laws_heldLogEditS_0 : List (Exit × Pat) := [(.ret, { tmps := [.any, .any, .any, .any, .v (.int .i64), .any, .any, .any, .any, .any, .any, .any, .any, .any, .any, .any, .any, .any, .any, .any, .any, .any, .any, .any, .any, .any, .any, .any, .any, .any, .any, .any, .any, .any, .any, .any, .any, .any, .any, .any, .any, .any, .any], blks := [] }), (.exit 0, { tmps := [.any, .v (.int .i64), .any, .any, .any, .any, .any, .any, .any, .any, .any, .any, .any, .any, .any, .any, .any, .any, .any, .any, .any, .any, .any, .any, .any, .any, .any, .any, .any, .any, .any, .any, .any, .any, .any, .any, .any, .any, .any, .any, .any, .any, .any], blks := [] })]
noncomputable def F_laws_heldLogEditS (x : (List (Int × (ByteArray × Bool))) × Int) : Option (Int) :=
  match runL step_laws_heldLogEditS_0 ((x.1, x.2, 0)) with
  | none => none
  | some (.inl o13) =>
    some (o13)
  | some (.inr o13) =>
    some (o13)
noncomputable def c_laws_heldLogEditS : Con := { ps := [(.val, (.slice (.st (.pair (.int .i64) (.pair .str .bool))))), (.val, (.int .i64))], rs := [(.val, (.int .i64))], F := F_laws_heldLogEditS }
noncomputable def env_laws_heldLogEditS : Env := { par := [], dp := false, settle := [], con := fun f => match f with | 27 => some c_laws_markText | _ => none, clo := fun _ => none, T := tinf Tryd.prog }
noncomputable def loops_laws_heldLogEditS : Nat → Option Loop := fun n => match n with | 2 => some { pat := pat_laws_heldLogEditS_0, outs := outs_laws_heldLogEditS_0, run := runL (step_laws_heldLogEditS_0) } | _ => none
theorem step_laws_heldLogEditS_0_eq (s : (List (Int × (ByteArray × Bool))) × Int × Int) : stepEv env_laws_heldLogEditS loops_laws_heldLogEditS pat_laws_heldLogEditS_0 outs_laws_heldLogEditS_0 Tryd.f13 2 s = step_laws_heldLogEditS_0 s := by kernel_rfl
theorem F_laws_heldLogEditS_eq (x : (List (Int × (ByteArray × Bool))) × Int) : Fev env_laws_heldLogEditS loops_laws_heldLogEditS c_laws_heldLogEditS.ps c_laws_heldLogEditS.rs Tryd.f13 x = F_laws_heldLogEditS x := by kernel_rfl
theorem env_laws_heldLogEditS_ok : EnvOK Tryd.prog env_laws_heldLogEditS := envOK_of (fun f c h => by
  simp only [env_laws_heldLogEditS] at h
  split at h
  · cases h; exact con_laws_markText
  · cases h) (fun f c h => by cases h) rfl
theorem con_laws_heldLogEditS : ConOK Tryd.prog 13 c_laws_heldLogEditS := con_of_ev' (body := Tryd.f13.body.getD .skip) (Λ := loops_laws_heldLogEditS) mixed Tryd.func13 (by kernel_rfl) (by kernel_rfl) env_laws_heldLogEditS_ok (by kernel_rfl) (by kernel_rfl) (fun n L h => by
  unfold loops_laws_heldLogEditS at h
  split at h
  · cases h; exact fun s o ho => loop_ok (stepF := stepEv env_laws_heldLogEditS loops_laws_heldLogEditS pat_laws_heldLogEditS_0 outs_laws_heldLogEditS_0 Tryd.f13 2) (step_laws_heldLogEditS_0_eq) ho
  · cases h) F_laws_heldLogEditS_eq

noncomputable def F_laws_FnExactSalvageEdits (x : ByteArray) : Option (Bool) :=
  bif (decide ((x.size : Int) > 1048576)) then
    some (true)
  else
    match F_spec_SalvageEdits (x) with
    | none => none
    | some y1 =>
      match F_impl_SalvageEdits (x) with
      | none => none
      | some y2 =>
        match F_laws_eqLogEditS ((y2.1, y1.1)) with
        | none => none
        | some y3 =>
          bif (!y3) then
            some (false)
          else
            bif (!(y2.2 == y1.2)) then
              some (false)
            else
              match F_laws_markLogEditS ((y2.1, 1)) with
              | none => none
              | some y4 =>
                match F_laws_heldLogEditS ((y4.1, 1)) with
                | none => none
                | some y5 =>
                  bif (decide (y5 < 0)) then
                    some (false)
                  else
                    bif ((y5 != y4.2)) then
                      some (false)
                    else
                      match F_impl_SalvageEdits (x) with
                      | none => none
                      | some y6 =>
                        match F_laws_eqLogEditS ((y6.1, y1.1)) with
                        | none => none
                        | some y7 =>
                          bif (!y7) then
                            some (false)
                          else
                            bif (!(y6.2 == y1.2)) then
                              some (false)
                            else
                              match F_laws_heldLogEditS ((y4.1, 1)) with
                              | none => none
                              | some y8 =>
                                bif (decide (y8 < 0)) then
                                  some (false)
                                else
                                  bif ((y8 != y4.2)) then
                                    some (false)
                                  else
                                    some (true)
noncomputable def c_laws_FnExactSalvageEdits : Con := { ps := [(.val, .str)], rs := [(.val, .bool)], F := F_laws_FnExactSalvageEdits }
noncomputable def env_laws_FnExactSalvageEdits : Env := { par := [], dp := false, settle := [], con := fun f => match f with | 9 => some c_spec_SalvageEdits | 10 => some c_impl_SalvageEdits | 11 => some c_laws_eqLogEditS | 12 => some c_laws_markLogEditS | 13 => some c_laws_heldLogEditS | _ => none, clo := fun _ => none, T := tinf Tryd.prog }
noncomputable def loops_laws_FnExactSalvageEdits : Nat → Option Loop := fun n => none
theorem F_laws_FnExactSalvageEdits_eq (x : ByteArray) : Fev env_laws_FnExactSalvageEdits loops_laws_FnExactSalvageEdits c_laws_FnExactSalvageEdits.ps c_laws_FnExactSalvageEdits.rs Tryd.f4 x = F_laws_FnExactSalvageEdits x := by kernel_rfl
theorem env_laws_FnExactSalvageEdits_ok : EnvOK Tryd.prog env_laws_FnExactSalvageEdits := envOK_of (fun f c h => by
  simp only [env_laws_FnExactSalvageEdits] at h
  split at h
  · cases h; exact con_spec_SalvageEdits
  · cases h; exact con_impl_SalvageEdits
  · cases h; exact con_laws_eqLogEditS
  · cases h; exact con_laws_markLogEditS
  · cases h; exact con_laws_heldLogEditS
  · cases h) (fun f c h => by cases h) rfl
theorem con_laws_FnExactSalvageEdits : ConOK Tryd.prog 4 c_laws_FnExactSalvageEdits := con_of_ev' (body := Tryd.f4.body.getD .skip) (Λ := loops_laws_FnExactSalvageEdits) mixed Tryd.func4 (by kernel_rfl) (by kernel_rfl) env_laws_FnExactSalvageEdits_ok (by kernel_rfl) (by kernel_rfl) (fun n L h => by cases h) F_laws_FnExactSalvageEdits_eq

noncomputable def step_spec_ReadEdits_0 (s : Int × Int × Int × (List ByteArray) × (List (Int × (ByteArray × Bool)))) : Option ((Int × Int × Int × (List ByteArray) × (List (Int × (ByteArray × Bool)))) ⊕ ((Int × (List (Int × (ByteArray × Bool)))))) :=
  bif (decide (s.2.2.1 < s.2.1)) then
    bif decide (0 ≤ s.2.2.1) && decide (s.2.2.1 < (s.2.2.2.1.length : Int)) then
      match F_spec_joParse ((s.2.2.2.1.getD (s.2.2.1).toNat ByteArray.empty)) with
      | none => none
      | some y11 =>
        bif (!y11.2) then
          some (.inr ((s.1, s.2.2.2.2)))
        else
          match F_spec_joNext ((s.2.2.2.2, y11.1)) with
          | none => none
          | some y12 =>
            bif (!y12) then
              some (.inr ((s.1, s.2.2.2.2)))
            else
              bif decide ((s.2.2.2.2.length + [y11.1].length) * 32 ≤ 140737488355328) then
                let v13 := s.2.2.2.2 ++ [y11.1]
                let v14 := IntKind.i64.wrap (s.1 + ((s.2.2.2.1.getD (s.2.2.1).toNat ByteArray.empty).size : Int))
                let v15 := IntKind.i64.wrap (s.2.2.1 + 1)
                some (.inl ((v14, s.2.1, (v15, s.2.2.2.1, v13))))
              else none
    else none
  else
    some (.inr ((s.1, s.2.2.2.2)))
def pat_spec_ReadEdits_0 : Pat := { tmps := [.any, .any, .any, .any, .any, .own 2368, .v (.int .i64), .any, .any, .any, .any, .any, .any, .any, .any, .own 960, .v (.int .i64), .v (.int .i64), .any, .any, .any, .any, .any, .any, .any, .any, .any, .any, .any, .any, .any, .any, .any, .any, .any, .any, .any, .any, .any, .any, .any, .any, .any, .any, .any], blks := [(960, .row true .str), (2368, .row true (.st (.pair (.int .i64) (.pair .str .bool))))] }
def outs_spec_ReadEdits_0 : List (Exit × Pat) := [(.exit 0, { tmps := [.any, .any, .any, .any, .any, .own 2368, .v (.int .i64), .any, .any, .any, .any, .any, .any, .any, .any, .any, .any, .any, .any, .any, .any, .any, .any, .any, .any, .any, .any, .any, .any, .any, .any, .any, .any, .any, .any, .any, .any, .any, .any, .any, .any, .any, .any, .any, .any], blks := [(2368, .row true (.st (.pair (.int .i64) (.pair .str .bool))))] })]
noncomputable def F_spec_ReadEdits (x : ByteArray) : Option ((List (Int × (ByteArray × Bool))) × Int × Bool) :=
  bif (decide ((x.size : Int) > 2000)) then
    some (([], 0, false))
  else
    match F_spec_joParts (x) with
    | none => none
    | some y1 =>
      match runL step_spec_ReadEdits_0 ((0, (y1.length : Int), (0, y1, []))) with
      | none => none
      | some o16 =>
        some ((o16.2, o16.1, true))
noncomputable def c_spec_ReadEdits : Con := { ps := [(.val, .str)], rs := [(.io true, (.slice (.st (.pair (.int .i64) (.pair .str .bool))))), (.val, (.int .i64)), (.val, .bool)], F := F_spec_ReadEdits }
noncomputable def env_spec_ReadEdits : Env := { par := [], dp := false, settle := [], con := fun f => match f with | 16 => some c_spec_joParse | 22 => some c_spec_joParts | 23 => some c_spec_joNext | _ => none, clo := fun _ => none, T := tinf Tryd.prog }
noncomputable def loops_spec_ReadEdits : Nat → Option Loop := fun n => match n with | 6 => some { pat := pat_spec_ReadEdits_0, outs := outs_spec_ReadEdits_0, run := runL (step_spec_ReadEdits_0) } | _ => none
theorem step_spec_ReadEdits_0_eq (s : Int × Int × Int × (List ByteArray) × (List (Int × (ByteArray × Bool)))) : stepEv env_spec_ReadEdits loops_spec_ReadEdits pat_spec_ReadEdits_0 outs_spec_ReadEdits_0 Tryd.f14 6 s = step_spec_ReadEdits_0 s := by kernel_rfl
theorem F_spec_ReadEdits_eq (x : ByteArray) : Fev env_spec_ReadEdits loops_spec_ReadEdits c_spec_ReadEdits.ps c_spec_ReadEdits.rs Tryd.f14 x = F_spec_ReadEdits x := by kernel_rfl
theorem env_spec_ReadEdits_ok : EnvOK Tryd.prog env_spec_ReadEdits := envOK_of (fun f c h => by
  simp only [env_spec_ReadEdits] at h
  split at h
  · cases h; exact con_spec_joParse
  · cases h; exact con_spec_joParts
  · cases h; exact con_spec_joNext
  · cases h) (fun f c h => by cases h) rfl
theorem con_spec_ReadEdits : ConOK Tryd.prog 14 c_spec_ReadEdits := con_of_ev' (body := Tryd.f14.body.getD .skip) (Λ := loops_spec_ReadEdits) mixed Tryd.func14 (by kernel_rfl) (by kernel_rfl) env_spec_ReadEdits_ok (by kernel_rfl) (by kernel_rfl) (fun n L h => by
  unfold loops_spec_ReadEdits at h
  split at h
  · cases h; exact fun s o ho => loop_ok (stepF := stepEv env_spec_ReadEdits loops_spec_ReadEdits pat_spec_ReadEdits_0 outs_spec_ReadEdits_0 Tryd.f14 6) (step_spec_ReadEdits_0_eq) ho
  · cases h) F_spec_ReadEdits_eq

noncomputable def step_impl_ReadEdits_L (s : (List (Int × (ByteArray × Bool))) × Int) (x : ByteArray) : Option (((List (Int × (ByteArray × Bool))) × Int) ⊕ ((List (Int × (ByteArray × Bool))) × Int)) :=
  match F_impl_ParseEditLine (x) with
  | none => none
  | some y1 =>
    bif (!y1.2) then
      some (.inr (s))
    else
      match F_slices_Clone_impl_LogEdit_impl_LogEdit (s.1) with
      | none => none
      | some y2 =>
        bif decide ((y2.length + ([y1.1] : List ((Int × (ByteArray × Bool)))).length) * 32 ≤ 140737488355328) then
          let v3 := y2 ++ ([y1.1] : List ((Int × (ByteArray × Bool))))
          match F_impl_AreEdits (v3) with
          | none => none
          | some y4 =>
            bif (!y4) then
              some (.inr (s))
            else
              bif decide ((s.1.length + [y1.1].length) * 32 ≤ 140737488355328) then
                let v5 := s.1 ++ [y1.1]
                let v6 := IntKind.i64.wrap (s.2 + (x.size : Int))
                some (.inl ((v5, v6)))
              else none
        else none
def pat_impl_ReadEdits_L : Pat := { tmps := [.any, .any, .any, .any, .any, .ptr 62 0, .ptr 190 0, .any, .any, .any, .any, .any, .any, .any, .any, .any, .any, .any, .any, .any, .any, .any, .any, .any, .any, .any, .any, .any, .any, .any, .any, .any, .any, .any, .any, .any, .any, .any, .any, .any, .any, .any], blks := [(62, .box [.own 126]), (126, .row true (.st (.pair (.int .i64) (.pair .str .bool)))), (190, .box [.v (.int .i64)])] }
noncomputable def env_impl_ReadEdits : Env := { par := [62, 126, 190], dp := false, settle := [], con := fun f => match f with | 7 => some c_impl_ParseEditLine | 25 => some c_impl_AreEdits | 26 => some c_slices_Clone_impl_LogEdit_impl_LogEdit | _ => none, clo := fun _ => none, T := tinf Tryd.prog }
noncomputable def body_impl_ReadEdits : Code := rfBody (Tryd.f15.body.getD .skip)
theorem step_impl_ReadEdits_L_eq (s : (List (Int × (ByteArray × Bool))) × Int) (x : ByteArray) : ev env_impl_ReadEdits (fun _ => none) body_impl_ReadEdits (((pat_impl_ReadEdits_L.enc s).set 15 (.c (.str x))).set 7 (.c (.str x))) (kstep pat_impl_ReadEdits_L [(.exit 0, pat_impl_ReadEdits_L)]) = step_impl_ReadEdits_L s x := by kernel_rfl
theorem env_impl_ReadEdits_ok : EnvOK Tryd.prog env_impl_ReadEdits := envOK_of (fun f c h => by
  simp only [env_impl_ReadEdits] at h
  split at h
  · cases h; exact con_impl_ParseEditLine
  · cases h; exact con_impl_AreEdits
  · cases h; exact con_slices_Clone_impl_LogEdit_impl_LogEdit
  · cases h) (fun f c h => by cases h) rfl
noncomputable def F_impl_ReadEdits (x : ByteArray) : Option (List (Int × (ByteArray × Bool)) × Int × Bool) :=
  bif decide ((x.size : Int) > 2000) then some ([], 0, false) else
  match foldL step_impl_ReadEdits_L ([], 0) (linesOf x) with
  | none => none
  | some (.inl s) => some (s.1, s.2, true)
  | some (.inr s) => some (s.1, s.2, true)
def Post_impl_ReadEdits (w : World) (y : List (Int × (ByteArray × Bool)) × Int × Bool) (e : Ending) (w' : World) : Prop := ∃ v, ∃ F : Nat → Prop, e = .returned (.tuple #[v, .int .i64 y.2.1, .bool y.2.2]) ∧ (∀ b, F b → w.heap.size ≤ b ∧ b < w'.heap.size) ∧ RowOf Tryd.prog false true tyE w' NoB F v y.1 ∧ Fr NoB w w'
open Go.RowKit in
set_option maxHeartbeats 8000000 in
set_option maxRecDepth 1000000 in
theorem calls_impl_ReadEdits (x : ByteArray) (w : World) (y : List (Int × (ByteArray × Bool)) × Int × Bool) (hF : F_impl_ReadEdits x = some y) (ht : Tabs Tryd.prog w) :
    Calls Tryd.prog 15 #[.string x] w fun e w' => Post_impl_ReadEdits w y e w' := by
  refine (callsIn_wide (n := 3)).1 ?_
  refine callsIn_of_wp_marks (F := Fence.wide) Tryd.func15 rfl trivial ?_ rfl
  simp only [Tryd.ntmps15, List.size_toArray, List.length_cons, List.length_nil, Nat.reduceAdd, Nat.reduceSub, Array.replicate_succ, Array.replicate_zero, List.push_toArray, List.append_toArray, List.nil_append, List.cons_append]
  unfold F_impl_ReadEdits at hF
  have mixed : Tryd.prog.follows .mixedOrders = true := by kernel_rfl
  cases hbig : decide ((x.size : Int) > 2000) with
  | true =>
    rw [hbig] at hF
    obtain rfl : y = ([], 0, false) := (Option.some.inj hF).symm
    have hb : (2000 : Int) < (x.size : Int) := of_decide_eq_true hbig
    gi_wp2
    refine ⟨_, results_tmp3 rfl _ _ _, ?_⟩
    show Post_impl_ReadEdits _ _ _ _
    unfold Post_impl_ReadEdits
    exact ⟨_, NoB, rfl, fun _ f => f.elim, ⟨none, 0, rfl, Nat.le_refl _, .inl rfl⟩, Fr.refl _ _⟩
  | false =>
    rw [hbig] at hF
    simp only [cond_false] at hF
    have hb : ¬ (2000 : Int) < (x.size : Int) := of_decide_eq_false hbig
    gi_wp2_with (refine ⟨trivial, ?_⟩; refine (callsIn_wide.2 (calls_strings_Lines _ _)).mono ?_; rintro e w' ⟨rfl, hw⟩; rw [hw])
    generalize hact : ({ tmps := _, defers := _ } : Act) = act
    obtain ⟨W1, hW1⟩ : ∃ W1, ((w.alloc (.cells #[.slice none 0 0] 28)).alloc (.cells #[.int .i64 0] 3)).alloc (.cells #[.string x] 9) = W1 := ⟨_, rfl⟩
    rw [hW1]
    have hs1 : W1.heap.size = w.heap.size + 3 := by rw [← hW1]; simp
    have h4 : W1.heap[w.heap.size]? = some (.cells #[.slice none 0 0] 28 (0, 0)) := by rw [← hW1]; exact (Below.heap_alloc _ _ _ (by simp; omega)).trans ((Below.heap_alloc _ _ _ (by simp)).trans (World.alloc_heap_new w _))
    have h6 : W1.heap[w.heap.size + 1]? = some (.cells #[.int .i64 0] 3 (0, 0)) := by
      rw [← hW1]
      refine (Below.heap_alloc _ _ _ (by simp)).trans ?_
      have := World.alloc_heap_new (w.alloc (.cells #[.slice none 0 0] 28)) (.cells #[.int .i64 0] 3); rwa [World.size_alloc] at this
    have hbs : W1.heap[w.heap.size + 1 + 1]? = some (.cells #[.string x] 9 (0, 0)) := by
      rw [← hW1]; have := World.alloc_heap_new ((w.alloc (.cells #[.slice none 0 0] 28)).alloc (.cells #[.int .i64 0] 3)) (.cells #[.string x] 9); rwa [World.size_alloc, World.size_alloc] at this
    have hb1 : Below w.heap.size w W1 := by rw [← hW1]; exact (((Below.refl _ w).alloc (Nat.le_refl _) _).alloc (by simp) _).alloc (by simp; omega) _
    have ht1 : Tabs Tryd.prog W1 := (fr_of_below hb1).tabs ht
    cases hfold : foldL step_impl_ReadEdits_L ([], 0) (linesOf x) with
    | none => rw [hfold] at hF; cases hF
    | some r =>
    rw [hfold] at hF
    have hact4 : act.tmps[5]? = some (.pointer (some ⟨w.heap.size, 0, none⟩)) := by rw [← hact]; rfl
    have hact6 : act.tmps[6]? = some (.pointer (some ⟨w.heap.size + 1, 0, none⟩)) := by rw [← hact]; rfl
    have hLM : LM Tryd.prog [62, 126, 190] (fun b => b = w.heap.size + 1 + 1 ∨ b = W1.heap.size ∨ b = W1.heap.size + 1) w.heap.size (pat_impl_ReadEdits_L.enc ((([], (0 : Int)) : List (Int × (ByteArray × Bool)) × Int))) act.tmps W1 :=
      lm_start2 (ty := tyE) (t := 5) (b4 := w.heap.size) (t6 := 6) (b6 := w.heap.size + 1) ht1 ht.2.1 h4 ⟨Nat.le_refl _, by omega⟩ hact4 h6 ⟨by omega, by omega⟩ hact6 (by omega) (by rw [← hact]; rfl) rfl
    refine wp_lines (E := env_impl_ReadEdits) (Λ := fun _ => none) (T := [17, 18, 16, 19, 20, 8, 9, 21, 22, 23, 24, 25, 26, 27, 28, 29, 30, 31, 32, 33, 34, 35, 36, 37, 38, 39]) (pat := pat_impl_ReadEdits_L) (id := 0) (body := body_impl_ReadEdits) (n₀ := w.heap.size) (stp := step_impl_ReadEdits_L) mixed env_impl_ReadEdits_ok rfl (by kernel_rfl) (by kernel_rfl) (by kernel_rfl)
      (fun l n a W K h => assign_ok h) lines_ok (enters_of Tryd.func41 (by kernel_rfl) rfl) (by rw [← hact]) (by rw [← hact]; rfl) (by rw [← hact]; show 15 < 42; omega) (by omega) (by rw [← hact]; rfl) hbs ht.2.1 (by omega)
      (fun s x r h => (step_impl_ReadEdits_L_eq s x).trans h) (fun b => Iff.rfl) hLM hfold ?_
    intro s' W' hb' hLM' hD
    obtain ⟨b, v, e, q1, q2, q3, q4, F, qF, q5⟩ := lm_slice (t := 5) (ty := tyE) (xs := s'.1) hLM' rfl rfl rfl rfl
    obtain rfl : w.heap.size = b := by
      rw [hact4] at q1
      have := Option.some.inj q1
      simpa using this
    obtain ⟨b6, e6, q6, q7⟩ := lm_int (t := 6) (n := 190) (z := s'.2) hLM' rfl rfl
    obtain rfl : w.heap.size + 1 = b6 := by
      rw [hact6] at q6
      have := Option.some.inj q6
      simpa using this
    have hcell : W'.cell? ⟨w.heap.size, 0, none⟩ = some v := by simp [World.cell?, q2]
    have hcell6 : W'.cell? ⟨w.heap.size + 1, 0, none⟩ = some (.int .i64 s'.2) := by simp [World.cell?, q7]
    rw [hs1] at hD
    have hsz' : (W'.drew.putObj (w.heap.size + 3) (.deferred none)).heap.size = W'.heap.size := World.putObj_size
    have hrd : RowOf Tryd.prog false true tyE (W'.drew.putObj (w.heap.size + 3) (.deferred none)) NoB F v s'.1 := q5.agree (fun _ _ f => f.elim) (w' := W'.drew.putObj (w.heap.size + 3) (.deferred none)) ⟨by rw [hsz']; exact Nat.le_refl _, fun _ _ f => f.elim⟩ (fun _ h => h) ⟨by rw [hsz']; exact Nat.le_refl _, fun b _ hb => World.putObj_heap_other (w := W'.drew) (fun e => (qF b hb).2.1 (.inr (.inl (by omega))))⟩
    have hfr : Fr NoB w (W'.drew.putObj (w.heap.size + 3) (.deferred none)) := fr_of_below ((hb1.trans hb').trans ⟨rfl, rfl, rfl, by simp, fun k hk => World.putObj_heap_other (w := W'.drew) (by omega)⟩)
    subst hact
    refine ⟨fun hr => ?_, fun hr => ?_⟩
    all_goals
      subst hr
      obtain rfl : y = (s'.1, s'.2, true) := (Option.some.inj hF).symm
      gi_wp2
      refine wpIn_wide.2 ?_
      go_region_o
      gi_wp2
    all_goals
      refine ⟨by simp, .inl ⟨_, _, rfl, run_takeDeferred (w := W'.drew) hD, ?_⟩⟩
      refine ⟨_, results_tmp3 rfl _ _ _, ?_⟩
      show Post_impl_ReadEdits _ _ _ _
      unfold Post_impl_ReadEdits
      exact ⟨v, F, rfl, fun b hb => ⟨(qF b hb).1, by rw [hsz']; exact (qF b hb).2.2⟩, hrd, hfr⟩
noncomputable def c_impl_ReadEdits : Con := { ps := [(.val, .str)], rs := [(.io true, .slice tyE), (.val, .int .i64), (.val, .bool)], F := F_impl_ReadEdits }
theorem con_impl_ReadEdits : ConOK Tryd.prog 15 c_impl_ReadEdits := by
  refine ⟨⟨Tryd.f15, Tryd.func15, by kernel_rfl, by kernel_rfl⟩, fun w Z X vals x y hy _ _ hold ht _ => ?_⟩
  rw [holds_valsL [(.val, .str)] X vals x rfl hold]
  refine (calls_impl_ReadEdits x w y hy ht).mono ?_
  rintro e' w' ⟨v, F, rfl, hF, hrd, hfr⟩
  exact ⟨_, [v, .int .i64 y.2.1, .bool y.2.2], F, NoB, rfl, rfl, rfl, hfr.le, fun b hb => ⟨.inl (hF b hb).1, (hF b hb).2⟩, fun _ f => f.elim, fun _ _ f => f, holds_nil rfl _,
    ⟨v, _, F, NoB, rfl, fun _ h => h, fun _ f => f.elim, fun _ _ f => f, RowOf.agree hrd (fun _ _ f => f.elim) (Agree.refl _ _) (fun _ h => h) (Agree.refl _ _), _, _, rfl, ⟨[.int .i64 y.2.1], rfl, rfl⟩, _, [], rfl, ⟨[.bool y.2.2], rfl, rfl⟩, rfl⟩⟩

noncomputable def F_laws_FnExactReadEdits (x : ByteArray) : Option (Bool) :=
  bif (decide ((x.size : Int) > 1048576)) then
    some (true)
  else
    match F_spec_ReadEdits (x) with
    | none => none
    | some y1 =>
      match F_impl_ReadEdits (x) with
      | none => none
      | some y2 =>
        match F_laws_eqLogEditS ((y2.1, y1.1)) with
        | none => none
        | some y3 =>
          bif (!y3) then
            some (false)
          else
            bif ((y2.2.1 != y1.2.1)) then
              some (false)
            else
              bif (!(y2.2.2 == y1.2.2)) then
                some (false)
              else
                match F_laws_markLogEditS ((y2.1, 1)) with
                | none => none
                | some y4 =>
                  match F_laws_heldLogEditS ((y4.1, 1)) with
                  | none => none
                  | some y5 =>
                    bif (decide (y5 < 0)) then
                      some (false)
                    else
                      bif ((y5 != y4.2)) then
                        some (false)
                      else
                        match F_impl_ReadEdits (x) with
                        | none => none
                        | some y6 =>
                          match F_laws_eqLogEditS ((y6.1, y1.1)) with
                          | none => none
                          | some y7 =>
                            bif (!y7) then
                              some (false)
                            else
                              bif ((y6.2.1 != y1.2.1)) then
                                some (false)
                              else
                                bif (!(y6.2.2 == y1.2.2)) then
                                  some (false)
                                else
                                  match F_laws_heldLogEditS ((y4.1, 1)) with
                                  | none => none
                                  | some y8 =>
                                    bif (decide (y8 < 0)) then
                                      some (false)
                                    else
                                      bif ((y8 != y4.2)) then
                                        some (false)
                                      else
                                        some (true)
noncomputable def c_laws_FnExactReadEdits : Con := { ps := [(.val, .str)], rs := [(.val, .bool)], F := F_laws_FnExactReadEdits }
noncomputable def env_laws_FnExactReadEdits : Env := { par := [], dp := false, settle := [], con := fun f => match f with | 11 => some c_laws_eqLogEditS | 12 => some c_laws_markLogEditS | 13 => some c_laws_heldLogEditS | 14 => some c_spec_ReadEdits | 15 => some c_impl_ReadEdits | _ => none, clo := fun _ => none, T := tinf Tryd.prog }
noncomputable def loops_laws_FnExactReadEdits : Nat → Option Loop := fun n => none
theorem F_laws_FnExactReadEdits_eq (x : ByteArray) : Fev env_laws_FnExactReadEdits loops_laws_FnExactReadEdits c_laws_FnExactReadEdits.ps c_laws_FnExactReadEdits.rs Tryd.f5 x = F_laws_FnExactReadEdits x := by kernel_rfl
theorem env_laws_FnExactReadEdits_ok : EnvOK Tryd.prog env_laws_FnExactReadEdits := envOK_of (fun f c h => by
  simp only [env_laws_FnExactReadEdits] at h
  split at h
  · cases h; exact con_laws_eqLogEditS
  · cases h; exact con_laws_markLogEditS
  · cases h; exact con_laws_heldLogEditS
  · cases h; exact con_spec_ReadEdits
  · cases h; exact con_impl_ReadEdits
  · cases h) (fun f c h => by cases h) rfl
theorem con_laws_FnExactReadEdits : ConOK Tryd.prog 5 c_laws_FnExactReadEdits := con_of_ev' (body := Tryd.f5.body.getD .skip) (Λ := loops_laws_FnExactReadEdits) mixed Tryd.func5 (by kernel_rfl) (by kernel_rfl) env_laws_FnExactReadEdits_ok (by kernel_rfl) (by kernel_rfl) (fun n L h => by cases h) F_laws_FnExactReadEdits_eq

end Go.Proofs.YtadehfgciiocfaaDoor
