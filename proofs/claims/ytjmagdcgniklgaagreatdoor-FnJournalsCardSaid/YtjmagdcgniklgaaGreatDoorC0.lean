/- Contracts of functions of the program, written by a program of this claim. No conditions. -/
import Derived.Test.YtjmagdcgniklgaaGreatDoorEvZk
import Derived.Test.YtjmagdcgniklgaaGreatDoorRows
import Derived.Shelf.Strings.Search1
import Derived.Lib.AppendIntMem
import Derived.Test.YtjmagdcgniklgaaGreatDoorEvZl
import Derived.OwnWalk
import Derived.Lib.SliceRun
import Derived.WalkKit
import Derived.Deep.LoopGhost
import Derived.Lib.Walk
import Derived.Test.YtjmagdcgniklgaaGreatDoorEvZm
import Derived.Sort.Grow
import Derived.OwnWalk
import Derived.Test.YtjmagdcgniklgaaGreatDoorNu
import Derived.Test.YtjmagdcgniklgaaGreatDoorShelf
import Derived.Test.YtjmagdcgniklgaaGreatDoorIdz
import Derived.Test.YtjmagdcgniklgaaGreatDoorEvZt
import Derived.Test.YtjmagdcgniklgaaGreatDoorLi
set_option linter.unusedVariables false
set_option maxRecDepth 100000
namespace Go.Proofs.YtjmagdcgniklgaaGreatDoor
open Go
theorem mixed : Tryz.prog.follows .mixedOrders = true := by kernel_rfl
noncomputable def F_spec_l1Cur_next (x : ((List Int) × (Int × Int))) : Option (((List Int) × (Int × Int)) × Int) :=
  bif (decide (x.2.1 < (x.1.length : Int))) then
    bif decide (0 ≤ x.2.1) && decide (x.2.1 < (x.1.length : Int)) then
      let v1 := IntKind.i64.wrap (x.1.getD (x.2.1).toNat 0)
      let v2 := IntKind.i64.wrap (x.2.1 + 1)
      let v3 := IntKind.u64.wrap (x.2.2 * 6364136223846793005)
      let v4 := IntKind.u64.wrap v1
      let v5 := IntKind.u64.wrap (v3 + v4)
      let v6 := IntKind.u64.wrap (v5 + 1442695040888963407)
      bif (decide (v2 ≤ (x.1.length : Int))) then
        some (((x.1, v2, v6), v1))
      else
        bif decide (0 ≤ (40 : Int)) then
          let v7 := (v6).fdiv (2 ^ (min (40 : Int).toNat IntKind.u64.bits))
          let v8 := IntKind.u64.wrap ((BitVec.ofInt IntKind.u64.bits (v7) &&& BitVec.ofInt IntKind.u64.bits (255)).toNat : Nat)
          let v9 := IntKind.i64.wrap v8
          some (((x.1, v2, v6), v9))
        else none
    else none
  else
    let v10 := IntKind.i64.wrap (x.2.1 + 1)
    let v11 := IntKind.u64.wrap (x.2.2 * 6364136223846793005)
    let v12 := IntKind.u64.wrap 0
    let v13 := IntKind.u64.wrap (v11 + v12)
    let v14 := IntKind.u64.wrap (v13 + 1442695040888963407)
    bif (decide (v10 ≤ (x.1.length : Int))) then
      some (((x.1, v10, v14), 0))
    else
      bif decide (0 ≤ (40 : Int)) then
        let v15 := (v14).fdiv (2 ^ (min (40 : Int).toNat IntKind.u64.bits))
        let v16 := IntKind.u64.wrap ((BitVec.ofInt IntKind.u64.bits (v15) &&& BitVec.ofInt IntKind.u64.bits (255)).toNat : Nat)
        let v17 := IntKind.i64.wrap v16
        some (((x.1, v10, v14), v17))
      else none
noncomputable def c_spec_l1Cur_next : Con := { ps := [(.io false, (.ptr (.st (.pair (.slice (.int .u8)) (.pair (.int .i64) (.int .u64))))))], rs := [(.val, (.int .i64))], F := F_spec_l1Cur_next }
noncomputable def env_spec_l1Cur_next : Env := { par := [63], dp := false, settle := [], con := fun _ => none, clo := fun _ => none, T := tinf Tryz.prog }
noncomputable def loops_spec_l1Cur_next : Nat → Option Loop := fun n => none
theorem F_spec_l1Cur_next_eq (x : ((List Int) × (Int × Int))) : Fev env_spec_l1Cur_next loops_spec_l1Cur_next c_spec_l1Cur_next.ps c_spec_l1Cur_next.rs Tryz.f52 x = F_spec_l1Cur_next x := by kernel_rfl
theorem env_spec_l1Cur_next_ok : EnvOK Tryz.prog env_spec_l1Cur_next := envOK_of (fun f c h => by cases h) (fun f c h => by cases h) rfl
theorem con_spec_l1Cur_next : ConOK Tryz.prog 52 c_spec_l1Cur_next := con_of_ev' (body := Tryz.f52.body.getD .skip) (Λ := loops_spec_l1Cur_next) mixed Tryz.func52 (by kernel_rfl) (by kernel_rfl) env_spec_l1Cur_next_ok (by kernel_rfl) (by kernel_rfl) (fun n L h => by cases h) F_spec_l1Cur_next_eq

noncomputable def F_spec_l1Cur_pick (x : ((List Int) × (Int × Int)) × Int) : Option (((List Int) × (Int × Int)) × Int) :=
  bif (decide (x.2 ≤ 1)) then
    some ((x.1, 0))
  else
    match F_spec_l1Cur_next (x.1) with
    | none => none
    | some y1 =>
      bif (decide (x.2 > 200)) then
        let v2 := IntKind.i64.wrap (y1.2 * 256)
        match F_spec_l1Cur_next (y1.1) with
        | none => none
        | some y3 =>
          let v4 := IntKind.i64.wrap (v2 + y3.2)
          bif !decide (x.2 = 0) then
            let v5 := (v4).tmod x.2
            some ((y3.1, v5))
          else none
      else
        bif !decide (x.2 = 0) then
          let v6 := (y1.2).tmod x.2
          some ((y1.1, v6))
        else none
noncomputable def c_spec_l1Cur_pick : Con := { ps := [(.io false, (.ptr (.st (.pair (.slice (.int .u8)) (.pair (.int .i64) (.int .u64)))))), (.val, (.int .i64))], rs := [(.val, (.int .i64))], F := F_spec_l1Cur_pick }
noncomputable def env_spec_l1Cur_pick : Env := { par := [63], dp := false, settle := [], con := fun f => match f with | 52 => some c_spec_l1Cur_next | _ => none, clo := fun _ => none, T := tinf Tryz.prog }
noncomputable def loops_spec_l1Cur_pick : Nat → Option Loop := fun n => none
theorem F_spec_l1Cur_pick_eq (x : ((List Int) × (Int × Int)) × Int) : Fev env_spec_l1Cur_pick loops_spec_l1Cur_pick c_spec_l1Cur_pick.ps c_spec_l1Cur_pick.rs Tryz.f29 x = F_spec_l1Cur_pick x := by kernel_rfl
theorem env_spec_l1Cur_pick_ok : EnvOK Tryz.prog env_spec_l1Cur_pick := envOK_of (fun f c h => by
  simp only [env_spec_l1Cur_pick] at h
  split at h
  · cases h; exact con_spec_l1Cur_next
  · cases h) (fun f c h => by cases h) rfl
theorem con_spec_l1Cur_pick : ConOK Tryz.prog 29 c_spec_l1Cur_pick := con_of_ev' (body := Tryz.f29.body.getD .skip) (Λ := loops_spec_l1Cur_pick) mixed Tryz.func29 (by kernel_rfl) (by kernel_rfl) env_spec_l1Cur_pick_ok (by kernel_rfl) (by kernel_rfl) (fun n L h => by cases h) F_spec_l1Cur_pick_eq

noncomputable def F_spec_l1Cur_one (x : ((List Int) × (Int × Int)) × Int) : Option (((List Int) × (Int × Int)) × Bool) :=
  match F_spec_l1Cur_pick (x) with
  | none => none
  | some y1 =>
    some ((y1.1, ((y1.2 == 0))))
noncomputable def c_spec_l1Cur_one : Con := { ps := [(.io false, (.ptr (.st (.pair (.slice (.int .u8)) (.pair (.int .i64) (.int .u64)))))), (.val, (.int .i64))], rs := [(.val, .bool)], F := F_spec_l1Cur_one }
noncomputable def env_spec_l1Cur_one : Env := { par := [63], dp := false, settle := [], con := fun f => match f with | 29 => some c_spec_l1Cur_pick | _ => none, clo := fun _ => none, T := tinf Tryz.prog }
noncomputable def loops_spec_l1Cur_one : Nat → Option Loop := fun n => none
theorem F_spec_l1Cur_one_eq (x : ((List Int) × (Int × Int)) × Int) : Fev env_spec_l1Cur_one loops_spec_l1Cur_one c_spec_l1Cur_one.ps c_spec_l1Cur_one.rs Tryz.f51 x = F_spec_l1Cur_one x := by kernel_rfl
theorem env_spec_l1Cur_one_ok : EnvOK Tryz.prog env_spec_l1Cur_one := envOK_of (fun f c h => by
  simp only [env_spec_l1Cur_one] at h
  split at h
  · cases h; exact con_spec_l1Cur_pick
  · cases h) (fun f c h => by cases h) rfl
theorem con_spec_l1Cur_one : ConOK Tryz.prog 51 c_spec_l1Cur_one := con_of_ev' (body := Tryz.f51.body.getD .skip) (Λ := loops_spec_l1Cur_one) mixed Tryz.func51 (by kernel_rfl) (by kernel_rfl) env_spec_l1Cur_one_ok (by kernel_rfl) (by kernel_rfl) (fun n L h => by cases h) F_spec_l1Cur_one_eq

noncomputable def F_spec_l1Cur_of (x : ((List Int) × (Int × Int)) × (List ByteArray)) : Option (((List Int) × (Int × Int)) × ByteArray) :=
  match F_spec_l1Cur_pick ((x.1, (x.2.length : Int))) with
  | none => none
  | some y1 =>
    bif decide (0 ≤ y1.2) && decide (y1.2 < (x.2.length : Int)) then
      some ((y1.1, (x.2.getD (y1.2).toNat ByteArray.empty)))
    else none
noncomputable def c_spec_l1Cur_of : Con := { ps := [(.io false, (.ptr (.st (.pair (.slice (.int .u8)) (.pair (.int .i64) (.int .u64)))))), (.val, (.slice .str))], rs := [(.val, .str)], F := F_spec_l1Cur_of }
noncomputable def env_spec_l1Cur_of : Env := { par := [63], dp := false, settle := [], con := fun f => match f with | 29 => some c_spec_l1Cur_pick | _ => none, clo := fun _ => none, T := tinf Tryz.prog }
noncomputable def loops_spec_l1Cur_of : Nat → Option Loop := fun n => none
theorem F_spec_l1Cur_of_eq (x : ((List Int) × (Int × Int)) × (List ByteArray)) : Fev env_spec_l1Cur_of loops_spec_l1Cur_of c_spec_l1Cur_of.ps c_spec_l1Cur_of.rs Tryz.f58 x = F_spec_l1Cur_of x := by kernel_rfl
theorem env_spec_l1Cur_of_ok : EnvOK Tryz.prog env_spec_l1Cur_of := envOK_of (fun f c h => by
  simp only [env_spec_l1Cur_of] at h
  split at h
  · cases h; exact con_spec_l1Cur_pick
  · cases h) (fun f c h => by cases h) rfl
theorem con_spec_l1Cur_of : ConOK Tryz.prog 58 c_spec_l1Cur_of := con_of_ev' (body := Tryz.f58.body.getD .skip) (Λ := loops_spec_l1Cur_of) mixed Tryz.func58 (by kernel_rfl) (by kernel_rfl) env_spec_l1Cur_of_ok (by kernel_rfl) (by kernel_rfl) (fun n L h => by cases h) F_spec_l1Cur_of_eq

noncomputable def F_spec_l1Cur_among (x : ((List Int) × (Int × Int)) × (List Int)) : Option (((List Int) × (Int × Int)) × Int) :=
  match F_spec_l1Cur_pick ((x.1, (x.2.length : Int))) with
  | none => none
  | some y1 =>
    bif decide (0 ≤ y1.2) && decide (y1.2 < (x.2.length : Int)) then
      some ((y1.1, (x.2.getD (y1.2).toNat 0)))
    else none
noncomputable def c_spec_l1Cur_among : Con := { ps := [(.io false, (.ptr (.st (.pair (.slice (.int .u8)) (.pair (.int .i64) (.int .u64)))))), (.val, (.slice (.int .i64)))], rs := [(.val, (.int .i64))], F := F_spec_l1Cur_among }
noncomputable def env_spec_l1Cur_among : Env := { par := [63], dp := false, settle := [], con := fun f => match f with | 29 => some c_spec_l1Cur_pick | _ => none, clo := fun _ => none, T := tinf Tryz.prog }
noncomputable def loops_spec_l1Cur_among : Nat → Option Loop := fun n => none
theorem F_spec_l1Cur_among_eq (x : ((List Int) × (Int × Int)) × (List Int)) : Fev env_spec_l1Cur_among loops_spec_l1Cur_among c_spec_l1Cur_among.ps c_spec_l1Cur_among.rs Tryz.f28 x = F_spec_l1Cur_among x := by kernel_rfl
theorem env_spec_l1Cur_among_ok : EnvOK Tryz.prog env_spec_l1Cur_among := envOK_of (fun f c h => by
  simp only [env_spec_l1Cur_among] at h
  split at h
  · cases h; exact con_spec_l1Cur_pick
  · cases h) (fun f c h => by cases h) rfl
theorem con_spec_l1Cur_among : ConOK Tryz.prog 28 c_spec_l1Cur_among := con_of_ev' (body := Tryz.f28.body.getD .skip) (Λ := loops_spec_l1Cur_among) mixed Tryz.func28 (by kernel_rfl) (by kernel_rfl) env_spec_l1Cur_among_ok (by kernel_rfl) (by kernel_rfl) (fun n L h => by cases h) F_spec_l1Cur_among_eq

noncomputable def F_spec_l1Cur_edit (x : ((List Int) × (Int × Int)) × Int) : Option (((List Int) × (Int × Int)) × (Int × (ByteArray × Bool))) :=
  match F_spec_l1Cur_of ((x.1, [(⟨#[71, 79]⟩ : ByteArray), (⟨#[72, 79, 85, 83, 69]⟩ : ByteArray), (⟨#[71, 79]⟩ : ByteArray), (⟨#[73]⟩ : ByteArray), (⟨#[66, 79, 79, 75]⟩ : ByteArray), (⟨#[69, 73, 71, 72, 84, 76, 69, 84]⟩ : ByteArray)])) with
  | none => none
  | some y1 =>
    match F_spec_l1Cur_one ((y1.1, 4)) with
    | none => none
    | some y2 =>
      match F_spec_l1Cur_pick ((y2.1, 60)) with
      | none => none
      | some y3 =>
        bif ((y3.2 == 0)) then
          match F_spec_l1Cur_of ((y3.1, [(⟨#[]⟩ : ByteArray), (⟨#[103, 111]⟩ : ByteArray), (⟨#[78, 73, 78, 69, 76, 69, 84, 84, 82]⟩ : ByteArray)])) with
          | none => none
          | some y4 =>
            some ((y4.1, (x.2, y4.2, y2.2)))
        else
          bif ((y3.2 == 1)) then
            match F_spec_l1Cur_among ((y3.1, [0, 999, 1000])) with
            | none => none
            | some y5 =>
              some ((y5.1, (y5.2, y1.2, y2.2)))
          else
            some ((y3.1, (x.2, y1.2, y2.2)))
noncomputable def c_spec_l1Cur_edit : Con := { ps := [(.io false, (.ptr (.st (.pair (.slice (.int .u8)) (.pair (.int .i64) (.int .u64)))))), (.val, (.int .i64))], rs := [(.val, (.st (.pair (.int .i64) (.pair .str .bool))))], F := F_spec_l1Cur_edit }
noncomputable def env_spec_l1Cur_edit : Env := { par := [63], dp := false, settle := [], con := fun f => match f with | 28 => some c_spec_l1Cur_among | 29 => some c_spec_l1Cur_pick | 51 => some c_spec_l1Cur_one | 58 => some c_spec_l1Cur_of | _ => none, clo := fun _ => none, T := tinf Tryz.prog }
noncomputable def loops_spec_l1Cur_edit : Nat → Option Loop := fun n => none
theorem F_spec_l1Cur_edit_eq (x : ((List Int) × (Int × Int)) × Int) : Fev env_spec_l1Cur_edit loops_spec_l1Cur_edit c_spec_l1Cur_edit.ps c_spec_l1Cur_edit.rs Tryz.f38 x = F_spec_l1Cur_edit x := by kernel_rfl
theorem env_spec_l1Cur_edit_ok : EnvOK Tryz.prog env_spec_l1Cur_edit := envOK_of (fun f c h => by
  simp only [env_spec_l1Cur_edit] at h
  split at h
  · cases h; exact con_spec_l1Cur_among
  · cases h; exact con_spec_l1Cur_pick
  · cases h; exact con_spec_l1Cur_one
  · cases h; exact con_spec_l1Cur_of
  · cases h) (fun f c h => by cases h) rfl
theorem con_spec_l1Cur_edit : ConOK Tryz.prog 38 c_spec_l1Cur_edit := con_of_ev' (body := Tryz.f38.body.getD .skip) (Λ := loops_spec_l1Cur_edit) mixed Tryz.func38 (by kernel_rfl) (by kernel_rfl) env_spec_l1Cur_edit_ok (by kernel_rfl) (by kernel_rfl) (fun n L h => by cases h) F_spec_l1Cur_edit_eq

noncomputable def step_spec_l1Cur_edits_0 (s : Int × Int × (List Int) × Int × Int × (List (Int × (ByteArray × Bool)))) : Option ((Int × Int × (List Int) × Int × Int × (List (Int × (ByteArray × Bool)))) ⊕ ((Int × (List (Int × (ByteArray × Bool))) × (List Int) × Int × Int))) :=
  bif (decide ((s.2.2.2.2.2.length : Int) < s.2.1)) then
    match F_spec_l1Cur_edit (((s.2.2.1, s.2.2.2.1, s.2.2.2.2.1), s.1)) with
    | none => none
    | some y29 =>
      bif decide ((s.2.2.2.2.2.length + [y29.2].length) * 32 ≤ 140737488355328) then
        let v30 := s.2.2.2.2.2 ++ [y29.2]
        match F_spec_l1Cur_among ((y29.1, [1, 1, 1, 2, 5])) with
        | none => none
        | some y31 =>
          let v32 := IntKind.i64.wrap (s.1 + y31.2)
          some (.inl ((v32, (s.2.1, y31.1.1, (y31.1.2.1, y31.1.2.2, v30)))))
      else none
  else
    some (.inr ((s.2.1, s.2.2.2.2.2, (s.2.2.1, s.2.2.2.1, s.2.2.2.2.1))))
def pat_spec_l1Cur_edits_0 : Pat := { tmps := [.ptr 63 0, .any, .any, .own 1600, .v (.int .i64), .v (.int .i64), .any, .any, .any, .any, .any, .any, .any, .any, .any, .any, .any, .any, .any, .any, .any, .any, .any, .any, .any, .any, .any, .any, .any, .any, .any, .any, .any, .any, .any, .any, .any, .any, .any, .any, .any, .any, .any], blks := [(63, .box [.v (.slice (.int .u8)), .v (.int .i64), .v (.int .u64)]), (1600, .row true (.st (.pair (.int .i64) (.pair .str .bool))))] }
def outs_spec_l1Cur_edits_0 : List (Exit × Pat) := [(.exit 0, { tmps := [.ptr 63 0, .any, .any, .own 1600, .any, .v (.int .i64), .any, .any, .any, .any, .any, .any, .any, .any, .any, .any, .any, .any, .any, .any, .any, .any, .any, .any, .any, .any, .any, .any, .any, .any, .any, .any, .any, .any, .any, .any, .any, .any, .any, .any, .any, .any, .any], blks := [(1600, .row true (.st (.pair (.int .i64) (.pair .str .bool)))), (63, .box [.v (.slice (.int .u8)), .v (.int .i64), .v (.int .u64)])] })]
noncomputable def F_spec_l1Cur_edits (x : ((List Int) × (Int × Int))) : Option (((List Int) × (Int × Int)) × (List (Int × (ByteArray × Bool)))) :=
  match F_spec_l1Cur_pick ((x, 2)) with
  | none => none
  | some y1 =>
    let v2 := IntKind.i64.wrap (1 + y1.2)
    match F_spec_l1Cur_pick ((y1.1, 7)) with
    | none => none
    | some y3 =>
      match F_spec_l1Cur_one ((y3.1, 12)) with
      | none => none
      | some y4 =>
        bif y4.2 then
          match F_spec_l1Cur_pick ((y4.1, 2)) with
          | none => none
          | some y5 =>
            let v6 := IntKind.i64.wrap (40 + y5.2)
            match runL step_spec_l1Cur_edits_0 ((v2, (v6, y5.1.1, (y5.1.2.1, y5.1.2.2, [])))) with
            | none => none
            | some o18 =>
              bif (decide (o18.1 > 0)) then
                match F_spec_l1Cur_one ((o18.2.2, 12)) with
                | none => none
                | some y19 =>
                  bif y19.2 then
                    let v20 := IntKind.i64.wrap (o18.1 - 1)
                    bif decide (0 ≤ v20) && decide (v20 < (o18.2.1.length : Int)) then
                      let v21 := o18.2.1.set (v20).toNat ((999, (o18.2.1.getD (v20).toNat (0, ByteArray.empty, false)).2))
                      some ((y19.1, v21))
                    else none
                  else
                    some ((y19.1, o18.2.1))
              else
                some ((o18.2.2, o18.2.1))
        else
          match runL step_spec_l1Cur_edits_0 ((v2, (y3.2, y4.1.1, (y4.1.2.1, y4.1.2.2, [])))) with
          | none => none
          | some o33 =>
            bif (decide (o33.1 > 0)) then
              match F_spec_l1Cur_one ((o33.2.2, 12)) with
              | none => none
              | some y34 =>
                bif y34.2 then
                  let v35 := IntKind.i64.wrap (o33.1 - 1)
                  bif decide (0 ≤ v35) && decide (v35 < (o33.2.1.length : Int)) then
                    let v36 := o33.2.1.set (v35).toNat ((999, (o33.2.1.getD (v35).toNat (0, ByteArray.empty, false)).2))
                    some ((y34.1, v36))
                  else none
                else
                  some ((y34.1, o33.2.1))
            else
              some ((o33.2.2, o33.2.1))
noncomputable def c_spec_l1Cur_edits : Con := { ps := [(.io false, (.ptr (.st (.pair (.slice (.int .u8)) (.pair (.int .i64) (.int .u64))))))], rs := [(.io true, (.slice (.st (.pair (.int .i64) (.pair .str .bool)))))], F := F_spec_l1Cur_edits }
noncomputable def env_spec_l1Cur_edits : Env := { par := [63], dp := false, settle := [], con := fun f => match f with | 28 => some c_spec_l1Cur_among | 29 => some c_spec_l1Cur_pick | 38 => some c_spec_l1Cur_edit | 51 => some c_spec_l1Cur_one | _ => none, clo := fun _ => none, T := tinf Tryz.prog }
noncomputable def loops_spec_l1Cur_edits : Nat → Option Loop := fun n => match n with | 6 => some { pat := pat_spec_l1Cur_edits_0, outs := outs_spec_l1Cur_edits_0, run := runL (step_spec_l1Cur_edits_0) } | _ => none
theorem step_spec_l1Cur_edits_0_eq (s : Int × Int × (List Int) × Int × Int × (List (Int × (ByteArray × Bool)))) : stepEv env_spec_l1Cur_edits loops_spec_l1Cur_edits pat_spec_l1Cur_edits_0 outs_spec_l1Cur_edits_0 Tryz.f25 6 s = step_spec_l1Cur_edits_0 s := by kernel_rfl
theorem F_spec_l1Cur_edits_eq (x : ((List Int) × (Int × Int))) : Fev env_spec_l1Cur_edits loops_spec_l1Cur_edits c_spec_l1Cur_edits.ps c_spec_l1Cur_edits.rs Tryz.f25 x = F_spec_l1Cur_edits x := by kernel_rfl
theorem env_spec_l1Cur_edits_ok : EnvOK Tryz.prog env_spec_l1Cur_edits := envOK_of (fun f c h => by
  simp only [env_spec_l1Cur_edits] at h
  split at h
  · cases h; exact con_spec_l1Cur_among
  · cases h; exact con_spec_l1Cur_pick
  · cases h; exact con_spec_l1Cur_edit
  · cases h; exact con_spec_l1Cur_one
  · cases h) (fun f c h => by cases h) rfl
theorem con_spec_l1Cur_edits : ConOK Tryz.prog 25 c_spec_l1Cur_edits := con_of_ev' (body := Tryz.f25.body.getD .skip) (Λ := loops_spec_l1Cur_edits) mixed Tryz.func25 (by kernel_rfl) (by kernel_rfl) env_spec_l1Cur_edits_ok (by kernel_rfl) (by kernel_rfl) (fun n L h => by
  unfold loops_spec_l1Cur_edits at h
  split at h
  · cases h; exact fun s o ho => loop_ok (stepF := stepEv env_spec_l1Cur_edits loops_spec_l1Cur_edits pat_spec_l1Cur_edits_0 outs_spec_l1Cur_edits_0 Tryz.f25 6) (step_spec_l1Cur_edits_0_eq) ho
  · cases h) F_spec_l1Cur_edits_eq

noncomputable def F_spec_l1In (x : Int × Int × Int) : Option (Bool) :=
  bif (decide (x.1 ≥ x.2.1)) then
    some ((decide (x.1 ≤ x.2.2)))
  else
    some (false)
noncomputable def c_spec_l1In : Con := { ps := [(.val, (.int .i64)), (.val, (.int .i64)), (.val, (.int .i64))], rs := [(.val, .bool)], F := F_spec_l1In }
noncomputable def env_spec_l1In : Env := { par := [], dp := false, settle := [], con := fun _ => none, clo := fun _ => none, T := tinf Tryz.prog }
noncomputable def loops_spec_l1In : Nat → Option Loop := fun n => none
theorem F_spec_l1In_eq (x : Int × Int × Int) : Fev env_spec_l1In loops_spec_l1In c_spec_l1In.ps c_spec_l1In.rs Tryz.f32 x = F_spec_l1In x := by kernel_rfl
theorem env_spec_l1In_ok : EnvOK Tryz.prog env_spec_l1In := envOK_of (fun f c h => by cases h) (fun f c h => by cases h) rfl
theorem con_spec_l1In : ConOK Tryz.prog 32 c_spec_l1In := con_of_ev' (body := Tryz.f32.body.getD .skip) (Λ := loops_spec_l1In) mixed Tryz.func32 (by kernel_rfl) (by kernel_rfl) env_spec_l1In_ok (by kernel_rfl) (by kernel_rfl) (fun n L h => by cases h) F_spec_l1In_eq

noncomputable def step_spec_fsWord_0 (s : ByteArray × Int) : Option ((ByteArray × Int) ⊕ ((Bool) ⊕ (ByteArray))) :=
  bif (decide (s.2 < (s.1.size : Int))) then
    bif decide (0 ≤ s.2) && decide (s.2 < (s.1.size : Int)) then
      bif (decide ((byteAt s.1 (s.2).toNat) < 65)) then
        some (.inr (.inl (false)))
      else
        bif decide (0 ≤ s.2) && decide (s.2 < (s.1.size : Int)) then
          bif (decide ((byteAt s.1 (s.2).toNat) > 90)) then
            some (.inr (.inl (false)))
          else
            let v2 := IntKind.i64.wrap (s.2 + 1)
            some (.inl ((s.1, v2)))
        else none
    else none
  else
    some (.inr (.inr (s.1)))
def pat_spec_fsWord_0 : Pat := { tmps := [.v .str, .any, .any, .v (.int .i64), .any, .any, .any, .any, .any, .any, .any, .any, .any, .any, .any, .any, .any, .any, .any, .any, .any, .any, .any], blks := [] }
def outs_spec_fsWord_0 : List (Exit × Pat) := [(.ret, { tmps := [.any, .any, .v .bool, .any, .any, .any, .any, .any, .any, .any, .any, .any, .any, .any, .any, .any, .any, .any, .any, .any, .any, .any, .any], blks := [] }), (.exit 0, { tmps := [.v .str, .any, .any, .any, .any, .any, .any, .any, .any, .any, .any, .any, .any, .any, .any, .any, .any, .any, .any, .any, .any, .any, .any], blks := [] })]
noncomputable def F_spec_fsWord (x : ByteArray) : Option (Bool) :=
  match runL step_spec_fsWord_0 ((x, 0)) with
  | none => none
  | some (.inl o3) =>
    some (o3)
  | some (.inr o3) =>
    match F_spec_l1In (((o3.size : Int), 1, 8)) with
    | none => none
    | some y4 =>
      some (y4)
noncomputable def c_spec_fsWord : Con := { ps := [(.val, .str)], rs := [(.val, .bool)], F := F_spec_fsWord }
noncomputable def env_spec_fsWord : Env := { par := [], dp := false, settle := [], con := fun f => match f with | 32 => some c_spec_l1In | _ => none, clo := fun _ => none, T := tinf Tryz.prog }
noncomputable def loops_spec_fsWord : Nat → Option Loop := fun n => match n with | 2 => some { pat := pat_spec_fsWord_0, outs := outs_spec_fsWord_0, run := runL (step_spec_fsWord_0) } | _ => none
theorem step_spec_fsWord_0_eq (s : ByteArray × Int) : stepEv env_spec_fsWord loops_spec_fsWord pat_spec_fsWord_0 outs_spec_fsWord_0 Tryz.f61 2 s = step_spec_fsWord_0 s := by kernel_rfl
theorem F_spec_fsWord_eq (x : ByteArray) : Fev env_spec_fsWord loops_spec_fsWord c_spec_fsWord.ps c_spec_fsWord.rs Tryz.f61 x = F_spec_fsWord x := by kernel_rfl
theorem env_spec_fsWord_ok : EnvOK Tryz.prog env_spec_fsWord := envOK_of (fun f c h => by
  simp only [env_spec_fsWord] at h
  split at h
  · cases h; exact con_spec_l1In
  · cases h) (fun f c h => by cases h) rfl
theorem con_spec_fsWord : ConOK Tryz.prog 61 c_spec_fsWord := con_of_ev' (body := Tryz.f61.body.getD .skip) (Λ := loops_spec_fsWord) mixed Tryz.func61 (by kernel_rfl) (by kernel_rfl) env_spec_fsWord_ok (by kernel_rfl) (by kernel_rfl) (fun n L h => by
  unfold loops_spec_fsWord at h
  split at h
  · cases h; exact fun s o ho => loop_ok (stepF := stepEv env_spec_fsWord loops_spec_fsWord pat_spec_fsWord_0 outs_spec_fsWord_0 Tryz.f61 2) (step_spec_fsWord_0_eq) ho
  · cases h) F_spec_fsWord_eq

noncomputable def F_spec_joOne (x : (Int × (ByteArray × Bool))) : Option (Bool) :=
  match F_spec_l1In ((x.1, 1, 999)) with
  | none => none
  | some y1 =>
    bif y1 then
      match F_spec_fsWord (x.2.1) with
      | none => none
      | some y2 =>
        some (y2)
    else
      some (false)
noncomputable def c_spec_joOne : Con := { ps := [(.val, (.st (.pair (.int .i64) (.pair .str .bool))))], rs := [(.val, .bool)], F := F_spec_joOne }
noncomputable def env_spec_joOne : Env := { par := [], dp := false, settle := [], con := fun f => match f with | 32 => some c_spec_l1In | 61 => some c_spec_fsWord | _ => none, clo := fun _ => none, T := tinf Tryz.prog }
noncomputable def loops_spec_joOne : Nat → Option Loop := fun n => none
theorem F_spec_joOne_eq (x : (Int × (ByteArray × Bool))) : Fev env_spec_joOne loops_spec_joOne c_spec_joOne.ps c_spec_joOne.rs Tryz.f41 x = F_spec_joOne x := by kernel_rfl
theorem env_spec_joOne_ok : EnvOK Tryz.prog env_spec_joOne := envOK_of (fun f c h => by
  simp only [env_spec_joOne] at h
  split at h
  · cases h; exact con_spec_l1In
  · cases h; exact con_spec_fsWord
  · cases h) (fun f c h => by cases h) rfl
theorem con_spec_joOne : ConOK Tryz.prog 41 c_spec_joOne := con_of_ev' (body := Tryz.f41.body.getD .skip) (Λ := loops_spec_joOne) mixed Tryz.func41 (by kernel_rfl) (by kernel_rfl) env_spec_joOne_ok (by kernel_rfl) (by kernel_rfl) (fun n L h => by cases h) F_spec_joOne_eq

noncomputable def step_spec_joGood_0 (s : (List (Int × (ByteArray × Bool))) × (List (Int × (ByteArray × Bool))) × Int × Int) : Option (((List (Int × (ByteArray × Bool))) × (List (Int × (ByteArray × Bool))) × Int × Int) ⊕ ((Bool) ⊕ ((List (Int × (ByteArray × Bool)))))) :=
  bif (decide (s.2.2.2 < s.2.2.1)) then
    bif decide (0 ≤ s.2.2.2) && decide (s.2.2.2 < (s.2.1.length : Int)) then
      match F_spec_joOne ((s.2.1.getD (s.2.2.2).toNat (0, ByteArray.empty, false))) with
      | none => none
      | some y5 =>
        bif (!y5) then
          some (.inr (.inl (false)))
        else
          bif (decide (s.2.2.2 > 0)) then
            let v6 := IntKind.i64.wrap (s.2.2.2 - 1)
            bif decide (0 ≤ v6) && decide (v6 < (s.1.length : Int)) then
              bif (decide ((s.1.getD (v6).toNat (0, ByteArray.empty, false)).1 ≥ (s.2.1.getD (s.2.2.2).toNat (0, ByteArray.empty, false)).1)) then
                some (.inr (.inl (false)))
              else
                let v7 := IntKind.i64.wrap (s.2.2.2 + 1)
                some (.inl ((s.1, (s.2.1, s.2.2.1, v7))))
            else none
          else
            let v8 := IntKind.i64.wrap (s.2.2.2 + 1)
            some (.inl ((s.1, (s.2.1, s.2.2.1, v8))))
    else none
  else
    some (.inr (.inr (s.1)))
def pat_spec_joGood_0 : Pat := { tmps := [.v (.slice (.st (.pair (.int .i64) (.pair .str .bool)))), .any, .any, .any, .any, .v (.slice (.st (.pair (.int .i64) (.pair .str .bool)))), .v (.int .i64), .v (.int .i64), .any, .any, .any, .any, .any, .any, .any, .any, .any, .any, .any, .any, .any, .any, .any, .any, .any, .any, .any, .any, .any, .any, .any, .any, .any, .any], blks := [] }
def outs_spec_joGood_0 : List (Exit × Pat) := [(.ret, { tmps := [.any, .any, .v .bool, .any, .any, .any, .any, .any, .any, .any, .any, .any, .any, .any, .any, .any, .any, .any, .any, .any, .any, .any, .any, .any, .any, .any, .any, .any, .any, .any, .any, .any, .any, .any], blks := [] }), (.exit 0, { tmps := [.v (.slice (.st (.pair (.int .i64) (.pair .str .bool)))), .any, .any, .any, .any, .any, .any, .any, .any, .any, .any, .any, .any, .any, .any, .any, .any, .any, .any, .any, .any, .any, .any, .any, .any, .any, .any, .any, .any, .any, .any, .any, .any, .any], blks := [] })]
noncomputable def F_spec_joGood (x : (List (Int × (ByteArray × Bool)))) : Option (Bool) :=
  match runL step_spec_joGood_0 ((x, (x, (x.length : Int), 0))) with
  | none => none
  | some (.inl o9) =>
    some (o9)
  | some (.inr o9) =>
    some ((decide ((o9.length : Int) ≤ 40)))
noncomputable def c_spec_joGood : Con := { ps := [(.val, (.slice (.st (.pair (.int .i64) (.pair .str .bool)))))], rs := [(.val, .bool)], F := F_spec_joGood }
noncomputable def env_spec_joGood : Env := { par := [], dp := false, settle := [], con := fun f => match f with | 41 => some c_spec_joOne | _ => none, clo := fun _ => none, T := tinf Tryz.prog }
noncomputable def loops_spec_joGood : Nat → Option Loop := fun n => match n with | 2 => some { pat := pat_spec_joGood_0, outs := outs_spec_joGood_0, run := runL (step_spec_joGood_0) } | _ => none
theorem step_spec_joGood_0_eq (s : (List (Int × (ByteArray × Bool))) × (List (Int × (ByteArray × Bool))) × Int × Int) : stepEv env_spec_joGood loops_spec_joGood pat_spec_joGood_0 outs_spec_joGood_0 Tryz.f26 2 s = step_spec_joGood_0 s := by kernel_rfl
theorem F_spec_joGood_eq (x : (List (Int × (ByteArray × Bool)))) : Fev env_spec_joGood loops_spec_joGood c_spec_joGood.ps c_spec_joGood.rs Tryz.f26 x = F_spec_joGood x := by kernel_rfl
theorem env_spec_joGood_ok : EnvOK Tryz.prog env_spec_joGood := envOK_of (fun f c h => by
  simp only [env_spec_joGood] at h
  split at h
  · cases h; exact con_spec_joOne
  · cases h) (fun f c h => by cases h) rfl
theorem con_spec_joGood : ConOK Tryz.prog 26 c_spec_joGood := con_of_ev' (body := Tryz.f26.body.getD .skip) (Λ := loops_spec_joGood) mixed Tryz.func26 (by kernel_rfl) (by kernel_rfl) env_spec_joGood_ok (by kernel_rfl) (by kernel_rfl) (fun n L h => by
  unfold loops_spec_joGood at h
  split at h
  · cases h; exact fun s o ho => loop_ok (stepF := stepEv env_spec_joGood loops_spec_joGood pat_spec_joGood_0 outs_spec_joGood_0 Tryz.f26 2) (step_spec_joGood_0_eq) ho
  · cases h) F_spec_joGood_eq


noncomputable def step_spec_joLine_0 (s : ByteArray × Int × Int) : Option ((ByteArray × Int × Int) ⊕ ((ByteArray × Int))) :=
  bif (decide (s.2.2 < (s.1.size : Int))) then
    let v20 := IntKind.i64.wrap (7 * s.2.1)
    bif decide (0 ≤ s.2.2) && decide (s.2.2 < (s.1.size : Int)) then
      let v21 := IntKind.i64.wrap (byteAt s.1 (s.2.2).toNat)
      let v22 := IntKind.i64.wrap (v20 + v21)
      bif !decide (9973 = 0) then
        let v23 := (v22).tmod 9973
        let v24 := IntKind.i64.wrap (s.2.2 + 1)
        some (.inl ((s.1, v23, v24)))
      else none
    else none
  else
    some (.inr ((s.1, s.2.1)))
def pat_spec_joLine_0 : Pat := { tmps := [.any, .any, .any, .v .str, .v (.int .i64), .v (.int .i64), .any, .any, .any, .any, .any, .any, .any, .any, .any, .any, .any, .any, .any, .any, .any, .any, .any, .any, .any, .any, .any, .any, .any, .any, .any, .any, .any, .any, .any, .any, .any, .any, .any, .any, .any, .any], blks := [] }
def outs_spec_joLine_0 : List (Exit × Pat) := [(.exit 0, { tmps := [.any, .any, .any, .v .str, .v (.int .i64), .any, .any, .any, .any, .any, .any, .any, .any, .any, .any, .any, .any, .any, .any, .any, .any, .any, .any, .any, .any, .any, .any, .any, .any, .any, .any, .any, .any, .any, .any, .any, .any, .any, .any, .any, .any, .any], blks := [] })]
noncomputable def F_spec_joLine (x : (Int × (ByteArray × Bool))) : Option (ByteArray) :=
  match F_spec_l1Num (x.1) with
  | none => none
  | some y1 =>
    bif decide (y1.size + (⟨#[43]⟩ : ByteArray).size ≤ 9223372036854775807) then
      bif decide ((y1 ++ (⟨#[43]⟩ : ByteArray)).size + x.2.1.size ≤ 9223372036854775807) then
        bif x.2.2 then
          match F_spec_l1Num (x.1) with
          | none => none
          | some y2 =>
            bif decide (y2.size + (⟨#[45]⟩ : ByteArray).size ≤ 9223372036854775807) then
              bif decide ((y2 ++ (⟨#[45]⟩ : ByteArray)).size + x.2.1.size ≤ 9223372036854775807) then
                match runL step_spec_joLine_0 ((((y2 ++ (⟨#[45]⟩ : ByteArray)) ++ x.2.1), 3, 0)) with
                | none => none
                | some o13 =>
                  bif decide (o13.1.size + (⟨#[46]⟩ : ByteArray).size ≤ 9223372036854775807) then
                    match F_spec_l1Num (o13.2) with
                    | none => none
                    | some y14 =>
                      bif decide ((o13.1 ++ (⟨#[46]⟩ : ByteArray)).size + y14.size ≤ 9223372036854775807) then
                        bif decide (((o13.1 ++ (⟨#[46]⟩ : ByteArray)) ++ y14).size + (⟨#[10]⟩ : ByteArray).size ≤ 9223372036854775807) then
                          some ((((o13.1 ++ (⟨#[46]⟩ : ByteArray)) ++ y14) ++ (⟨#[10]⟩ : ByteArray)))
                        else none
                      else none
                  else none
              else none
            else none
        else
          match runL step_spec_joLine_0 ((((y1 ++ (⟨#[43]⟩ : ByteArray)) ++ x.2.1), 3, 0)) with
          | none => none
          | some o25 =>
            bif decide (o25.1.size + (⟨#[46]⟩ : ByteArray).size ≤ 9223372036854775807) then
              match F_spec_l1Num (o25.2) with
              | none => none
              | some y26 =>
                bif decide ((o25.1 ++ (⟨#[46]⟩ : ByteArray)).size + y26.size ≤ 9223372036854775807) then
                  bif decide (((o25.1 ++ (⟨#[46]⟩ : ByteArray)) ++ y26).size + (⟨#[10]⟩ : ByteArray).size ≤ 9223372036854775807) then
                    some ((((o25.1 ++ (⟨#[46]⟩ : ByteArray)) ++ y26) ++ (⟨#[10]⟩ : ByteArray)))
                  else none
                else none
            else none
      else none
    else none
noncomputable def c_spec_joLine : Con := { ps := [(.val, (.st (.pair (.int .i64) (.pair .str .bool))))], rs := [(.val, .str)], F := F_spec_joLine }
noncomputable def env_spec_joLine : Env := { par := [], dp := false, settle := [], con := fun f => match f with | 62 => some c_spec_l1Num | _ => none, clo := fun _ => none, T := tinf Tryz.prog }
noncomputable def loops_spec_joLine : Nat → Option Loop := fun n => match n with | 6 => some { pat := pat_spec_joLine_0, outs := outs_spec_joLine_0, run := runL (step_spec_joLine_0) } | _ => none
theorem step_spec_joLine_0_eq (s : ByteArray × Int × Int) : stepEv env_spec_joLine loops_spec_joLine pat_spec_joLine_0 outs_spec_joLine_0 Tryz.f42 6 s = step_spec_joLine_0 s := by kernel_rfl
theorem F_spec_joLine_eq (x : (Int × (ByteArray × Bool))) : Fev env_spec_joLine loops_spec_joLine c_spec_joLine.ps c_spec_joLine.rs Tryz.f42 x = F_spec_joLine x := by kernel_rfl
theorem env_spec_joLine_ok : EnvOK Tryz.prog env_spec_joLine := envOK_of (fun f c h => by
  simp only [env_spec_joLine] at h
  split at h
  · cases h; exact con_spec_l1Num
  · cases h) (fun f c h => by cases h) rfl
theorem con_spec_joLine : ConOK Tryz.prog 42 c_spec_joLine := con_of_ev' (body := Tryz.f42.body.getD .skip) (Λ := loops_spec_joLine) mixed Tryz.func42 (by kernel_rfl) (by kernel_rfl) env_spec_joLine_ok (by kernel_rfl) (by kernel_rfl) (fun n L h => by
  unfold loops_spec_joLine at h
  split at h
  · cases h; exact fun s o ho => loop_ok (stepF := stepEv env_spec_joLine loops_spec_joLine pat_spec_joLine_0 outs_spec_joLine_0 Tryz.f42 6) (step_spec_joLine_0_eq) ho
  · cases h) F_spec_joLine_eq

noncomputable def step_spec_joText_0 (s : ByteArray × (List (Int × (ByteArray × Bool))) × Int × Int) : Option ((ByteArray × (List (Int × (ByteArray × Bool))) × Int × Int) ⊕ ((ByteArray))) :=
  bif (decide (s.2.2.2 < s.2.2.1)) then
    bif decide (0 ≤ s.2.2.2) && decide (s.2.2.2 < (s.2.1.length : Int)) then
      match F_spec_joLine ((s.2.1.getD (s.2.2.2).toNat (0, ByteArray.empty, false))) with
      | none => none
      | some y3 =>
        bif decide (s.1.size + y3.size ≤ 9223372036854775807) then
          let v4 := IntKind.i64.wrap (s.2.2.2 + 1)
          some (.inl (((s.1 ++ y3), (s.2.1, s.2.2.1, v4))))
        else none
    else none
  else
    some (.inr (s.1))
def pat_spec_joText_0 : Pat := { tmps := [.any, .any, .any, .v .str, .any, .any, .v (.slice (.st (.pair (.int .i64) (.pair .str .bool)))), .v (.int .i64), .v (.int .i64), .any, .any, .any, .any, .any, .any, .any, .any, .any], blks := [] }
def outs_spec_joText_0 : List (Exit × Pat) := [(.exit 0, { tmps := [.any, .any, .any, .v .str, .any, .any, .any, .any, .any, .any, .any, .any, .any, .any, .any, .any, .any, .any], blks := [] })]
noncomputable def F_spec_joText (x : (List (Int × (ByteArray × Bool)))) : Option (ByteArray) :=
  match runL step_spec_joText_0 (((⟨#[]⟩ : ByteArray), (x, (x.length : Int), 0))) with
  | none => none
  | some o5 =>
    some (o5)
noncomputable def c_spec_joText : Con := { ps := [(.val, (.slice (.st (.pair (.int .i64) (.pair .str .bool)))))], rs := [(.val, .str)], F := F_spec_joText }
noncomputable def env_spec_joText : Env := { par := [], dp := false, settle := [], con := fun f => match f with | 42 => some c_spec_joLine | _ => none, clo := fun _ => none, T := tinf Tryz.prog }
noncomputable def loops_spec_joText : Nat → Option Loop := fun n => match n with | 3 => some { pat := pat_spec_joText_0, outs := outs_spec_joText_0, run := runL (step_spec_joText_0) } | _ => none
theorem step_spec_joText_0_eq (s : ByteArray × (List (Int × (ByteArray × Bool))) × Int × Int) : stepEv env_spec_joText loops_spec_joText pat_spec_joText_0 outs_spec_joText_0 Tryz.f27 3 s = step_spec_joText_0 s := by kernel_rfl
theorem F_spec_joText_eq (x : (List (Int × (ByteArray × Bool)))) : Fev env_spec_joText loops_spec_joText c_spec_joText.ps c_spec_joText.rs Tryz.f27 x = F_spec_joText x := by kernel_rfl
theorem env_spec_joText_ok : EnvOK Tryz.prog env_spec_joText := envOK_of (fun f c h => by
  simp only [env_spec_joText] at h
  split at h
  · cases h; exact con_spec_joLine
  · cases h) (fun f c h => by cases h) rfl
theorem con_spec_joText : ConOK Tryz.prog 27 c_spec_joText := con_of_ev' (body := Tryz.f27.body.getD .skip) (Λ := loops_spec_joText) mixed Tryz.func27 (by kernel_rfl) (by kernel_rfl) env_spec_joText_ok (by kernel_rfl) (by kernel_rfl) (fun n L h => by
  unfold loops_spec_joText at h
  split at h
  · cases h; exact fun s o ho => loop_ok (stepF := stepEv env_spec_joText loops_spec_joText pat_spec_joText_0 outs_spec_joText_0 Tryz.f27 3) (step_spec_joText_0_eq) ho
  · cases h) F_spec_joText_eq

noncomputable def F_spec_DrawTearText (x : (List Int)) : Option ((List (Int × (ByteArray × Bool))) × Int) :=
  match F_spec_l1Cur_edits ((x, 0, 0)) with
  | none => none
  | some y1 =>
    match F_spec_joGood (y1.2) with
    | none => none
    | some y2 =>
      bif y2 then
        match F_spec_joText (y1.2) with
        | none => none
        | some y3 =>
          let v4 := IntKind.i64.wrap ((y3.size : Int) + 1)
          match F_spec_l1Cur_pick ((y1.1, v4)) with
          | none => none
          | some y5 =>
            let v6 := IntKind.i64.wrap ((y3.size : Int) + 1)
            match F_spec_l1Cur_pick ((y5.1, v6)) with
            | none => none
            | some y7 =>
              let v8 := IntKind.i64.wrap ((y3.size : Int) + 1)
              match F_spec_l1Cur_among ((y7.1, [0, (y3.size : Int), y5.2, y7.2, v8, (-1)])) with
              | none => none
              | some y9 =>
                some ((y1.2, y9.2))
      else
        let v10 := IntKind.i64.wrap (0 + 1)
        match F_spec_l1Cur_pick ((y1.1, v10)) with
        | none => none
        | some y11 =>
          let v12 := IntKind.i64.wrap (0 + 1)
          match F_spec_l1Cur_pick ((y11.1, v12)) with
          | none => none
          | some y13 =>
            let v14 := IntKind.i64.wrap (0 + 1)
            match F_spec_l1Cur_among ((y13.1, [0, 0, y11.2, y13.2, v14, (-1)])) with
            | none => none
            | some y15 =>
              some ((y1.2, y15.2))
noncomputable def c_spec_DrawTearText : Con := { ps := [(.val, (.slice (.int .u8)))], rs := [(.io true, (.slice (.st (.pair (.int .i64) (.pair .str .bool))))), (.val, (.int .i64))], F := F_spec_DrawTearText }
noncomputable def env_spec_DrawTearText : Env := { par := [], dp := false, settle := [], con := fun f => match f with | 25 => some c_spec_l1Cur_edits | 26 => some c_spec_joGood | 27 => some c_spec_joText | 28 => some c_spec_l1Cur_among | 29 => some c_spec_l1Cur_pick | _ => none, clo := fun _ => none, T := tinf Tryz.prog }
noncomputable def loops_spec_DrawTearText : Nat → Option Loop := fun n => none
theorem F_spec_DrawTearText_eq (x : (List Int)) : Fev env_spec_DrawTearText loops_spec_DrawTearText c_spec_DrawTearText.ps c_spec_DrawTearText.rs Tryz.f4 x = F_spec_DrawTearText x := by kernel_rfl
theorem env_spec_DrawTearText_ok : EnvOK Tryz.prog env_spec_DrawTearText := envOK_of (fun f c h => by
  simp only [env_spec_DrawTearText] at h
  split at h
  · cases h; exact con_spec_l1Cur_edits
  · cases h; exact con_spec_joGood
  · cases h; exact con_spec_joText
  · cases h; exact con_spec_l1Cur_among
  · cases h; exact con_spec_l1Cur_pick
  · cases h) (fun f c h => by cases h) rfl
theorem con_spec_DrawTearText : ConOK Tryz.prog 4 c_spec_DrawTearText := con_of_ev' (body := Tryz.f4.body.getD .skip) (Λ := loops_spec_DrawTearText) mixed Tryz.func4 (by kernel_rfl) (by kernel_rfl) env_spec_DrawTearText_ok (by kernel_rfl) (by kernel_rfl) (fun n L h => by cases h) F_spec_DrawTearText_eq

noncomputable def F_impl_within (x : Int × Int × Int) : Option (Bool) :=
  bif (decide (x.1 ≥ x.2.1)) then
    some ((decide (x.1 ≤ x.2.2)))
  else
    some (false)
noncomputable def c_impl_within : Con := { ps := [(.val, (.int .i64)), (.val, (.int .i64)), (.val, (.int .i64))], rs := [(.val, .bool)], F := F_impl_within }
noncomputable def env_impl_within : Env := { par := [], dp := false, settle := [], con := fun _ => none, clo := fun _ => none, T := tinf Tryz.prog }
noncomputable def loops_impl_within : Nat → Option Loop := fun n => none
theorem F_impl_within_eq (x : Int × Int × Int) : Fev env_impl_within loops_impl_within c_impl_within.ps c_impl_within.rs Tryz.f30 x = F_impl_within x := by kernel_rfl
theorem env_impl_within_ok : EnvOK Tryz.prog env_impl_within := envOK_of (fun f c h => by cases h) (fun f c h => by cases h) rfl
theorem con_impl_within : ConOK Tryz.prog 30 c_impl_within := con_of_ev' (body := Tryz.f30.body.getD .skip) (Λ := loops_impl_within) mixed Tryz.func30 (by kernel_rfl) (by kernel_rfl) env_impl_within_ok (by kernel_rfl) (by kernel_rfl) (fun n L h => by cases h) F_impl_within_eq

set_option maxHeartbeats 1000000 in
theorem calls_strings_IndexByte (s : ByteArray) (c : Int) (w : World) :
    Calls Tryz.prog 49 #[.string s, .int .u8 c] w fun e w' => e = .returned (.int .i64 (Lib.indexByte s.data.toList c.toNat.toUInt8)) ∧ w' = w := by
  go_enter Tryz.func49, Tryz.ntmps49
  go_wp2
  rw [run_callFunc_extern Tryz.func79 (by kernel_rfl) (by kernel_rfl) (by kernel_rfl) (e := Extern.BytealgIndexByte.indexByte) (by kernel_rfl), Lib.run_indexByteString]
  simp only [Result.andThen]
  rw [Oper.upon_value]
  go_wp2
  go_ret
  exact ⟨rfl, rfl⟩
def F_strings_IndexByte (x : ByteArray × Int) : Option Int := some (Lib.indexByte x.1.data.toList x.2.toNat.toUInt8)
def c_strings_IndexByte : Con := { ps := [(.val, .str), (.val, .int .u8)], rs := [(.val, .int .i64)], F := F_strings_IndexByte }
theorem con_strings_IndexByte : ConOK Tryz.prog 49 c_strings_IndexByte := con_of_pure ⟨Tryz.f49, Tryz.func49, by kernel_rfl, by kernel_rfl⟩ rfl rfl fun w x y hy _ => by
  have e : y = Lib.indexByte x.1.data.toList x.2.toNat.toUInt8 := (Option.some.inj hy).symm
  subst e
  refine (calls_strings_IndexByte x.1 x.2 w).mono ?_
  rintro e w' ⟨rfl, rfl⟩
  exact ⟨rfl, Fr.refl _ _⟩

noncomputable def step_impl_hasOnly_0 (s : ByteArray × ByteArray × Int × Int) : Option ((ByteArray × ByteArray × Int × Int) ⊕ ((Bool) ⊕ (Unit))) :=
  bif (decide (s.2.2.2 < s.2.2.1)) then
    bif decide (0 ≤ s.2.2.2) && decide (s.2.2.2 < (s.1.size : Int)) then
      match F_strings_IndexByte ((s.2.1, (byteAt s.1 (s.2.2.2).toNat))) with
      | none => none
      | some y3 =>
        bif (decide (y3 < 0)) then
          some (.inr (.inl (false)))
        else
          let v4 := IntKind.i64.wrap (s.2.2.2 + 1)
          some (.inl ((s.1, (s.2.1, s.2.2.1, v4))))
    else none
  else
    some (.inr (.inr (())))
def pat_impl_hasOnly_0 : Pat := { tmps := [.v .str, .v .str, .any, .any, .any, .any, .any, .v (.int .i64), .v (.int .i64), .any, .any, .any, .any, .any, .any, .any, .any, .any], blks := [] }
def outs_impl_hasOnly_0 : List (Exit × Pat) := [(.ret, { tmps := [.any, .any, .any, .any, .v .bool, .any, .any, .any, .any, .any, .any, .any, .any, .any, .any, .any, .any, .any], blks := [] }), (.exit 0, { tmps := [.any, .any, .any, .any, .any, .any, .any, .any, .any, .any, .any, .any, .any, .any, .any, .any, .any, .any], blks := [] })]
noncomputable def F_impl_hasOnly (x : ByteArray × ByteArray) : Option (Bool) :=
  match runL step_impl_hasOnly_0 ((x.1, (x.2, (x.1.size : Int), 0))) with
  | none => none
  | some (.inl o5) =>
    some (o5)
  | some (.inr o5) =>
    some (true)
noncomputable def c_impl_hasOnly : Con := { ps := [(.val, .str), (.val, .str)], rs := [(.val, .bool)], F := F_impl_hasOnly }
noncomputable def env_impl_hasOnly : Env := { par := [], dp := false, settle := [], con := fun f => match f with | 49 => some c_strings_IndexByte | _ => none, clo := fun _ => none, T := tinf Tryz.prog }
noncomputable def loops_impl_hasOnly : Nat → Option Loop := fun n => match n with | 2 => some { pat := pat_impl_hasOnly_0, outs := outs_impl_hasOnly_0, run := runL (step_impl_hasOnly_0) } | _ => none
theorem step_impl_hasOnly_0_eq (s : ByteArray × ByteArray × Int × Int) : stepEv env_impl_hasOnly loops_impl_hasOnly pat_impl_hasOnly_0 outs_impl_hasOnly_0 Tryz.f93 2 s = step_impl_hasOnly_0 s := by kernel_rfl
theorem F_impl_hasOnly_eq (x : ByteArray × ByteArray) : Fev env_impl_hasOnly loops_impl_hasOnly c_impl_hasOnly.ps c_impl_hasOnly.rs Tryz.f93 x = F_impl_hasOnly x := by kernel_rfl
theorem env_impl_hasOnly_ok : EnvOK Tryz.prog env_impl_hasOnly := envOK_of (fun f c h => by
  simp only [env_impl_hasOnly] at h
  split at h
  · cases h; exact con_strings_IndexByte
  · cases h) (fun f c h => by cases h) rfl
theorem con_impl_hasOnly : ConOK Tryz.prog 93 c_impl_hasOnly := con_of_ev' (body := Tryz.f93.body.getD .skip) (Λ := loops_impl_hasOnly) mixed Tryz.func93 (by kernel_rfl) (by kernel_rfl) env_impl_hasOnly_ok (by kernel_rfl) (by kernel_rfl) (fun n L h => by
  unfold loops_impl_hasOnly at h
  split at h
  · cases h; exact fun s o ho => loop_ok (stepF := stepEv env_impl_hasOnly loops_impl_hasOnly pat_impl_hasOnly_0 outs_impl_hasOnly_0 Tryz.f93 2) (step_impl_hasOnly_0_eq) ho
  · cases h) F_impl_hasOnly_eq

noncomputable def F_impl_isWordOf (x : ByteArray × ByteArray) : Option (Bool) :=
  match F_impl_within (((x.1.size : Int), 1, 8)) with
  | none => none
  | some y1 =>
    bif y1 then
      match F_impl_hasOnly (x) with
      | none => none
      | some y2 =>
        some (y2)
    else
      some (false)
noncomputable def c_impl_isWordOf : Con := { ps := [(.val, .str), (.val, .str)], rs := [(.val, .bool)], F := F_impl_isWordOf }
noncomputable def env_impl_isWordOf : Env := { par := [], dp := false, settle := [], con := fun f => match f with | 30 => some c_impl_within | 93 => some c_impl_hasOnly | _ => none, clo := fun _ => none, T := tinf Tryz.prog }
noncomputable def loops_impl_isWordOf : Nat → Option Loop := fun n => none
theorem F_impl_isWordOf_eq (x : ByteArray × ByteArray) : Fev env_impl_isWordOf loops_impl_isWordOf c_impl_isWordOf.ps c_impl_isWordOf.rs Tryz.f74 x = F_impl_isWordOf x := by kernel_rfl
theorem env_impl_isWordOf_ok : EnvOK Tryz.prog env_impl_isWordOf := envOK_of (fun f c h => by
  simp only [env_impl_isWordOf] at h
  split at h
  · cases h; exact con_impl_within
  · cases h; exact con_impl_hasOnly
  · cases h) (fun f c h => by cases h) rfl
theorem con_impl_isWordOf : ConOK Tryz.prog 74 c_impl_isWordOf := con_of_ev' (body := Tryz.f74.body.getD .skip) (Λ := loops_impl_isWordOf) mixed Tryz.func74 (by kernel_rfl) (by kernel_rfl) env_impl_isWordOf_ok (by kernel_rfl) (by kernel_rfl) (fun n L h => by cases h) F_impl_isWordOf_eq

noncomputable def F_impl_IsGloss (x : ByteArray) : Option (Bool) :=
  match F_impl_isWordOf ((x, (⟨#[65, 66, 67, 68, 69, 70, 71, 72, 73, 74, 75, 76, 77, 78, 79, 80, 81, 82, 83, 84, 85, 86, 87, 88, 89, 90]⟩ : ByteArray))) with
  | none => none
  | some y1 =>
    some (y1)
noncomputable def c_impl_IsGloss : Con := { ps := [(.val, .str)], rs := [(.val, .bool)], F := F_impl_IsGloss }
noncomputable def env_impl_IsGloss : Env := { par := [], dp := false, settle := [], con := fun f => match f with | 74 => some c_impl_isWordOf | _ => none, clo := fun _ => none, T := tinf Tryz.prog }
noncomputable def loops_impl_IsGloss : Nat → Option Loop := fun n => none
theorem F_impl_IsGloss_eq (x : ByteArray) : Fev env_impl_IsGloss loops_impl_IsGloss c_impl_IsGloss.ps c_impl_IsGloss.rs Tryz.f59 x = F_impl_IsGloss x := by kernel_rfl
theorem env_impl_IsGloss_ok : EnvOK Tryz.prog env_impl_IsGloss := envOK_of (fun f c h => by
  simp only [env_impl_IsGloss] at h
  split at h
  · cases h; exact con_impl_isWordOf
  · cases h) (fun f c h => by cases h) rfl
theorem con_impl_IsGloss : ConOK Tryz.prog 59 c_impl_IsGloss := con_of_ev' (body := Tryz.f59.body.getD .skip) (Λ := loops_impl_IsGloss) mixed Tryz.func59 (by kernel_rfl) (by kernel_rfl) env_impl_IsGloss_ok (by kernel_rfl) (by kernel_rfl) (fun n L h => by cases h) F_impl_IsGloss_eq

noncomputable def F_impl_isLogEdit (x : (Int × (ByteArray × Bool))) : Option (Bool) :=
  match F_impl_within ((x.1, 1, 999)) with
  | none => none
  | some y1 =>
    bif y1 then
      match F_impl_IsGloss (x.2.1) with
      | none => none
      | some y2 =>
        some (y2)
    else
      some (false)
noncomputable def c_impl_isLogEdit : Con := { ps := [(.val, (.st (.pair (.int .i64) (.pair .str .bool))))], rs := [(.val, .bool)], F := F_impl_isLogEdit }
noncomputable def env_impl_isLogEdit : Env := { par := [], dp := false, settle := [], con := fun f => match f with | 30 => some c_impl_within | 59 => some c_impl_IsGloss | _ => none, clo := fun _ => none, T := tinf Tryz.prog }
noncomputable def loops_impl_isLogEdit : Nat → Option Loop := fun n => none
theorem F_impl_isLogEdit_eq (x : (Int × (ByteArray × Bool))) : Fev env_impl_isLogEdit loops_impl_isLogEdit c_impl_isLogEdit.ps c_impl_isLogEdit.rs Tryz.f39 x = F_impl_isLogEdit x := by kernel_rfl
theorem env_impl_isLogEdit_ok : EnvOK Tryz.prog env_impl_isLogEdit := envOK_of (fun f c h => by
  simp only [env_impl_isLogEdit] at h
  split at h
  · cases h; exact con_impl_within
  · cases h; exact con_impl_IsGloss
  · cases h) (fun f c h => by cases h) rfl
theorem con_impl_isLogEdit : ConOK Tryz.prog 39 c_impl_isLogEdit := con_of_ev' (body := Tryz.f39.body.getD .skip) (Λ := loops_impl_isLogEdit) mixed Tryz.func39 (by kernel_rfl) (by kernel_rfl) env_impl_isLogEdit_ok (by kernel_rfl) (by kernel_rfl) (fun n L h => by cases h) F_impl_isLogEdit_eq

noncomputable def step_impl_AreEdits_0 (s : (List (Int × (ByteArray × Bool))) × (List (Int × (ByteArray × Bool))) × Int × Int) : Option (((List (Int × (ByteArray × Bool))) × (List (Int × (ByteArray × Bool))) × Int × Int) ⊕ ((Bool) ⊕ ((List (Int × (ByteArray × Bool)))))) :=
  bif (decide (s.2.2.2 < s.2.2.1)) then
    bif decide (0 ≤ s.2.2.2) && decide (s.2.2.2 < (s.2.1.length : Int)) then
      match F_impl_isLogEdit ((s.2.1.getD (s.2.2.2).toNat (0, ByteArray.empty, false))) with
      | none => none
      | some y5 =>
        bif (!y5) then
          some (.inr (.inl (false)))
        else
          bif (decide (s.2.2.2 > 0)) then
            let v6 := IntKind.i64.wrap (s.2.2.2 - 1)
            bif decide (0 ≤ v6) && decide (v6 < (s.1.length : Int)) then
              bif (decide ((s.2.1.getD (s.2.2.2).toNat (0, ByteArray.empty, false)).1 ≤ (s.1.getD (v6).toNat (0, ByteArray.empty, false)).1)) then
                some (.inr (.inl (false)))
              else
                let v7 := IntKind.i64.wrap (s.2.2.2 + 1)
                some (.inl ((s.1, (s.2.1, s.2.2.1, v7))))
            else none
          else
            let v8 := IntKind.i64.wrap (s.2.2.2 + 1)
            some (.inl ((s.1, (s.2.1, s.2.2.1, v8))))
    else none
  else
    some (.inr (.inr (s.1)))
def pat_impl_AreEdits_0 : Pat := { tmps := [.v (.slice (.st (.pair (.int .i64) (.pair .str .bool)))), .any, .any, .any, .any, .v (.slice (.st (.pair (.int .i64) (.pair .str .bool)))), .v (.int .i64), .v (.int .i64), .any, .any, .any, .any, .any, .any, .any, .any, .any, .any, .any, .any, .any, .any, .any, .any, .any, .any, .any, .any, .any, .any, .any, .any, .any, .any], blks := [] }
def outs_impl_AreEdits_0 : List (Exit × Pat) := [(.ret, { tmps := [.any, .any, .v .bool, .any, .any, .any, .any, .any, .any, .any, .any, .any, .any, .any, .any, .any, .any, .any, .any, .any, .any, .any, .any, .any, .any, .any, .any, .any, .any, .any, .any, .any, .any, .any], blks := [] }), (.exit 0, { tmps := [.v (.slice (.st (.pair (.int .i64) (.pair .str .bool)))), .any, .any, .any, .any, .any, .any, .any, .any, .any, .any, .any, .any, .any, .any, .any, .any, .any, .any, .any, .any, .any, .any, .any, .any, .any, .any, .any, .any, .any, .any, .any, .any, .any], blks := [] })]
noncomputable def F_impl_AreEdits (x : (List (Int × (ByteArray × Bool)))) : Option (Bool) :=
  match runL step_impl_AreEdits_0 ((x, (x, (x.length : Int), 0))) with
  | none => none
  | some (.inl o9) =>
    some (o9)
  | some (.inr o9) =>
    some ((decide ((o9.length : Int) ≤ 40)))
noncomputable def c_impl_AreEdits : Con := { ps := [(.val, (.slice (.st (.pair (.int .i64) (.pair .str .bool)))))], rs := [(.val, .bool)], F := F_impl_AreEdits }
noncomputable def env_impl_AreEdits : Env := { par := [], dp := false, settle := [], con := fun f => match f with | 39 => some c_impl_isLogEdit | _ => none, clo := fun _ => none, T := tinf Tryz.prog }
noncomputable def loops_impl_AreEdits : Nat → Option Loop := fun n => match n with | 2 => some { pat := pat_impl_AreEdits_0, outs := outs_impl_AreEdits_0, run := runL (step_impl_AreEdits_0) } | _ => none
theorem step_impl_AreEdits_0_eq (s : (List (Int × (ByteArray × Bool))) × (List (Int × (ByteArray × Bool))) × Int × Int) : stepEv env_impl_AreEdits loops_impl_AreEdits pat_impl_AreEdits_0 outs_impl_AreEdits_0 Tryz.f21 2 s = step_impl_AreEdits_0 s := by kernel_rfl
theorem F_impl_AreEdits_eq (x : (List (Int × (ByteArray × Bool)))) : Fev env_impl_AreEdits loops_impl_AreEdits c_impl_AreEdits.ps c_impl_AreEdits.rs Tryz.f21 x = F_impl_AreEdits x := by kernel_rfl
theorem env_impl_AreEdits_ok : EnvOK Tryz.prog env_impl_AreEdits := envOK_of (fun f c h => by
  simp only [env_impl_AreEdits] at h
  split at h
  · cases h; exact con_impl_isLogEdit
  · cases h) (fun f c h => by cases h) rfl
theorem con_impl_AreEdits : ConOK Tryz.prog 21 c_impl_AreEdits := con_of_ev' (body := Tryz.f21.body.getD .skip) (Λ := loops_impl_AreEdits) mixed Tryz.func21 (by kernel_rfl) (by kernel_rfl) env_impl_AreEdits_ok (by kernel_rfl) (by kernel_rfl) (fun n L h => by
  unfold loops_impl_AreEdits at h
  split at h
  · cases h; exact fun s o ho => loop_ok (stepF := stepEv env_impl_AreEdits loops_impl_AreEdits pat_impl_AreEdits_0 outs_impl_AreEdits_0 Tryz.f21 2) (step_impl_AreEdits_0_eq) ho
  · cases h) F_impl_AreEdits_eq

theorem Itoa_ex : ∃ f : Int → Option ByteArray, f = fun n => bif decide (-9223372036854775808 ≤ n) && decide (n ≤ 9223372036854775807) then some ⟨(Lib.itoa n).toArray⟩ else none := ⟨_, rfl⟩
noncomputable def F_strconv_Itoa : Int → Option ByteArray := Classical.choose Itoa_ex
theorem F_strconv_Itoa_is (n : Int) : F_strconv_Itoa n = bif decide (-9223372036854775808 ≤ n) && decide (n ≤ 9223372036854775807) then some ⟨(Lib.itoa n).toArray⟩ else none := congrFun (Classical.choose_spec Itoa_ex) n
noncomputable def c_strconv_Itoa : Con := { ps := [(.val, .int .i64)], rs := [(.val, .str)], F := F_strconv_Itoa }
theorem calls_F_strconv_Itoa (w : World) (x : Int) (y : ByteArray) (hy : F_strconv_Itoa x = some y) (ht : Tabs Tryz.prog w) : Calls Tryz.prog 60 #[.int .i64 x] w fun e w' => e = .returned (.string y) ∧ Fr NoB w w' := by
  rw [F_strconv_Itoa_is] at hy
  obtain ⟨hg, hy⟩ := bif_none hy
  obtain ⟨h0, h1⟩ := and_b hg
  have h0 : -9223372036854775808 ≤ x := of_decide_eq_true h0
  have h1 : x ≤ 9223372036854775807 := of_decide_eq_true h1
  have e : y = ⟨(Lib.itoa x).toArray⟩ := (Option.some.inj hy).symm
  subst e
  refine (Tryz.strconv_Itoa x h0 h1 w (ht.1 _ (List.mem_cons_self ..)).2).mono ?_
  rintro e w' ⟨rfl, k, os, rfl⟩
  exact ⟨rfl, fr_of_below (Go.Lib.below_grow _ _ (Nat.le_refl _) k os)⟩
theorem con_strconv_Itoa : ConOK Tryz.prog 60 c_strconv_Itoa := con_of_pure ⟨Tryz.f60, Tryz.func60, by kernel_rfl, by kernel_rfl⟩ rfl rfl fun w x y hy ht => calls_F_strconv_Itoa w x y hy ht

noncomputable def step_impl_LogEdit_line_0 (s : ByteArray × Int × Int × Int) : Option ((ByteArray × Int × Int × Int) ⊕ ((ByteArray × Int))) :=
  bif (decide (s.2.2.2 < s.2.2.1)) then
    let v20 := IntKind.i64.wrap (7 * s.2.1)
    bif decide (0 ≤ s.2.2.2) && decide (s.2.2.2 < (s.1.size : Int)) then
      let v21 := IntKind.i64.wrap (byteAt s.1 (s.2.2.2).toNat)
      let v22 := IntKind.i64.wrap (v20 + v21)
      bif !decide (9973 = 0) then
        let v23 := (v22).tmod 9973
        let v24 := IntKind.i64.wrap (s.2.2.2 + 1)
        some (.inl ((s.1, (v23, s.2.2.1, v24))))
      else none
    else none
  else
    some (.inr ((s.1, s.2.1)))
def pat_impl_LogEdit_line_0 : Pat := { tmps := [.any, .any, .any, .v .str, .v (.int .i64), .any, .any, .any, .any, .any, .any, .any, .any, .any, .any, .any, .any, .any, .any, .any, .any, .any, .any, .v (.int .i64), .v (.int .i64), .any, .any, .any, .any, .any, .any, .any, .any, .any, .any, .any, .any, .any, .any, .any, .any, .any], blks := [] }
def outs_impl_LogEdit_line_0 : List (Exit × Pat) := [(.exit 0, { tmps := [.any, .any, .any, .v .str, .v (.int .i64), .any, .any, .any, .any, .any, .any, .any, .any, .any, .any, .any, .any, .any, .any, .any, .any, .any, .any, .any, .any, .any, .any, .any, .any, .any, .any, .any, .any, .any, .any, .any, .any, .any, .any, .any, .any, .any], blks := [] })]
noncomputable def F_impl_LogEdit_line (x : (Int × (ByteArray × Bool))) : Option (ByteArray) :=
  match F_strconv_Itoa (x.1) with
  | none => none
  | some y1 =>
    bif decide (y1.size + (⟨#[43]⟩ : ByteArray).size ≤ 9223372036854775807) then
      bif decide ((y1 ++ (⟨#[43]⟩ : ByteArray)).size + x.2.1.size ≤ 9223372036854775807) then
        bif x.2.2 then
          match F_strconv_Itoa (x.1) with
          | none => none
          | some y2 =>
            bif decide (y2.size + (⟨#[45]⟩ : ByteArray).size ≤ 9223372036854775807) then
              bif decide ((y2 ++ (⟨#[45]⟩ : ByteArray)).size + x.2.1.size ≤ 9223372036854775807) then
                match runL step_impl_LogEdit_line_0 ((((y2 ++ (⟨#[45]⟩ : ByteArray)) ++ x.2.1), (3, (((y2 ++ (⟨#[45]⟩ : ByteArray)) ++ x.2.1).size : Int), 0))) with
                | none => none
                | some o13 =>
                  bif decide (o13.1.size + (⟨#[46]⟩ : ByteArray).size ≤ 9223372036854775807) then
                    match F_strconv_Itoa (o13.2) with
                    | none => none
                    | some y14 =>
                      bif decide ((o13.1 ++ (⟨#[46]⟩ : ByteArray)).size + y14.size ≤ 9223372036854775807) then
                        bif decide (((o13.1 ++ (⟨#[46]⟩ : ByteArray)) ++ y14).size + (⟨#[10]⟩ : ByteArray).size ≤ 9223372036854775807) then
                          some ((((o13.1 ++ (⟨#[46]⟩ : ByteArray)) ++ y14) ++ (⟨#[10]⟩ : ByteArray)))
                        else none
                      else none
                  else none
              else none
            else none
        else
          match runL step_impl_LogEdit_line_0 ((((y1 ++ (⟨#[43]⟩ : ByteArray)) ++ x.2.1), (3, (((y1 ++ (⟨#[43]⟩ : ByteArray)) ++ x.2.1).size : Int), 0))) with
          | none => none
          | some o25 =>
            bif decide (o25.1.size + (⟨#[46]⟩ : ByteArray).size ≤ 9223372036854775807) then
              match F_strconv_Itoa (o25.2) with
              | none => none
              | some y26 =>
                bif decide ((o25.1 ++ (⟨#[46]⟩ : ByteArray)).size + y26.size ≤ 9223372036854775807) then
                  bif decide (((o25.1 ++ (⟨#[46]⟩ : ByteArray)) ++ y26).size + (⟨#[10]⟩ : ByteArray).size ≤ 9223372036854775807) then
                    some ((((o25.1 ++ (⟨#[46]⟩ : ByteArray)) ++ y26) ++ (⟨#[10]⟩ : ByteArray)))
                  else none
                else none
            else none
      else none
    else none
noncomputable def c_impl_LogEdit_line : Con := { ps := [(.val, (.st (.pair (.int .i64) (.pair .str .bool))))], rs := [(.val, .str)], F := F_impl_LogEdit_line }
noncomputable def env_impl_LogEdit_line : Env := { par := [], dp := false, settle := [], con := fun f => match f with | 60 => some c_strconv_Itoa | _ => none, clo := fun _ => none, T := tinf Tryz.prog }
noncomputable def loops_impl_LogEdit_line : Nat → Option Loop := fun n => match n with | 6 => some { pat := pat_impl_LogEdit_line_0, outs := outs_impl_LogEdit_line_0, run := runL (step_impl_LogEdit_line_0) } | _ => none
theorem step_impl_LogEdit_line_0_eq (s : ByteArray × Int × Int × Int) : stepEv env_impl_LogEdit_line loops_impl_LogEdit_line pat_impl_LogEdit_line_0 outs_impl_LogEdit_line_0 Tryz.f40 6 s = step_impl_LogEdit_line_0 s := by kernel_rfl
theorem F_impl_LogEdit_line_eq (x : (Int × (ByteArray × Bool))) : Fev env_impl_LogEdit_line loops_impl_LogEdit_line c_impl_LogEdit_line.ps c_impl_LogEdit_line.rs Tryz.f40 x = F_impl_LogEdit_line x := by kernel_rfl
theorem env_impl_LogEdit_line_ok : EnvOK Tryz.prog env_impl_LogEdit_line := envOK_of (fun f c h => by
  simp only [env_impl_LogEdit_line] at h
  split at h
  · cases h; exact con_strconv_Itoa
  · cases h) (fun f c h => by cases h) rfl
theorem con_impl_LogEdit_line : ConOK Tryz.prog 40 c_impl_LogEdit_line := con_of_ev' (body := Tryz.f40.body.getD .skip) (Λ := loops_impl_LogEdit_line) mixed Tryz.func40 (by kernel_rfl) (by kernel_rfl) env_impl_LogEdit_line_ok (by kernel_rfl) (by kernel_rfl) (fun n L h => by
  unfold loops_impl_LogEdit_line at h
  split at h
  · cases h; exact fun s o ho => loop_ok (stepF := stepEv env_impl_LogEdit_line loops_impl_LogEdit_line pat_impl_LogEdit_line_0 outs_impl_LogEdit_line_0 Tryz.f40 6) (step_impl_LogEdit_line_0_eq) ho
  · cases h) F_impl_LogEdit_line_eq

noncomputable def step_impl_editsText_0 (s : ByteArray × (List (Int × (ByteArray × Bool))) × Int × Int) : Option ((ByteArray × (List (Int × (ByteArray × Bool))) × Int × Int) ⊕ ((ByteArray))) :=
  bif (decide (s.2.2.2 < s.2.2.1)) then
    bif decide (0 ≤ s.2.2.2) && decide (s.2.2.2 < (s.2.1.length : Int)) then
      match F_impl_LogEdit_line ((s.2.1.getD (s.2.2.2).toNat (0, ByteArray.empty, false))) with
      | none => none
      | some y3 =>
        bif decide (s.1.size + y3.size ≤ 9223372036854775807) then
          let v4 := IntKind.i64.wrap (s.2.2.2 + 1)
          some (.inl (((s.1 ++ y3), (s.2.1, s.2.2.1, v4))))
        else none
    else none
  else
    some (.inr (s.1))
def pat_impl_editsText_0 : Pat := { tmps := [.any, .any, .any, .v .str, .any, .any, .v (.slice (.st (.pair (.int .i64) (.pair .str .bool)))), .v (.int .i64), .v (.int .i64), .any, .any, .any, .any, .any, .any, .any, .any, .any], blks := [] }
def outs_impl_editsText_0 : List (Exit × Pat) := [(.exit 0, { tmps := [.any, .any, .any, .v .str, .any, .any, .any, .any, .any, .any, .any, .any, .any, .any, .any, .any, .any, .any], blks := [] })]
noncomputable def F_impl_editsText (x : (List (Int × (ByteArray × Bool)))) : Option (ByteArray) :=
  match runL step_impl_editsText_0 (((⟨#[]⟩ : ByteArray), (x, (x.length : Int), 0))) with
  | none => none
  | some o5 =>
    some (o5)
noncomputable def c_impl_editsText : Con := { ps := [(.val, (.slice (.st (.pair (.int .i64) (.pair .str .bool)))))], rs := [(.val, .str)], F := F_impl_editsText }
noncomputable def env_impl_editsText : Env := { par := [], dp := false, settle := [], con := fun f => match f with | 40 => some c_impl_LogEdit_line | _ => none, clo := fun _ => none, T := tinf Tryz.prog }
noncomputable def loops_impl_editsText : Nat → Option Loop := fun n => match n with | 3 => some { pat := pat_impl_editsText_0, outs := outs_impl_editsText_0, run := runL (step_impl_editsText_0) } | _ => none
theorem step_impl_editsText_0_eq (s : ByteArray × (List (Int × (ByteArray × Bool))) × Int × Int) : stepEv env_impl_editsText loops_impl_editsText pat_impl_editsText_0 outs_impl_editsText_0 Tryz.f31 3 s = step_impl_editsText_0 s := by kernel_rfl
theorem F_impl_editsText_eq (x : (List (Int × (ByteArray × Bool)))) : Fev env_impl_editsText loops_impl_editsText c_impl_editsText.ps c_impl_editsText.rs Tryz.f31 x = F_impl_editsText x := by kernel_rfl
theorem env_impl_editsText_ok : EnvOK Tryz.prog env_impl_editsText := envOK_of (fun f c h => by
  simp only [env_impl_editsText] at h
  split at h
  · cases h; exact con_impl_LogEdit_line
  · cases h) (fun f c h => by cases h) rfl
theorem con_impl_editsText : ConOK Tryz.prog 31 c_impl_editsText := con_of_ev' (body := Tryz.f31.body.getD .skip) (Λ := loops_impl_editsText) mixed Tryz.func31 (by kernel_rfl) (by kernel_rfl) env_impl_editsText_ok (by kernel_rfl) (by kernel_rfl) (fun n L h => by
  unfold loops_impl_editsText at h
  split at h
  · cases h; exact fun s o ho => loop_ok (stepF := stepEv env_impl_editsText loops_impl_editsText pat_impl_editsText_0 outs_impl_editsText_0 Tryz.f31 3) (step_impl_editsText_0_eq) ho
  · cases h) F_impl_editsText_eq

noncomputable def F_impl_TearText (x : (List (Int × (ByteArray × Bool))) × Int) : Option (ByteArray × Bool) :=
  match F_impl_AreEdits (x.1) with
  | none => none
  | some y1 =>
    bif (!y1) then
      some (((⟨#[]⟩ : ByteArray), false))
    else
      match F_impl_editsText (x.1) with
      | none => none
      | some y2 =>
        match F_impl_within ((x.2, 0, (y2.size : Int))) with
        | none => none
        | some y3 =>
          bif (!y3) then
            some (((⟨#[]⟩ : ByteArray), false))
          else
            match F_impl_editsText (x.1) with
            | none => none
            | some y4 =>
              bif decide (0 ≤ (0 : Int)) && decide ((0 : Int) ≤ x.2) && decide (x.2 ≤ (y4.size : Int)) then
                some (((y4.extract ((0 : Int)).toNat (x.2).toNat), true))
              else none
noncomputable def c_impl_TearText : Con := { ps := [(.val, (.slice (.st (.pair (.int .i64) (.pair .str .bool))))), (.val, (.int .i64))], rs := [(.val, .str), (.val, .bool)], F := F_impl_TearText }
noncomputable def env_impl_TearText : Env := { par := [], dp := false, settle := [], con := fun f => match f with | 21 => some c_impl_AreEdits | 30 => some c_impl_within | 31 => some c_impl_editsText | _ => none, clo := fun _ => none, T := tinf Tryz.prog }
noncomputable def loops_impl_TearText : Nat → Option Loop := fun n => none
theorem F_impl_TearText_eq (x : (List (Int × (ByteArray × Bool))) × Int) : Fev env_impl_TearText loops_impl_TearText c_impl_TearText.ps c_impl_TearText.rs Tryz.f5 x = F_impl_TearText x := by kernel_rfl
theorem env_impl_TearText_ok : EnvOK Tryz.prog env_impl_TearText := envOK_of (fun f c h => by
  simp only [env_impl_TearText] at h
  split at h
  · cases h; exact con_impl_AreEdits
  · cases h; exact con_impl_within
  · cases h; exact con_impl_editsText
  · cases h) (fun f c h => by cases h) rfl
theorem con_impl_TearText : ConOK Tryz.prog 5 c_impl_TearText := con_of_ev' (body := Tryz.f5.body.getD .skip) (Λ := loops_impl_TearText) mixed Tryz.func5 (by kernel_rfl) (by kernel_rfl) env_impl_TearText_ok (by kernel_rfl) (by kernel_rfl) (fun n L h => by cases h) F_impl_TearText_eq

noncomputable def F_spec_TearText (x : (List (Int × (ByteArray × Bool))) × Int) : Option (ByteArray × Bool) :=
  match F_spec_joGood (x.1) with
  | none => none
  | some y1 =>
    bif (!y1) then
      some (((⟨#[]⟩ : ByteArray), false))
    else
      match F_spec_joText (x.1) with
      | none => none
      | some y2 =>
        match F_spec_l1In ((x.2, 0, (y2.size : Int))) with
        | none => none
        | some y3 =>
          bif (!y3) then
            some (((⟨#[]⟩ : ByteArray), false))
          else
            match F_spec_joText (x.1) with
            | none => none
            | some y4 =>
              bif decide (0 ≤ (0 : Int)) && decide ((0 : Int) ≤ x.2) && decide (x.2 ≤ (y4.size : Int)) then
                some (((y4.extract ((0 : Int)).toNat (x.2).toNat), true))
              else none
noncomputable def c_spec_TearText : Con := { ps := [(.val, (.slice (.st (.pair (.int .i64) (.pair .str .bool))))), (.val, (.int .i64))], rs := [(.val, .str), (.val, .bool)], F := F_spec_TearText }
noncomputable def env_spec_TearText : Env := { par := [], dp := false, settle := [], con := fun f => match f with | 26 => some c_spec_joGood | 27 => some c_spec_joText | 32 => some c_spec_l1In | _ => none, clo := fun _ => none, T := tinf Tryz.prog }
noncomputable def loops_spec_TearText : Nat → Option Loop := fun n => none
theorem F_spec_TearText_eq (x : (List (Int × (ByteArray × Bool))) × Int) : Fev env_spec_TearText loops_spec_TearText c_spec_TearText.ps c_spec_TearText.rs Tryz.f6 x = F_spec_TearText x := by kernel_rfl
theorem env_spec_TearText_ok : EnvOK Tryz.prog env_spec_TearText := envOK_of (fun f c h => by
  simp only [env_spec_TearText] at h
  split at h
  · cases h; exact con_spec_joGood
  · cases h; exact con_spec_joText
  · cases h; exact con_spec_l1In
  · cases h) (fun f c h => by cases h) rfl
theorem con_spec_TearText : ConOK Tryz.prog 6 c_spec_TearText := con_of_ev' (body := Tryz.f6.body.getD .skip) (Λ := loops_spec_TearText) mixed Tryz.func6 (by kernel_rfl) (by kernel_rfl) env_spec_TearText_ok (by kernel_rfl) (by kernel_rfl) (fun n L h => by cases h) F_spec_TearText_eq

noncomputable def F_impl_EditsText (x : (List (Int × (ByteArray × Bool)))) : Option (ByteArray × Bool) :=
  match F_impl_AreEdits (x) with
  | none => none
  | some y1 =>
    bif (!y1) then
      some (((⟨#[]⟩ : ByteArray), false))
    else
      match F_impl_editsText (x) with
      | none => none
      | some y2 =>
        some ((y2, true))
noncomputable def c_impl_EditsText : Con := { ps := [(.val, (.slice (.st (.pair (.int .i64) (.pair .str .bool)))))], rs := [(.val, .str), (.val, .bool)], F := F_impl_EditsText }
noncomputable def env_impl_EditsText : Env := { par := [], dp := false, settle := [], con := fun f => match f with | 21 => some c_impl_AreEdits | 31 => some c_impl_editsText | _ => none, clo := fun _ => none, T := tinf Tryz.prog }
noncomputable def loops_impl_EditsText : Nat → Option Loop := fun n => none
theorem F_impl_EditsText_eq (x : (List (Int × (ByteArray × Bool)))) : Fev env_impl_EditsText loops_impl_EditsText c_impl_EditsText.ps c_impl_EditsText.rs Tryz.f7 x = F_impl_EditsText x := by kernel_rfl
theorem env_impl_EditsText_ok : EnvOK Tryz.prog env_impl_EditsText := envOK_of (fun f c h => by
  simp only [env_impl_EditsText] at h
  split at h
  · cases h; exact con_impl_AreEdits
  · cases h; exact con_impl_editsText
  · cases h) (fun f c h => by cases h) rfl
theorem con_impl_EditsText : ConOK Tryz.prog 7 c_impl_EditsText := con_of_ev' (body := Tryz.f7.body.getD .skip) (Λ := loops_impl_EditsText) mixed Tryz.func7 (by kernel_rfl) (by kernel_rfl) env_impl_EditsText_ok (by kernel_rfl) (by kernel_rfl) (fun n L h => by cases h) F_impl_EditsText_eq

noncomputable def F_spec_EditsText (x : (List (Int × (ByteArray × Bool)))) : Option (ByteArray × Bool) :=
  match F_spec_joGood (x) with
  | none => none
  | some y1 =>
    bif (!y1) then
      some (((⟨#[]⟩ : ByteArray), false))
    else
      match F_spec_joText (x) with
      | none => none
      | some y2 =>
        some ((y2, true))
noncomputable def c_spec_EditsText : Con := { ps := [(.val, (.slice (.st (.pair (.int .i64) (.pair .str .bool)))))], rs := [(.val, .str), (.val, .bool)], F := F_spec_EditsText }
noncomputable def env_spec_EditsText : Env := { par := [], dp := false, settle := [], con := fun f => match f with | 26 => some c_spec_joGood | 27 => some c_spec_joText | _ => none, clo := fun _ => none, T := tinf Tryz.prog }
noncomputable def loops_spec_EditsText : Nat → Option Loop := fun n => none
theorem F_spec_EditsText_eq (x : (List (Int × (ByteArray × Bool)))) : Fev env_spec_EditsText loops_spec_EditsText c_spec_EditsText.ps c_spec_EditsText.rs Tryz.f8 x = F_spec_EditsText x := by kernel_rfl
theorem env_spec_EditsText_ok : EnvOK Tryz.prog env_spec_EditsText := envOK_of (fun f c h => by
  simp only [env_spec_EditsText] at h
  split at h
  · cases h; exact con_spec_joGood
  · cases h; exact con_spec_joText
  · cases h) (fun f c h => by cases h) rfl
theorem con_spec_EditsText : ConOK Tryz.prog 8 c_spec_EditsText := con_of_ev' (body := Tryz.f8.body.getD .skip) (Λ := loops_spec_EditsText) mixed Tryz.func8 (by kernel_rfl) (by kernel_rfl) env_spec_EditsText_ok (by kernel_rfl) (by kernel_rfl) (fun n L h => by cases h) F_spec_EditsText_eq

section
open Go.RowKit
theorem nil_slices_Clone_string_string (n c : Nat) (w : World) : Calls Tryz.prog 54 #[.slice none n c] w fun e w' => e = .returned (.slice none 0 0) ∧ w' = w := by
  have q : ∀ (w : World) (a : Option Addr) (n c n' c' : Nat), (binOp .eql 29 (.slice a n c) (.slice none n' c')).run Tryz.prog w = .ok (.bool a.isNone) w := fun w a n c n' c' => Lib.run_eql_slice_nil w _ _ a n c n' c' (show Tryz.prog.underlying 29 = some (.slice 9) by kernel_rfl)
  go_enter Tryz.func54, Tryz.ntmps54
  go_wp2
  go_ret
  exact ⟨rfl, rfl⟩
set_option maxHeartbeats 2000000 in
theorem some_slices_Clone_string_string (ad : Addr) (n c : Nat) (news : List Value) (w : World) (hl : news.length = n * 1) (hc : ∀ j u, news[j]? = some u → w.cell? (ad.add j) = some u) (h1 : ∀ u ∈ news, u.oneCell' = true) (hbig : n * 16 ≤ 140737488355328) :
    Calls Tryz.prog 54 #[.slice (some ad) n c] w fun e w' => ∃ v', e = .returned v' ∧ w'.ownsRow w.heap.size 9 1 v' n news ∧ Below w.heap.size w w' := by
  have q : ∀ (w : World) (a : Option Addr) (n c n' c' : Nat), (binOp .eql 29 (.slice a n c) (.slice none n' c')).run Tryz.prog w = .ok (.bool a.isNone) w := fun w a n c n' c' => Lib.run_eql_slice_nil w _ _ a n c n' c' (show Tryz.prog.underlying 29 = some (.slice 9) by kernel_rfl)
  obtain ⟨i0, hi, hz0, hz1, hz2⟩ := info_parts (P := Tryz.prog) (e := 9) (z := (.string ⟨#[]⟩)) (size := 1) (bytes := 16) (by kernel_rfl)
  have A : Aside (∀ j u, news[j]? = some u → w.cell? (ad.add j) = some u) := hc
  clear hc
  go_enter Tryz.func54, Tryz.ntmps54
  go_wp2_with (at_builtin; refine wpList_append_own _ rfl _ _ 29 rfl w.heap.size 9 i0 (.string ⟨#[]⟩) 1 16 (by kernel_rfl) hi hz0 hz1 hz2 rfl (by decide) _ _ _ rfl (World.ownsRow_made w #[] 0 (Nat.le_refl _) (Nat.zero_le _) rfl) ad n c news rfl ?qc1 ?qc2 ?qc3 ?qc4 ?qc5 ?qc6 ?_)
  case qc1 => exact hl
  case qc2 => exact fun j u hj => Lib.cell?_alloc_some _ (A.out j u hj)
  case qc3 => exact h1
  case qc4 => unfold maxLen; omega
  case qc5 => omega
  case qc6 => simp
  intro v' w1 hown hgrow hnil
  go_wp2
  go_ret
  refine ⟨v', rfl, by simpa using hown, ?_⟩
  exact ((Below.refl _ w).alloc (Nat.le_refl _) _).grown hgrow (by simp) (by intro k hk; simp [Value.ownBlock] at hk; omega)
def F_slices_Clone_string_string (x : List ByteArray) : Option (List ByteArray) := bif decide (x.length * 16 ≤ 140737488355328) then some x else none
noncomputable def c_slices_Clone_string_string : Con := { ps := [(.val, .slice .str)], rs := [(.io true, .slice .str)], F := F_slices_Clone_string_string }
theorem con_slices_Clone_string_string : ConOK Tryz.prog 54 c_slices_Clone_string_string := con_clone ⟨Tryz.f54, Tryz.func54, by kernel_rfl, by kernel_rfl⟩ .str true rfl 16 9 nil_slices_Clone_string_string some_slices_Clone_string_string
end

section
open Go.RowKit Go.Sort
noncomputable def F_slices_Sort_string_string (x : List ByteArray) : Option (List ByteArray) := F_sort (α := List UInt8) .str (fun b => b.data.toList) (fun l => ⟨l.toArray⟩) (fun l => l.mergeSort fun x y => decide (x ≤ y)) x
noncomputable def c_slices_Sort_string_string : Con := { ps := [(.io true, .slice .str)], rs := [], F := F_slices_Sort_string_string }
theorem con_slices_Sort_string_string : ConOK Tryz.prog 55 c_slices_Sort_string_string := con_sort (α := List UInt8) ⟨Tryz.f55, Tryz.func55, by kernel_rfl, by kernel_rfl⟩ .str rfl rfl encStr (fun b => b.data.toList) (fun l => ⟨l.toArray⟩) (by rintro ⟨⟨l⟩⟩; rfl) (fun a => rfl) _ (fun l => by simp)
  (fun A w => (Tryz.slices_Sort_string_none A 0 w).mono (by rintro e w' ⟨rfl, rfl⟩; exact ⟨rfl, Fr.refl _ _⟩)) (fun g cap zs w hH hlt hsz => Tryz.slices_Sort_string g 0 cap zs w hH hlt hsz)
end

noncomputable def step_slices_Compact_string_string_0 (s : Int × Int × Int × Int × (List ByteArray)) : Option ((Int × Int × Int × Int × (List ByteArray)) ⊕ ((Int × (List ByteArray)))) :=
  bif (decide (s.2.2.2.1 < ((s.2.2.1).toNat : Int))) then
    bif decide (0 ≤ s.2.2.2.1) && decide (s.2.2.2.1 < ((s.2.2.1).toNat : Int)) then
      let v21 := IntKind.i64.wrap (s.2.2.2.1 - 1)
      bif decide (0 ≤ v21) && decide (v21 < ((s.2.2.1).toNat : Int)) then
        bif (!((s.2.2.2.2.getD ((s.2.1).toNat + (s.2.2.2.1).toNat) ByteArray.empty).toList == (s.2.2.2.2.getD ((s.2.1).toNat + (v21).toNat) ByteArray.empty).toList)) then
          bif decide (0 ≤ s.2.2.2.1) && decide (s.2.2.2.1 < ((s.2.2.1).toNat : Int)) then
            bif decide (0 ≤ s.1) && decide (s.1 < (s.2.2.2.2.length : Int)) then
              let v22 := s.2.2.2.2.set (s.1).toNat ((s.2.2.2.2.getD ((s.2.1).toNat + (s.2.2.2.1).toNat) ByteArray.empty))
              let v23 := IntKind.i64.wrap (s.1 + 1)
              let v24 := IntKind.i64.wrap (s.2.2.2.1 + 1)
              some (.inl ((v23, (((s.2.1).toNat : Nat) : Int), ((((s.2.2.1).toNat : Nat) : Int), v24, v22))))
            else none
          else none
        else
          let v25 := IntKind.i64.wrap (s.2.2.2.1 + 1)
          some (.inl ((s.1, (((s.2.1).toNat : Nat) : Int), ((((s.2.2.1).toNat : Nat) : Int), v25, s.2.2.2.2))))
      else none
    else none
  else
    some (.inr ((s.1, s.2.2.2.2)))
def pat_slices_Compact_string_string_0 : Pat := { tmps := [.own 62, .any, .any, .v (.int .i64), .sub 62, .v (.int .i64), .any, .any, .any, .any, .any, .any, .any, .any, .any, .any, .any, .any, .any, .any, .any, .any, .any, .any, .any, .any, .any, .any, .any, .any, .any, .any, .any, .any, .any, .any, .any, .any, .any, .any, .any, .any, .any, .any, .any, .any, .any, .any, .any, .any, .any, .any, .any, .any, .any, .any, .any, .any, .any, .any, .any], blks := [(62, .row true .str)] }
def outs_slices_Compact_string_string_0 : List (Exit × Pat) := [(.exit 2, { tmps := [.own 62, .any, .any, .v (.int .i64), .any, .any, .any, .any, .any, .any, .any, .any, .any, .any, .any, .any, .any, .any, .any, .any, .any, .any, .any, .any, .any, .any, .any, .any, .any, .any, .any, .any, .any, .any, .any, .any, .any, .any, .any, .any, .any, .any, .any, .any, .any, .any, .any, .any, .any, .any, .any, .any, .any, .any, .any, .any, .any, .any, .any, .any, .any], blks := [(62, .row true .str)] })]
noncomputable def step_slices_Compact_string_string_1 (s : Int × (List ByteArray)) : Option ((Int × (List ByteArray)) ⊕ ((Int × Int × (List ByteArray)) ⊕ ((List ByteArray)))) :=
  bif (decide (s.1 < (s.2.length : Int))) then
    bif decide (0 ≤ s.1) && decide (s.1 < (s.2.length : Int)) then
      let v15 := IntKind.i64.wrap (s.1 - 1)
      bif decide (0 ≤ v15) && decide (v15 < (s.2.length : Int)) then
        bif ((s.2.getD (s.1).toNat ByteArray.empty).toList == (s.2.getD (v15).toNat ByteArray.empty).toList) then
          bif decide (0 ≤ s.1) && decide (s.1 ≤ (s.2.length : Int)) && decide ((s.2.length : Int) ≤ (s.2.length : Int)) then
            match runL step_slices_Compact_string_string_0 ((s.1, (((s.1).toNat : Nat) : Int), ((((((s.2.length : Int)).toNat - (s.1).toNat) : Nat) : Int), 1, s.2))) with
            | none => none
            | some o26 =>
              bif decide (0 ≤ o26.1) && decide (o26.1 ≤ (o26.2.length : Int)) && decide ((o26.2.length : Int) ≤ (o26.2.length : Int)) then
                bif decide ((o26.1).toNat + (((o26.2.length : Int)).toNat - (o26.1).toNat) ≤ o26.2.length) then
                  let v27 := o26.2.take (o26.1).toNat ++ List.replicate (((o26.2.length : Int)).toNat - (o26.1).toNat) (ByteArray.empty) ++ o26.2.drop ((o26.1).toNat + (((o26.2.length : Int)).toNat - (o26.1).toNat))
                  bif decide (0 ≤ (0 : Int)) && decide ((0 : Int) ≤ o26.1) && decide (o26.1 ≤ (v27.length : Int)) then
                    some (.inr (.inl ((((((0 : Int)).toNat : Nat) : Int), ((((o26.1).toNat - ((0 : Int)).toNat) : Nat) : Int), v27))))
                  else none
                else none
              else none
          else none
        else
          let v28 := IntKind.i64.wrap (s.1 + 1)
          some (.inl ((v28, s.2)))
      else none
    else none
  else
    some (.inr (.inr (s.2)))
def pat_slices_Compact_string_string_1 : Pat := { tmps := [.own 62, .any, .any, .v (.int .i64), .any, .any, .any, .any, .any, .any, .any, .any, .any, .any, .any, .any, .any, .any, .any, .any, .any, .any, .any, .any, .any, .any, .any, .any, .any, .any, .any, .any, .any, .any, .any, .any, .any, .any, .any, .any, .any, .any, .any, .any, .any, .any, .any, .any, .any, .any, .any, .any, .any, .any, .any, .any, .any, .any, .any, .any, .any], blks := [(62, .row true .str)] }
def outs_slices_Compact_string_string_1 : List (Exit × Pat) := [(.ret, { tmps := [.any, .any, .sub 62, .any, .any, .any, .any, .any, .any, .any, .any, .any, .any, .any, .any, .any, .any, .any, .any, .any, .any, .any, .any, .any, .any, .any, .any, .any, .any, .any, .any, .any, .any, .any, .any, .any, .any, .any, .any, .any, .any, .any, .any, .any, .any, .any, .any, .any, .any, .any, .any, .any, .any, .any, .any, .any, .any, .any, .any, .any, .any], blks := [(62, .row true .str)] }), (.exit 0, { tmps := [.own 62, .any, .any, .any, .any, .any, .any, .any, .any, .any, .any, .any, .any, .any, .any, .any, .any, .any, .any, .any, .any, .any, .any, .any, .any, .any, .any, .any, .any, .any, .any, .any, .any, .any, .any, .any, .any, .any, .any, .any, .any, .any, .any, .any, .any, .any, .any, .any, .any, .any, .any, .any, .any, .any, .any, .any, .any, .any, .any, .any, .any], blks := [(62, .row true .str)] })]
noncomputable def F_slices_Compact_string_string (x : (List ByteArray)) : Option ((List ByteArray)) :=
  bif (decide ((x.length : Int) < 2)) then
    some (x)
  else
    match runL step_slices_Compact_string_string_1 ((1, x)) with
    | none => none
    | some (.inl o29) =>
      bif (decide ((o29.1).toNat = 0) && true) then
        some ((o29.2.2.take (o29.2.1).toNat))
      else none
    | some (.inr o29) =>
      some (o29)
noncomputable def c_slices_Compact_string_string : Con := { ps := [(.eat true, (.slice .str))], rs := [(.io true, (.slice .str))], F := F_slices_Compact_string_string }
noncomputable def env_slices_Compact_string_string : Env := { par := [62], dp := false, settle := [], con := fun _ => none, clo := fun _ => none, T := tinf Tryz.prog }
noncomputable def loops_slices_Compact_string_string : Nat → Option Loop := fun n => match n with | 9 => some { pat := pat_slices_Compact_string_string_0, outs := outs_slices_Compact_string_string_0, run := runL (step_slices_Compact_string_string_0) } | 4 => some { pat := pat_slices_Compact_string_string_1, outs := outs_slices_Compact_string_string_1, run := runL (step_slices_Compact_string_string_1) } | _ => none
theorem step_slices_Compact_string_string_0_eq (s : Int × Int × Int × Int × (List ByteArray)) : stepEv env_slices_Compact_string_string loops_slices_Compact_string_string pat_slices_Compact_string_string_0 outs_slices_Compact_string_string_0 Tryz.f56 9 s = step_slices_Compact_string_string_0 s := by kernel_rfl
theorem step_slices_Compact_string_string_1_eq (s : Int × (List ByteArray)) : stepEv env_slices_Compact_string_string loops_slices_Compact_string_string pat_slices_Compact_string_string_1 outs_slices_Compact_string_string_1 Tryz.f56 4 s = step_slices_Compact_string_string_1 s := by kernel_rfl
theorem F_slices_Compact_string_string_eq (x : (List ByteArray)) : Fev env_slices_Compact_string_string loops_slices_Compact_string_string c_slices_Compact_string_string.ps c_slices_Compact_string_string.rs Tryz.f56 x = F_slices_Compact_string_string x := by kernel_rfl
theorem env_slices_Compact_string_string_ok : EnvOK Tryz.prog env_slices_Compact_string_string := envOK_of (fun f c h => by cases h) (fun f c h => by cases h) rfl
theorem con_slices_Compact_string_string : ConOK Tryz.prog 56 c_slices_Compact_string_string := con_of_ev' (body := Tryz.f56.body.getD .skip) (Λ := loops_slices_Compact_string_string) mixed Tryz.func56 (by kernel_rfl) (by kernel_rfl) env_slices_Compact_string_string_ok (by kernel_rfl) (by kernel_rfl) (fun n L h => by
  unfold loops_slices_Compact_string_string at h
  split at h
  · cases h; exact fun s o ho => loop_ok (stepF := stepEv env_slices_Compact_string_string loops_slices_Compact_string_string pat_slices_Compact_string_string_0 outs_slices_Compact_string_string_0 Tryz.f56 9) (step_slices_Compact_string_string_0_eq) ho
  · cases h; exact fun s o ho => loop_ok (stepF := stepEv env_slices_Compact_string_string loops_slices_Compact_string_string pat_slices_Compact_string_string_1 outs_slices_Compact_string_string_1 Tryz.f56 4) (step_slices_Compact_string_string_1_eq) ho
  · cases h) F_slices_Compact_string_string_eq

noncomputable def F_impl_distinct_string (x : (List ByteArray)) : Option ((List ByteArray)) :=
  match F_slices_Clone_string_string (x) with
  | none => none
  | some y1 =>
    match F_slices_Sort_string_string (y1) with
    | none => none
    | some y2 =>
      match F_slices_Compact_string_string (y2) with
      | none => none
      | some y3 =>
        some (y3)
noncomputable def c_impl_distinct_string : Con := { ps := [(.val, (.slice .str))], rs := [(.io true, (.slice .str))], F := F_impl_distinct_string }
noncomputable def env_impl_distinct_string : Env := { par := [], dp := false, settle := [], con := fun f => match f with | 54 => some c_slices_Clone_string_string | 55 => some c_slices_Sort_string_string | 56 => some c_slices_Compact_string_string | _ => none, clo := fun _ => none, T := tinf Tryz.prog }
noncomputable def loops_impl_distinct_string : Nat → Option Loop := fun n => none
theorem F_impl_distinct_string_eq (x : (List ByteArray)) : Fev env_impl_distinct_string loops_impl_distinct_string c_impl_distinct_string.ps c_impl_distinct_string.rs Tryz.f34 x = F_impl_distinct_string x := by kernel_rfl
theorem env_impl_distinct_string_ok : EnvOK Tryz.prog env_impl_distinct_string := envOK_of (fun f c h => by
  simp only [env_impl_distinct_string] at h
  split at h
  · cases h; exact con_slices_Clone_string_string
  · cases h; exact con_slices_Sort_string_string
  · cases h; exact con_slices_Compact_string_string
  · cases h) (fun f c h => by cases h) rfl
theorem con_impl_distinct_string : ConOK Tryz.prog 34 c_impl_distinct_string := con_of_ev' (body := Tryz.f34.body.getD .skip) (Λ := loops_impl_distinct_string) mixed Tryz.func34 (by kernel_rfl) (by kernel_rfl) env_impl_distinct_string_ok (by kernel_rfl) (by kernel_rfl) (fun n L h => by cases h) F_impl_distinct_string_eq

noncomputable def F_impl_GlossesIn_1 (x : ByteArray × (List (ByteArray × Bool))) : Option (Bool) :=
  let v1 := mget (.str) (.bool) x.1 x.2 ((false) : Bool)
  some ((!v1))
noncomputable def c_impl_GlossesIn_1 : Con := { ps := [(.val, .str), (.val, (.ptr (.map .str .bool)))], rs := [(.val, .bool)], F := F_impl_GlossesIn_1 }
noncomputable def env_impl_GlossesIn_1 : Env := { par := [], dp := false, settle := [], con := fun _ => none, clo := fun _ => none, T := tinf Tryz.prog }
noncomputable def loops_impl_GlossesIn_1 : Nat → Option Loop := fun n => none
theorem F_impl_GlossesIn_1_eq (x : ByteArray × (List (ByteArray × Bool))) : Fev env_impl_GlossesIn_1 loops_impl_GlossesIn_1 c_impl_GlossesIn_1.ps c_impl_GlossesIn_1.rs Tryz.f35 x = F_impl_GlossesIn_1 x := by kernel_rfl
theorem env_impl_GlossesIn_1_ok : EnvOK Tryz.prog env_impl_GlossesIn_1 := envOK_of (fun f c h => by cases h) (fun f c h => by cases h) rfl
theorem con_impl_GlossesIn_1 : ConOK Tryz.prog 35 c_impl_GlossesIn_1 := con_of_ev' (body := Tryz.f35.body.getD .skip) (Λ := loops_impl_GlossesIn_1) mixed Tryz.func35 (by kernel_rfl) (by kernel_rfl) env_impl_GlossesIn_1_ok (by kernel_rfl) (by kernel_rfl) (fun n L h => by cases h) F_impl_GlossesIn_1_eq

noncomputable def step_slices_IndexFunc_string_string_0 (s : (List ByteArray) × (ByteArray → Option Bool) × Int × Int) : Option (((List ByteArray) × (ByteArray → Option Bool) × Int × Int) ⊕ ((Int) ⊕ (Unit))) :=
  bif (decide (s.2.2.2 < s.2.2.1)) then
    bif decide (0 ≤ s.2.2.2) && decide (s.2.2.2 < (s.1.length : Int)) then
      match s.2.1 ((s.1.getD (s.2.2.2).toNat ByteArray.empty)) with
      | none => none
      | some y3 =>
        bif y3 then
          some (.inr (.inl (s.2.2.2)))
        else
          let v4 := IntKind.i64.wrap (s.2.2.2 + 1)
          some (.inl ((s.1, (s.2.1, s.2.2.1, v4))))
    else none
  else
    some (.inr (.inr (())))
def pat_slices_IndexFunc_string_string_0 : Pat := { tmps := [.v (.slice .str), .v (.fn .str .bool), .any, .any, .any, .any, .any, .v (.int .i64), .v (.int .i64), .any, .any, .any, .any, .any, .any, .any, .any, .any, .any], blks := [] }
def outs_slices_IndexFunc_string_string_0 : List (Exit × Pat) := [(.ret, { tmps := [.any, .any, .any, .any, .v (.int .i64), .any, .any, .any, .any, .any, .any, .any, .any, .any, .any, .any, .any, .any, .any], blks := [] }), (.exit 0, { tmps := [.any, .any, .any, .any, .any, .any, .any, .any, .any, .any, .any, .any, .any, .any, .any, .any, .any, .any, .any], blks := [] })]
noncomputable def F_slices_IndexFunc_string_string (x : (List ByteArray) × (ByteArray → Option Bool)) : Option (Int) :=
  match runL step_slices_IndexFunc_string_string_0 ((x.1, (x.2, (x.1.length : Int), 0))) with
  | none => none
  | some (.inl o5) =>
    some (o5)
  | some (.inr o5) =>
    some ((-1))
noncomputable def c_slices_IndexFunc_string_string : Con := { ps := [(.val, (.slice .str)), (.val, (.fn .str .bool))], rs := [(.val, (.int .i64))], F := F_slices_IndexFunc_string_string }
noncomputable def env_slices_IndexFunc_string_string : Env := { par := [], dp := false, settle := [], con := fun _ => none, clo := fun _ => none, T := tinf Tryz.prog }
noncomputable def loops_slices_IndexFunc_string_string : Nat → Option Loop := fun n => match n with | 2 => some { pat := pat_slices_IndexFunc_string_string_0, outs := outs_slices_IndexFunc_string_string_0, run := runL (step_slices_IndexFunc_string_string_0) } | _ => none
theorem step_slices_IndexFunc_string_string_0_eq (s : (List ByteArray) × (ByteArray → Option Bool) × Int × Int) : stepEv env_slices_IndexFunc_string_string loops_slices_IndexFunc_string_string pat_slices_IndexFunc_string_string_0 outs_slices_IndexFunc_string_string_0 Tryz.f53 2 s = step_slices_IndexFunc_string_string_0 s := by kernel_rfl
theorem F_slices_IndexFunc_string_string_eq (x : (List ByteArray) × (ByteArray → Option Bool)) : Fev env_slices_IndexFunc_string_string loops_slices_IndexFunc_string_string c_slices_IndexFunc_string_string.ps c_slices_IndexFunc_string_string.rs Tryz.f53 x = F_slices_IndexFunc_string_string x := by kernel_rfl
theorem env_slices_IndexFunc_string_string_ok : EnvOK Tryz.prog env_slices_IndexFunc_string_string := envOK_of (fun f c h => by cases h) (fun f c h => by cases h) rfl
theorem con_slices_IndexFunc_string_string : ConOK Tryz.prog 53 c_slices_IndexFunc_string_string := con_of_ev' (body := Tryz.f53.body.getD .skip) (Λ := loops_slices_IndexFunc_string_string) mixed Tryz.func53 (by kernel_rfl) (by kernel_rfl) env_slices_IndexFunc_string_string_ok (by kernel_rfl) (by kernel_rfl) (fun n L h => by
  unfold loops_slices_IndexFunc_string_string at h
  split at h
  · cases h; exact fun s o ho => loop_ok (stepF := stepEv env_slices_IndexFunc_string_string loops_slices_IndexFunc_string_string pat_slices_IndexFunc_string_string_0 outs_slices_IndexFunc_string_string_0 Tryz.f53 2) (step_slices_IndexFunc_string_string_0_eq) ho
  · cases h) F_slices_IndexFunc_string_string_eq

noncomputable def step_slices_DeleteFunc_string_string_0 (s : (ByteArray → Option Bool) × Int × Int × (List ByteArray)) : Option (((ByteArray → Option Bool) × Int × Int × (List ByteArray)) ⊕ ((Int × (List ByteArray)))) :=
  bif (decide (s.2.2.1 < (s.2.2.2.length : Int))) then
    bif decide (0 ≤ s.2.2.1) && decide (s.2.2.1 < (s.2.2.2.length : Int)) then
      match s.1 ((s.2.2.2.getD (s.2.2.1).toNat ByteArray.empty)) with
      | none => none
      | some y8 =>
        bif (!y8) then
          bif decide (0 ≤ s.2.1) && decide (s.2.1 < (s.2.2.2.length : Int)) then
            let v9 := s.2.2.2.set (s.2.1).toNat ((s.2.2.2.getD (s.2.2.1).toNat ByteArray.empty))
            let v10 := IntKind.i64.wrap (s.2.1 + 1)
            let v11 := IntKind.i64.wrap (s.2.2.1 + 1)
            some (.inl ((s.1, (v10, v11, v9))))
          else none
        else
          let v12 := IntKind.i64.wrap (s.2.2.1 + 1)
          some (.inl ((s.1, (s.2.1, v12, s.2.2.2))))
    else none
  else
    some (.inr ((s.2.1, s.2.2.2)))
def pat_slices_DeleteFunc_string_string_0 : Pat := { tmps := [.own 62, .v (.fn .str .bool), .any, .any, .any, .v (.int .i64), .v (.int .i64), .any, .any, .any, .any, .any, .any, .any, .any, .any, .any, .any, .any, .any, .any, .any, .any, .any, .any, .any, .any, .any, .any, .any, .any, .any, .any, .any, .any, .any, .any, .any, .any, .any, .any, .any], blks := [(62, .row true .str)] }
def outs_slices_DeleteFunc_string_string_0 : List (Exit × Pat) := [(.exit 0, { tmps := [.own 62, .any, .any, .any, .any, .v (.int .i64), .any, .any, .any, .any, .any, .any, .any, .any, .any, .any, .any, .any, .any, .any, .any, .any, .any, .any, .any, .any, .any, .any, .any, .any, .any, .any, .any, .any, .any, .any, .any, .any, .any, .any, .any, .any], blks := [(62, .row true .str)] })]
noncomputable def F_slices_DeleteFunc_string_string (x : (List ByteArray) × (ByteArray → Option Bool)) : Option ((List ByteArray)) :=
  match F_slices_IndexFunc_string_string (x) with
  | none => none
  | some y1 =>
    bif ((y1 == (-1))) then
      some (x.1)
    else
      let v2 := IntKind.i64.wrap (y1 + 1)
      match runL step_slices_DeleteFunc_string_string_0 ((x.2, (y1, v2, x.1))) with
      | none => none
      | some o13 =>
        bif decide (0 ≤ o13.1) && decide (o13.1 ≤ (o13.2.length : Int)) && decide ((o13.2.length : Int) ≤ (o13.2.length : Int)) then
          bif decide ((o13.1).toNat + (((o13.2.length : Int)).toNat - (o13.1).toNat) ≤ o13.2.length) then
            let v14 := o13.2.take (o13.1).toNat ++ List.replicate (((o13.2.length : Int)).toNat - (o13.1).toNat) (ByteArray.empty) ++ o13.2.drop ((o13.1).toNat + (((o13.2.length : Int)).toNat - (o13.1).toNat))
            bif decide (0 ≤ (0 : Int)) && decide ((0 : Int) ≤ o13.1) && decide (o13.1 ≤ (v14.length : Int)) then
              some ((v14.take ((o13.1).toNat - ((0 : Int)).toNat)))
            else none
          else none
        else none
noncomputable def c_slices_DeleteFunc_string_string : Con := { ps := [(.eat true, (.slice .str)), (.val, (.fn .str .bool))], rs := [(.io true, (.slice .str))], F := F_slices_DeleteFunc_string_string }
noncomputable def env_slices_DeleteFunc_string_string : Env := { par := [62], dp := false, settle := [], con := fun f => match f with | 53 => some c_slices_IndexFunc_string_string | _ => none, clo := fun _ => none, T := tinf Tryz.prog }
noncomputable def loops_slices_DeleteFunc_string_string : Nat → Option Loop := fun n => match n with | 5 => some { pat := pat_slices_DeleteFunc_string_string_0, outs := outs_slices_DeleteFunc_string_string_0, run := runL (step_slices_DeleteFunc_string_string_0) } | _ => none
theorem step_slices_DeleteFunc_string_string_0_eq (s : (ByteArray → Option Bool) × Int × Int × (List ByteArray)) : stepEv env_slices_DeleteFunc_string_string loops_slices_DeleteFunc_string_string pat_slices_DeleteFunc_string_string_0 outs_slices_DeleteFunc_string_string_0 Tryz.f33 5 s = step_slices_DeleteFunc_string_string_0 s := by kernel_rfl
theorem F_slices_DeleteFunc_string_string_eq (x : (List ByteArray) × (ByteArray → Option Bool)) : Fev env_slices_DeleteFunc_string_string loops_slices_DeleteFunc_string_string c_slices_DeleteFunc_string_string.ps c_slices_DeleteFunc_string_string.rs Tryz.f33 x = F_slices_DeleteFunc_string_string x := by kernel_rfl
theorem env_slices_DeleteFunc_string_string_ok : EnvOK Tryz.prog env_slices_DeleteFunc_string_string := envOK_of (fun f c h => by
  simp only [env_slices_DeleteFunc_string_string] at h
  split at h
  · cases h; exact con_slices_IndexFunc_string_string
  · cases h) (fun f c h => by cases h) rfl
theorem con_slices_DeleteFunc_string_string : ConOK Tryz.prog 33 c_slices_DeleteFunc_string_string := con_of_ev' (body := Tryz.f33.body.getD .skip) (Λ := loops_slices_DeleteFunc_string_string) mixed Tryz.func33 (by kernel_rfl) (by kernel_rfl) env_slices_DeleteFunc_string_string_ok (by kernel_rfl) (by kernel_rfl) (fun n L h => by
  unfold loops_slices_DeleteFunc_string_string at h
  split at h
  · cases h; exact fun s o ho => loop_ok (stepF := stepEv env_slices_DeleteFunc_string_string loops_slices_DeleteFunc_string_string pat_slices_DeleteFunc_string_string_0 outs_slices_DeleteFunc_string_string_0 Tryz.f33 5) (step_slices_DeleteFunc_string_string_0_eq) ho
  · cases h) F_slices_DeleteFunc_string_string_eq

noncomputable def K_impl_GlossesIn_1 (q : (List (ByteArray × Bool))) (x : ByteArray) : Option (Bool) := F_impl_GlossesIn_1 (x, q)
noncomputable def k_impl_GlossesIn_1 : CloCon := { caps := [(.map .str .bool)], a := .str, r := .bool, F := K_impl_GlossesIn_1 }
theorem clo_impl_GlossesIn_1 : CloOK Tryz.prog 35 k_impl_GlossesIn_1 := clo_of_con k_impl_GlossesIn_1 F_impl_GlossesIn_1 con_impl_GlossesIn_1 rfl (fun kx x y h => ⟨y, h, rfl⟩)
noncomputable def step_impl_GlossesIn_0 (s : (List (Int × (ByteArray × Bool))) × Int × Int × (List (ByteArray × Bool)) × (List ByteArray)) : Option (((List (Int × (ByteArray × Bool))) × Int × Int × (List (ByteArray × Bool)) × (List ByteArray)) ⊕ (((List ByteArray) × (List (ByteArray × Bool))))) :=
  bif (decide (s.2.2.1 < s.2.1)) then
    bif decide (0 ≤ s.2.2.1) && decide (s.2.2.1 < (s.1.length : Int)) then
      let v7 := mput (.str) (.bool) (s.1.getD (s.2.2.1).toNat (0, ByteArray.empty, false)).2.1 (!(s.1.getD (s.2.2.1).toNat (0, ByteArray.empty, false)).2.2) s.2.2.2.1
      bif decide ((s.2.2.2.2.length + [(s.1.getD (s.2.2.1).toNat (0, ByteArray.empty, false)).2.1].length) * 16 ≤ 140737488355328) then
        let v8 := s.2.2.2.2 ++ [(s.1.getD (s.2.2.1).toNat (0, ByteArray.empty, false)).2.1]
        let v9 := IntKind.i64.wrap (s.2.2.1 + 1)
        some (.inl ((s.1, s.2.1, (v9, v7, v8))))
      else none
    else none
  else
    some (.inr ((s.2.2.2.2, s.2.2.2.1)))
def pat_impl_GlossesIn_0 : Pat := { tmps := [.any, .any, .any, .any, .ptr 256 0, .own 1792, .any, .any, .any, .any, .any, .any, .v (.slice (.st (.pair (.int .i64) (.pair .str .bool)))), .v (.int .i64), .v (.int .i64), .any, .any, .any, .any, .any, .any, .any, .any, .any, .any, .any, .any, .any, .any, .any, .any, .any, .any, .any], blks := [(256, .box [.mp 704]), (704, .map .str .bool), (1792, .row true .str)] }
def outs_impl_GlossesIn_0 : List (Exit × Pat) := [(.exit 0, { tmps := [.any, .any, .any, .any, .ptr 256 0, .own 1792, .any, .any, .any, .any, .any, .any, .any, .any, .any, .any, .any, .any, .any, .any, .any, .any, .any, .any, .any, .any, .any, .any, .any, .any, .any, .any, .any, .any], blks := [(1792, .row true .str), (256, .box [.mp 704]), (704, .map .str .bool)] })]
noncomputable def F_impl_GlossesIn (x : (List (Int × (ByteArray × Bool)))) : Option ((List ByteArray) × Bool) :=
  match F_impl_AreEdits (x) with
  | none => none
  | some y1 =>
    bif (!y1) then
      some (([], false))
    else
      match runL step_impl_GlossesIn_0 ((x, (x.length : Int), (0, [], []))) with
      | none => none
      | some o10 =>
        match F_impl_distinct_string (o10.1) with
        | none => none
        | some y11 =>
          match F_slices_DeleteFunc_string_string ((y11, (K_impl_GlossesIn_1 o10.2))) with
          | none => none
          | some y12 =>
            some ((y12, true))
noncomputable def c_impl_GlossesIn : Con := { ps := [(.val, (.slice (.st (.pair (.int .i64) (.pair .str .bool)))))], rs := [(.io true, (.slice .str)), (.val, .bool)], F := F_impl_GlossesIn }
noncomputable def env_impl_GlossesIn : Env := { par := [], dp := false, settle := [], con := fun f => match f with | 21 => some c_impl_AreEdits | 33 => some c_slices_DeleteFunc_string_string | 34 => some c_impl_distinct_string | _ => none, clo := fun f => match f with | 35 => some k_impl_GlossesIn_1 | _ => none, T := tinf Tryz.prog }
noncomputable def loops_impl_GlossesIn : Nat → Option Loop := fun n => match n with | 6 => some { pat := pat_impl_GlossesIn_0, outs := outs_impl_GlossesIn_0, run := runL (step_impl_GlossesIn_0) } | _ => none
theorem step_impl_GlossesIn_0_eq (s : (List (Int × (ByteArray × Bool))) × Int × Int × (List (ByteArray × Bool)) × (List ByteArray)) : stepEv env_impl_GlossesIn loops_impl_GlossesIn pat_impl_GlossesIn_0 outs_impl_GlossesIn_0 Tryz.f9 6 s = step_impl_GlossesIn_0 s := by kernel_rfl
theorem F_impl_GlossesIn_eq (x : (List (Int × (ByteArray × Bool)))) : Fev env_impl_GlossesIn loops_impl_GlossesIn c_impl_GlossesIn.ps c_impl_GlossesIn.rs Tryz.f9 x = F_impl_GlossesIn x := by kernel_rfl
theorem env_impl_GlossesIn_ok : EnvOK Tryz.prog env_impl_GlossesIn := envOK_of (fun f c h => by
  simp only [env_impl_GlossesIn] at h
  split at h
  · cases h; exact con_impl_AreEdits
  · cases h; exact con_slices_DeleteFunc_string_string
  · cases h; exact con_impl_distinct_string
  · cases h) (fun f c h => by
  simp only [env_impl_GlossesIn] at h
  split at h
  · cases h; exact clo_impl_GlossesIn_1
  · cases h) rfl
theorem con_impl_GlossesIn : ConOK Tryz.prog 9 c_impl_GlossesIn := con_of_ev' (body := Tryz.f9.body.getD .skip) (Λ := loops_impl_GlossesIn) mixed Tryz.func9 (by kernel_rfl) (by kernel_rfl) env_impl_GlossesIn_ok (by kernel_rfl) (by kernel_rfl) (fun n L h => by
  unfold loops_impl_GlossesIn at h
  split at h
  · cases h; exact fun s o ho => loop_ok (stepF := stepEv env_impl_GlossesIn loops_impl_GlossesIn pat_impl_GlossesIn_0 outs_impl_GlossesIn_0 Tryz.f9 6) (step_impl_GlossesIn_0_eq) ho
  · cases h) F_impl_GlossesIn_eq

noncomputable def step_spec_GlossesIn_0 (s : (List ByteArray) × Int × (List (Int × (ByteArray × Bool))) × Int × Int × Int × ByteArray × Bool) : Option (((List ByteArray) × Int × (List (Int × (ByteArray × Bool))) × Int × Int × Int × ByteArray × Bool) ⊕ (((List ByteArray) × Int × (List (Int × (ByteArray × Bool))) × Int × Int × Int × ByteArray × Bool))) :=
  bif (decide (s.2.1 < (s.1.length : Int))) then
    bif decide (0 ≤ s.2.1) && decide (s.2.1 < (s.1.length : Int)) then
      bif (Op.bytesLess (s.1.getD (s.2.1).toNat ByteArray.empty).toList s.2.2.2.2.2.2.1.toList) then
        let v31 := IntKind.i64.wrap (s.2.1 + 1)
        some (.inl ((s.1, v31, s.2.2)))
      else
        some (.inr (s))
    else none
  else
    some (.inr (s))
def pat_spec_GlossesIn_0 : Pat := { tmps := [.any, .any, .any, .any, .v (.slice .str), .any, .ptr 384 0, .v (.int .i64), .any, .any, .any, .any, .any, .v (.slice (.st (.pair (.int .i64) (.pair .str .bool)))), .v (.int .i64), .v (.int .i64), .any, .any, .any, .any, .any, .any, .any, .any, .any, .any, .any, .any, .any, .any, .any, .any, .any, .any, .any, .any, .any, .any, .any, .any, .any, .any, .any, .any, .any, .any, .any, .any, .any, .any, .any, .any, .any, .any, .any, .any, .any, .any, .any, .any, .any, .any, .any, .any, .any, .any, .any, .any], blks := [(384, .box [.v (.int .i64), .v .str, .v .bool])] }
def outs_spec_GlossesIn_0 : List (Exit × Pat) := [(.exit 2, { tmps := [.any, .any, .any, .any, .v (.slice .str), .any, .ptr 384 0, .v (.int .i64), .any, .any, .any, .any, .any, .v (.slice (.st (.pair (.int .i64) (.pair .str .bool)))), .v (.int .i64), .v (.int .i64), .any, .any, .any, .any, .any, .any, .any, .any, .any, .any, .any, .any, .any, .any, .any, .any, .any, .any, .any, .any, .any, .any, .any, .any, .any, .any, .any, .any, .any, .any, .any, .any, .any, .any, .any, .any, .any, .any, .any, .any, .any, .any, .any, .any, .any, .any, .any, .any, .any, .any, .any, .any], blks := [(384, .box [.v (.int .i64), .v .str, .v .bool])] })]
noncomputable def step_spec_GlossesIn_1 (s : (List ByteArray) × (List (Int × (ByteArray × Bool))) × Int × Int) : Option (((List ByteArray) × (List (Int × (ByteArray × Bool))) × Int × Int) ⊕ (((List ByteArray)))) :=
  bif (decide (s.2.2.2 < s.2.2.1)) then
    bif decide (0 ≤ s.2.2.2) && decide (s.2.2.2 < (s.2.1.length : Int)) then
      match runL step_spec_GlossesIn_0 ((s.1, (0, s.2.1, (s.2.2.1, s.2.2.2, (s.2.1.getD (s.2.2.2).toNat (0, ByteArray.empty, false)))))) with
      | none => none
      | some o32 =>
        bif decide (0 ≤ o32.2.1) && decide (o32.2.1 ≤ (o32.1.length : Int)) && decide ((o32.1.length : Int) ≤ (o32.1.length : Int)) then
          bif (decide ((((o32.1.drop (o32.2.1).toNat).take (((o32.1.length : Int)).toNat - (o32.2.1).toNat)).length : Int) > 0)) then
            bif decide (0 ≤ 0) && decide (0 < (((o32.1.drop (o32.2.1).toNat).take (((o32.1.length : Int)).toNat - (o32.2.1).toNat)).length : Int)) then
              bif ((((o32.1.drop (o32.2.1).toNat).take (((o32.1.length : Int)).toNat - (o32.2.1).toNat)).getD (0 : Int).toNat ByteArray.empty).toList == o32.2.2.2.2.2.2.1.toList) then
                bif decide (0 ≤ 1) && decide (1 ≤ (((o32.1.drop (o32.2.1).toNat).take (((o32.1.length : Int)).toNat - (o32.2.1).toNat)).length : Int)) && decide ((((o32.1.drop (o32.2.1).toNat).take (((o32.1.length : Int)).toNat - (o32.2.1).toNat)).length : Int) ≤ (((o32.1.drop (o32.2.1).toNat).take (((o32.1.length : Int)).toNat - (o32.2.1).toNat)).length : Int)) then
                  bif decide (0 ≤ (0 : Int)) && decide ((0 : Int) ≤ o32.2.1) && decide (o32.2.1 ≤ (o32.1.length : Int)) then
                    bif decide ((([] : List ByteArray).length + ((o32.1.drop ((0 : Int)).toNat).take ((o32.2.1).toNat - ((0 : Int)).toNat)).length) * 16 ≤ 140737488355328) then
                      let v33 := ([] : List ByteArray) ++ ((o32.1.drop ((0 : Int)).toNat).take ((o32.2.1).toNat - ((0 : Int)).toNat))
                      bif (!o32.2.2.2.2.2.2.2) then
                        bif decide ((v33.length + [o32.2.2.2.2.2.2.1].length) * 16 ≤ 140737488355328) then
                          let v34 := v33 ++ [o32.2.2.2.2.2.2.1]
                          bif decide ((v34.length + ((((o32.1.drop (o32.2.1).toNat).take (((o32.1.length : Int)).toNat - (o32.2.1).toNat)).drop (1 : Int).toNat).take (((((o32.1.drop (o32.2.1).toNat).take (((o32.1.length : Int)).toNat - (o32.2.1).toNat)).length : Int)).toNat - (1 : Int).toNat)).length) * 16 ≤ 140737488355328) then
                            let v35 := v34 ++ ((((o32.1.drop (o32.2.1).toNat).take (((o32.1.length : Int)).toNat - (o32.2.1).toNat)).drop (1 : Int).toNat).take (((((o32.1.drop (o32.2.1).toNat).take (((o32.1.length : Int)).toNat - (o32.2.1).toNat)).length : Int)).toNat - (1 : Int).toNat))
                            let v36 := IntKind.i64.wrap (o32.2.2.2.2.1 + 1)
                            some (.inl ((v35, (o32.2.2.1, o32.2.2.2.1, v36))))
                          else none
                        else none
                      else
                        bif decide ((v33.length + ((((o32.1.drop (o32.2.1).toNat).take (((o32.1.length : Int)).toNat - (o32.2.1).toNat)).drop (1 : Int).toNat).take (((((o32.1.drop (o32.2.1).toNat).take (((o32.1.length : Int)).toNat - (o32.2.1).toNat)).length : Int)).toNat - (1 : Int).toNat)).length) * 16 ≤ 140737488355328) then
                          let v37 := v33 ++ ((((o32.1.drop (o32.2.1).toNat).take (((o32.1.length : Int)).toNat - (o32.2.1).toNat)).drop (1 : Int).toNat).take (((((o32.1.drop (o32.2.1).toNat).take (((o32.1.length : Int)).toNat - (o32.2.1).toNat)).length : Int)).toNat - (1 : Int).toNat))
                          let v38 := IntKind.i64.wrap (o32.2.2.2.2.1 + 1)
                          some (.inl ((v37, (o32.2.2.1, o32.2.2.2.1, v38))))
                        else none
                    else none
                  else none
                else none
              else
                bif decide (0 ≤ (0 : Int)) && decide ((0 : Int) ≤ o32.2.1) && decide (o32.2.1 ≤ (o32.1.length : Int)) then
                  bif decide ((([] : List ByteArray).length + ((o32.1.drop ((0 : Int)).toNat).take ((o32.2.1).toNat - ((0 : Int)).toNat)).length) * 16 ≤ 140737488355328) then
                    let v39 := ([] : List ByteArray) ++ ((o32.1.drop ((0 : Int)).toNat).take ((o32.2.1).toNat - ((0 : Int)).toNat))
                    bif (!o32.2.2.2.2.2.2.2) then
                      bif decide ((v39.length + [o32.2.2.2.2.2.2.1].length) * 16 ≤ 140737488355328) then
                        let v40 := v39 ++ [o32.2.2.2.2.2.2.1]
                        bif decide ((v40.length + ((o32.1.drop (o32.2.1).toNat).take (((o32.1.length : Int)).toNat - (o32.2.1).toNat)).length) * 16 ≤ 140737488355328) then
                          let v41 := v40 ++ ((o32.1.drop (o32.2.1).toNat).take (((o32.1.length : Int)).toNat - (o32.2.1).toNat))
                          let v42 := IntKind.i64.wrap (o32.2.2.2.2.1 + 1)
                          some (.inl ((v41, (o32.2.2.1, o32.2.2.2.1, v42))))
                        else none
                      else none
                    else
                      bif decide ((v39.length + ((o32.1.drop (o32.2.1).toNat).take (((o32.1.length : Int)).toNat - (o32.2.1).toNat)).length) * 16 ≤ 140737488355328) then
                        let v43 := v39 ++ ((o32.1.drop (o32.2.1).toNat).take (((o32.1.length : Int)).toNat - (o32.2.1).toNat))
                        let v44 := IntKind.i64.wrap (o32.2.2.2.2.1 + 1)
                        some (.inl ((v43, (o32.2.2.1, o32.2.2.2.1, v44))))
                      else none
                  else none
                else none
            else none
          else
            bif decide (0 ≤ (0 : Int)) && decide ((0 : Int) ≤ o32.2.1) && decide (o32.2.1 ≤ (o32.1.length : Int)) then
              bif decide ((([] : List ByteArray).length + ((o32.1.drop ((0 : Int)).toNat).take ((o32.2.1).toNat - ((0 : Int)).toNat)).length) * 16 ≤ 140737488355328) then
                let v45 := ([] : List ByteArray) ++ ((o32.1.drop ((0 : Int)).toNat).take ((o32.2.1).toNat - ((0 : Int)).toNat))
                bif (!o32.2.2.2.2.2.2.2) then
                  bif decide ((v45.length + [o32.2.2.2.2.2.2.1].length) * 16 ≤ 140737488355328) then
                    let v46 := v45 ++ [o32.2.2.2.2.2.2.1]
                    bif decide ((v46.length + ((o32.1.drop (o32.2.1).toNat).take (((o32.1.length : Int)).toNat - (o32.2.1).toNat)).length) * 16 ≤ 140737488355328) then
                      let v47 := v46 ++ ((o32.1.drop (o32.2.1).toNat).take (((o32.1.length : Int)).toNat - (o32.2.1).toNat))
                      let v48 := IntKind.i64.wrap (o32.2.2.2.2.1 + 1)
                      some (.inl ((v47, (o32.2.2.1, o32.2.2.2.1, v48))))
                    else none
                  else none
                else
                  bif decide ((v45.length + ((o32.1.drop (o32.2.1).toNat).take (((o32.1.length : Int)).toNat - (o32.2.1).toNat)).length) * 16 ≤ 140737488355328) then
                    let v49 := v45 ++ ((o32.1.drop (o32.2.1).toNat).take (((o32.1.length : Int)).toNat - (o32.2.1).toNat))
                    let v50 := IntKind.i64.wrap (o32.2.2.2.2.1 + 1)
                    some (.inl ((v49, (o32.2.2.1, o32.2.2.2.1, v50))))
                  else none
              else none
            else none
        else none
    else none
  else
    some (.inr (s.1))
def pat_spec_GlossesIn_1 : Pat := { tmps := [.any, .any, .any, .any, .v (.slice .str), .any, .any, .any, .any, .any, .any, .any, .any, .v (.slice (.st (.pair (.int .i64) (.pair .str .bool)))), .v (.int .i64), .v (.int .i64), .any, .any, .any, .any, .any, .any, .any, .any, .any, .any, .any, .any, .any, .any, .any, .any, .any, .any, .any, .any, .any, .any, .any, .any, .any, .any, .any, .any, .any, .any, .any, .any, .any, .any, .any, .any, .any, .any, .any, .any, .any, .any, .any, .any, .any, .any, .any, .any, .any, .any, .any, .any], blks := [] }
def outs_spec_GlossesIn_1 : List (Exit × Pat) := [(.exit 0, { tmps := [.any, .any, .any, .any, .v (.slice .str), .any, .any, .any, .any, .any, .any, .any, .any, .any, .any, .any, .any, .any, .any, .any, .any, .any, .any, .any, .any, .any, .any, .any, .any, .any, .any, .any, .any, .any, .any, .any, .any, .any, .any, .any, .any, .any, .any, .any, .any, .any, .any, .any, .any, .any, .any, .any, .any, .any, .any, .any, .any, .any, .any, .any, .any, .any, .any, .any, .any, .any, .any, .any], blks := [] })]
noncomputable def F_spec_GlossesIn (x : (List (Int × (ByteArray × Bool)))) : Option ((List ByteArray) × Bool) :=
  match F_spec_joGood (x) with
  | none => none
  | some y1 =>
    bif (!y1) then
      some (([], false))
    else
      match runL step_spec_GlossesIn_1 (([], (x, (x.length : Int), 0))) with
      | none => none
      | some o51 =>
        some ((o51, true))
noncomputable def c_spec_GlossesIn : Con := { ps := [(.val, (.slice (.st (.pair (.int .i64) (.pair .str .bool)))))], rs := [(.val, (.slice .str)), (.val, .bool)], F := F_spec_GlossesIn }
noncomputable def env_spec_GlossesIn : Env := { par := [], dp := false, settle := [], con := fun f => match f with | 26 => some c_spec_joGood | _ => none, clo := fun _ => none, T := tinf Tryz.prog }
noncomputable def loops_spec_GlossesIn : Nat → Option Loop := fun n => match n with | 8 => some { pat := pat_spec_GlossesIn_0, outs := outs_spec_GlossesIn_0, run := runL (step_spec_GlossesIn_0) } | 5 => some { pat := pat_spec_GlossesIn_1, outs := outs_spec_GlossesIn_1, run := runL (step_spec_GlossesIn_1) } | _ => none
theorem step_spec_GlossesIn_0_eq (s : (List ByteArray) × Int × (List (Int × (ByteArray × Bool))) × Int × Int × Int × ByteArray × Bool) : stepEv env_spec_GlossesIn loops_spec_GlossesIn pat_spec_GlossesIn_0 outs_spec_GlossesIn_0 Tryz.f10 8 s = step_spec_GlossesIn_0 s := by kernel_rfl
theorem step_spec_GlossesIn_1_eq (s : (List ByteArray) × (List (Int × (ByteArray × Bool))) × Int × Int) : stepEv env_spec_GlossesIn loops_spec_GlossesIn pat_spec_GlossesIn_1 outs_spec_GlossesIn_1 Tryz.f10 5 s = step_spec_GlossesIn_1 s := by kernel_rfl
theorem F_spec_GlossesIn_eq (x : (List (Int × (ByteArray × Bool)))) : Fev env_spec_GlossesIn loops_spec_GlossesIn c_spec_GlossesIn.ps c_spec_GlossesIn.rs Tryz.f10 x = F_spec_GlossesIn x := by kernel_rfl
theorem env_spec_GlossesIn_ok : EnvOK Tryz.prog env_spec_GlossesIn := envOK_of (fun f c h => by
  simp only [env_spec_GlossesIn] at h
  split at h
  · cases h; exact con_spec_joGood
  · cases h) (fun f c h => by cases h) rfl
theorem con_spec_GlossesIn : ConOK Tryz.prog 10 c_spec_GlossesIn := con_of_ev' (body := Tryz.f10.body.getD .skip) (Λ := loops_spec_GlossesIn) mixed Tryz.func10 (by kernel_rfl) (by kernel_rfl) env_spec_GlossesIn_ok (by kernel_rfl) (by kernel_rfl) (fun n L h => by
  unfold loops_spec_GlossesIn at h
  split at h
  · cases h; exact fun s o ho => loop_ok (stepF := stepEv env_spec_GlossesIn loops_spec_GlossesIn pat_spec_GlossesIn_0 outs_spec_GlossesIn_0 Tryz.f10 8) (step_spec_GlossesIn_0_eq) ho
  · cases h; exact fun s o ho => loop_ok (stepF := stepEv env_spec_GlossesIn loops_spec_GlossesIn pat_spec_GlossesIn_1 outs_spec_GlossesIn_1 Tryz.f10 5) (step_spec_GlossesIn_1_eq) ho
  · cases h) F_spec_GlossesIn_eq

noncomputable def F_impl_ShortenEdits_1 (x : (Int × (ByteArray × Bool)) × (Int × (ByteArray × Bool))) : Option (Bool) :=
  some ((x.1.2.1.toList == x.2.2.1.toList))
noncomputable def c_impl_ShortenEdits_1 : Con := { ps := [(.val, (.st (.pair (.int .i64) (.pair .str .bool)))), (.val, (.ptr (.st (.pair (.int .i64) (.pair .str .bool)))))], rs := [(.val, .bool)], F := F_impl_ShortenEdits_1 }
noncomputable def env_impl_ShortenEdits_1 : Env := { par := [], dp := false, settle := [], con := fun _ => none, clo := fun _ => none, T := tinf Tryz.prog }
noncomputable def loops_impl_ShortenEdits_1 : Nat → Option Loop := fun n => none
theorem F_impl_ShortenEdits_1_eq (x : (Int × (ByteArray × Bool)) × (Int × (ByteArray × Bool))) : Fev env_impl_ShortenEdits_1 loops_impl_ShortenEdits_1 c_impl_ShortenEdits_1.ps c_impl_ShortenEdits_1.rs Tryz.f37 x = F_impl_ShortenEdits_1 x := by kernel_rfl
theorem env_impl_ShortenEdits_1_ok : EnvOK Tryz.prog env_impl_ShortenEdits_1 := envOK_of (fun f c h => by cases h) (fun f c h => by cases h) rfl
theorem con_impl_ShortenEdits_1 : ConOK Tryz.prog 37 c_impl_ShortenEdits_1 := con_of_ev' (body := Tryz.f37.body.getD .skip) (Λ := loops_impl_ShortenEdits_1) mixed Tryz.func37 (by kernel_rfl) (by kernel_rfl) env_impl_ShortenEdits_1_ok (by kernel_rfl) (by kernel_rfl) (fun n L h => by cases h) F_impl_ShortenEdits_1_eq

noncomputable def step_slices_IndexFunc_impl_LogEdit_impl_LogEdit_0 (s : (List (Int × (ByteArray × Bool))) × ((Int × (ByteArray × Bool)) → Option Bool) × Int × Int) : Option (((List (Int × (ByteArray × Bool))) × ((Int × (ByteArray × Bool)) → Option Bool) × Int × Int) ⊕ ((Int) ⊕ (Unit))) :=
  bif (decide (s.2.2.2 < s.2.2.1)) then
    bif decide (0 ≤ s.2.2.2) && decide (s.2.2.2 < (s.1.length : Int)) then
      match s.2.1 ((s.1.getD (s.2.2.2).toNat (0, ByteArray.empty, false))) with
      | none => none
      | some y3 =>
        bif y3 then
          some (.inr (.inl (s.2.2.2)))
        else
          let v4 := IntKind.i64.wrap (s.2.2.2 + 1)
          some (.inl ((s.1, (s.2.1, s.2.2.1, v4))))
    else none
  else
    some (.inr (.inr (())))
def pat_slices_IndexFunc_impl_LogEdit_impl_LogEdit_0 : Pat := { tmps := [.v (.slice (.st (.pair (.int .i64) (.pair .str .bool)))), .v (.fn (.st (.pair (.int .i64) (.pair .str .bool))) .bool), .any, .any, .any, .any, .any, .v (.int .i64), .v (.int .i64), .any, .any, .any, .any, .any, .any, .any, .any, .any, .any], blks := [] }
def outs_slices_IndexFunc_impl_LogEdit_impl_LogEdit_0 : List (Exit × Pat) := [(.ret, { tmps := [.any, .any, .any, .any, .v (.int .i64), .any, .any, .any, .any, .any, .any, .any, .any, .any, .any, .any, .any, .any, .any], blks := [] }), (.exit 0, { tmps := [.any, .any, .any, .any, .any, .any, .any, .any, .any, .any, .any, .any, .any, .any, .any, .any, .any, .any, .any], blks := [] })]
noncomputable def F_slices_IndexFunc_impl_LogEdit_impl_LogEdit (x : (List (Int × (ByteArray × Bool))) × ((Int × (ByteArray × Bool)) → Option Bool)) : Option (Int) :=
  match runL step_slices_IndexFunc_impl_LogEdit_impl_LogEdit_0 ((x.1, (x.2, (x.1.length : Int), 0))) with
  | none => none
  | some (.inl o5) =>
    some (o5)
  | some (.inr o5) =>
    some ((-1))
noncomputable def c_slices_IndexFunc_impl_LogEdit_impl_LogEdit : Con := { ps := [(.val, (.slice (.st (.pair (.int .i64) (.pair .str .bool))))), (.val, (.fn (.st (.pair (.int .i64) (.pair .str .bool))) .bool))], rs := [(.val, (.int .i64))], F := F_slices_IndexFunc_impl_LogEdit_impl_LogEdit }
noncomputable def env_slices_IndexFunc_impl_LogEdit_impl_LogEdit : Env := { par := [], dp := false, settle := [], con := fun _ => none, clo := fun _ => none, T := tinf Tryz.prog }
noncomputable def loops_slices_IndexFunc_impl_LogEdit_impl_LogEdit : Nat → Option Loop := fun n => match n with | 2 => some { pat := pat_slices_IndexFunc_impl_LogEdit_impl_LogEdit_0, outs := outs_slices_IndexFunc_impl_LogEdit_impl_LogEdit_0, run := runL (step_slices_IndexFunc_impl_LogEdit_impl_LogEdit_0) } | _ => none
theorem step_slices_IndexFunc_impl_LogEdit_impl_LogEdit_0_eq (s : (List (Int × (ByteArray × Bool))) × ((Int × (ByteArray × Bool)) → Option Bool) × Int × Int) : stepEv env_slices_IndexFunc_impl_LogEdit_impl_LogEdit loops_slices_IndexFunc_impl_LogEdit_impl_LogEdit pat_slices_IndexFunc_impl_LogEdit_impl_LogEdit_0 outs_slices_IndexFunc_impl_LogEdit_impl_LogEdit_0 Tryz.f57 2 s = step_slices_IndexFunc_impl_LogEdit_impl_LogEdit_0 s := by kernel_rfl
theorem F_slices_IndexFunc_impl_LogEdit_impl_LogEdit_eq (x : (List (Int × (ByteArray × Bool))) × ((Int × (ByteArray × Bool)) → Option Bool)) : Fev env_slices_IndexFunc_impl_LogEdit_impl_LogEdit loops_slices_IndexFunc_impl_LogEdit_impl_LogEdit c_slices_IndexFunc_impl_LogEdit_impl_LogEdit.ps c_slices_IndexFunc_impl_LogEdit_impl_LogEdit.rs Tryz.f57 x = F_slices_IndexFunc_impl_LogEdit_impl_LogEdit x := by kernel_rfl
theorem env_slices_IndexFunc_impl_LogEdit_impl_LogEdit_ok : EnvOK Tryz.prog env_slices_IndexFunc_impl_LogEdit_impl_LogEdit := envOK_of (fun f c h => by cases h) (fun f c h => by cases h) rfl
theorem con_slices_IndexFunc_impl_LogEdit_impl_LogEdit : ConOK Tryz.prog 57 c_slices_IndexFunc_impl_LogEdit_impl_LogEdit := con_of_ev' (body := Tryz.f57.body.getD .skip) (Λ := loops_slices_IndexFunc_impl_LogEdit_impl_LogEdit) mixed Tryz.func57 (by kernel_rfl) (by kernel_rfl) env_slices_IndexFunc_impl_LogEdit_impl_LogEdit_ok (by kernel_rfl) (by kernel_rfl) (fun n L h => by
  unfold loops_slices_IndexFunc_impl_LogEdit_impl_LogEdit at h
  split at h
  · cases h; exact fun s o ho => loop_ok (stepF := stepEv env_slices_IndexFunc_impl_LogEdit_impl_LogEdit loops_slices_IndexFunc_impl_LogEdit_impl_LogEdit pat_slices_IndexFunc_impl_LogEdit_impl_LogEdit_0 outs_slices_IndexFunc_impl_LogEdit_impl_LogEdit_0 Tryz.f57 2) (step_slices_IndexFunc_impl_LogEdit_impl_LogEdit_0_eq) ho
  · cases h) F_slices_IndexFunc_impl_LogEdit_impl_LogEdit_eq

noncomputable def F_slices_ContainsFunc_impl_LogEdit_impl_LogEdit (x : (List (Int × (ByteArray × Bool))) × ((Int × (ByteArray × Bool)) → Option Bool)) : Option (Bool) :=
  match F_slices_IndexFunc_impl_LogEdit_impl_LogEdit (x) with
  | none => none
  | some y1 =>
    some ((decide (y1 ≥ 0)))
noncomputable def c_slices_ContainsFunc_impl_LogEdit_impl_LogEdit : Con := { ps := [(.val, (.slice (.st (.pair (.int .i64) (.pair .str .bool))))), (.val, (.fn (.st (.pair (.int .i64) (.pair .str .bool))) .bool))], rs := [(.val, .bool)], F := F_slices_ContainsFunc_impl_LogEdit_impl_LogEdit }
noncomputable def env_slices_ContainsFunc_impl_LogEdit_impl_LogEdit : Env := { par := [], dp := false, settle := [], con := fun f => match f with | 57 => some c_slices_IndexFunc_impl_LogEdit_impl_LogEdit | _ => none, clo := fun _ => none, T := tinf Tryz.prog }
noncomputable def loops_slices_ContainsFunc_impl_LogEdit_impl_LogEdit : Nat → Option Loop := fun n => none
theorem F_slices_ContainsFunc_impl_LogEdit_impl_LogEdit_eq (x : (List (Int × (ByteArray × Bool))) × ((Int × (ByteArray × Bool)) → Option Bool)) : Fev env_slices_ContainsFunc_impl_LogEdit_impl_LogEdit loops_slices_ContainsFunc_impl_LogEdit_impl_LogEdit c_slices_ContainsFunc_impl_LogEdit_impl_LogEdit.ps c_slices_ContainsFunc_impl_LogEdit_impl_LogEdit.rs Tryz.f36 x = F_slices_ContainsFunc_impl_LogEdit_impl_LogEdit x := by kernel_rfl
theorem env_slices_ContainsFunc_impl_LogEdit_impl_LogEdit_ok : EnvOK Tryz.prog env_slices_ContainsFunc_impl_LogEdit_impl_LogEdit := envOK_of (fun f c h => by
  simp only [env_slices_ContainsFunc_impl_LogEdit_impl_LogEdit] at h
  split at h
  · cases h; exact con_slices_IndexFunc_impl_LogEdit_impl_LogEdit
  · cases h) (fun f c h => by cases h) rfl
theorem con_slices_ContainsFunc_impl_LogEdit_impl_LogEdit : ConOK Tryz.prog 36 c_slices_ContainsFunc_impl_LogEdit_impl_LogEdit := con_of_ev' (body := Tryz.f36.body.getD .skip) (Λ := loops_slices_ContainsFunc_impl_LogEdit_impl_LogEdit) mixed Tryz.func36 (by kernel_rfl) (by kernel_rfl) env_slices_ContainsFunc_impl_LogEdit_impl_LogEdit_ok (by kernel_rfl) (by kernel_rfl) (fun n L h => by cases h) F_slices_ContainsFunc_impl_LogEdit_impl_LogEdit_eq

noncomputable def K_impl_ShortenEdits_1 (q : (Int × (ByteArray × Bool))) (x : (Int × (ByteArray × Bool))) : Option (Bool) := F_impl_ShortenEdits_1 (x, q)
noncomputable def k_impl_ShortenEdits_1 : CloCon := { caps := [(.st (.pair (.int .i64) (.pair .str .bool)))], a := (.st (.pair (.int .i64) (.pair .str .bool))), r := .bool, F := K_impl_ShortenEdits_1 }
theorem clo_impl_ShortenEdits_1 : CloOK Tryz.prog 37 k_impl_ShortenEdits_1 := clo_of_con k_impl_ShortenEdits_1 F_impl_ShortenEdits_1 con_impl_ShortenEdits_1 rfl (fun kx x y h => ⟨y, h, rfl⟩)
noncomputable def step_impl_ShortenEdits_0 (s : (List (Int × (ByteArray × Bool))) × (List (Int × (ByteArray × Bool))) × Int × Int × (List (Int × (ByteArray × Bool)))) : Option (((List (Int × (ByteArray × Bool))) × (List (Int × (ByteArray × Bool))) × Int × Int × (List (Int × (ByteArray × Bool)))) ⊕ (((List (Int × (ByteArray × Bool)))))) :=
  bif (decide (s.2.2.2.1 < s.2.2.1)) then
    bif decide (0 ≤ s.2.2.2.1) && decide (s.2.2.2.1 < (s.2.1.length : Int)) then
      let v11 := IntKind.i64.wrap (s.2.2.2.1 + 1)
      bif decide (0 ≤ v11) && decide (v11 ≤ (s.1.length : Int)) && decide ((s.1.length : Int) ≤ (s.1.length : Int)) then
        match F_slices_ContainsFunc_impl_LogEdit_impl_LogEdit ((((s.1.drop (v11).toNat).take (((s.1.length : Int)).toNat - (v11).toNat)), (K_impl_ShortenEdits_1 (s.2.1.getD (s.2.2.2.1).toNat (0, ByteArray.empty, false))))) with
        | none => none
        | some y12 =>
          bif (!y12) then
            bif decide ((s.2.2.2.2.length + [(s.2.1.getD (s.2.2.2.1).toNat (0, ByteArray.empty, false))].length) * 32 ≤ 140737488355328) then
              let v13 := s.2.2.2.2 ++ [(s.2.1.getD (s.2.2.2.1).toNat (0, ByteArray.empty, false))]
              let v14 := IntKind.i64.wrap (s.2.2.2.1 + 1)
              some (.inl ((s.1, s.2.1, (s.2.2.1, v14, v13))))
            else none
          else
            let v15 := IntKind.i64.wrap (s.2.2.2.1 + 1)
            some (.inl ((s.1, s.2.1, (s.2.2.1, v15, s.2.2.2.2))))
      else none
    else none
  else
    some (.inr (s.2.2.2.2))
def pat_impl_ShortenEdits_0 : Pat := { tmps := [.v (.slice (.st (.pair (.int .i64) (.pair .str .bool)))), .any, .any, .any, .own 1728, .any, .any, .any, .any, .any, .v (.slice (.st (.pair (.int .i64) (.pair .str .bool)))), .v (.int .i64), .v (.int .i64), .any, .any, .any, .any, .any, .any, .any, .any, .any, .any, .any, .any, .any, .any, .any, .any, .any], blks := [(1728, .row true (.st (.pair (.int .i64) (.pair .str .bool))))] }
def outs_impl_ShortenEdits_0 : List (Exit × Pat) := [(.exit 0, { tmps := [.any, .any, .any, .any, .own 1728, .any, .any, .any, .any, .any, .any, .any, .any, .any, .any, .any, .any, .any, .any, .any, .any, .any, .any, .any, .any, .any, .any, .any, .any, .any], blks := [(1728, .row true (.st (.pair (.int .i64) (.pair .str .bool))))] })]
noncomputable def F_impl_ShortenEdits (x : (List (Int × (ByteArray × Bool)))) : Option ((List (Int × (ByteArray × Bool))) × Bool) :=
  match F_impl_AreEdits (x) with
  | none => none
  | some y1 =>
    bif (!y1) then
      some (([], false))
    else
      match runL step_impl_ShortenEdits_0 ((x, x, ((x.length : Int), 0, []))) with
      | none => none
      | some o16 =>
        some ((o16, true))
noncomputable def c_impl_ShortenEdits : Con := { ps := [(.val, (.slice (.st (.pair (.int .i64) (.pair .str .bool)))))], rs := [(.io true, (.slice (.st (.pair (.int .i64) (.pair .str .bool))))), (.val, .bool)], F := F_impl_ShortenEdits }
noncomputable def env_impl_ShortenEdits : Env := { par := [], dp := false, settle := [], con := fun f => match f with | 21 => some c_impl_AreEdits | 36 => some c_slices_ContainsFunc_impl_LogEdit_impl_LogEdit | _ => none, clo := fun f => match f with | 37 => some k_impl_ShortenEdits_1 | _ => none, T := tinf Tryz.prog }
noncomputable def loops_impl_ShortenEdits : Nat → Option Loop := fun n => match n with | 5 => some { pat := pat_impl_ShortenEdits_0, outs := outs_impl_ShortenEdits_0, run := runL (step_impl_ShortenEdits_0) } | _ => none
theorem step_impl_ShortenEdits_0_eq (s : (List (Int × (ByteArray × Bool))) × (List (Int × (ByteArray × Bool))) × Int × Int × (List (Int × (ByteArray × Bool)))) : stepEv env_impl_ShortenEdits loops_impl_ShortenEdits pat_impl_ShortenEdits_0 outs_impl_ShortenEdits_0 Tryz.f11 5 s = step_impl_ShortenEdits_0 s := by kernel_rfl
theorem F_impl_ShortenEdits_eq (x : (List (Int × (ByteArray × Bool)))) : Fev env_impl_ShortenEdits loops_impl_ShortenEdits c_impl_ShortenEdits.ps c_impl_ShortenEdits.rs Tryz.f11 x = F_impl_ShortenEdits x := by kernel_rfl
theorem env_impl_ShortenEdits_ok : EnvOK Tryz.prog env_impl_ShortenEdits := envOK_of (fun f c h => by
  simp only [env_impl_ShortenEdits] at h
  split at h
  · cases h; exact con_impl_AreEdits
  · cases h; exact con_slices_ContainsFunc_impl_LogEdit_impl_LogEdit
  · cases h) (fun f c h => by
  simp only [env_impl_ShortenEdits] at h
  split at h
  · cases h; exact clo_impl_ShortenEdits_1
  · cases h) rfl
theorem con_impl_ShortenEdits : ConOK Tryz.prog 11 c_impl_ShortenEdits := con_of_ev' (body := Tryz.f11.body.getD .skip) (Λ := loops_impl_ShortenEdits) mixed Tryz.func11 (by kernel_rfl) (by kernel_rfl) env_impl_ShortenEdits_ok (by kernel_rfl) (by kernel_rfl) (fun n L h => by
  unfold loops_impl_ShortenEdits at h
  split at h
  · cases h; exact fun s o ho => loop_ok (stepF := stepEv env_impl_ShortenEdits loops_impl_ShortenEdits pat_impl_ShortenEdits_0 outs_impl_ShortenEdits_0 Tryz.f11 5) (step_impl_ShortenEdits_0_eq) ho
  · cases h) F_impl_ShortenEdits_eq

noncomputable def step_spec_ShortenEdits_0 (s : (List (Int × (ByteArray × Bool))) × Bool × (List (Int × (ByteArray × Bool))) × Int × Int × (List (Int × (ByteArray × Bool))) × Int × Int × Int × ByteArray × Bool × (List (Int × (ByteArray × Bool)))) : Option (((List (Int × (ByteArray × Bool))) × Bool × (List (Int × (ByteArray × Bool))) × Int × Int × (List (Int × (ByteArray × Bool))) × Int × Int × Int × ByteArray × Bool × (List (Int × (ByteArray × Bool)))) ⊕ (((List (Int × (ByteArray × Bool))) × Bool × (List (Int × (ByteArray × Bool))) × Int × Int × Int × ByteArray × Bool × (List (Int × (ByteArray × Bool)))))) :=
  bif (decide (s.2.2.2.2.2.2.2.1 < s.2.2.2.2.2.2.1)) then
    bif decide (0 ≤ s.2.2.2.2.2.2.2.1) && decide (s.2.2.2.2.2.2.2.1 < (s.2.2.2.2.2.1.length : Int)) then
      bif s.2.1 then
        let v22 := IntKind.i64.wrap (s.2.2.2.2.2.2.2.1 + 1)
        some (.inl ((s.1, (!((s.2.2.2.2.2.1.getD (s.2.2.2.2.2.2.2.1).toNat (0, ByteArray.empty, false)).2.1.toList == s.2.2.2.2.2.2.2.2.2.1.toList)), (s.2.2.1, s.2.2.2.1, (s.2.2.2.2.1, s.2.2.2.2.2.1, (s.2.2.2.2.2.2.1, v22, s.2.2.2.2.2.2.2.2))))))
      else
        let v23 := IntKind.i64.wrap (s.2.2.2.2.2.2.2.1 + 1)
        some (.inl ((s.1, false, (s.2.2.1, s.2.2.2.1, (s.2.2.2.2.1, s.2.2.2.2.2.1, (s.2.2.2.2.2.2.1, v23, s.2.2.2.2.2.2.2.2))))))
    else none
  else
    some (.inr ((s.1, (s.2.1, s.2.2.1, (s.2.2.2.1, s.2.2.2.2.1, s.2.2.2.2.2.2.2.2)))))
def pat_spec_ShortenEdits_0 : Pat := { tmps := [.v (.slice (.st (.pair (.int .i64) (.pair .str .bool)))), .any, .any, .any, .own 2688, .any, .ptr 384 0, .v .bool, .any, .any, .any, .any, .any, .v (.slice (.st (.pair (.int .i64) (.pair .str .bool)))), .v (.int .i64), .v (.int .i64), .any, .any, .any, .any, .any, .any, .any, .v (.slice (.st (.pair (.int .i64) (.pair .str .bool)))), .v (.int .i64), .v (.int .i64), .any, .any, .any, .any, .any, .any, .any, .any, .any, .any, .any, .any, .any, .any, .any, .any, .any, .any, .any], blks := [(384, .box [.v (.int .i64), .v .str, .v .bool]), (2688, .row true (.st (.pair (.int .i64) (.pair .str .bool))))] }
def outs_spec_ShortenEdits_0 : List (Exit × Pat) := [(.exit 2, { tmps := [.v (.slice (.st (.pair (.int .i64) (.pair .str .bool)))), .any, .any, .any, .own 2688, .any, .ptr 384 0, .v .bool, .any, .any, .any, .any, .any, .v (.slice (.st (.pair (.int .i64) (.pair .str .bool)))), .v (.int .i64), .v (.int .i64), .any, .any, .any, .any, .any, .any, .any, .any, .any, .any, .any, .any, .any, .any, .any, .any, .any, .any, .any, .any, .any, .any, .any, .any, .any, .any, .any, .any, .any], blks := [(384, .box [.v (.int .i64), .v .str, .v .bool]), (2688, .row true (.st (.pair (.int .i64) (.pair .str .bool))))] })]
noncomputable def step_spec_ShortenEdits_1 (s : (List (Int × (ByteArray × Bool))) × (List (Int × (ByteArray × Bool))) × Int × Int × (List (Int × (ByteArray × Bool)))) : Option (((List (Int × (ByteArray × Bool))) × (List (Int × (ByteArray × Bool))) × Int × Int × (List (Int × (ByteArray × Bool)))) ⊕ (((List (Int × (ByteArray × Bool)))))) :=
  bif (decide (s.2.2.2.1 < s.2.2.1)) then
    bif decide (0 ≤ s.2.2.2.1) && decide (s.2.2.2.1 < (s.2.1.length : Int)) then
      let v19 := IntKind.i64.wrap (s.2.2.2.1 + 1)
      bif decide (0 ≤ v19) && decide (v19 ≤ (s.1.length : Int)) && decide ((s.1.length : Int) ≤ (s.1.length : Int)) then
        match runL step_spec_ShortenEdits_0 ((s.1, (true, s.2.1, (s.2.2.1, s.2.2.2.1, (((s.1.drop (v19).toNat).take (((s.1.length : Int)).toNat - (v19).toNat)), (((s.1.drop (v19).toNat).take (((s.1.length : Int)).toNat - (v19).toNat)).length : Int), (0, (s.2.1.getD (s.2.2.2.1).toNat (0, ByteArray.empty, false)).1, ((s.2.1.getD (s.2.2.2.1).toNat (0, ByteArray.empty, false)).2.1, (s.2.1.getD (s.2.2.2.1).toNat (0, ByteArray.empty, false)).2.2, s.2.2.2.2))))))) with
        | none => none
        | some o24 =>
          bif o24.2.1 then
            bif decide ((o24.2.2.2.2.2.2.2.2.length + [(o24.2.2.2.2.2.1, o24.2.2.2.2.2.2.1, o24.2.2.2.2.2.2.2.1)].length) * 32 ≤ 140737488355328) then
              let v25 := o24.2.2.2.2.2.2.2.2 ++ [(o24.2.2.2.2.2.1, o24.2.2.2.2.2.2.1, o24.2.2.2.2.2.2.2.1)]
              let v26 := IntKind.i64.wrap (o24.2.2.2.2.1 + 1)
              some (.inl ((o24.1, o24.2.2.1, (o24.2.2.2.1, v26, v25))))
            else none
          else
            let v27 := IntKind.i64.wrap (o24.2.2.2.2.1 + 1)
            some (.inl ((o24.1, o24.2.2.1, (o24.2.2.2.1, v27, o24.2.2.2.2.2.2.2.2))))
      else none
    else none
  else
    some (.inr (s.2.2.2.2))
def pat_spec_ShortenEdits_1 : Pat := { tmps := [.v (.slice (.st (.pair (.int .i64) (.pair .str .bool)))), .any, .any, .any, .own 2688, .any, .any, .any, .any, .any, .any, .any, .any, .v (.slice (.st (.pair (.int .i64) (.pair .str .bool)))), .v (.int .i64), .v (.int .i64), .any, .any, .any, .any, .any, .any, .any, .any, .any, .any, .any, .any, .any, .any, .any, .any, .any, .any, .any, .any, .any, .any, .any, .any, .any, .any, .any, .any, .any], blks := [(2688, .row true (.st (.pair (.int .i64) (.pair .str .bool))))] }
def outs_spec_ShortenEdits_1 : List (Exit × Pat) := [(.exit 0, { tmps := [.any, .any, .any, .any, .own 2688, .any, .any, .any, .any, .any, .any, .any, .any, .any, .any, .any, .any, .any, .any, .any, .any, .any, .any, .any, .any, .any, .any, .any, .any, .any, .any, .any, .any, .any, .any, .any, .any, .any, .any, .any, .any, .any, .any, .any, .any], blks := [(2688, .row true (.st (.pair (.int .i64) (.pair .str .bool))))] })]
noncomputable def F_spec_ShortenEdits (x : (List (Int × (ByteArray × Bool)))) : Option ((List (Int × (ByteArray × Bool))) × Bool) :=
  match F_spec_joGood (x) with
  | none => none
  | some y1 =>
    bif (!y1) then
      some (([], false))
    else
      match runL step_spec_ShortenEdits_1 ((x, x, ((x.length : Int), 0, []))) with
      | none => none
      | some o28 =>
        some ((o28, true))
noncomputable def c_spec_ShortenEdits : Con := { ps := [(.val, (.slice (.st (.pair (.int .i64) (.pair .str .bool)))))], rs := [(.io true, (.slice (.st (.pair (.int .i64) (.pair .str .bool))))), (.val, .bool)], F := F_spec_ShortenEdits }
noncomputable def env_spec_ShortenEdits : Env := { par := [], dp := false, settle := [], con := fun f => match f with | 26 => some c_spec_joGood | _ => none, clo := fun _ => none, T := tinf Tryz.prog }
noncomputable def loops_spec_ShortenEdits : Nat → Option Loop := fun n => match n with | 9 => some { pat := pat_spec_ShortenEdits_0, outs := outs_spec_ShortenEdits_0, run := runL (step_spec_ShortenEdits_0) } | 5 => some { pat := pat_spec_ShortenEdits_1, outs := outs_spec_ShortenEdits_1, run := runL (step_spec_ShortenEdits_1) } | _ => none
theorem step_spec_ShortenEdits_0_eq (s : (List (Int × (ByteArray × Bool))) × Bool × (List (Int × (ByteArray × Bool))) × Int × Int × (List (Int × (ByteArray × Bool))) × Int × Int × Int × ByteArray × Bool × (List (Int × (ByteArray × Bool)))) : stepEv env_spec_ShortenEdits loops_spec_ShortenEdits pat_spec_ShortenEdits_0 outs_spec_ShortenEdits_0 Tryz.f12 9 s = step_spec_ShortenEdits_0 s := by kernel_rfl
theorem step_spec_ShortenEdits_1_eq (s : (List (Int × (ByteArray × Bool))) × (List (Int × (ByteArray × Bool))) × Int × Int × (List (Int × (ByteArray × Bool)))) : stepEv env_spec_ShortenEdits loops_spec_ShortenEdits pat_spec_ShortenEdits_1 outs_spec_ShortenEdits_1 Tryz.f12 5 s = step_spec_ShortenEdits_1 s := by kernel_rfl
theorem F_spec_ShortenEdits_eq (x : (List (Int × (ByteArray × Bool)))) : Fev env_spec_ShortenEdits loops_spec_ShortenEdits c_spec_ShortenEdits.ps c_spec_ShortenEdits.rs Tryz.f12 x = F_spec_ShortenEdits x := by kernel_rfl
theorem env_spec_ShortenEdits_ok : EnvOK Tryz.prog env_spec_ShortenEdits := envOK_of (fun f c h => by
  simp only [env_spec_ShortenEdits] at h
  split at h
  · cases h; exact con_spec_joGood
  · cases h) (fun f c h => by cases h) rfl
theorem con_spec_ShortenEdits : ConOK Tryz.prog 12 c_spec_ShortenEdits := con_of_ev' (body := Tryz.f12.body.getD .skip) (Λ := loops_spec_ShortenEdits) mixed Tryz.func12 (by kernel_rfl) (by kernel_rfl) env_spec_ShortenEdits_ok (by kernel_rfl) (by kernel_rfl) (fun n L h => by
  unfold loops_spec_ShortenEdits at h
  split at h
  · cases h; exact fun s o ho => loop_ok (stepF := stepEv env_spec_ShortenEdits loops_spec_ShortenEdits pat_spec_ShortenEdits_0 outs_spec_ShortenEdits_0 Tryz.f12 9) (step_spec_ShortenEdits_0_eq) ho
  · cases h; exact fun s o ho => loop_ok (stepF := stepEv env_spec_ShortenEdits loops_spec_ShortenEdits pat_spec_ShortenEdits_1 outs_spec_ShortenEdits_1 Tryz.f12 5) (step_spec_ShortenEdits_1_eq) ho
  · cases h) F_spec_ShortenEdits_eq

noncomputable def step_impl_MissingEdits_0 (s : Int × (List (Int × (ByteArray × Bool))) × Int × Int × Int × ByteArray × Bool × (List Int)) : Option ((Int × (List (Int × (ByteArray × Bool))) × Int × Int × Int × ByteArray × Bool × (List Int)) ⊕ (((List (Int × (ByteArray × Bool))) × Int × Int × (List Int) × Int × ByteArray × Bool))) :=
  bif (decide (s.1 < s.2.2.2.2.1)) then
    bif (decide ((s.2.2.2.2.2.2.2.length : Int) < 100)) then
      bif decide ((s.2.2.2.2.2.2.2.length + [s.1].length) * 8 ≤ 140737488355328) then
        let v19 := s.2.2.2.2.2.2.2 ++ [s.1]
        let v20 := IntKind.i64.wrap (s.1 + 1)
        some (.inl ((v20, (s.2.1, s.2.2.1, (s.2.2.2.1, s.2.2.2.2.1, (s.2.2.2.2.2.1, s.2.2.2.2.2.2.1, v19))))))
      else none
    else
      some (.inr ((s.2.1, s.2.2.1, (s.2.2.2.1, s.2.2.2.2.2.2.2, (s.2.2.2.2.1, s.2.2.2.2.2.1, s.2.2.2.2.2.2.1)))))
  else
    some (.inr ((s.2.1, s.2.2.1, (s.2.2.2.1, s.2.2.2.2.2.2.2, (s.2.2.2.2.1, s.2.2.2.2.2.1, s.2.2.2.2.2.2.1)))))
def pat_impl_MissingEdits_0 : Pat := { tmps := [.any, .any, .any, .any, .own 1984, .v (.int .i64), .any, .ptr 448 0, .any, .any, .any, .v (.slice (.st (.pair (.int .i64) (.pair .str .bool)))), .v (.int .i64), .v (.int .i64), .any, .any, .any, .any, .any, .any, .any, .any, .any, .any, .any, .any, .any, .any, .any, .any, .any, .any, .any, .any, .any, .any, .any], blks := [(448, .box [.v (.int .i64), .v .str, .v .bool]), (1984, .row true (.int .i64))] }
def outs_impl_MissingEdits_0 : List (Exit × Pat) := [(.exit 2, { tmps := [.any, .any, .any, .any, .own 1984, .any, .any, .ptr 448 0, .any, .any, .any, .v (.slice (.st (.pair (.int .i64) (.pair .str .bool)))), .v (.int .i64), .v (.int .i64), .any, .any, .any, .any, .any, .any, .any, .any, .any, .any, .any, .any, .any, .any, .any, .any, .any, .any, .any, .any, .any, .any, .any], blks := [(1984, .row true (.int .i64)), (448, .box [.v (.int .i64), .v .str, .v .bool])] })]
noncomputable def step_impl_MissingEdits_1 (s : Int × (List (Int × (ByteArray × Bool))) × Int × Int × (List Int)) : Option ((Int × (List (Int × (ByteArray × Bool))) × Int × Int × (List Int)) ⊕ (((List Int)))) :=
  bif (decide (s.2.2.2.1 < s.2.2.1)) then
    bif decide (0 ≤ s.2.2.2.1) && decide (s.2.2.2.1 < (s.2.1.length : Int)) then
      match runL step_impl_MissingEdits_0 ((s.1, (s.2.1, s.2.2.1, (s.2.2.2.1, (s.2.1.getD (s.2.2.2.1).toNat (0, ByteArray.empty, false)).1, ((s.2.1.getD (s.2.2.2.1).toNat (0, ByteArray.empty, false)).2.1, (s.2.1.getD (s.2.2.2.1).toNat (0, ByteArray.empty, false)).2.2, s.2.2.2.2))))) with
      | none => none
      | some o21 =>
        let v22 := IntKind.i64.wrap (o21.2.2.2.2.1 + 1)
        let v23 := IntKind.i64.wrap (o21.2.2.1 + 1)
        some (.inl ((v22, o21.1, (o21.2.1, v23, o21.2.2.2.1))))
    else none
  else
    some (.inr (s.2.2.2.2))
def pat_impl_MissingEdits_1 : Pat := { tmps := [.any, .any, .any, .any, .own 1984, .v (.int .i64), .any, .any, .any, .any, .any, .v (.slice (.st (.pair (.int .i64) (.pair .str .bool)))), .v (.int .i64), .v (.int .i64), .any, .any, .any, .any, .any, .any, .any, .any, .any, .any, .any, .any, .any, .any, .any, .any, .any, .any, .any, .any, .any, .any, .any], blks := [(1984, .row true (.int .i64))] }
def outs_impl_MissingEdits_1 : List (Exit × Pat) := [(.exit 0, { tmps := [.any, .any, .any, .any, .own 1984, .any, .any, .any, .any, .any, .any, .any, .any, .any, .any, .any, .any, .any, .any, .any, .any, .any, .any, .any, .any, .any, .any, .any, .any, .any, .any, .any, .any, .any, .any, .any, .any], blks := [(1984, .row true (.int .i64))] })]
noncomputable def F_impl_MissingEdits (x : (List (Int × (ByteArray × Bool)))) : Option ((List Int) × Bool) :=
  match F_impl_AreEdits (x) with
  | none => none
  | some y1 =>
    bif (!y1) then
      some (([], false))
    else
      match runL step_impl_MissingEdits_1 ((1, x, ((x.length : Int), 0, []))) with
      | none => none
      | some o24 =>
        some ((o24, true))
noncomputable def c_impl_MissingEdits : Con := { ps := [(.val, (.slice (.st (.pair (.int .i64) (.pair .str .bool)))))], rs := [(.io true, (.slice (.int .i64))), (.val, .bool)], F := F_impl_MissingEdits }
noncomputable def env_impl_MissingEdits : Env := { par := [], dp := false, settle := [], con := fun f => match f with | 21 => some c_impl_AreEdits | _ => none, clo := fun _ => none, T := tinf Tryz.prog }
noncomputable def loops_impl_MissingEdits : Nat → Option Loop := fun n => match n with | 8 => some { pat := pat_impl_MissingEdits_0, outs := outs_impl_MissingEdits_0, run := runL (step_impl_MissingEdits_0) } | 6 => some { pat := pat_impl_MissingEdits_1, outs := outs_impl_MissingEdits_1, run := runL (step_impl_MissingEdits_1) } | _ => none
theorem step_impl_MissingEdits_0_eq (s : Int × (List (Int × (ByteArray × Bool))) × Int × Int × Int × ByteArray × Bool × (List Int)) : stepEv env_impl_MissingEdits loops_impl_MissingEdits pat_impl_MissingEdits_0 outs_impl_MissingEdits_0 Tryz.f13 8 s = step_impl_MissingEdits_0 s := by kernel_rfl
theorem step_impl_MissingEdits_1_eq (s : Int × (List (Int × (ByteArray × Bool))) × Int × Int × (List Int)) : stepEv env_impl_MissingEdits loops_impl_MissingEdits pat_impl_MissingEdits_1 outs_impl_MissingEdits_1 Tryz.f13 6 s = step_impl_MissingEdits_1 s := by kernel_rfl
theorem F_impl_MissingEdits_eq (x : (List (Int × (ByteArray × Bool)))) : Fev env_impl_MissingEdits loops_impl_MissingEdits c_impl_MissingEdits.ps c_impl_MissingEdits.rs Tryz.f13 x = F_impl_MissingEdits x := by kernel_rfl
theorem env_impl_MissingEdits_ok : EnvOK Tryz.prog env_impl_MissingEdits := envOK_of (fun f c h => by
  simp only [env_impl_MissingEdits] at h
  split at h
  · cases h; exact con_impl_AreEdits
  · cases h) (fun f c h => by cases h) rfl
theorem con_impl_MissingEdits : ConOK Tryz.prog 13 c_impl_MissingEdits := con_of_ev' (body := Tryz.f13.body.getD .skip) (Λ := loops_impl_MissingEdits) mixed Tryz.func13 (by kernel_rfl) (by kernel_rfl) env_impl_MissingEdits_ok (by kernel_rfl) (by kernel_rfl) (fun n L h => by
  unfold loops_impl_MissingEdits at h
  split at h
  · cases h; exact fun s o ho => loop_ok (stepF := stepEv env_impl_MissingEdits loops_impl_MissingEdits pat_impl_MissingEdits_0 outs_impl_MissingEdits_0 Tryz.f13 8) (step_impl_MissingEdits_0_eq) ho
  · cases h; exact fun s o ho => loop_ok (stepF := stepEv env_impl_MissingEdits loops_impl_MissingEdits pat_impl_MissingEdits_1 outs_impl_MissingEdits_1 Tryz.f13 6) (step_impl_MissingEdits_1_eq) ho
  · cases h) F_impl_MissingEdits_eq

noncomputable def step_spec_MissingEdits_0 (s : Int × (List (Int × (ByteArray × Bool))) × Int × Int × Int × ByteArray × Bool × (List Int)) : Option ((Int × (List (Int × (ByteArray × Bool))) × Int × Int × Int × ByteArray × Bool × (List Int)) ⊕ (((List (Int × (ByteArray × Bool))) × Int × Int × Int × ByteArray × Bool × (List Int)))) :=
  bif (decide (s.1 < s.2.2.2.2.1)) then
    bif (decide ((s.2.2.2.2.2.2.2.length : Int) < 100)) then
      bif decide ((s.2.2.2.2.2.2.2.length + [s.1].length) * 8 ≤ 140737488355328) then
        let v25 := s.2.2.2.2.2.2.2 ++ [s.1]
        let v26 := IntKind.i64.wrap (s.1 + 1)
        some (.inl ((v26, (s.2.1, s.2.2.1, (s.2.2.2.1, s.2.2.2.2.1, (s.2.2.2.2.2.1, s.2.2.2.2.2.2.1, v25))))))
      else none
    else
      let v27 := IntKind.i64.wrap (s.1 + 1)
      some (.inl ((v27, s.2)))
  else
    some (.inr (s.2))
def pat_spec_MissingEdits_0 : Pat := { tmps := [.any, .any, .any, .any, .own 1856, .v (.int .i64), .any, .ptr 448 0, .any, .any, .any, .v (.slice (.st (.pair (.int .i64) (.pair .str .bool)))), .v (.int .i64), .v (.int .i64), .any, .any, .any, .any, .any, .any, .any, .any, .any, .any, .any, .any, .any, .any, .any, .any, .any, .any, .any, .any, .any], blks := [(448, .box [.v (.int .i64), .v .str, .v .bool]), (1856, .row true (.int .i64))] }
def outs_spec_MissingEdits_0 : List (Exit × Pat) := [(.exit 2, { tmps := [.any, .any, .any, .any, .own 1856, .any, .any, .ptr 448 0, .any, .any, .any, .v (.slice (.st (.pair (.int .i64) (.pair .str .bool)))), .v (.int .i64), .v (.int .i64), .any, .any, .any, .any, .any, .any, .any, .any, .any, .any, .any, .any, .any, .any, .any, .any, .any, .any, .any, .any, .any], blks := [(448, .box [.v (.int .i64), .v .str, .v .bool]), (1856, .row true (.int .i64))] })]
noncomputable def step_spec_MissingEdits_1 (s : Int × (List (Int × (ByteArray × Bool))) × Int × Int × (List Int)) : Option ((Int × (List (Int × (ByteArray × Bool))) × Int × Int × (List Int)) ⊕ (((List Int)))) :=
  bif (decide (s.2.2.2.1 < s.2.2.1)) then
    bif decide (0 ≤ s.2.2.2.1) && decide (s.2.2.2.1 < (s.2.1.length : Int)) then
      match runL step_spec_MissingEdits_0 ((s.1, (s.2.1, s.2.2.1, (s.2.2.2.1, (s.2.1.getD (s.2.2.2.1).toNat (0, ByteArray.empty, false)).1, ((s.2.1.getD (s.2.2.2.1).toNat (0, ByteArray.empty, false)).2.1, (s.2.1.getD (s.2.2.2.1).toNat (0, ByteArray.empty, false)).2.2, s.2.2.2.2))))) with
      | none => none
      | some o28 =>
        let v29 := IntKind.i64.wrap (o28.2.2.2.1 + 1)
        let v30 := IntKind.i64.wrap (o28.2.2.1 + 1)
        some (.inl ((v29, o28.1, (o28.2.1, v30, o28.2.2.2.2.2.2))))
    else none
  else
    some (.inr (s.2.2.2.2))
def pat_spec_MissingEdits_1 : Pat := { tmps := [.any, .any, .any, .any, .own 1856, .v (.int .i64), .any, .any, .any, .any, .any, .v (.slice (.st (.pair (.int .i64) (.pair .str .bool)))), .v (.int .i64), .v (.int .i64), .any, .any, .any, .any, .any, .any, .any, .any, .any, .any, .any, .any, .any, .any, .any, .any, .any, .any, .any, .any, .any], blks := [(1856, .row true (.int .i64))] }
def outs_spec_MissingEdits_1 : List (Exit × Pat) := [(.exit 0, { tmps := [.any, .any, .any, .any, .own 1856, .any, .any, .any, .any, .any, .any, .any, .any, .any, .any, .any, .any, .any, .any, .any, .any, .any, .any, .any, .any, .any, .any, .any, .any, .any, .any, .any, .any, .any, .any], blks := [(1856, .row true (.int .i64))] })]
noncomputable def F_spec_MissingEdits (x : (List (Int × (ByteArray × Bool)))) : Option ((List Int) × Bool) :=
  match F_spec_joGood (x) with
  | none => none
  | some y1 =>
    bif (!y1) then
      some (([], false))
    else
      match runL step_spec_MissingEdits_1 ((1, x, ((x.length : Int), 0, []))) with
      | none => none
      | some o31 =>
        some ((o31, true))
noncomputable def c_spec_MissingEdits : Con := { ps := [(.val, (.slice (.st (.pair (.int .i64) (.pair .str .bool)))))], rs := [(.io true, (.slice (.int .i64))), (.val, .bool)], F := F_spec_MissingEdits }
noncomputable def env_spec_MissingEdits : Env := { par := [], dp := false, settle := [], con := fun f => match f with | 26 => some c_spec_joGood | _ => none, clo := fun _ => none, T := tinf Tryz.prog }
noncomputable def loops_spec_MissingEdits : Nat → Option Loop := fun n => match n with | 8 => some { pat := pat_spec_MissingEdits_0, outs := outs_spec_MissingEdits_0, run := runL (step_spec_MissingEdits_0) } | 6 => some { pat := pat_spec_MissingEdits_1, outs := outs_spec_MissingEdits_1, run := runL (step_spec_MissingEdits_1) } | _ => none
theorem step_spec_MissingEdits_0_eq (s : Int × (List (Int × (ByteArray × Bool))) × Int × Int × Int × ByteArray × Bool × (List Int)) : stepEv env_spec_MissingEdits loops_spec_MissingEdits pat_spec_MissingEdits_0 outs_spec_MissingEdits_0 Tryz.f14 8 s = step_spec_MissingEdits_0 s := by kernel_rfl
theorem step_spec_MissingEdits_1_eq (s : Int × (List (Int × (ByteArray × Bool))) × Int × Int × (List Int)) : stepEv env_spec_MissingEdits loops_spec_MissingEdits pat_spec_MissingEdits_1 outs_spec_MissingEdits_1 Tryz.f14 6 s = step_spec_MissingEdits_1 s := by kernel_rfl
theorem F_spec_MissingEdits_eq (x : (List (Int × (ByteArray × Bool)))) : Fev env_spec_MissingEdits loops_spec_MissingEdits c_spec_MissingEdits.ps c_spec_MissingEdits.rs Tryz.f14 x = F_spec_MissingEdits x := by kernel_rfl
theorem env_spec_MissingEdits_ok : EnvOK Tryz.prog env_spec_MissingEdits := envOK_of (fun f c h => by
  simp only [env_spec_MissingEdits] at h
  split at h
  · cases h; exact con_spec_joGood
  · cases h) (fun f c h => by cases h) rfl
theorem con_spec_MissingEdits : ConOK Tryz.prog 14 c_spec_MissingEdits := con_of_ev' (body := Tryz.f14.body.getD .skip) (Λ := loops_spec_MissingEdits) mixed Tryz.func14 (by kernel_rfl) (by kernel_rfl) env_spec_MissingEdits_ok (by kernel_rfl) (by kernel_rfl) (fun n L h => by
  unfold loops_spec_MissingEdits at h
  split at h
  · cases h; exact fun s o ho => loop_ok (stepF := stepEv env_spec_MissingEdits loops_spec_MissingEdits pat_spec_MissingEdits_0 outs_spec_MissingEdits_0 Tryz.f14 8) (step_spec_MissingEdits_0_eq) ho
  · cases h; exact fun s o ho => loop_ok (stepF := stepEv env_spec_MissingEdits loops_spec_MissingEdits pat_spec_MissingEdits_1 outs_spec_MissingEdits_1 Tryz.f14 6) (step_spec_MissingEdits_1_eq) ho
  · cases h) F_spec_MissingEdits_eq

noncomputable def F_spec_DrawEditLine (x : (List Int)) : Option ((Int × (ByteArray × Bool))) :=
  match F_spec_l1Cur_among (((x, 0, 0), [5, 0, 1000])) with
  | none => none
  | some y1 =>
    match F_spec_l1Cur_among ((y1.1, [1, 7, 12, 999, y1.2])) with
    | none => none
    | some y2 =>
      match F_spec_l1Cur_edit (y2) with
      | none => none
      | some y3 =>
        some (y3.2)
noncomputable def c_spec_DrawEditLine : Con := { ps := [(.val, (.slice (.int .u8)))], rs := [(.val, (.st (.pair (.int .i64) (.pair .str .bool))))], F := F_spec_DrawEditLine }
noncomputable def env_spec_DrawEditLine : Env := { par := [], dp := false, settle := [], con := fun f => match f with | 28 => some c_spec_l1Cur_among | 38 => some c_spec_l1Cur_edit | _ => none, clo := fun _ => none, T := tinf Tryz.prog }
noncomputable def loops_spec_DrawEditLine : Nat → Option Loop := fun n => none
theorem F_spec_DrawEditLine_eq (x : (List Int)) : Fev env_spec_DrawEditLine loops_spec_DrawEditLine c_spec_DrawEditLine.ps c_spec_DrawEditLine.rs Tryz.f15 x = F_spec_DrawEditLine x := by kernel_rfl
theorem env_spec_DrawEditLine_ok : EnvOK Tryz.prog env_spec_DrawEditLine := envOK_of (fun f c h => by
  simp only [env_spec_DrawEditLine] at h
  split at h
  · cases h; exact con_spec_l1Cur_among
  · cases h; exact con_spec_l1Cur_edit
  · cases h) (fun f c h => by cases h) rfl
theorem con_spec_DrawEditLine : ConOK Tryz.prog 15 c_spec_DrawEditLine := con_of_ev' (body := Tryz.f15.body.getD .skip) (Λ := loops_spec_DrawEditLine) mixed Tryz.func15 (by kernel_rfl) (by kernel_rfl) env_spec_DrawEditLine_ok (by kernel_rfl) (by kernel_rfl) (fun n L h => by cases h) F_spec_DrawEditLine_eq

noncomputable def F_impl_EditLine (x : (Int × (ByteArray × Bool))) : Option (ByteArray × Bool) :=
  match F_impl_isLogEdit (x) with
  | none => none
  | some y1 =>
    bif (!y1) then
      some (((⟨#[]⟩ : ByteArray), false))
    else
      match F_impl_LogEdit_line (x) with
      | none => none
      | some y2 =>
        some ((y2, true))
noncomputable def c_impl_EditLine : Con := { ps := [(.val, (.st (.pair (.int .i64) (.pair .str .bool))))], rs := [(.val, .str), (.val, .bool)], F := F_impl_EditLine }
noncomputable def env_impl_EditLine : Env := { par := [], dp := false, settle := [], con := fun f => match f with | 39 => some c_impl_isLogEdit | 40 => some c_impl_LogEdit_line | _ => none, clo := fun _ => none, T := tinf Tryz.prog }
noncomputable def loops_impl_EditLine : Nat → Option Loop := fun n => none
theorem F_impl_EditLine_eq (x : (Int × (ByteArray × Bool))) : Fev env_impl_EditLine loops_impl_EditLine c_impl_EditLine.ps c_impl_EditLine.rs Tryz.f16 x = F_impl_EditLine x := by kernel_rfl
theorem env_impl_EditLine_ok : EnvOK Tryz.prog env_impl_EditLine := envOK_of (fun f c h => by
  simp only [env_impl_EditLine] at h
  split at h
  · cases h; exact con_impl_isLogEdit
  · cases h; exact con_impl_LogEdit_line
  · cases h) (fun f c h => by cases h) rfl
theorem con_impl_EditLine : ConOK Tryz.prog 16 c_impl_EditLine := con_of_ev' (body := Tryz.f16.body.getD .skip) (Λ := loops_impl_EditLine) mixed Tryz.func16 (by kernel_rfl) (by kernel_rfl) env_impl_EditLine_ok (by kernel_rfl) (by kernel_rfl) (fun n L h => by cases h) F_impl_EditLine_eq

noncomputable def F_spec_EditLine (x : (Int × (ByteArray × Bool))) : Option (ByteArray × Bool) :=
  match F_spec_joOne (x) with
  | none => none
  | some y1 =>
    bif (!y1) then
      some (((⟨#[]⟩ : ByteArray), false))
    else
      match F_spec_joLine (x) with
      | none => none
      | some y2 =>
        some ((y2, true))
noncomputable def c_spec_EditLine : Con := { ps := [(.val, (.st (.pair (.int .i64) (.pair .str .bool))))], rs := [(.val, .str), (.val, .bool)], F := F_spec_EditLine }
noncomputable def env_spec_EditLine : Env := { par := [], dp := false, settle := [], con := fun f => match f with | 41 => some c_spec_joOne | 42 => some c_spec_joLine | _ => none, clo := fun _ => none, T := tinf Tryz.prog }
noncomputable def loops_spec_EditLine : Nat → Option Loop := fun n => none
theorem F_spec_EditLine_eq (x : (Int × (ByteArray × Bool))) : Fev env_spec_EditLine loops_spec_EditLine c_spec_EditLine.ps c_spec_EditLine.rs Tryz.f17 x = F_spec_EditLine x := by kernel_rfl
theorem env_spec_EditLine_ok : EnvOK Tryz.prog env_spec_EditLine := envOK_of (fun f c h => by
  simp only [env_spec_EditLine] at h
  split at h
  · cases h; exact con_spec_joOne
  · cases h; exact con_spec_joLine
  · cases h) (fun f c h => by cases h) rfl
theorem con_spec_EditLine : ConOK Tryz.prog 17 c_spec_EditLine := con_of_ev' (body := Tryz.f17.body.getD .skip) (Λ := loops_spec_EditLine) mixed Tryz.func17 (by kernel_rfl) (by kernel_rfl) env_spec_EditLine_ok (by kernel_rfl) (by kernel_rfl) (fun n L h => by cases h) F_spec_EditLine_eq

noncomputable def step_laws_qTexts_0 (s : (List ByteArray) × (List ByteArray) × Int × Int) : Option (((List ByteArray) × (List ByteArray) × Int × Int) ⊕ ((Bool) ⊕ (Unit))) :=
  bif (decide (s.2.2.2 < s.2.2.1)) then
    bif decide (0 ≤ s.2.2.2) && decide (s.2.2.2 < (s.1.length : Int)) then
      bif decide (0 ≤ s.2.2.2) && decide (s.2.2.2 < (s.2.1.length : Int)) then
        bif (!((s.1.getD (s.2.2.2).toNat ByteArray.empty).toList == (s.2.1.getD (s.2.2.2).toNat ByteArray.empty).toList)) then
          some (.inr (.inl (false)))
        else
          let v2 := IntKind.i64.wrap (s.2.2.2 + 1)
          some (.inl ((s.1, (s.2.1, s.2.2.1, v2))))
      else none
    else none
  else
    some (.inr (.inr (())))
def pat_laws_qTexts_0 : Pat := { tmps := [.v (.slice .str), .v (.slice .str), .any, .any, .any, .any, .any, .any, .any, .any, .any, .any, .v (.int .i64), .v (.int .i64), .any, .any, .any, .any, .any, .any, .any, .any, .any, .any, .any, .any], blks := [] }
def outs_laws_qTexts_0 : List (Exit × Pat) := [(.ret, { tmps := [.any, .any, .any, .any, .v .bool, .any, .any, .any, .any, .any, .any, .any, .any, .any, .any, .any, .any, .any, .any, .any, .any, .any, .any, .any, .any, .any], blks := [] }), (.exit 0, { tmps := [.any, .any, .any, .any, .any, .any, .any, .any, .any, .any, .any, .any, .any, .any, .any, .any, .any, .any, .any, .any, .any, .any, .any, .any, .any, .any], blks := [] })]
noncomputable def F_laws_qTexts (x : (List ByteArray) × (List ByteArray)) : Option (Bool) :=
  bif (((x.1.length : Int) != (x.2.length : Int))) then
    some (false)
  else
    match runL step_laws_qTexts_0 ((x.1, (x.2, (x.1.length : Int), 0))) with
    | none => none
    | some (.inl o3) =>
      some (o3)
    | some (.inr o3) =>
      some (true)
noncomputable def c_laws_qTexts : Con := { ps := [(.val, (.slice .str)), (.val, (.slice .str))], rs := [(.val, .bool)], F := F_laws_qTexts }
noncomputable def env_laws_qTexts : Env := { par := [], dp := false, settle := [], con := fun _ => none, clo := fun _ => none, T := tinf Tryz.prog }
noncomputable def loops_laws_qTexts : Nat → Option Loop := fun n => match n with | 4 => some { pat := pat_laws_qTexts_0, outs := outs_laws_qTexts_0, run := runL (step_laws_qTexts_0) } | _ => none
theorem step_laws_qTexts_0_eq (s : (List ByteArray) × (List ByteArray) × Int × Int) : stepEv env_laws_qTexts loops_laws_qTexts pat_laws_qTexts_0 outs_laws_qTexts_0 Tryz.f18 4 s = step_laws_qTexts_0 s := by kernel_rfl
theorem F_laws_qTexts_eq (x : (List ByteArray) × (List ByteArray)) : Fev env_laws_qTexts loops_laws_qTexts c_laws_qTexts.ps c_laws_qTexts.rs Tryz.f18 x = F_laws_qTexts x := by kernel_rfl
theorem env_laws_qTexts_ok : EnvOK Tryz.prog env_laws_qTexts := envOK_of (fun f c h => by cases h) (fun f c h => by cases h) rfl
theorem con_laws_qTexts : ConOK Tryz.prog 18 c_laws_qTexts := con_of_ev' (body := Tryz.f18.body.getD .skip) (Λ := loops_laws_qTexts) mixed Tryz.func18 (by kernel_rfl) (by kernel_rfl) env_laws_qTexts_ok (by kernel_rfl) (by kernel_rfl) (fun n L h => by
  unfold loops_laws_qTexts at h
  split at h
  · cases h; exact fun s o ho => loop_ok (stepF := stepEv env_laws_qTexts loops_laws_qTexts pat_laws_qTexts_0 outs_laws_qTexts_0 Tryz.f18 4) (step_laws_qTexts_0_eq) ho
  · cases h) F_laws_qTexts_eq

noncomputable def step_laws_qEdits_0 (s : (List (Int × (ByteArray × Bool))) × (List (Int × (ByteArray × Bool))) × Int × Int) : Option (((List (Int × (ByteArray × Bool))) × (List (Int × (ByteArray × Bool))) × Int × Int) ⊕ ((Bool) ⊕ (Unit))) :=
  bif (decide (s.2.2.2 < s.2.2.1)) then
    bif decide (0 ≤ s.2.2.2) && decide (s.2.2.2 < (s.1.length : Int)) then
      bif decide (0 ≤ s.2.2.2) && decide (s.2.2.2 < (s.2.1.length : Int)) then
        bif (!(((s.1.getD (s.2.2.2).toNat (0, ByteArray.empty, false)).1 == (s.2.1.getD (s.2.2.2).toNat (0, ByteArray.empty, false)).1) && (((s.1.getD (s.2.2.2).toNat (0, ByteArray.empty, false)).2.1.toList == (s.2.1.getD (s.2.2.2).toNat (0, ByteArray.empty, false)).2.1.toList) && (((s.1.getD (s.2.2.2).toNat (0, ByteArray.empty, false)).2.2 == (s.2.1.getD (s.2.2.2).toNat (0, ByteArray.empty, false)).2.2) && true)))) then
          some (.inr (.inl (false)))
        else
          let v2 := IntKind.i64.wrap (s.2.2.2 + 1)
          some (.inl ((s.1, (s.2.1, s.2.2.1, v2))))
      else none
    else none
  else
    some (.inr (.inr (())))
def pat_laws_qEdits_0 : Pat := { tmps := [.v (.slice (.st (.pair (.int .i64) (.pair .str .bool)))), .v (.slice (.st (.pair (.int .i64) (.pair .str .bool)))), .any, .any, .any, .any, .any, .any, .any, .any, .any, .any, .v (.int .i64), .v (.int .i64), .any, .any, .any, .any, .any, .any, .any, .any, .any, .any, .any, .any], blks := [] }
def outs_laws_qEdits_0 : List (Exit × Pat) := [(.ret, { tmps := [.any, .any, .any, .any, .v .bool, .any, .any, .any, .any, .any, .any, .any, .any, .any, .any, .any, .any, .any, .any, .any, .any, .any, .any, .any, .any, .any], blks := [] }), (.exit 0, { tmps := [.any, .any, .any, .any, .any, .any, .any, .any, .any, .any, .any, .any, .any, .any, .any, .any, .any, .any, .any, .any, .any, .any, .any, .any, .any, .any], blks := [] })]
noncomputable def F_laws_qEdits (x : (List (Int × (ByteArray × Bool))) × (List (Int × (ByteArray × Bool)))) : Option (Bool) :=
  bif (((x.1.length : Int) != (x.2.length : Int))) then
    some (false)
  else
    match runL step_laws_qEdits_0 ((x.1, (x.2, (x.1.length : Int), 0))) with
    | none => none
    | some (.inl o3) =>
      some (o3)
    | some (.inr o3) =>
      some (true)
noncomputable def c_laws_qEdits : Con := { ps := [(.val, (.slice (.st (.pair (.int .i64) (.pair .str .bool))))), (.val, (.slice (.st (.pair (.int .i64) (.pair .str .bool)))))], rs := [(.val, .bool)], F := F_laws_qEdits }
noncomputable def env_laws_qEdits : Env := { par := [], dp := false, settle := [], con := fun _ => none, clo := fun _ => none, T := tinf Tryz.prog }
noncomputable def loops_laws_qEdits : Nat → Option Loop := fun n => match n with | 4 => some { pat := pat_laws_qEdits_0, outs := outs_laws_qEdits_0, run := runL (step_laws_qEdits_0) } | _ => none
theorem step_laws_qEdits_0_eq (s : (List (Int × (ByteArray × Bool))) × (List (Int × (ByteArray × Bool))) × Int × Int) : stepEv env_laws_qEdits loops_laws_qEdits pat_laws_qEdits_0 outs_laws_qEdits_0 Tryz.f19 4 s = step_laws_qEdits_0 s := by kernel_rfl
theorem F_laws_qEdits_eq (x : (List (Int × (ByteArray × Bool))) × (List (Int × (ByteArray × Bool)))) : Fev env_laws_qEdits loops_laws_qEdits c_laws_qEdits.ps c_laws_qEdits.rs Tryz.f19 x = F_laws_qEdits x := by kernel_rfl
theorem env_laws_qEdits_ok : EnvOK Tryz.prog env_laws_qEdits := envOK_of (fun f c h => by cases h) (fun f c h => by cases h) rfl
theorem con_laws_qEdits : ConOK Tryz.prog 19 c_laws_qEdits := con_of_ev' (body := Tryz.f19.body.getD .skip) (Λ := loops_laws_qEdits) mixed Tryz.func19 (by kernel_rfl) (by kernel_rfl) env_laws_qEdits_ok (by kernel_rfl) (by kernel_rfl) (fun n L h => by
  unfold loops_laws_qEdits at h
  split at h
  · cases h; exact fun s o ho => loop_ok (stepF := stepEv env_laws_qEdits loops_laws_qEdits pat_laws_qEdits_0 outs_laws_qEdits_0 Tryz.f19 4) (step_laws_qEdits_0_eq) ho
  · cases h) F_laws_qEdits_eq

noncomputable def step_laws_qInts_0 (s : (List Int) × (List Int) × Int × Int) : Option (((List Int) × (List Int) × Int × Int) ⊕ ((Bool) ⊕ (Unit))) :=
  bif (decide (s.2.2.2 < s.2.2.1)) then
    bif decide (0 ≤ s.2.2.2) && decide (s.2.2.2 < (s.1.length : Int)) then
      bif decide (0 ≤ s.2.2.2) && decide (s.2.2.2 < (s.2.1.length : Int)) then
        bif (((s.1.getD (s.2.2.2).toNat 0) != (s.2.1.getD (s.2.2.2).toNat 0))) then
          some (.inr (.inl (false)))
        else
          let v2 := IntKind.i64.wrap (s.2.2.2 + 1)
          some (.inl ((s.1, (s.2.1, s.2.2.1, v2))))
      else none
    else none
  else
    some (.inr (.inr (())))
def pat_laws_qInts_0 : Pat := { tmps := [.v (.slice (.int .i64)), .v (.slice (.int .i64)), .any, .any, .any, .any, .any, .any, .any, .any, .any, .any, .v (.int .i64), .v (.int .i64), .any, .any, .any, .any, .any, .any, .any, .any, .any, .any, .any, .any], blks := [] }
def outs_laws_qInts_0 : List (Exit × Pat) := [(.ret, { tmps := [.any, .any, .any, .any, .v .bool, .any, .any, .any, .any, .any, .any, .any, .any, .any, .any, .any, .any, .any, .any, .any, .any, .any, .any, .any, .any, .any], blks := [] }), (.exit 0, { tmps := [.any, .any, .any, .any, .any, .any, .any, .any, .any, .any, .any, .any, .any, .any, .any, .any, .any, .any, .any, .any, .any, .any, .any, .any, .any, .any], blks := [] })]
noncomputable def F_laws_qInts (x : (List Int) × (List Int)) : Option (Bool) :=
  bif (((x.1.length : Int) != (x.2.length : Int))) then
    some (false)
  else
    match runL step_laws_qInts_0 ((x.1, (x.2, (x.1.length : Int), 0))) with
    | none => none
    | some (.inl o3) =>
      some (o3)
    | some (.inr o3) =>
      some (true)
noncomputable def c_laws_qInts : Con := { ps := [(.val, (.slice (.int .i64))), (.val, (.slice (.int .i64)))], rs := [(.val, .bool)], F := F_laws_qInts }
noncomputable def env_laws_qInts : Env := { par := [], dp := false, settle := [], con := fun _ => none, clo := fun _ => none, T := tinf Tryz.prog }
noncomputable def loops_laws_qInts : Nat → Option Loop := fun n => match n with | 4 => some { pat := pat_laws_qInts_0, outs := outs_laws_qInts_0, run := runL (step_laws_qInts_0) } | _ => none
theorem step_laws_qInts_0_eq (s : (List Int) × (List Int) × Int × Int) : stepEv env_laws_qInts loops_laws_qInts pat_laws_qInts_0 outs_laws_qInts_0 Tryz.f20 4 s = step_laws_qInts_0 s := by kernel_rfl
theorem F_laws_qInts_eq (x : (List Int) × (List Int)) : Fev env_laws_qInts loops_laws_qInts c_laws_qInts.ps c_laws_qInts.rs Tryz.f20 x = F_laws_qInts x := by kernel_rfl
theorem env_laws_qInts_ok : EnvOK Tryz.prog env_laws_qInts := envOK_of (fun f c h => by cases h) (fun f c h => by cases h) rfl
theorem con_laws_qInts : ConOK Tryz.prog 20 c_laws_qInts := con_of_ev' (body := Tryz.f20.body.getD .skip) (Λ := loops_laws_qInts) mixed Tryz.func20 (by kernel_rfl) (by kernel_rfl) env_laws_qInts_ok (by kernel_rfl) (by kernel_rfl) (fun n L h => by
  unfold loops_laws_qInts at h
  split at h
  · cases h; exact fun s o ho => loop_ok (stepF := stepEv env_laws_qInts loops_laws_qInts pat_laws_qInts_0 outs_laws_qInts_0 Tryz.f20 4) (step_laws_qInts_0_eq) ho
  · cases h) F_laws_qInts_eq

theorem IndexAny_ex : ∃ f : ByteArray × ByteArray → Option Int, f = fun x => bif decide (x.1.size < 4294967281) && decide (x.2 = pm) then some (Lib.indexAny x.1.data.toList [43, 45]) else none := ⟨_, rfl⟩
noncomputable def F_strings_IndexAny : ByteArray × ByteArray → Option Int := Classical.choose IndexAny_ex
theorem F_strings_IndexAny_is (x : ByteArray × ByteArray) : F_strings_IndexAny x = bif decide (x.1.size < 4294967281) && decide (x.2 = pm) then some (Lib.indexAny x.1.data.toList [43, 45]) else none := congrFun (Classical.choose_spec IndexAny_ex) x
noncomputable def c_strings_IndexAny : Con := { ps := [(.val, .str), (.val, .str)], rs := [(.val, .int .i64)], F := F_strings_IndexAny }
theorem calls_F_strings_IndexAny (w : World) (s t : ByteArray) (y : Int) (hy : F_strings_IndexAny (s, t) = some y) : Calls Tryz.prog 48 #[.string s, .string t] w fun e w' => e = .returned (.int .i64 y) ∧ Fr NoB w w' := by
  rw [F_strings_IndexAny_is] at hy
  obtain ⟨hg, hy⟩ := bif_none hy
  have hg : (decide (s.size < 4294967281) && decide (t = pm)) = true := hg
  obtain ⟨h0, h1⟩ := and_b hg
  have h0 : s.size < 4294967281 := of_decide_eq_true h0
  have h1 : t = pm := of_decide_eq_true h1
  subst h1
  have e : y = Lib.indexAny s.data.toList [43, 45] := (Option.some.inj hy).symm
  subst e
  refine (idxAny s h0 w).mono ?_
  rintro e w' ⟨rfl, hw⟩
  exact ⟨rfl, fr_of_below hw⟩
theorem con_strings_IndexAny : ConOK Tryz.prog 48 c_strings_IndexAny := con_of_pure ⟨Tryz.f48, Tryz.func48, by kernel_rfl, by kernel_rfl⟩ rfl rfl fun w x y hy _ => calls_F_strings_IndexAny w x.1 x.2 y hy

theorem decimal_ex : ∃ f : ByteArray → Option (Int × Bool), f = fun x => bif decide (x.size ≤ 281474976710656) then some (decOf x) else none := ⟨_, rfl⟩
noncomputable def F_impl_decimal : ByteArray → Option (Int × Bool) := Classical.choose decimal_ex
theorem F_impl_decimal_is (x : ByteArray) : F_impl_decimal x = bif decide (x.size ≤ 281474976710656) then some (decOf x) else none := congrFun (Classical.choose_spec decimal_ex) x
noncomputable def c_impl_decimal : Con := { ps := [(.val, .str)], rs := [(.val, .int .i64), (.val, .bool)], F := F_impl_decimal }
theorem var_of_ifc {w : World} (ht : Tabs Tryz.prog w) {q : String} (hq : q ∈ ifcList) : ∃ tp p, w.var? Tryz.prog q = some #[.iface tp p] := (ht.2.2.2 q hq).2
theorem calls_F_impl_decimal (w : World) (s : ByteArray) (y : Int × Bool) (hy : F_impl_decimal s = some y) (ht : Tabs Tryz.prog w) : Calls Tryz.prog 50 #[.string s] w fun e w' => e = .returned (.tuple #[.int .i64 y.1, .bool y.2]) ∧ Fr NoB w w' := by
  rw [F_impl_decimal_is] at hy
  obtain ⟨hg, hy⟩ := bif_none hy
  have h0 : s.size ≤ 281474976710656 := of_decide_eq_true hg
  have e : y = decOf s := (Option.some.inj hy).symm
  subst e
  refine (calls_decimal s h0 w (var_of_ifc ht (by simp [ifcList])) (var_of_ifc ht (by simp [ifcList])) fun w' hw => (((fr_of_below hw).tabs ht).1 _ (List.mem_cons_self ..)).2).mono ?_
  rintro e w' ⟨rfl, hw⟩
  exact ⟨rfl, fr_of_below hw⟩
theorem con_impl_decimal : ConOK Tryz.prog 50 c_impl_decimal := con_of_pure ⟨Tryz.f50, Tryz.func50, by kernel_rfl, by kernel_rfl⟩ rfl rfl fun w x y hy ht => calls_F_impl_decimal w x y hy ht

noncomputable def F_impl_ParseEditLine (x : ByteArray) : Option ((Int × (ByteArray × Bool)) × Bool) :=
  match F_strings_IndexAny ((x, (⟨#[43, 45]⟩ : ByteArray))) with
  | none => none
  | some y1 =>
    match F_strings_IndexByte ((x, 46)) with
    | none => none
    | some y2 =>
      bif (decide (y1 < 0)) then
        some (((0, ByteArray.empty, false), false))
      else
        bif (decide (y2 < y1)) then
          some (((0, ByteArray.empty, false), false))
        else
          bif (decide ((x.size : Int) > 2000)) then
            some (((0, ByteArray.empty, false), false))
          else
            let v3 := IntKind.i64.wrap (y1 + 1)
            bif decide (0 ≤ v3) && decide (v3 ≤ y2) && decide (y2 ≤ (x.size : Int)) then
              bif decide (0 ≤ y1) && decide (y1 < (x.size : Int)) then
                bif decide (0 ≤ (0 : Int)) && decide ((0 : Int) ≤ y1) && decide (y1 ≤ (x.size : Int)) then
                  match F_impl_decimal ((x.extract ((0 : Int)).toNat (y1).toNat)) with
                  | none => none
                  | some y4 =>
                    match F_impl_isLogEdit ((y4.1, (x.extract (v3).toNat (y2).toNat), (((byteAt x (y1).toNat) == 45)))) with
                    | none => none
                    | some y5 =>
                      bif (!y5) then
                        some (((0, ByteArray.empty, false), false))
                      else
                        match F_impl_LogEdit_line ((y4.1, (x.extract (v3).toNat (y2).toNat), (((byteAt x (y1).toNat) == 45)))) with
                        | none => none
                        | some y6 =>
                          bif (!(y6.toList == x.toList)) then
                            some (((0, ByteArray.empty, false), false))
                          else
                            some (((y4.1, (x.extract (v3).toNat (y2).toNat), (((byteAt x (y1).toNat) == 45))), true))
                else none
              else none
            else none
noncomputable def c_impl_ParseEditLine : Con := { ps := [(.val, .str)], rs := [(.val, (.st (.pair (.int .i64) (.pair .str .bool)))), (.val, .bool)], F := F_impl_ParseEditLine }
noncomputable def env_impl_ParseEditLine : Env := { par := [], dp := false, settle := [], con := fun f => match f with | 39 => some c_impl_isLogEdit | 40 => some c_impl_LogEdit_line | 48 => some c_strings_IndexAny | 49 => some c_strings_IndexByte | 50 => some c_impl_decimal | _ => none, clo := fun _ => none, T := tinf Tryz.prog }
noncomputable def loops_impl_ParseEditLine : Nat → Option Loop := fun n => none
theorem F_impl_ParseEditLine_eq (x : ByteArray) : Fev env_impl_ParseEditLine loops_impl_ParseEditLine c_impl_ParseEditLine.ps c_impl_ParseEditLine.rs Tryz.f24 x = F_impl_ParseEditLine x := by kernel_rfl
theorem env_impl_ParseEditLine_ok : EnvOK Tryz.prog env_impl_ParseEditLine := envOK_of (fun f c h => by
  simp only [env_impl_ParseEditLine] at h
  split at h
  · cases h; exact con_impl_isLogEdit
  · cases h; exact con_impl_LogEdit_line
  · cases h; exact con_strings_IndexAny
  · cases h; exact con_strings_IndexByte
  · cases h; exact con_impl_decimal
  · cases h) (fun f c h => by cases h) rfl
theorem con_impl_ParseEditLine : ConOK Tryz.prog 24 c_impl_ParseEditLine := con_of_ev' (body := Tryz.f24.body.getD .skip) (Λ := loops_impl_ParseEditLine) mixed Tryz.func24 (by kernel_rfl) (by kernel_rfl) env_impl_ParseEditLine_ok (by kernel_rfl) (by kernel_rfl) (fun n L h => by cases h) F_impl_ParseEditLine_eq

section
open Go.RowKit
theorem nil_slices_Clone_impl_LogEdit_impl_LogEdit (n c : Nat) (w : World) : Calls Tryz.prog 44 #[.slice none n c] w fun e w' => e = .returned (.slice none 0 0) ∧ w' = w := by
  have q : ∀ (w : World) (a : Option Addr) (n c n' c' : Nat), (binOp .eql 23 (.slice a n c) (.slice none n' c')).run Tryz.prog w = .ok (.bool a.isNone) w := fun w a n c n' c' => Lib.run_eql_slice_nil w _ _ a n c n' c' (show Tryz.prog.underlying 23 = some (.slice 38) by kernel_rfl)
  go_enter Tryz.func44, Tryz.ntmps44
  go_wp2
  go_ret
  exact ⟨rfl, rfl⟩
set_option maxHeartbeats 2000000 in
theorem some_slices_Clone_impl_LogEdit_impl_LogEdit (ad : Addr) (n c : Nat) (news : List Value) (w : World) (hl : news.length = n * 3) (hc : ∀ j u, news[j]? = some u → w.cell? (ad.add j) = some u) (h1 : ∀ u ∈ news, u.oneCell' = true) (hbig : n * 32 ≤ 140737488355328) :
    Calls Tryz.prog 44 #[.slice (some ad) n c] w fun e w' => ∃ v', e = .returned v' ∧ w'.ownsRow w.heap.size 38 3 v' n news ∧ Below w.heap.size w w' := by
  have q : ∀ (w : World) (a : Option Addr) (n c n' c' : Nat), (binOp .eql 23 (.slice a n c) (.slice none n' c')).run Tryz.prog w = .ok (.bool a.isNone) w := fun w a n c n' c' => Lib.run_eql_slice_nil w _ _ a n c n' c' (show Tryz.prog.underlying 23 = some (.slice 38) by kernel_rfl)
  obtain ⟨i0, hi, hz0, hz1, hz2⟩ := info_parts (P := Tryz.prog) (e := 38) (z := (.agg #[(.int .i64 0), (.string ⟨#[]⟩), (.bool false)])) (size := 3) (bytes := 32) (by kernel_rfl)
  have A : Aside (∀ j u, news[j]? = some u → w.cell? (ad.add j) = some u) := hc
  clear hc
  go_enter Tryz.func44, Tryz.ntmps44
  go_wp2_with (at_builtin; refine wpList_append_own _ rfl _ _ 23 rfl w.heap.size 38 i0 (.agg #[(.int .i64 0), (.string ⟨#[]⟩), (.bool false)]) 3 32 (by kernel_rfl) hi hz0 hz1 hz2 rfl (by decide) _ _ _ rfl (World.ownsRow_made w #[] 0 (Nat.le_refl _) (Nat.zero_le _) rfl) ad n c news rfl ?qc1 ?qc2 ?qc3 ?qc4 ?qc5 ?qc6 ?_)
  case qc1 => exact hl
  case qc2 => exact fun j u hj => Lib.cell?_alloc_some _ (A.out j u hj)
  case qc3 => exact h1
  case qc4 => unfold maxLen; omega
  case qc5 => omega
  case qc6 => simp
  intro v' w1 hown hgrow hnil
  go_wp2
  go_ret
  refine ⟨v', rfl, by simpa using hown, ?_⟩
  exact ((Below.refl _ w).alloc (Nat.le_refl _) _).grown hgrow (by simp) (by intro k hk; simp [Value.ownBlock] at hk; omega)
def F_slices_Clone_impl_LogEdit_impl_LogEdit (x : List (Int × (ByteArray × Bool))) : Option (List (Int × (ByteArray × Bool))) := bif decide (x.length * 32 ≤ 140737488355328) then some x else none
noncomputable def c_slices_Clone_impl_LogEdit_impl_LogEdit : Con := { ps := [(.val, .slice (.st (.pair (.int .i64) (.pair .str .bool))))], rs := [(.io true, .slice (.st (.pair (.int .i64) (.pair .str .bool))))], F := F_slices_Clone_impl_LogEdit_impl_LogEdit }
theorem con_slices_Clone_impl_LogEdit_impl_LogEdit : ConOK Tryz.prog 44 c_slices_Clone_impl_LogEdit_impl_LogEdit := con_clone ⟨Tryz.f44, Tryz.func44, by kernel_rfl, by kernel_rfl⟩ (.st (.pair (.int .i64) (.pair .str .bool))) true rfl 32 38 nil_slices_Clone_impl_LogEdit_impl_LogEdit some_slices_Clone_impl_LogEdit_impl_LogEdit
end

set_option maxHeartbeats 1000000 in
theorem calls_strings_Lines (s : ByteArray) (w : World) : Calls Tryz.prog 43 #[.string s] w fun e w' => e = .returned (.func (.func 63) #[] #[.pointer (some ⟨w.heap.size, 0, none⟩)]) ∧ w' = w.alloc (.cells #[.string s] 9) := by
  go_enter Tryz.func43, Tryz.ntmps43
  go_wp2
  go_ret
  exact ⟨rfl, rfl⟩
abbrev tyE : Ty := .st (.pair (.int .i64) (.pair .str .bool))
attribute [local go_sem] Oper.semAt_some
noncomputable def step_impl_ReadEdits_L (s : (List (Int × (ByteArray × Bool))) × Int) (x : ByteArray) : Option (((List (Int × (ByteArray × Bool))) × Int) ⊕ ((List (Int × (ByteArray × Bool))) × Int)) :=
  match F_impl_ParseEditLine (x) with
  | none => none
  | some y1 =>
    bif (!y1.2) then
      some (.inr (s))
    else
      match F_slices_Clone_impl_LogEdit_impl_LogEdit (s.1) with
      | none => none
      | some y2 =>
        bif decide ((y2.length + ([y1.1] : List ((Int × (ByteArray × Bool)))).length) * 32 ≤ 140737488355328) then
          let v3 := y2 ++ ([y1.1] : List ((Int × (ByteArray × Bool))))
          match F_impl_AreEdits (v3) with
          | none => none
          | some y4 =>
            bif (!y4) then
              some (.inr (s))
            else
              bif decide ((s.1.length + [y1.1].length) * 32 ≤ 140737488355328) then
                let v5 := s.1 ++ [y1.1]
                let v6 := IntKind.i64.wrap (s.2 + (x.size : Int))
                some (.inl ((v5, v6)))
              else none
        else none
def pat_impl_ReadEdits_L : Pat := { tmps := [.any, .any, .any, .any, .any, .ptr 62 0, .ptr 190 0, .any, .any, .any, .any, .any, .any, .any, .any, .any, .any, .any, .any, .any, .any, .any, .any, .any, .any, .any, .any, .any, .any, .any, .any, .any, .any, .any, .any, .any, .any, .any, .any, .any, .any, .any], blks := [(62, .box [.own 126]), (126, .row true (.st (.pair (.int .i64) (.pair .str .bool)))), (190, .box [.v (.int .i64)])] }
noncomputable def env_impl_ReadEdits : Env := { par := [62, 126, 190], dp := false, settle := [], con := fun f => match f with | 21 => some c_impl_AreEdits | 24 => some c_impl_ParseEditLine | 44 => some c_slices_Clone_impl_LogEdit_impl_LogEdit | _ => none, clo := fun _ => none, T := tinf Tryz.prog }
noncomputable def body_impl_ReadEdits : Code := rfBody (Tryz.f22.body.getD .skip)
theorem step_impl_ReadEdits_L_eq (s : (List (Int × (ByteArray × Bool))) × Int) (x : ByteArray) : ev env_impl_ReadEdits (fun _ => none) body_impl_ReadEdits (((pat_impl_ReadEdits_L.enc s).set 15 (.c (.str x))).set 7 (.c (.str x))) (kstep pat_impl_ReadEdits_L [(.exit 0, pat_impl_ReadEdits_L)]) = step_impl_ReadEdits_L s x := by kernel_rfl
theorem env_impl_ReadEdits_ok : EnvOK Tryz.prog env_impl_ReadEdits := envOK_of (fun f c h => by
  simp only [env_impl_ReadEdits] at h
  split at h
  · cases h; exact con_impl_AreEdits
  · cases h; exact con_impl_ParseEditLine
  · cases h; exact con_slices_Clone_impl_LogEdit_impl_LogEdit
  · cases h) (fun f c h => by cases h) rfl
noncomputable def F_impl_ReadEdits (x : ByteArray) : Option (List (Int × (ByteArray × Bool)) × Int × Bool) :=
  bif decide ((x.size : Int) > 2000) then some ([], 0, false) else
  match foldL step_impl_ReadEdits_L ([], 0) (linesOf x) with
  | none => none
  | some (.inl s) => some (s.1, s.2, true)
  | some (.inr s) => some (s.1, s.2, true)
def Post_impl_ReadEdits (w : World) (y : List (Int × (ByteArray × Bool)) × Int × Bool) (e : Ending) (w' : World) : Prop := ∃ v, ∃ F : Nat → Prop, e = .returned (.tuple #[v, .int .i64 y.2.1, .bool y.2.2]) ∧ (∀ b, F b → w.heap.size ≤ b ∧ b < w'.heap.size) ∧ RowOf Tryz.prog false true tyE w' NoB F v y.1 ∧ Fr NoB w w'
open Go.RowKit in
set_option maxHeartbeats 8000000 in
set_option maxRecDepth 1000000 in
theorem calls_impl_ReadEdits (x : ByteArray) (w : World) (y : List (Int × (ByteArray × Bool)) × Int × Bool) (hF : F_impl_ReadEdits x = some y) (ht : Tabs Tryz.prog w) :
    Calls Tryz.prog 22 #[.string x] w fun e w' => Post_impl_ReadEdits w y e w' := by
  refine (callsIn_wide (n := 3)).1 ?_
  refine callsIn_of_wp_marks (F := Fence.wide) Tryz.func22 rfl trivial ?_ rfl
  simp only [Tryz.ntmps22, List.size_toArray, List.length_cons, List.length_nil, Nat.reduceAdd, Nat.reduceSub, Array.replicate_succ, Array.replicate_zero, List.push_toArray, List.append_toArray, List.nil_append, List.cons_append]
  unfold F_impl_ReadEdits at hF
  have mixed : Tryz.prog.follows .mixedOrders = true := by kernel_rfl
  cases hbig : decide ((x.size : Int) > 2000) with
  | true =>
    rw [hbig] at hF
    obtain rfl : y = ([], 0, false) := (Option.some.inj hF).symm
    have hb : (2000 : Int) < (x.size : Int) := of_decide_eq_true hbig
    gi_wp2
    refine ⟨_, results_tmp3 rfl _ _ _, ?_⟩
    show Post_impl_ReadEdits _ _ _ _
    unfold Post_impl_ReadEdits
    exact ⟨_, NoB, rfl, fun _ f => f.elim, ⟨none, 0, rfl, Nat.le_refl _, .inl rfl⟩, Fr.refl _ _⟩
  | false =>
    rw [hbig] at hF
    simp only [cond_false] at hF
    have hb : ¬ (2000 : Int) < (x.size : Int) := of_decide_eq_false hbig
    gi_wp2_with (refine ⟨trivial, ?_⟩; refine (callsIn_wide.2 (calls_strings_Lines _ _)).mono ?_; rintro e w' ⟨rfl, hw⟩; rw [hw])
    generalize hact : ({ tmps := _, defers := _ } : Act) = act
    obtain ⟨W1, hW1⟩ : ∃ W1, ((w.alloc (.cells #[.slice none 0 0] 23)).alloc (.cells #[.int .i64 0] 3)).alloc (.cells #[.string x] 9) = W1 := ⟨_, rfl⟩
    rw [hW1]
    have hs1 : W1.heap.size = w.heap.size + 3 := by rw [← hW1]; simp
    have h4 : W1.heap[w.heap.size]? = some (.cells #[.slice none 0 0] 23 (0, 0)) := by rw [← hW1]; exact (Below.heap_alloc _ _ _ (by simp; omega)).trans ((Below.heap_alloc _ _ _ (by simp)).trans (World.alloc_heap_new w _))
    have h6 : W1.heap[w.heap.size + 1]? = some (.cells #[.int .i64 0] 3 (0, 0)) := by
      rw [← hW1]
      refine (Below.heap_alloc _ _ _ (by simp)).trans ?_
      have := World.alloc_heap_new (w.alloc (.cells #[.slice none 0 0] 23)) (.cells #[.int .i64 0] 3); rwa [World.size_alloc] at this
    have hbs : W1.heap[w.heap.size + 1 + 1]? = some (.cells #[.string x] 9 (0, 0)) := by
      rw [← hW1]; have := World.alloc_heap_new ((w.alloc (.cells #[.slice none 0 0] 23)).alloc (.cells #[.int .i64 0] 3)) (.cells #[.string x] 9); rwa [World.size_alloc, World.size_alloc] at this
    have hb1 : Below w.heap.size w W1 := by rw [← hW1]; exact (((Below.refl _ w).alloc (Nat.le_refl _) _).alloc (by simp) _).alloc (by simp; omega) _
    have ht1 : Tabs Tryz.prog W1 := (fr_of_below hb1).tabs ht
    cases hfold : foldL step_impl_ReadEdits_L ([], 0) (linesOf x) with
    | none => rw [hfold] at hF; cases hF
    | some r =>
    rw [hfold] at hF
    have hact4 : act.tmps[5]? = some (.pointer (some ⟨w.heap.size, 0, none⟩)) := by rw [← hact]; rfl
    have hact6 : act.tmps[6]? = some (.pointer (some ⟨w.heap.size + 1, 0, none⟩)) := by rw [← hact]; rfl
    have hLM : LM Tryz.prog [62, 126, 190] (fun b => b = w.heap.size + 1 + 1 ∨ b = W1.heap.size ∨ b = W1.heap.size + 1) w.heap.size (pat_impl_ReadEdits_L.enc ((([], (0 : Int)) : List (Int × (ByteArray × Bool)) × Int))) act.tmps W1 :=
      lm_start2 (ty := tyE) (t := 5) (b4 := w.heap.size) (t6 := 6) (b6 := w.heap.size + 1) ht1 ht.2.1 h4 ⟨Nat.le_refl _, by omega⟩ hact4 h6 ⟨by omega, by omega⟩ hact6 (by omega) (by rw [← hact]; rfl) rfl
    refine wp_lines (E := env_impl_ReadEdits) (Λ := fun _ => none) (T := [17, 18, 16, 19, 20, 8, 9, 21, 22, 23, 24, 25, 26, 27, 28, 29, 30, 31, 32, 33, 34, 35, 36, 37, 38, 39]) (pat := pat_impl_ReadEdits_L) (id := 0) (body := body_impl_ReadEdits) (n₀ := w.heap.size) (stp := step_impl_ReadEdits_L) mixed env_impl_ReadEdits_ok rfl (by kernel_rfl) (by kernel_rfl) (by kernel_rfl)
      (fun l n a W K h => assign_ok h) lines_ok (enters_of Tryz.func63 (by kernel_rfl) rfl) (by rw [← hact]) (by rw [← hact]; rfl) (by rw [← hact]; show 15 < 42; omega) (by omega) (by rw [← hact]; rfl) hbs ht.2.1 (by omega)
      (fun s x r h => (step_impl_ReadEdits_L_eq s x).trans h) (fun b => Iff.rfl) hLM hfold ?_
    intro s' W' hb' hLM' hD
    obtain ⟨b, v, e, q1, q2, q3, q4, F, qF, q5⟩ := lm_slice (t := 5) (ty := tyE) (xs := s'.1) hLM' rfl rfl rfl rfl
    obtain rfl : w.heap.size = b := by
      rw [hact4] at q1
      have := Option.some.inj q1
      simpa using this
    obtain ⟨b6, e6, q6, q7⟩ := lm_int (t := 6) (n := 190) (z := s'.2) hLM' rfl rfl
    obtain rfl : w.heap.size + 1 = b6 := by
      rw [hact6] at q6
      have := Option.some.inj q6
      simpa using this
    have hcell : W'.cell? ⟨w.heap.size, 0, none⟩ = some v := by simp [World.cell?, q2]
    have hcell6 : W'.cell? ⟨w.heap.size + 1, 0, none⟩ = some (.int .i64 s'.2) := by simp [World.cell?, q7]
    rw [hs1] at hD
    have hsz' : (W'.drew.putObj (w.heap.size + 3) (.deferred none)).heap.size = W'.heap.size := World.putObj_size
    have hrd : RowOf Tryz.prog false true tyE (W'.drew.putObj (w.heap.size + 3) (.deferred none)) NoB F v s'.1 := q5.agree (fun _ _ f => f.elim) (w' := W'.drew.putObj (w.heap.size + 3) (.deferred none)) ⟨by rw [hsz']; exact Nat.le_refl _, fun _ _ f => f.elim⟩ (fun _ h => h) ⟨by rw [hsz']; exact Nat.le_refl _, fun b _ hb => World.putObj_heap_other (w := W'.drew) (fun e => (qF b hb).2.1 (.inr (.inl (by omega))))⟩
    have hfr : Fr NoB w (W'.drew.putObj (w.heap.size + 3) (.deferred none)) := fr_of_below ((hb1.trans hb').trans ⟨rfl, rfl, rfl, by simp, fun k hk => World.putObj_heap_other (w := W'.drew) (by omega)⟩)
    subst hact
    refine ⟨fun hr => ?_, fun hr => ?_⟩
    all_goals
      subst hr
      obtain rfl : y = (s'.1, s'.2, true) := (Option.some.inj hF).symm
      gi_wp2
      refine wpIn_wide.2 ?_
      go_region_o
      gi_wp2
    all_goals
      refine ⟨by simp, .inl ⟨_, _, rfl, run_takeDeferred (w := W'.drew) hD, ?_⟩⟩
      refine ⟨_, results_tmp3 rfl _ _ _, ?_⟩
      show Post_impl_ReadEdits _ _ _ _
      unfold Post_impl_ReadEdits
      exact ⟨v, F, rfl, fun b hb => ⟨(qF b hb).1, by rw [hsz']; exact (qF b hb).2.2⟩, hrd, hfr⟩
noncomputable def c_impl_ReadEdits : Con := { ps := [(.val, .str)], rs := [(.io true, .slice tyE), (.val, .int .i64), (.val, .bool)], F := F_impl_ReadEdits }
theorem con_impl_ReadEdits : ConOK Tryz.prog 22 c_impl_ReadEdits := by
  refine ⟨⟨Tryz.f22, Tryz.func22, by kernel_rfl, by kernel_rfl⟩, fun w Z X vals x y hy _ _ hold ht _ => ?_⟩
  rw [holds_valsL [(.val, .str)] X vals x rfl hold]
  refine (calls_impl_ReadEdits x w y hy ht).mono ?_
  rintro e' w' ⟨v, F, rfl, hF, hrd, hfr⟩
  exact ⟨_, [v, .int .i64 y.2.1, .bool y.2.2], F, NoB, rfl, rfl, rfl, hfr.le, fun b hb => ⟨.inl (hF b hb).1, (hF b hb).2⟩, fun _ f => f.elim, fun _ _ f => f, holds_nil rfl _,
    ⟨v, _, F, NoB, rfl, fun _ h => h, fun _ f => f.elim, fun _ _ f => f, RowOf.agree hrd (fun _ _ f => f.elim) (Agree.refl _ _) (fun _ h => h) (Agree.refl _ _), _, _, rfl, ⟨[.int .i64 y.2.1], rfl, rfl⟩, _, [], rfl, ⟨[.bool y.2.2], rfl, rfl⟩, rfl⟩⟩

noncomputable def step_spec_joParts_0 (s : ByteArray × Int × Int × (List ByteArray)) : Option ((ByteArray × Int × Int × (List ByteArray)) ⊕ (((List ByteArray)))) :=
  bif (decide (s.2.2.1 < (s.1.size : Int))) then
    bif decide (0 ≤ s.2.2.1) && decide (s.2.2.1 < (s.1.size : Int)) then
      bif (((byteAt s.1 (s.2.2.1).toNat) == 10)) then
        let v10 := IntKind.i64.wrap (s.2.2.1 + 1)
        bif decide (0 ≤ s.2.1) && decide (s.2.1 ≤ v10) && decide (v10 ≤ (s.1.size : Int)) then
          bif decide ((s.2.2.2.length + [(s.1.extract (s.2.1).toNat (v10).toNat)].length) * 16 ≤ 140737488355328) then
            let v11 := s.2.2.2 ++ [(s.1.extract (s.2.1).toNat (v10).toNat)]
            let v12 := IntKind.i64.wrap (s.2.2.1 + 1)
            let v13 := IntKind.i64.wrap (s.2.2.1 + 1)
            some (.inl ((s.1, (v12, v13, v11))))
          else none
        else none
      else
        let v14 := IntKind.i64.wrap (s.2.2.1 + 1)
        some (.inl ((s.1, (s.2.1, v14, s.2.2.2))))
    else none
  else
    some (.inr (s.2.2.2))
def pat_spec_joParts_0 : Pat := { tmps := [.v .str, .any, .any, .own 1472, .v (.int .i64), .v (.int .i64), .any, .any, .any, .any, .any, .any, .any, .any, .any, .any, .any, .any, .any, .any, .any, .any, .any, .any, .any, .any, .any], blks := [(1472, .row true .str)] }
def outs_spec_joParts_0 : List (Exit × Pat) := [(.exit 0, { tmps := [.any, .any, .any, .own 1472, .any, .any, .any, .any, .any, .any, .any, .any, .any, .any, .any, .any, .any, .any, .any, .any, .any, .any, .any, .any, .any, .any, .any], blks := [(1472, .row true .str)] })]
noncomputable def F_spec_joParts (x : ByteArray) : Option ((List ByteArray)) :=
  match runL step_spec_joParts_0 ((x, (0, 0, []))) with
  | none => none
  | some o15 =>
    some (o15)
noncomputable def c_spec_joParts : Con := { ps := [(.val, .str)], rs := [(.io true, (.slice .str))], F := F_spec_joParts }
noncomputable def env_spec_joParts : Env := { par := [], dp := false, settle := [], con := fun _ => none, clo := fun _ => none, T := tinf Tryz.prog }
noncomputable def loops_spec_joParts : Nat → Option Loop := fun n => match n with | 4 => some { pat := pat_spec_joParts_0, outs := outs_spec_joParts_0, run := runL (step_spec_joParts_0) } | _ => none
theorem step_spec_joParts_0_eq (s : ByteArray × Int × Int × (List ByteArray)) : stepEv env_spec_joParts loops_spec_joParts pat_spec_joParts_0 outs_spec_joParts_0 Tryz.f45 4 s = step_spec_joParts_0 s := by kernel_rfl
theorem F_spec_joParts_eq (x : ByteArray) : Fev env_spec_joParts loops_spec_joParts c_spec_joParts.ps c_spec_joParts.rs Tryz.f45 x = F_spec_joParts x := by kernel_rfl
theorem env_spec_joParts_ok : EnvOK Tryz.prog env_spec_joParts := envOK_of (fun f c h => by cases h) (fun f c h => by cases h) rfl
theorem con_spec_joParts : ConOK Tryz.prog 45 c_spec_joParts := con_of_ev' (body := Tryz.f45.body.getD .skip) (Λ := loops_spec_joParts) mixed Tryz.func45 (by kernel_rfl) (by kernel_rfl) env_spec_joParts_ok (by kernel_rfl) (by kernel_rfl) (fun n L h => by
  unfold loops_spec_joParts at h
  split at h
  · cases h; exact fun s o ho => loop_ok (stepF := stepEv env_spec_joParts loops_spec_joParts pat_spec_joParts_0 outs_spec_joParts_0 Tryz.f45 4) (step_spec_joParts_0_eq) ho
  · cases h) F_spec_joParts_eq

noncomputable def step_spec_l1Split_0 (s : ByteArray × Int × Int × Int × (List ByteArray)) : Option ((ByteArray × Int × Int × Int × (List ByteArray)) ⊕ ((ByteArray × Int × (List ByteArray)))) :=
  bif (decide (s.2.2.2.1 < (s.1.size : Int))) then
    bif decide (0 ≤ s.2.2.2.1) && decide (s.2.2.2.1 < (s.1.size : Int)) then
      bif (((byteAt s.1 (s.2.2.2.1).toNat) == s.2.1)) then
        bif decide (0 ≤ s.2.2.1) && decide (s.2.2.1 ≤ s.2.2.2.1) && decide (s.2.2.2.1 ≤ (s.1.size : Int)) then
          bif decide ((s.2.2.2.2.length + [(s.1.extract (s.2.2.1).toNat (s.2.2.2.1).toNat)].length) * 16 ≤ 140737488355328) then
            let v8 := s.2.2.2.2 ++ [(s.1.extract (s.2.2.1).toNat (s.2.2.2.1).toNat)]
            let v9 := IntKind.i64.wrap (s.2.2.2.1 + 1)
            let v10 := IntKind.i64.wrap (s.2.2.2.1 + 1)
            some (.inl ((s.1, s.2.1, (v9, v10, v8))))
          else none
        else none
      else
        let v11 := IntKind.i64.wrap (s.2.2.2.1 + 1)
        some (.inl ((s.1, s.2.1, (s.2.2.1, v11, s.2.2.2.2))))
    else none
  else
    some (.inr ((s.1, s.2.2.1, s.2.2.2.2)))
def pat_spec_l1Split_0 : Pat := { tmps := [.v .str, .v (.int .u8), .any, .any, .any, .own 1600, .v (.int .i64), .v (.int .i64), .any, .any, .any, .any, .any, .any, .any, .any, .any, .any, .any, .any, .any, .any, .any, .any, .any, .any, .any, .any, .any, .any, .any, .any, .any, .any], blks := [(1600, .row true .str)] }
def outs_spec_l1Split_0 : List (Exit × Pat) := [(.exit 0, { tmps := [.v .str, .any, .any, .any, .any, .own 1600, .v (.int .i64), .any, .any, .any, .any, .any, .any, .any, .any, .any, .any, .any, .any, .any, .any, .any, .any, .any, .any, .any, .any, .any, .any, .any, .any, .any, .any, .any], blks := [(1600, .row true .str)] })]
noncomputable def F_spec_l1Split (x : ByteArray × Int) : Option ((List ByteArray)) :=
  match runL step_spec_l1Split_0 ((x.1, x.2, (0, 0, []))) with
  | none => none
  | some o12 =>
    bif decide (0 ≤ o12.2.1) && decide (o12.2.1 ≤ (o12.1.size : Int)) && decide ((o12.1.size : Int) ≤ (o12.1.size : Int)) then
      bif decide ((o12.2.2.length + [(o12.1.extract (o12.2.1).toNat ((o12.1.size : Int)).toNat)].length) * 16 ≤ 140737488355328) then
        let v13 := o12.2.2 ++ [(o12.1.extract (o12.2.1).toNat ((o12.1.size : Int)).toNat)]
        some (v13)
      else none
    else none
noncomputable def c_spec_l1Split : Con := { ps := [(.val, .str), (.val, (.int .u8))], rs := [(.io true, (.slice .str))], F := F_spec_l1Split }
noncomputable def env_spec_l1Split : Env := { par := [], dp := false, settle := [], con := fun _ => none, clo := fun _ => none, T := tinf Tryz.prog }
noncomputable def loops_spec_l1Split : Nat → Option Loop := fun n => match n with | 4 => some { pat := pat_spec_l1Split_0, outs := outs_spec_l1Split_0, run := runL (step_spec_l1Split_0) } | _ => none
theorem step_spec_l1Split_0_eq (s : ByteArray × Int × Int × Int × (List ByteArray)) : stepEv env_spec_l1Split loops_spec_l1Split pat_spec_l1Split_0 outs_spec_l1Split_0 Tryz.f64 4 s = step_spec_l1Split_0 s := by kernel_rfl
theorem F_spec_l1Split_eq (x : ByteArray × Int) : Fev env_spec_l1Split loops_spec_l1Split c_spec_l1Split.ps c_spec_l1Split.rs Tryz.f64 x = F_spec_l1Split x := by kernel_rfl
theorem env_spec_l1Split_ok : EnvOK Tryz.prog env_spec_l1Split := envOK_of (fun f c h => by cases h) (fun f c h => by cases h) rfl
theorem con_spec_l1Split : ConOK Tryz.prog 64 c_spec_l1Split := con_of_ev' (body := Tryz.f64.body.getD .skip) (Λ := loops_spec_l1Split) mixed Tryz.func64 (by kernel_rfl) (by kernel_rfl) env_spec_l1Split_ok (by kernel_rfl) (by kernel_rfl) (fun n L h => by
  unfold loops_spec_l1Split at h
  split at h
  · cases h; exact fun s o ho => loop_ok (stepF := stepEv env_spec_l1Split loops_spec_l1Split pat_spec_l1Split_0 outs_spec_l1Split_0 Tryz.f64 4) (step_spec_l1Split_0_eq) ho
  · cases h) F_spec_l1Split_eq

noncomputable def step_spec_l1Read_0 (s : ByteArray × Int × Int) : Option ((ByteArray × Int × Int) ⊕ ((Int) ⊕ (Int))) :=
  bif (decide (s.2.2 < (s.1.size : Int))) then
    bif decide (0 ≤ s.2.2) && decide (s.2.2 < (s.1.size : Int)) then
      bif (decide ((byteAt s.1 (s.2.2).toNat) < 48)) then
        some (.inr (.inl ((-1))))
      else
        bif decide (0 ≤ s.2.2) && decide (s.2.2 < (s.1.size : Int)) then
          bif (decide ((byteAt s.1 (s.2.2).toNat) > 57)) then
            some (.inr (.inl ((-1))))
          else
            let v18 := IntKind.i64.wrap (10 * s.2.1)
            bif decide (0 ≤ s.2.2) && decide (s.2.2 < (s.1.size : Int)) then
              let v19 := IntKind.u8.wrap ((byteAt s.1 (s.2.2).toNat) - 48)
              let v20 := IntKind.i64.wrap v19
              let v21 := IntKind.i64.wrap (v18 + v20)
              let v22 := IntKind.i64.wrap (s.2.2 + 1)
              some (.inl ((s.1, v21, v22)))
            else none
        else none
    else none
  else
    some (.inr (.inr (s.2.1)))
def pat_spec_l1Read_0 : Pat := { tmps := [.v .str, .any, .any, .v (.int .i64), .v (.int .i64), .any, .any, .any, .any, .any, .any, .any, .any, .any, .any, .any, .any, .any, .any, .any, .any, .any, .any, .any, .any, .any, .any, .any, .any, .any, .any, .any, .any, .any, .any, .any, .any, .any, .any, .any, .any, .any, .any, .any], blks := [] }
def outs_spec_l1Read_0 : List (Exit × Pat) := [(.ret, { tmps := [.any, .any, .v (.int .i64), .any, .any, .any, .any, .any, .any, .any, .any, .any, .any, .any, .any, .any, .any, .any, .any, .any, .any, .any, .any, .any, .any, .any, .any, .any, .any, .any, .any, .any, .any, .any, .any, .any, .any, .any, .any, .any, .any, .any, .any, .any], blks := [] }), (.exit 0, { tmps := [.any, .any, .any, .v (.int .i64), .any, .any, .any, .any, .any, .any, .any, .any, .any, .any, .any, .any, .any, .any, .any, .any, .any, .any, .any, .any, .any, .any, .any, .any, .any, .any, .any, .any, .any, .any, .any, .any, .any, .any, .any, .any, .any, .any, .any, .any], blks := [] })]
noncomputable def F_spec_l1Read (x : ByteArray) : Option (Int) :=
  match F_spec_l1In (((x.size : Int), 1, 6)) with
  | none => none
  | some y1 =>
    bif (!y1) then
      some ((-1))
    else
      bif decide (0 ≤ 0) && decide (0 < (x.size : Int)) then
        bif (((byteAt x (0 : Int).toNat) == 48)) then
          bif (decide ((x.size : Int) > 1)) then
            some ((-1))
          else
            match runL step_spec_l1Read_0 ((x, 0, 0)) with
            | none => none
            | some (.inl o12) =>
              some (o12)
            | some (.inr o12) =>
              some (o12)
        else
          match runL step_spec_l1Read_0 ((x, 0, 0)) with
          | none => none
          | some (.inl o23) =>
            some (o23)
          | some (.inr o23) =>
            some (o23)
      else none
noncomputable def c_spec_l1Read : Con := { ps := [(.val, .str)], rs := [(.val, (.int .i64))], F := F_spec_l1Read }
noncomputable def env_spec_l1Read : Env := { par := [], dp := false, settle := [], con := fun f => match f with | 32 => some c_spec_l1In | _ => none, clo := fun _ => none, T := tinf Tryz.prog }
noncomputable def loops_spec_l1Read : Nat → Option Loop := fun n => match n with | 5 => some { pat := pat_spec_l1Read_0, outs := outs_spec_l1Read_0, run := runL (step_spec_l1Read_0) } | _ => none
theorem step_spec_l1Read_0_eq (s : ByteArray × Int × Int) : stepEv env_spec_l1Read loops_spec_l1Read pat_spec_l1Read_0 outs_spec_l1Read_0 Tryz.f65 5 s = step_spec_l1Read_0 s := by kernel_rfl
theorem F_spec_l1Read_eq (x : ByteArray) : Fev env_spec_l1Read loops_spec_l1Read c_spec_l1Read.ps c_spec_l1Read.rs Tryz.f65 x = F_spec_l1Read x := by kernel_rfl
theorem env_spec_l1Read_ok : EnvOK Tryz.prog env_spec_l1Read := envOK_of (fun f c h => by
  simp only [env_spec_l1Read] at h
  split at h
  · cases h; exact con_spec_l1In
  · cases h) (fun f c h => by cases h) rfl
theorem con_spec_l1Read : ConOK Tryz.prog 65 c_spec_l1Read := con_of_ev' (body := Tryz.f65.body.getD .skip) (Λ := loops_spec_l1Read) mixed Tryz.func65 (by kernel_rfl) (by kernel_rfl) env_spec_l1Read_ok (by kernel_rfl) (by kernel_rfl) (fun n L h => by
  unfold loops_spec_l1Read at h
  split at h
  · cases h; exact fun s o ho => loop_ok (stepF := stepEv env_spec_l1Read loops_spec_l1Read pat_spec_l1Read_0 outs_spec_l1Read_0 Tryz.f65 5) (step_spec_l1Read_0_eq) ho
  · cases h) F_spec_l1Read_eq

noncomputable def step_spec_joParse_0 (s : ByteArray × Int × Int × ByteArray × Bool) : Option ((ByteArray × Int × Int × ByteArray × Bool) ⊕ ((Bool × Int × ByteArray × Bool) ⊕ (Int × ByteArray × Bool))) :=
  bif (decide (s.2.1 < (s.1.size : Int))) then
    bif (decide (s.2.1 < 4)) then
      bif decide (0 ≤ s.2.1) && decide (s.2.1 < (s.1.size : Int)) then
        bif (((byteAt s.1 (s.2.1).toNat) != 43)) then
          bif decide (0 ≤ s.2.1) && decide (s.2.1 < (s.1.size : Int)) then
            bif (((byteAt s.1 (s.2.1).toNat) != 45)) then
              let v12 := IntKind.i64.wrap (s.2.1 + 1)
              some (.inl ((s.1, v12, s.2.2)))
            else
              let v13 := IntKind.i64.wrap (s.2.1 + 1)
              bif decide (0 ≤ v13) && decide (v13 ≤ (s.1.size : Int)) && decide ((s.1.size : Int) ≤ (s.1.size : Int)) then
                match F_spec_l1Split (((s.1.extract (v13).toNat ((s.1.size : Int)).toNat), 46)) with
                | none => none
                | some y14 =>
                  bif decide (0 ≤ (0 : Int)) && decide ((0 : Int) ≤ s.2.1) && decide (s.2.1 ≤ (s.1.size : Int)) then
                    bif decide (0 ≤ 0) && decide (0 < (y14.length : Int)) then
                      bif decide (0 ≤ s.2.1) && decide (s.2.1 < (s.1.size : Int)) then
                        match F_spec_l1Read ((s.1.extract ((0 : Int)).toNat (s.2.1).toNat)) with
                        | none => none
                        | some y15 =>
                          match F_spec_joOne ((y15, (y14.getD (0 : Int).toNat ByteArray.empty), (((byteAt s.1 (s.2.1).toNat) == 45)))) with
                          | none => none
                          | some y16 =>
                            bif y16 then
                              match F_spec_joLine ((y15, (y14.getD (0 : Int).toNat ByteArray.empty), (((byteAt s.1 (s.2.1).toNat) == 45)))) with
                              | none => none
                              | some y17 =>
                                bif (y17.toList == s.1.toList) then
                                  some (.inr (.inl ((true, (y15, (y14.getD (0 : Int).toNat ByteArray.empty), (((byteAt s.1 (s.2.1).toNat) == 45)))))))
                                else
                                  some (.inr (.inr (s.2.2)))
                            else
                              some (.inr (.inr (s.2.2)))
                      else none
                    else none
                  else none
              else none
          else none
        else
          let v18 := IntKind.i64.wrap (s.2.1 + 1)
          bif decide (0 ≤ v18) && decide (v18 ≤ (s.1.size : Int)) && decide ((s.1.size : Int) ≤ (s.1.size : Int)) then
            match F_spec_l1Split (((s.1.extract (v18).toNat ((s.1.size : Int)).toNat), 46)) with
            | none => none
            | some y19 =>
              bif decide (0 ≤ (0 : Int)) && decide ((0 : Int) ≤ s.2.1) && decide (s.2.1 ≤ (s.1.size : Int)) then
                bif decide (0 ≤ 0) && decide (0 < (y19.length : Int)) then
                  bif decide (0 ≤ s.2.1) && decide (s.2.1 < (s.1.size : Int)) then
                    match F_spec_l1Read ((s.1.extract ((0 : Int)).toNat (s.2.1).toNat)) with
                    | none => none
                    | some y20 =>
                      match F_spec_joOne ((y20, (y19.getD (0 : Int).toNat ByteArray.empty), (((byteAt s.1 (s.2.1).toNat) == 45)))) with
                      | none => none
                      | some y21 =>
                        bif y21 then
                          match F_spec_joLine ((y20, (y19.getD (0 : Int).toNat ByteArray.empty), (((byteAt s.1 (s.2.1).toNat) == 45)))) with
                          | none => none
                          | some y22 =>
                            bif (y22.toList == s.1.toList) then
                              some (.inr (.inl ((true, (y20, (y19.getD (0 : Int).toNat ByteArray.empty), (((byteAt s.1 (s.2.1).toNat) == 45)))))))
                            else
                              some (.inr (.inr (s.2.2)))
                        else
                          some (.inr (.inr (s.2.2)))
                  else none
                else none
              else none
          else none
      else none
    else
      some (.inr (.inr (s.2.2)))
  else
    some (.inr (.inr (s.2.2)))
def pat_spec_joParse_0 : Pat := { tmps := [.v .str, .any, .ptr 128 0, .any, .v (.int .i64), .any, .any, .any, .any, .any, .any, .any, .any, .any, .any, .any, .any, .any, .any, .any, .any, .any, .any, .any, .any, .any, .any, .any, .any, .any, .any, .any, .any, .any, .any, .any, .any, .any, .any, .any, .any, .any, .any, .any, .any, .any, .any, .any, .any, .any, .any, .any, .any, .any], blks := [(128, .box [.v (.int .i64), .v .str, .v .bool])] }
def outs_spec_joParse_0 : List (Exit × Pat) := [(.ret, { tmps := [.any, .any, .ptr 128 0, .v .bool, .any, .any, .any, .any, .any, .any, .any, .any, .any, .any, .any, .any, .any, .any, .any, .any, .any, .any, .any, .any, .any, .any, .any, .any, .any, .any, .any, .any, .any, .any, .any, .any, .any, .any, .any, .any, .any, .any, .any, .any, .any, .any, .any, .any, .any, .any, .any, .any, .any, .any], blks := [(128, .box [.v (.int .i64), .v .str, .v .bool])] }), (.exit 0, { tmps := [.any, .any, .ptr 128 0, .any, .any, .any, .any, .any, .any, .any, .any, .any, .any, .any, .any, .any, .any, .any, .any, .any, .any, .any, .any, .any, .any, .any, .any, .any, .any, .any, .any, .any, .any, .any, .any, .any, .any, .any, .any, .any, .any, .any, .any, .any, .any, .any, .any, .any, .any, .any, .any, .any, .any, .any], blks := [(128, .box [.v (.int .i64), .v .str, .v .bool])] })]
noncomputable def F_spec_joParse (x : ByteArray) : Option ((Int × (ByteArray × Bool)) × Bool) :=
  match runL step_spec_joParse_0 ((x, 0, (0, ByteArray.empty, false))) with
  | none => none
  | some (.inl o23) =>
    some ((o23.2, o23.1))
  | some (.inr o23) =>
    some (((0, ByteArray.empty, false), false))
noncomputable def c_spec_joParse : Con := { ps := [(.val, .str)], rs := [(.val, (.st (.pair (.int .i64) (.pair .str .bool)))), (.val, .bool)], F := F_spec_joParse }
noncomputable def env_spec_joParse : Env := { par := [], dp := false, settle := [], con := fun f => match f with | 41 => some c_spec_joOne | 42 => some c_spec_joLine | 64 => some c_spec_l1Split | 65 => some c_spec_l1Read | _ => none, clo := fun _ => none, T := tinf Tryz.prog }
noncomputable def loops_spec_joParse : Nat → Option Loop := fun n => match n with | 2 => some { pat := pat_spec_joParse_0, outs := outs_spec_joParse_0, run := runL (step_spec_joParse_0) } | _ => none
theorem step_spec_joParse_0_eq (s : ByteArray × Int × Int × ByteArray × Bool) : stepEv env_spec_joParse loops_spec_joParse pat_spec_joParse_0 outs_spec_joParse_0 Tryz.f46 2 s = step_spec_joParse_0 s := by kernel_rfl
theorem F_spec_joParse_eq (x : ByteArray) : Fev env_spec_joParse loops_spec_joParse c_spec_joParse.ps c_spec_joParse.rs Tryz.f46 x = F_spec_joParse x := by kernel_rfl
theorem env_spec_joParse_ok : EnvOK Tryz.prog env_spec_joParse := envOK_of (fun f c h => by
  simp only [env_spec_joParse] at h
  split at h
  · cases h; exact con_spec_joOne
  · cases h; exact con_spec_joLine
  · cases h; exact con_spec_l1Split
  · cases h; exact con_spec_l1Read
  · cases h) (fun f c h => by cases h) rfl
theorem con_spec_joParse : ConOK Tryz.prog 46 c_spec_joParse := con_of_ev' (body := Tryz.f46.body.getD .skip) (Λ := loops_spec_joParse) mixed Tryz.func46 (by kernel_rfl) (by kernel_rfl) env_spec_joParse_ok (by kernel_rfl) (by kernel_rfl) (fun n L h => by
  unfold loops_spec_joParse at h
  split at h
  · cases h; exact fun s o ho => loop_ok (stepF := stepEv env_spec_joParse loops_spec_joParse pat_spec_joParse_0 outs_spec_joParse_0 Tryz.f46 2) (step_spec_joParse_0_eq) ho
  · cases h) F_spec_joParse_eq

noncomputable def F_spec_joNext (x : (List (Int × (ByteArray × Bool))) × (Int × (ByteArray × Bool))) : Option (Bool) :=
  bif (decide ((x.1.length : Int) < 40)) then
    bif (((x.1.length : Int) == 0)) then
      some (true)
    else
      let v1 := IntKind.i64.wrap ((x.1.length : Int) - 1)
      bif decide (0 ≤ v1) && decide (v1 < (x.1.length : Int)) then
        some ((decide ((x.1.getD (v1).toNat (0, ByteArray.empty, false)).1 < x.2.1)))
      else none
  else
    some (false)
noncomputable def c_spec_joNext : Con := { ps := [(.val, (.slice (.st (.pair (.int .i64) (.pair .str .bool))))), (.val, (.st (.pair (.int .i64) (.pair .str .bool))))], rs := [(.val, .bool)], F := F_spec_joNext }
noncomputable def env_spec_joNext : Env := { par := [], dp := false, settle := [], con := fun _ => none, clo := fun _ => none, T := tinf Tryz.prog }
noncomputable def loops_spec_joNext : Nat → Option Loop := fun n => none
theorem F_spec_joNext_eq (x : (List (Int × (ByteArray × Bool))) × (Int × (ByteArray × Bool))) : Fev env_spec_joNext loops_spec_joNext c_spec_joNext.ps c_spec_joNext.rs Tryz.f47 x = F_spec_joNext x := by kernel_rfl
theorem env_spec_joNext_ok : EnvOK Tryz.prog env_spec_joNext := envOK_of (fun f c h => by cases h) (fun f c h => by cases h) rfl
theorem con_spec_joNext : ConOK Tryz.prog 47 c_spec_joNext := con_of_ev' (body := Tryz.f47.body.getD .skip) (Λ := loops_spec_joNext) mixed Tryz.func47 (by kernel_rfl) (by kernel_rfl) env_spec_joNext_ok (by kernel_rfl) (by kernel_rfl) (fun n L h => by cases h) F_spec_joNext_eq

noncomputable def step_spec_ReadEdits_0 (s : Int × Int × Int × (List ByteArray) × (List (Int × (ByteArray × Bool)))) : Option ((Int × Int × Int × (List ByteArray) × (List (Int × (ByteArray × Bool)))) ⊕ ((Int × (List (Int × (ByteArray × Bool)))))) :=
  bif (decide (s.2.2.1 < s.2.1)) then
    bif decide (0 ≤ s.2.2.1) && decide (s.2.2.1 < (s.2.2.2.1.length : Int)) then
      match F_spec_joParse ((s.2.2.2.1.getD (s.2.2.1).toNat ByteArray.empty)) with
      | none => none
      | some y11 =>
        bif (!y11.2) then
          some (.inr ((s.1, s.2.2.2.2)))
        else
          match F_spec_joNext ((s.2.2.2.2, y11.1)) with
          | none => none
          | some y12 =>
            bif (!y12) then
              some (.inr ((s.1, s.2.2.2.2)))
            else
              bif decide ((s.2.2.2.2.length + [y11.1].length) * 32 ≤ 140737488355328) then
                let v13 := s.2.2.2.2 ++ [y11.1]
                let v14 := IntKind.i64.wrap (s.1 + ((s.2.2.2.1.getD (s.2.2.1).toNat ByteArray.empty).size : Int))
                let v15 := IntKind.i64.wrap (s.2.2.1 + 1)
                some (.inl ((v14, s.2.1, (v15, s.2.2.2.1, v13))))
              else none
    else none
  else
    some (.inr ((s.1, s.2.2.2.2)))
def pat_spec_ReadEdits_0 : Pat := { tmps := [.any, .any, .any, .any, .any, .own 2368, .v (.int .i64), .any, .any, .any, .any, .any, .any, .any, .any, .own 960, .v (.int .i64), .v (.int .i64), .any, .any, .any, .any, .any, .any, .any, .any, .any, .any, .any, .any, .any, .any, .any, .any, .any, .any, .any, .any, .any, .any, .any, .any, .any, .any, .any], blks := [(960, .row true .str), (2368, .row true (.st (.pair (.int .i64) (.pair .str .bool))))] }
def outs_spec_ReadEdits_0 : List (Exit × Pat) := [(.exit 0, { tmps := [.any, .any, .any, .any, .any, .own 2368, .v (.int .i64), .any, .any, .any, .any, .any, .any, .any, .any, .any, .any, .any, .any, .any, .any, .any, .any, .any, .any, .any, .any, .any, .any, .any, .any, .any, .any, .any, .any, .any, .any, .any, .any, .any, .any, .any, .any, .any, .any], blks := [(2368, .row true (.st (.pair (.int .i64) (.pair .str .bool))))] })]
noncomputable def F_spec_ReadEdits (x : ByteArray) : Option ((List (Int × (ByteArray × Bool))) × Int × Bool) :=
  bif (decide ((x.size : Int) > 2000)) then
    some (([], 0, false))
  else
    match F_spec_joParts (x) with
    | none => none
    | some y1 =>
      match runL step_spec_ReadEdits_0 ((0, (y1.length : Int), (0, y1, []))) with
      | none => none
      | some o16 =>
        some ((o16.2, o16.1, true))
noncomputable def c_spec_ReadEdits : Con := { ps := [(.val, .str)], rs := [(.io true, (.slice (.st (.pair (.int .i64) (.pair .str .bool))))), (.val, (.int .i64)), (.val, .bool)], F := F_spec_ReadEdits }
noncomputable def env_spec_ReadEdits : Env := { par := [], dp := false, settle := [], con := fun f => match f with | 45 => some c_spec_joParts | 46 => some c_spec_joParse | 47 => some c_spec_joNext | _ => none, clo := fun _ => none, T := tinf Tryz.prog }
noncomputable def loops_spec_ReadEdits : Nat → Option Loop := fun n => match n with | 6 => some { pat := pat_spec_ReadEdits_0, outs := outs_spec_ReadEdits_0, run := runL (step_spec_ReadEdits_0) } | _ => none
theorem step_spec_ReadEdits_0_eq (s : Int × Int × Int × (List ByteArray) × (List (Int × (ByteArray × Bool)))) : stepEv env_spec_ReadEdits loops_spec_ReadEdits pat_spec_ReadEdits_0 outs_spec_ReadEdits_0 Tryz.f23 6 s = step_spec_ReadEdits_0 s := by kernel_rfl
theorem F_spec_ReadEdits_eq (x : ByteArray) : Fev env_spec_ReadEdits loops_spec_ReadEdits c_spec_ReadEdits.ps c_spec_ReadEdits.rs Tryz.f23 x = F_spec_ReadEdits x := by kernel_rfl
theorem env_spec_ReadEdits_ok : EnvOK Tryz.prog env_spec_ReadEdits := envOK_of (fun f c h => by
  simp only [env_spec_ReadEdits] at h
  split at h
  · cases h; exact con_spec_joParts
  · cases h; exact con_spec_joParse
  · cases h; exact con_spec_joNext
  · cases h) (fun f c h => by cases h) rfl
theorem con_spec_ReadEdits : ConOK Tryz.prog 23 c_spec_ReadEdits := con_of_ev' (body := Tryz.f23.body.getD .skip) (Λ := loops_spec_ReadEdits) mixed Tryz.func23 (by kernel_rfl) (by kernel_rfl) env_spec_ReadEdits_ok (by kernel_rfl) (by kernel_rfl) (fun n L h => by
  unfold loops_spec_ReadEdits at h
  split at h
  · cases h; exact fun s o ho => loop_ok (stepF := stepEv env_spec_ReadEdits loops_spec_ReadEdits pat_spec_ReadEdits_0 outs_spec_ReadEdits_0 Tryz.f23 6) (step_spec_ReadEdits_0_eq) ho
  · cases h) F_spec_ReadEdits_eq

end Go.Proofs.YtjmagdcgniklgaaGreatDoor
