/- Contracts of functions of the program, written by a program of this claim. No conditions. -/
import Derived.Test.YtldeplpiokdmpaaDoorEvZk
import Derived.Test.YtldeplpiokdmpaaDoorRows
import Derived.Shelf.Strings.Search1
import Derived.Lib.AppendIntMem
import Derived.Test.YtldeplpiokdmpaaDoorEvZl
import Derived.OwnWalk
import Derived.Lib.SliceRun
import Derived.WalkKit
import Derived.Deep.LoopGhost
import Derived.Lib.Walk
import Derived.OwnWalk
import Derived.OwnWalk
import Derived.Test.YtldeplpiokdmpaaDoorNu
import Derived.Test.YtldeplpiokdmpaaDoorIdz
import Derived.Test.YtldeplpiokdmpaaDoorShelf
import Derived.Test.YtldeplpiokdmpaaDoorEvZt
import Derived.Test.YtldeplpiokdmpaaDoorLi
set_option linter.unusedVariables false
set_option maxRecDepth 100000
namespace Go.Proofs.YtldeplpiokdmpaaDoor
open Go
theorem mixed : Tryd.prog.follows .mixedOrders = true := by kernel_rfl
noncomputable def F_spec_l1Cur_next (x : ((List Int) × (Int × Int))) : Option (((List Int) × (Int × Int)) × Int) :=
  bif (decide (x.2.1 < (x.1.length : Int))) then
    bif decide (0 ≤ x.2.1) && decide (x.2.1 < (x.1.length : Int)) then
      let v1 := IntKind.i64.wrap (x.1.getD (x.2.1).toNat 0)
      let v2 := IntKind.i64.wrap (x.2.1 + 1)
      let v3 := IntKind.u64.wrap (x.2.2 * 6364136223846793005)
      let v4 := IntKind.u64.wrap v1
      let v5 := IntKind.u64.wrap (v3 + v4)
      let v6 := IntKind.u64.wrap (v5 + 1442695040888963407)
      bif (decide (v2 ≤ (x.1.length : Int))) then
        some (((x.1, v2, v6), v1))
      else
        bif decide (0 ≤ (40 : Int)) then
          let v7 := (v6).fdiv (2 ^ (min (40 : Int).toNat IntKind.u64.bits))
          let v8 := IntKind.u64.wrap ((BitVec.ofInt IntKind.u64.bits (v7) &&& BitVec.ofInt IntKind.u64.bits (255)).toNat : Nat)
          let v9 := IntKind.i64.wrap v8
          some (((x.1, v2, v6), v9))
        else none
    else none
  else
    let v10 := IntKind.i64.wrap (x.2.1 + 1)
    let v11 := IntKind.u64.wrap (x.2.2 * 6364136223846793005)
    let v12 := IntKind.u64.wrap 0
    let v13 := IntKind.u64.wrap (v11 + v12)
    let v14 := IntKind.u64.wrap (v13 + 1442695040888963407)
    bif (decide (v10 ≤ (x.1.length : Int))) then
      some (((x.1, v10, v14), 0))
    else
      bif decide (0 ≤ (40 : Int)) then
        let v15 := (v14).fdiv (2 ^ (min (40 : Int).toNat IntKind.u64.bits))
        let v16 := IntKind.u64.wrap ((BitVec.ofInt IntKind.u64.bits (v15) &&& BitVec.ofInt IntKind.u64.bits (255)).toNat : Nat)
        let v17 := IntKind.i64.wrap v16
        some (((x.1, v10, v14), v17))
      else none
noncomputable def c_spec_l1Cur_next : Con := { ps := [(.io false, (.ptr (.st (.pair (.slice (.int .u8)) (.pair (.int .i64) (.int .u64))))))], rs := [(.val, (.int .i64))], F := F_spec_l1Cur_next }
noncomputable def env_spec_l1Cur_next : Env := { par := [63], dp := false, settle := [], con := fun _ => none, clo := fun _ => none, T := tinf Tryd.prog }
noncomputable def loops_spec_l1Cur_next : Nat → Option Loop := fun n => none
theorem F_spec_l1Cur_next_eq (x : ((List Int) × (Int × Int))) : Fev env_spec_l1Cur_next loops_spec_l1Cur_next c_spec_l1Cur_next.ps c_spec_l1Cur_next.rs Tryd.f49 x = F_spec_l1Cur_next x := by kernel_rfl
theorem env_spec_l1Cur_next_ok : EnvOK Tryd.prog env_spec_l1Cur_next := envOK_of (fun f c h => by cases h) (fun f c h => by cases h) rfl
theorem con_spec_l1Cur_next : ConOK Tryd.prog 49 c_spec_l1Cur_next := con_of_ev' (body := Tryd.f49.body.getD .skip) (Λ := loops_spec_l1Cur_next) mixed Tryd.func49 (by kernel_rfl) (by kernel_rfl) env_spec_l1Cur_next_ok (by kernel_rfl) (by kernel_rfl) (fun n L h => by cases h) F_spec_l1Cur_next_eq

noncomputable def F_spec_l1Cur_pick (x : ((List Int) × (Int × Int)) × Int) : Option (((List Int) × (Int × Int)) × Int) :=
  bif (decide (x.2 ≤ 1)) then
    some ((x.1, 0))
  else
    match F_spec_l1Cur_next (x.1) with
    | none => none
    | some y1 =>
      bif (decide (x.2 > 200)) then
        let v2 := IntKind.i64.wrap (y1.2 * 256)
        match F_spec_l1Cur_next (y1.1) with
        | none => none
        | some y3 =>
          let v4 := IntKind.i64.wrap (v2 + y3.2)
          bif !decide (x.2 = 0) then
            let v5 := (v4).tmod x.2
            some ((y3.1, v5))
          else none
      else
        bif !decide (x.2 = 0) then
          let v6 := (y1.2).tmod x.2
          some ((y1.1, v6))
        else none
noncomputable def c_spec_l1Cur_pick : Con := { ps := [(.io false, (.ptr (.st (.pair (.slice (.int .u8)) (.pair (.int .i64) (.int .u64)))))), (.val, (.int .i64))], rs := [(.val, (.int .i64))], F := F_spec_l1Cur_pick }
noncomputable def env_spec_l1Cur_pick : Env := { par := [63], dp := false, settle := [], con := fun f => match f with | 49 => some c_spec_l1Cur_next | _ => none, clo := fun _ => none, T := tinf Tryd.prog }
noncomputable def loops_spec_l1Cur_pick : Nat → Option Loop := fun n => none
theorem F_spec_l1Cur_pick_eq (x : ((List Int) × (Int × Int)) × Int) : Fev env_spec_l1Cur_pick loops_spec_l1Cur_pick c_spec_l1Cur_pick.ps c_spec_l1Cur_pick.rs Tryd.f28 x = F_spec_l1Cur_pick x := by kernel_rfl
theorem env_spec_l1Cur_pick_ok : EnvOK Tryd.prog env_spec_l1Cur_pick := envOK_of (fun f c h => by
  simp only [env_spec_l1Cur_pick] at h
  split at h
  · cases h; exact con_spec_l1Cur_next
  · cases h) (fun f c h => by cases h) rfl
theorem con_spec_l1Cur_pick : ConOK Tryd.prog 28 c_spec_l1Cur_pick := con_of_ev' (body := Tryd.f28.body.getD .skip) (Λ := loops_spec_l1Cur_pick) mixed Tryd.func28 (by kernel_rfl) (by kernel_rfl) env_spec_l1Cur_pick_ok (by kernel_rfl) (by kernel_rfl) (fun n L h => by cases h) F_spec_l1Cur_pick_eq

noncomputable def F_spec_l1Cur_one (x : ((List Int) × (Int × Int)) × Int) : Option (((List Int) × (Int × Int)) × Bool) :=
  match F_spec_l1Cur_pick (x) with
  | none => none
  | some y1 =>
    some ((y1.1, ((y1.2 == 0))))
noncomputable def c_spec_l1Cur_one : Con := { ps := [(.io false, (.ptr (.st (.pair (.slice (.int .u8)) (.pair (.int .i64) (.int .u64)))))), (.val, (.int .i64))], rs := [(.val, .bool)], F := F_spec_l1Cur_one }
noncomputable def env_spec_l1Cur_one : Env := { par := [63], dp := false, settle := [], con := fun f => match f with | 28 => some c_spec_l1Cur_pick | _ => none, clo := fun _ => none, T := tinf Tryd.prog }
noncomputable def loops_spec_l1Cur_one : Nat → Option Loop := fun n => none
theorem F_spec_l1Cur_one_eq (x : ((List Int) × (Int × Int)) × Int) : Fev env_spec_l1Cur_one loops_spec_l1Cur_one c_spec_l1Cur_one.ps c_spec_l1Cur_one.rs Tryd.f37 x = F_spec_l1Cur_one x := by kernel_rfl
theorem env_spec_l1Cur_one_ok : EnvOK Tryd.prog env_spec_l1Cur_one := envOK_of (fun f c h => by
  simp only [env_spec_l1Cur_one] at h
  split at h
  · cases h; exact con_spec_l1Cur_pick
  · cases h) (fun f c h => by cases h) rfl
theorem con_spec_l1Cur_one : ConOK Tryd.prog 37 c_spec_l1Cur_one := con_of_ev' (body := Tryd.f37.body.getD .skip) (Λ := loops_spec_l1Cur_one) mixed Tryd.func37 (by kernel_rfl) (by kernel_rfl) env_spec_l1Cur_one_ok (by kernel_rfl) (by kernel_rfl) (fun n L h => by cases h) F_spec_l1Cur_one_eq

noncomputable def F_spec_l1Cur_of (x : ((List Int) × (Int × Int)) × (List ByteArray)) : Option (((List Int) × (Int × Int)) × ByteArray) :=
  match F_spec_l1Cur_pick ((x.1, (x.2.length : Int))) with
  | none => none
  | some y1 =>
    bif decide (0 ≤ y1.2) && decide (y1.2 < (x.2.length : Int)) then
      some ((y1.1, (x.2.getD (y1.2).toNat ByteArray.empty)))
    else none
noncomputable def c_spec_l1Cur_of : Con := { ps := [(.io false, (.ptr (.st (.pair (.slice (.int .u8)) (.pair (.int .i64) (.int .u64)))))), (.val, (.slice .str))], rs := [(.val, .str)], F := F_spec_l1Cur_of }
noncomputable def env_spec_l1Cur_of : Env := { par := [63], dp := false, settle := [], con := fun f => match f with | 28 => some c_spec_l1Cur_pick | _ => none, clo := fun _ => none, T := tinf Tryd.prog }
noncomputable def loops_spec_l1Cur_of : Nat → Option Loop := fun n => none
theorem F_spec_l1Cur_of_eq (x : ((List Int) × (Int × Int)) × (List ByteArray)) : Fev env_spec_l1Cur_of loops_spec_l1Cur_of c_spec_l1Cur_of.ps c_spec_l1Cur_of.rs Tryd.f50 x = F_spec_l1Cur_of x := by kernel_rfl
theorem env_spec_l1Cur_of_ok : EnvOK Tryd.prog env_spec_l1Cur_of := envOK_of (fun f c h => by
  simp only [env_spec_l1Cur_of] at h
  split at h
  · cases h; exact con_spec_l1Cur_pick
  · cases h) (fun f c h => by cases h) rfl
theorem con_spec_l1Cur_of : ConOK Tryd.prog 50 c_spec_l1Cur_of := con_of_ev' (body := Tryd.f50.body.getD .skip) (Λ := loops_spec_l1Cur_of) mixed Tryd.func50 (by kernel_rfl) (by kernel_rfl) env_spec_l1Cur_of_ok (by kernel_rfl) (by kernel_rfl) (fun n L h => by cases h) F_spec_l1Cur_of_eq

noncomputable def F_spec_l1Cur_among (x : ((List Int) × (Int × Int)) × (List Int)) : Option (((List Int) × (Int × Int)) × Int) :=
  match F_spec_l1Cur_pick ((x.1, (x.2.length : Int))) with
  | none => none
  | some y1 =>
    bif decide (0 ≤ y1.2) && decide (y1.2 < (x.2.length : Int)) then
      some ((y1.1, (x.2.getD (y1.2).toNat 0)))
    else none
noncomputable def c_spec_l1Cur_among : Con := { ps := [(.io false, (.ptr (.st (.pair (.slice (.int .u8)) (.pair (.int .i64) (.int .u64)))))), (.val, (.slice (.int .i64)))], rs := [(.val, (.int .i64))], F := F_spec_l1Cur_among }
noncomputable def env_spec_l1Cur_among : Env := { par := [63], dp := false, settle := [], con := fun f => match f with | 28 => some c_spec_l1Cur_pick | _ => none, clo := fun _ => none, T := tinf Tryd.prog }
noncomputable def loops_spec_l1Cur_among : Nat → Option Loop := fun n => none
theorem F_spec_l1Cur_among_eq (x : ((List Int) × (Int × Int)) × (List Int)) : Fev env_spec_l1Cur_among loops_spec_l1Cur_among c_spec_l1Cur_among.ps c_spec_l1Cur_among.rs Tryd.f27 x = F_spec_l1Cur_among x := by kernel_rfl
theorem env_spec_l1Cur_among_ok : EnvOK Tryd.prog env_spec_l1Cur_among := envOK_of (fun f c h => by
  simp only [env_spec_l1Cur_among] at h
  split at h
  · cases h; exact con_spec_l1Cur_pick
  · cases h) (fun f c h => by cases h) rfl
theorem con_spec_l1Cur_among : ConOK Tryd.prog 27 c_spec_l1Cur_among := con_of_ev' (body := Tryd.f27.body.getD .skip) (Λ := loops_spec_l1Cur_among) mixed Tryd.func27 (by kernel_rfl) (by kernel_rfl) env_spec_l1Cur_among_ok (by kernel_rfl) (by kernel_rfl) (fun n L h => by cases h) F_spec_l1Cur_among_eq

noncomputable def F_spec_l1Cur_edit (x : ((List Int) × (Int × Int)) × Int) : Option (((List Int) × (Int × Int)) × (Int × (ByteArray × Bool))) :=
  match F_spec_l1Cur_of ((x.1, [(⟨#[71, 79]⟩ : ByteArray), (⟨#[72, 79, 85, 83, 69]⟩ : ByteArray), (⟨#[71, 79]⟩ : ByteArray), (⟨#[73]⟩ : ByteArray), (⟨#[66, 79, 79, 75]⟩ : ByteArray), (⟨#[69, 73, 71, 72, 84, 76, 69, 84]⟩ : ByteArray)])) with
  | none => none
  | some y1 =>
    match F_spec_l1Cur_one ((y1.1, 4)) with
    | none => none
    | some y2 =>
      match F_spec_l1Cur_pick ((y2.1, 60)) with
      | none => none
      | some y3 =>
        bif ((y3.2 == 0)) then
          match F_spec_l1Cur_of ((y3.1, [(⟨#[]⟩ : ByteArray), (⟨#[103, 111]⟩ : ByteArray), (⟨#[78, 73, 78, 69, 76, 69, 84, 84, 82]⟩ : ByteArray)])) with
          | none => none
          | some y4 =>
            some ((y4.1, (x.2, y4.2, y2.2)))
        else
          bif ((y3.2 == 1)) then
            match F_spec_l1Cur_among ((y3.1, [0, 999, 1000])) with
            | none => none
            | some y5 =>
              some ((y5.1, (y5.2, y1.2, y2.2)))
          else
            some ((y3.1, (x.2, y1.2, y2.2)))
noncomputable def c_spec_l1Cur_edit : Con := { ps := [(.io false, (.ptr (.st (.pair (.slice (.int .u8)) (.pair (.int .i64) (.int .u64)))))), (.val, (.int .i64))], rs := [(.val, (.st (.pair (.int .i64) (.pair .str .bool))))], F := F_spec_l1Cur_edit }
noncomputable def env_spec_l1Cur_edit : Env := { par := [63], dp := false, settle := [], con := fun f => match f with | 27 => some c_spec_l1Cur_among | 28 => some c_spec_l1Cur_pick | 37 => some c_spec_l1Cur_one | 50 => some c_spec_l1Cur_of | _ => none, clo := fun _ => none, T := tinf Tryd.prog }
noncomputable def loops_spec_l1Cur_edit : Nat → Option Loop := fun n => none
theorem F_spec_l1Cur_edit_eq (x : ((List Int) × (Int × Int)) × Int) : Fev env_spec_l1Cur_edit loops_spec_l1Cur_edit c_spec_l1Cur_edit.ps c_spec_l1Cur_edit.rs Tryd.f34 x = F_spec_l1Cur_edit x := by kernel_rfl
theorem env_spec_l1Cur_edit_ok : EnvOK Tryd.prog env_spec_l1Cur_edit := envOK_of (fun f c h => by
  simp only [env_spec_l1Cur_edit] at h
  split at h
  · cases h; exact con_spec_l1Cur_among
  · cases h; exact con_spec_l1Cur_pick
  · cases h; exact con_spec_l1Cur_one
  · cases h; exact con_spec_l1Cur_of
  · cases h) (fun f c h => by cases h) rfl
theorem con_spec_l1Cur_edit : ConOK Tryd.prog 34 c_spec_l1Cur_edit := con_of_ev' (body := Tryd.f34.body.getD .skip) (Λ := loops_spec_l1Cur_edit) mixed Tryd.func34 (by kernel_rfl) (by kernel_rfl) env_spec_l1Cur_edit_ok (by kernel_rfl) (by kernel_rfl) (fun n L h => by cases h) F_spec_l1Cur_edit_eq

noncomputable def step_spec_l1Cur_edits_0 (s : Int × Int × (List Int) × Int × Int × (List (Int × (ByteArray × Bool)))) : Option ((Int × Int × (List Int) × Int × Int × (List (Int × (ByteArray × Bool)))) ⊕ ((Int × (List (Int × (ByteArray × Bool))) × (List Int) × Int × Int))) :=
  bif (decide ((s.2.2.2.2.2.length : Int) < s.2.1)) then
    match F_spec_l1Cur_edit (((s.2.2.1, s.2.2.2.1, s.2.2.2.2.1), s.1)) with
    | none => none
    | some y29 =>
      bif decide ((s.2.2.2.2.2.length + [y29.2].length) * 32 ≤ 140737488355328) then
        let v30 := s.2.2.2.2.2 ++ [y29.2]
        match F_spec_l1Cur_among ((y29.1, [1, 1, 1, 2, 5])) with
        | none => none
        | some y31 =>
          let v32 := IntKind.i64.wrap (s.1 + y31.2)
          some (.inl ((v32, (s.2.1, y31.1.1, (y31.1.2.1, y31.1.2.2, v30)))))
      else none
  else
    some (.inr ((s.2.1, s.2.2.2.2.2, (s.2.2.1, s.2.2.2.1, s.2.2.2.2.1))))
def pat_spec_l1Cur_edits_0 : Pat := { tmps := [.ptr 63 0, .any, .any, .own 1600, .v (.int .i64), .v (.int .i64), .any, .any, .any, .any, .any, .any, .any, .any, .any, .any, .any, .any, .any, .any, .any, .any, .any, .any, .any, .any, .any, .any, .any, .any, .any, .any, .any, .any, .any, .any, .any, .any, .any, .any, .any, .any, .any], blks := [(63, .box [.v (.slice (.int .u8)), .v (.int .i64), .v (.int .u64)]), (1600, .row true (.st (.pair (.int .i64) (.pair .str .bool))))] }
def outs_spec_l1Cur_edits_0 : List (Exit × Pat) := [(.exit 0, { tmps := [.ptr 63 0, .any, .any, .own 1600, .any, .v (.int .i64), .any, .any, .any, .any, .any, .any, .any, .any, .any, .any, .any, .any, .any, .any, .any, .any, .any, .any, .any, .any, .any, .any, .any, .any, .any, .any, .any, .any, .any, .any, .any, .any, .any, .any, .any, .any, .any], blks := [(1600, .row true (.st (.pair (.int .i64) (.pair .str .bool)))), (63, .box [.v (.slice (.int .u8)), .v (.int .i64), .v (.int .u64)])] })]
noncomputable def F_spec_l1Cur_edits (x : ((List Int) × (Int × Int))) : Option (((List Int) × (Int × Int)) × (List (Int × (ByteArray × Bool)))) :=
  match F_spec_l1Cur_pick ((x, 2)) with
  | none => none
  | some y1 =>
    let v2 := IntKind.i64.wrap (1 + y1.2)
    match F_spec_l1Cur_pick ((y1.1, 7)) with
    | none => none
    | some y3 =>
      match F_spec_l1Cur_one ((y3.1, 12)) with
      | none => none
      | some y4 =>
        bif y4.2 then
          match F_spec_l1Cur_pick ((y4.1, 2)) with
          | none => none
          | some y5 =>
            let v6 := IntKind.i64.wrap (40 + y5.2)
            match runL step_spec_l1Cur_edits_0 ((v2, (v6, y5.1.1, (y5.1.2.1, y5.1.2.2, [])))) with
            | none => none
            | some o18 =>
              bif (decide (o18.1 > 0)) then
                match F_spec_l1Cur_one ((o18.2.2, 12)) with
                | none => none
                | some y19 =>
                  bif y19.2 then
                    let v20 := IntKind.i64.wrap (o18.1 - 1)
                    bif decide (0 ≤ v20) && decide (v20 < (o18.2.1.length : Int)) then
                      let v21 := o18.2.1.set (v20).toNat ((999, (o18.2.1.getD (v20).toNat (0, ByteArray.empty, false)).2))
                      some ((y19.1, v21))
                    else none
                  else
                    some ((y19.1, o18.2.1))
              else
                some ((o18.2.2, o18.2.1))
        else
          match runL step_spec_l1Cur_edits_0 ((v2, (y3.2, y4.1.1, (y4.1.2.1, y4.1.2.2, [])))) with
          | none => none
          | some o33 =>
            bif (decide (o33.1 > 0)) then
              match F_spec_l1Cur_one ((o33.2.2, 12)) with
              | none => none
              | some y34 =>
                bif y34.2 then
                  let v35 := IntKind.i64.wrap (o33.1 - 1)
                  bif decide (0 ≤ v35) && decide (v35 < (o33.2.1.length : Int)) then
                    let v36 := o33.2.1.set (v35).toNat ((999, (o33.2.1.getD (v35).toNat (0, ByteArray.empty, false)).2))
                    some ((y34.1, v36))
                  else none
                else
                  some ((y34.1, o33.2.1))
            else
              some ((o33.2.2, o33.2.1))
noncomputable def c_spec_l1Cur_edits : Con := { ps := [(.io false, (.ptr (.st (.pair (.slice (.int .u8)) (.pair (.int .i64) (.int .u64))))))], rs := [(.io true, (.slice (.st (.pair (.int .i64) (.pair .str .bool)))))], F := F_spec_l1Cur_edits }
noncomputable def env_spec_l1Cur_edits : Env := { par := [63], dp := false, settle := [], con := fun f => match f with | 27 => some c_spec_l1Cur_among | 28 => some c_spec_l1Cur_pick | 34 => some c_spec_l1Cur_edit | 37 => some c_spec_l1Cur_one | _ => none, clo := fun _ => none, T := tinf Tryd.prog }
noncomputable def loops_spec_l1Cur_edits : Nat → Option Loop := fun n => match n with | 6 => some { pat := pat_spec_l1Cur_edits_0, outs := outs_spec_l1Cur_edits_0, run := runL (step_spec_l1Cur_edits_0) } | _ => none
theorem step_spec_l1Cur_edits_0_eq (s : Int × Int × (List Int) × Int × Int × (List (Int × (ByteArray × Bool)))) : stepEv env_spec_l1Cur_edits loops_spec_l1Cur_edits pat_spec_l1Cur_edits_0 outs_spec_l1Cur_edits_0 Tryd.f48 6 s = step_spec_l1Cur_edits_0 s := by kernel_rfl
theorem F_spec_l1Cur_edits_eq (x : ((List Int) × (Int × Int))) : Fev env_spec_l1Cur_edits loops_spec_l1Cur_edits c_spec_l1Cur_edits.ps c_spec_l1Cur_edits.rs Tryd.f48 x = F_spec_l1Cur_edits x := by kernel_rfl
theorem env_spec_l1Cur_edits_ok : EnvOK Tryd.prog env_spec_l1Cur_edits := envOK_of (fun f c h => by
  simp only [env_spec_l1Cur_edits] at h
  split at h
  · cases h; exact con_spec_l1Cur_among
  · cases h; exact con_spec_l1Cur_pick
  · cases h; exact con_spec_l1Cur_edit
  · cases h; exact con_spec_l1Cur_one
  · cases h) (fun f c h => by cases h) rfl
theorem con_spec_l1Cur_edits : ConOK Tryd.prog 48 c_spec_l1Cur_edits := con_of_ev' (body := Tryd.f48.body.getD .skip) (Λ := loops_spec_l1Cur_edits) mixed Tryd.func48 (by kernel_rfl) (by kernel_rfl) env_spec_l1Cur_edits_ok (by kernel_rfl) (by kernel_rfl) (fun n L h => by
  unfold loops_spec_l1Cur_edits at h
  split at h
  · cases h; exact fun s o ho => loop_ok (stepF := stepEv env_spec_l1Cur_edits loops_spec_l1Cur_edits pat_spec_l1Cur_edits_0 outs_spec_l1Cur_edits_0 Tryd.f48 6) (step_spec_l1Cur_edits_0_eq) ho
  · cases h) F_spec_l1Cur_edits_eq

noncomputable def F_spec_l1In (x : Int × Int × Int) : Option (Bool) :=
  bif (decide (x.1 ≥ x.2.1)) then
    some ((decide (x.1 ≤ x.2.2)))
  else
    some (false)
noncomputable def c_spec_l1In : Con := { ps := [(.val, (.int .i64)), (.val, (.int .i64)), (.val, (.int .i64))], rs := [(.val, .bool)], F := F_spec_l1In }
noncomputable def env_spec_l1In : Env := { par := [], dp := false, settle := [], con := fun _ => none, clo := fun _ => none, T := tinf Tryd.prog }
noncomputable def loops_spec_l1In : Nat → Option Loop := fun n => none
theorem F_spec_l1In_eq (x : Int × Int × Int) : Fev env_spec_l1In loops_spec_l1In c_spec_l1In.ps c_spec_l1In.rs Tryd.f32 x = F_spec_l1In x := by kernel_rfl
theorem env_spec_l1In_ok : EnvOK Tryd.prog env_spec_l1In := envOK_of (fun f c h => by cases h) (fun f c h => by cases h) rfl
theorem con_spec_l1In : ConOK Tryd.prog 32 c_spec_l1In := con_of_ev' (body := Tryd.f32.body.getD .skip) (Λ := loops_spec_l1In) mixed Tryd.func32 (by kernel_rfl) (by kernel_rfl) env_spec_l1In_ok (by kernel_rfl) (by kernel_rfl) (fun n L h => by cases h) F_spec_l1In_eq

noncomputable def step_spec_fsWord_0 (s : ByteArray × Int) : Option ((ByteArray × Int) ⊕ ((Bool) ⊕ (ByteArray))) :=
  bif (decide (s.2 < (s.1.size : Int))) then
    bif decide (0 ≤ s.2) && decide (s.2 < (s.1.size : Int)) then
      bif (decide ((byteAt s.1 (s.2).toNat) < 65)) then
        some (.inr (.inl (false)))
      else
        bif decide (0 ≤ s.2) && decide (s.2 < (s.1.size : Int)) then
          bif (decide ((byteAt s.1 (s.2).toNat) > 90)) then
            some (.inr (.inl (false)))
          else
            let v2 := IntKind.i64.wrap (s.2 + 1)
            some (.inl ((s.1, v2)))
        else none
    else none
  else
    some (.inr (.inr (s.1)))
def pat_spec_fsWord_0 : Pat := { tmps := [.v .str, .any, .any, .v (.int .i64), .any, .any, .any, .any, .any, .any, .any, .any, .any, .any, .any, .any, .any, .any, .any, .any, .any, .any, .any], blks := [] }
def outs_spec_fsWord_0 : List (Exit × Pat) := [(.ret, { tmps := [.any, .any, .v .bool, .any, .any, .any, .any, .any, .any, .any, .any, .any, .any, .any, .any, .any, .any, .any, .any, .any, .any, .any, .any], blks := [] }), (.exit 0, { tmps := [.v .str, .any, .any, .any, .any, .any, .any, .any, .any, .any, .any, .any, .any, .any, .any, .any, .any, .any, .any, .any, .any, .any, .any], blks := [] })]
noncomputable def F_spec_fsWord (x : ByteArray) : Option (Bool) :=
  match runL step_spec_fsWord_0 ((x, 0)) with
  | none => none
  | some (.inl o3) =>
    some (o3)
  | some (.inr o3) =>
    match F_spec_l1In (((o3.size : Int), 1, 8)) with
    | none => none
    | some y4 =>
      some (y4)
noncomputable def c_spec_fsWord : Con := { ps := [(.val, .str)], rs := [(.val, .bool)], F := F_spec_fsWord }
noncomputable def env_spec_fsWord : Env := { par := [], dp := false, settle := [], con := fun f => match f with | 32 => some c_spec_l1In | _ => none, clo := fun _ => none, T := tinf Tryd.prog }
noncomputable def loops_spec_fsWord : Nat → Option Loop := fun n => match n with | 2 => some { pat := pat_spec_fsWord_0, outs := outs_spec_fsWord_0, run := runL (step_spec_fsWord_0) } | _ => none
theorem step_spec_fsWord_0_eq (s : ByteArray × Int) : stepEv env_spec_fsWord loops_spec_fsWord pat_spec_fsWord_0 outs_spec_fsWord_0 Tryd.f51 2 s = step_spec_fsWord_0 s := by kernel_rfl
theorem F_spec_fsWord_eq (x : ByteArray) : Fev env_spec_fsWord loops_spec_fsWord c_spec_fsWord.ps c_spec_fsWord.rs Tryd.f51 x = F_spec_fsWord x := by kernel_rfl
theorem env_spec_fsWord_ok : EnvOK Tryd.prog env_spec_fsWord := envOK_of (fun f c h => by
  simp only [env_spec_fsWord] at h
  split at h
  · cases h; exact con_spec_l1In
  · cases h) (fun f c h => by cases h) rfl
theorem con_spec_fsWord : ConOK Tryd.prog 51 c_spec_fsWord := con_of_ev' (body := Tryd.f51.body.getD .skip) (Λ := loops_spec_fsWord) mixed Tryd.func51 (by kernel_rfl) (by kernel_rfl) env_spec_fsWord_ok (by kernel_rfl) (by kernel_rfl) (fun n L h => by
  unfold loops_spec_fsWord at h
  split at h
  · cases h; exact fun s o ho => loop_ok (stepF := stepEv env_spec_fsWord loops_spec_fsWord pat_spec_fsWord_0 outs_spec_fsWord_0 Tryd.f51 2) (step_spec_fsWord_0_eq) ho
  · cases h) F_spec_fsWord_eq

noncomputable def F_spec_joOne (x : (Int × (ByteArray × Bool))) : Option (Bool) :=
  match F_spec_l1In ((x.1, 1, 999)) with
  | none => none
  | some y1 =>
    bif y1 then
      match F_spec_fsWord (x.2.1) with
      | none => none
      | some y2 =>
        some (y2)
    else
      some (false)
noncomputable def c_spec_joOne : Con := { ps := [(.val, (.st (.pair (.int .i64) (.pair .str .bool))))], rs := [(.val, .bool)], F := F_spec_joOne }
noncomputable def env_spec_joOne : Env := { par := [], dp := false, settle := [], con := fun f => match f with | 32 => some c_spec_l1In | 51 => some c_spec_fsWord | _ => none, clo := fun _ => none, T := tinf Tryd.prog }
noncomputable def loops_spec_joOne : Nat → Option Loop := fun n => none
theorem F_spec_joOne_eq (x : (Int × (ByteArray × Bool))) : Fev env_spec_joOne loops_spec_joOne c_spec_joOne.ps c_spec_joOne.rs Tryd.f35 x = F_spec_joOne x := by kernel_rfl
theorem env_spec_joOne_ok : EnvOK Tryd.prog env_spec_joOne := envOK_of (fun f c h => by
  simp only [env_spec_joOne] at h
  split at h
  · cases h; exact con_spec_l1In
  · cases h; exact con_spec_fsWord
  · cases h) (fun f c h => by cases h) rfl
theorem con_spec_joOne : ConOK Tryd.prog 35 c_spec_joOne := con_of_ev' (body := Tryd.f35.body.getD .skip) (Λ := loops_spec_joOne) mixed Tryd.func35 (by kernel_rfl) (by kernel_rfl) env_spec_joOne_ok (by kernel_rfl) (by kernel_rfl) (fun n L h => by cases h) F_spec_joOne_eq

noncomputable def step_spec_joGood_0 (s : (List (Int × (ByteArray × Bool))) × (List (Int × (ByteArray × Bool))) × Int × Int) : Option (((List (Int × (ByteArray × Bool))) × (List (Int × (ByteArray × Bool))) × Int × Int) ⊕ ((Bool) ⊕ ((List (Int × (ByteArray × Bool)))))) :=
  bif (decide (s.2.2.2 < s.2.2.1)) then
    bif decide (0 ≤ s.2.2.2) && decide (s.2.2.2 < (s.2.1.length : Int)) then
      match F_spec_joOne ((s.2.1.getD (s.2.2.2).toNat (0, ByteArray.empty, false))) with
      | none => none
      | some y5 =>
        bif (!y5) then
          some (.inr (.inl (false)))
        else
          bif (decide (s.2.2.2 > 0)) then
            let v6 := IntKind.i64.wrap (s.2.2.2 - 1)
            bif decide (0 ≤ v6) && decide (v6 < (s.1.length : Int)) then
              bif (decide ((s.1.getD (v6).toNat (0, ByteArray.empty, false)).1 ≥ (s.2.1.getD (s.2.2.2).toNat (0, ByteArray.empty, false)).1)) then
                some (.inr (.inl (false)))
              else
                let v7 := IntKind.i64.wrap (s.2.2.2 + 1)
                some (.inl ((s.1, (s.2.1, s.2.2.1, v7))))
            else none
          else
            let v8 := IntKind.i64.wrap (s.2.2.2 + 1)
            some (.inl ((s.1, (s.2.1, s.2.2.1, v8))))
    else none
  else
    some (.inr (.inr (s.1)))
def pat_spec_joGood_0 : Pat := { tmps := [.v (.slice (.st (.pair (.int .i64) (.pair .str .bool)))), .any, .any, .any, .any, .v (.slice (.st (.pair (.int .i64) (.pair .str .bool)))), .v (.int .i64), .v (.int .i64), .any, .any, .any, .any, .any, .any, .any, .any, .any, .any, .any, .any, .any, .any, .any, .any, .any, .any, .any, .any, .any, .any, .any, .any, .any, .any], blks := [] }
def outs_spec_joGood_0 : List (Exit × Pat) := [(.ret, { tmps := [.any, .any, .v .bool, .any, .any, .any, .any, .any, .any, .any, .any, .any, .any, .any, .any, .any, .any, .any, .any, .any, .any, .any, .any, .any, .any, .any, .any, .any, .any, .any, .any, .any, .any, .any], blks := [] }), (.exit 0, { tmps := [.v (.slice (.st (.pair (.int .i64) (.pair .str .bool)))), .any, .any, .any, .any, .any, .any, .any, .any, .any, .any, .any, .any, .any, .any, .any, .any, .any, .any, .any, .any, .any, .any, .any, .any, .any, .any, .any, .any, .any, .any, .any, .any, .any], blks := [] })]
noncomputable def F_spec_joGood (x : (List (Int × (ByteArray × Bool)))) : Option (Bool) :=
  match runL step_spec_joGood_0 ((x, (x, (x.length : Int), 0))) with
  | none => none
  | some (.inl o9) =>
    some (o9)
  | some (.inr o9) =>
    some ((decide ((o9.length : Int) ≤ 40)))
noncomputable def c_spec_joGood : Con := { ps := [(.val, (.slice (.st (.pair (.int .i64) (.pair .str .bool)))))], rs := [(.val, .bool)], F := F_spec_joGood }
noncomputable def env_spec_joGood : Env := { par := [], dp := false, settle := [], con := fun f => match f with | 35 => some c_spec_joOne | _ => none, clo := fun _ => none, T := tinf Tryd.prog }
noncomputable def loops_spec_joGood : Nat → Option Loop := fun n => match n with | 2 => some { pat := pat_spec_joGood_0, outs := outs_spec_joGood_0, run := runL (step_spec_joGood_0) } | _ => none
theorem step_spec_joGood_0_eq (s : (List (Int × (ByteArray × Bool))) × (List (Int × (ByteArray × Bool))) × Int × Int) : stepEv env_spec_joGood loops_spec_joGood pat_spec_joGood_0 outs_spec_joGood_0 Tryd.f31 2 s = step_spec_joGood_0 s := by kernel_rfl
theorem F_spec_joGood_eq (x : (List (Int × (ByteArray × Bool)))) : Fev env_spec_joGood loops_spec_joGood c_spec_joGood.ps c_spec_joGood.rs Tryd.f31 x = F_spec_joGood x := by kernel_rfl
theorem env_spec_joGood_ok : EnvOK Tryd.prog env_spec_joGood := envOK_of (fun f c h => by
  simp only [env_spec_joGood] at h
  split at h
  · cases h; exact con_spec_joOne
  · cases h) (fun f c h => by cases h) rfl
theorem con_spec_joGood : ConOK Tryd.prog 31 c_spec_joGood := con_of_ev' (body := Tryd.f31.body.getD .skip) (Λ := loops_spec_joGood) mixed Tryd.func31 (by kernel_rfl) (by kernel_rfl) env_spec_joGood_ok (by kernel_rfl) (by kernel_rfl) (fun n L h => by
  unfold loops_spec_joGood at h
  split at h
  · cases h; exact fun s o ho => loop_ok (stepF := stepEv env_spec_joGood loops_spec_joGood pat_spec_joGood_0 outs_spec_joGood_0 Tryd.f31 2) (step_spec_joGood_0_eq) ho
  · cases h) F_spec_joGood_eq


noncomputable def step_spec_joLine_0 (s : ByteArray × Int × Int) : Option ((ByteArray × Int × Int) ⊕ ((ByteArray × Int))) :=
  bif (decide (s.2.2 < (s.1.size : Int))) then
    let v20 := IntKind.i64.wrap (7 * s.2.1)
    bif decide (0 ≤ s.2.2) && decide (s.2.2 < (s.1.size : Int)) then
      let v21 := IntKind.i64.wrap (byteAt s.1 (s.2.2).toNat)
      let v22 := IntKind.i64.wrap (v20 + v21)
      bif !decide (9973 = 0) then
        let v23 := (v22).tmod 9973
        let v24 := IntKind.i64.wrap (s.2.2 + 1)
        some (.inl ((s.1, v23, v24)))
      else none
    else none
  else
    some (.inr ((s.1, s.2.1)))
def pat_spec_joLine_0 : Pat := { tmps := [.any, .any, .any, .v .str, .v (.int .i64), .v (.int .i64), .any, .any, .any, .any, .any, .any, .any, .any, .any, .any, .any, .any, .any, .any, .any, .any, .any, .any, .any, .any, .any, .any, .any, .any, .any, .any, .any, .any, .any, .any, .any, .any, .any, .any, .any, .any], blks := [] }
def outs_spec_joLine_0 : List (Exit × Pat) := [(.exit 0, { tmps := [.any, .any, .any, .v .str, .v (.int .i64), .any, .any, .any, .any, .any, .any, .any, .any, .any, .any, .any, .any, .any, .any, .any, .any, .any, .any, .any, .any, .any, .any, .any, .any, .any, .any, .any, .any, .any, .any, .any, .any, .any, .any, .any, .any, .any], blks := [] })]
noncomputable def F_spec_joLine (x : (Int × (ByteArray × Bool))) : Option (ByteArray) :=
  match F_spec_l1Num (x.1) with
  | none => none
  | some y1 =>
    bif decide (y1.size + (⟨#[43]⟩ : ByteArray).size ≤ 9223372036854775807) then
      bif decide ((y1 ++ (⟨#[43]⟩ : ByteArray)).size + x.2.1.size ≤ 9223372036854775807) then
        bif x.2.2 then
          match F_spec_l1Num (x.1) with
          | none => none
          | some y2 =>
            bif decide (y2.size + (⟨#[45]⟩ : ByteArray).size ≤ 9223372036854775807) then
              bif decide ((y2 ++ (⟨#[45]⟩ : ByteArray)).size + x.2.1.size ≤ 9223372036854775807) then
                match runL step_spec_joLine_0 ((((y2 ++ (⟨#[45]⟩ : ByteArray)) ++ x.2.1), 3, 0)) with
                | none => none
                | some o13 =>
                  bif decide (o13.1.size + (⟨#[46]⟩ : ByteArray).size ≤ 9223372036854775807) then
                    match F_spec_l1Num (o13.2) with
                    | none => none
                    | some y14 =>
                      bif decide ((o13.1 ++ (⟨#[46]⟩ : ByteArray)).size + y14.size ≤ 9223372036854775807) then
                        bif decide (((o13.1 ++ (⟨#[46]⟩ : ByteArray)) ++ y14).size + (⟨#[10]⟩ : ByteArray).size ≤ 9223372036854775807) then
                          some ((((o13.1 ++ (⟨#[46]⟩ : ByteArray)) ++ y14) ++ (⟨#[10]⟩ : ByteArray)))
                        else none
                      else none
                  else none
              else none
            else none
        else
          match runL step_spec_joLine_0 ((((y1 ++ (⟨#[43]⟩ : ByteArray)) ++ x.2.1), 3, 0)) with
          | none => none
          | some o25 =>
            bif decide (o25.1.size + (⟨#[46]⟩ : ByteArray).size ≤ 9223372036854775807) then
              match F_spec_l1Num (o25.2) with
              | none => none
              | some y26 =>
                bif decide ((o25.1 ++ (⟨#[46]⟩ : ByteArray)).size + y26.size ≤ 9223372036854775807) then
                  bif decide (((o25.1 ++ (⟨#[46]⟩ : ByteArray)) ++ y26).size + (⟨#[10]⟩ : ByteArray).size ≤ 9223372036854775807) then
                    some ((((o25.1 ++ (⟨#[46]⟩ : ByteArray)) ++ y26) ++ (⟨#[10]⟩ : ByteArray)))
                  else none
                else none
            else none
      else none
    else none
noncomputable def c_spec_joLine : Con := { ps := [(.val, (.st (.pair (.int .i64) (.pair .str .bool))))], rs := [(.val, .str)], F := F_spec_joLine }
noncomputable def env_spec_joLine : Env := { par := [], dp := false, settle := [], con := fun f => match f with | 52 => some c_spec_l1Num | _ => none, clo := fun _ => none, T := tinf Tryd.prog }
noncomputable def loops_spec_joLine : Nat → Option Loop := fun n => match n with | 6 => some { pat := pat_spec_joLine_0, outs := outs_spec_joLine_0, run := runL (step_spec_joLine_0) } | _ => none
theorem step_spec_joLine_0_eq (s : ByteArray × Int × Int) : stepEv env_spec_joLine loops_spec_joLine pat_spec_joLine_0 outs_spec_joLine_0 Tryd.f36 6 s = step_spec_joLine_0 s := by kernel_rfl
theorem F_spec_joLine_eq (x : (Int × (ByteArray × Bool))) : Fev env_spec_joLine loops_spec_joLine c_spec_joLine.ps c_spec_joLine.rs Tryd.f36 x = F_spec_joLine x := by kernel_rfl
theorem env_spec_joLine_ok : EnvOK Tryd.prog env_spec_joLine := envOK_of (fun f c h => by
  simp only [env_spec_joLine] at h
  split at h
  · cases h; exact con_spec_l1Num
  · cases h) (fun f c h => by cases h) rfl
theorem con_spec_joLine : ConOK Tryd.prog 36 c_spec_joLine := con_of_ev' (body := Tryd.f36.body.getD .skip) (Λ := loops_spec_joLine) mixed Tryd.func36 (by kernel_rfl) (by kernel_rfl) env_spec_joLine_ok (by kernel_rfl) (by kernel_rfl) (fun n L h => by
  unfold loops_spec_joLine at h
  split at h
  · cases h; exact fun s o ho => loop_ok (stepF := stepEv env_spec_joLine loops_spec_joLine pat_spec_joLine_0 outs_spec_joLine_0 Tryd.f36 6) (step_spec_joLine_0_eq) ho
  · cases h) F_spec_joLine_eq

noncomputable def step_spec_joText_0 (s : ByteArray × (List (Int × (ByteArray × Bool))) × Int × Int) : Option ((ByteArray × (List (Int × (ByteArray × Bool))) × Int × Int) ⊕ ((ByteArray))) :=
  bif (decide (s.2.2.2 < s.2.2.1)) then
    bif decide (0 ≤ s.2.2.2) && decide (s.2.2.2 < (s.2.1.length : Int)) then
      match F_spec_joLine ((s.2.1.getD (s.2.2.2).toNat (0, ByteArray.empty, false))) with
      | none => none
      | some y3 =>
        bif decide (s.1.size + y3.size ≤ 9223372036854775807) then
          let v4 := IntKind.i64.wrap (s.2.2.2 + 1)
          some (.inl (((s.1 ++ y3), (s.2.1, s.2.2.1, v4))))
        else none
    else none
  else
    some (.inr (s.1))
def pat_spec_joText_0 : Pat := { tmps := [.any, .any, .any, .v .str, .any, .any, .v (.slice (.st (.pair (.int .i64) (.pair .str .bool)))), .v (.int .i64), .v (.int .i64), .any, .any, .any, .any, .any, .any, .any, .any, .any], blks := [] }
def outs_spec_joText_0 : List (Exit × Pat) := [(.exit 0, { tmps := [.any, .any, .any, .v .str, .any, .any, .any, .any, .any, .any, .any, .any, .any, .any, .any, .any, .any, .any], blks := [] })]
noncomputable def F_spec_joText (x : (List (Int × (ByteArray × Bool)))) : Option (ByteArray) :=
  match runL step_spec_joText_0 (((⟨#[]⟩ : ByteArray), (x, (x.length : Int), 0))) with
  | none => none
  | some o5 =>
    some (o5)
noncomputable def c_spec_joText : Con := { ps := [(.val, (.slice (.st (.pair (.int .i64) (.pair .str .bool)))))], rs := [(.val, .str)], F := F_spec_joText }
noncomputable def env_spec_joText : Env := { par := [], dp := false, settle := [], con := fun f => match f with | 36 => some c_spec_joLine | _ => none, clo := fun _ => none, T := tinf Tryd.prog }
noncomputable def loops_spec_joText : Nat → Option Loop := fun n => match n with | 3 => some { pat := pat_spec_joText_0, outs := outs_spec_joText_0, run := runL (step_spec_joText_0) } | _ => none
theorem step_spec_joText_0_eq (s : ByteArray × (List (Int × (ByteArray × Bool))) × Int × Int) : stepEv env_spec_joText loops_spec_joText pat_spec_joText_0 outs_spec_joText_0 Tryd.f33 3 s = step_spec_joText_0 s := by kernel_rfl
theorem F_spec_joText_eq (x : (List (Int × (ByteArray × Bool)))) : Fev env_spec_joText loops_spec_joText c_spec_joText.ps c_spec_joText.rs Tryd.f33 x = F_spec_joText x := by kernel_rfl
theorem env_spec_joText_ok : EnvOK Tryd.prog env_spec_joText := envOK_of (fun f c h => by
  simp only [env_spec_joText] at h
  split at h
  · cases h; exact con_spec_joLine
  · cases h) (fun f c h => by cases h) rfl
theorem con_spec_joText : ConOK Tryd.prog 33 c_spec_joText := con_of_ev' (body := Tryd.f33.body.getD .skip) (Λ := loops_spec_joText) mixed Tryd.func33 (by kernel_rfl) (by kernel_rfl) env_spec_joText_ok (by kernel_rfl) (by kernel_rfl) (fun n L h => by
  unfold loops_spec_joText at h
  split at h
  · cases h; exact fun s o ho => loop_ok (stepF := stepEv env_spec_joText loops_spec_joText pat_spec_joText_0 outs_spec_joText_0 Tryd.f33 3) (step_spec_joText_0_eq) ho
  · cases h) F_spec_joText_eq

noncomputable def step_spec_l1Cur_spoilt_0 (s : ByteArray × ByteArray × Int × (List Int) × Int × Int) : Option ((ByteArray × ByteArray × Int × (List Int) × Int × Int) ⊕ ((ByteArray × (List Int) × Int × Int))) :=
  bif (decide (s.2.2.1 > 0)) then
    bif (decide ((s.1.size : Int) > 0)) then
      match F_spec_l1Cur_pick ((s.2.2.2, (s.1.size : Int))) with
      | none => none
      | some y11 =>
        match F_spec_l1Cur_pick ((y11.1, (s.2.1.size : Int))) with
        | none => none
        | some y12 =>
          bif decide (0 ≤ y12.2) && decide (y12.2 < (s.2.1.size : Int)) then
            match F_spec_l1Cur_pick ((y12.1, 3)) with
            | none => none
            | some y13 =>
              bif ((y13.2 == 0)) then
                bif decide (0 ≤ (0 : Int)) && decide ((0 : Int) ≤ y11.2) && decide (y11.2 ≤ (s.1.size : Int)) then
                  bif decide ((s.1.extract ((0 : Int)).toNat (y11.2).toNat).size + (bytesStr [(byteAt s.2.1 (y12.2).toNat)]).size ≤ 9223372036854775807) then
                    bif decide (0 ≤ y11.2) && decide (y11.2 ≤ (s.1.size : Int)) && decide ((s.1.size : Int) ≤ (s.1.size : Int)) then
                      bif decide (((s.1.extract ((0 : Int)).toNat (y11.2).toNat) ++ (bytesStr [(byteAt s.2.1 (y12.2).toNat)])).size + (s.1.extract (y11.2).toNat ((s.1.size : Int)).toNat).size ≤ 9223372036854775807) then
                        let v14 := IntKind.i64.wrap (s.2.2.1 - 1)
                        some (.inl (((((s.1.extract ((0 : Int)).toNat (y11.2).toNat) ++ (bytesStr [(byteAt s.2.1 (y12.2).toNat)])) ++ (s.1.extract (y11.2).toNat ((s.1.size : Int)).toNat)), (s.2.1, v14, y13.1))))
                      else none
                    else none
                  else none
                else none
              else
                bif ((y13.2 == 1)) then
                  bif decide (0 ≤ (0 : Int)) && decide ((0 : Int) ≤ y11.2) && decide (y11.2 ≤ (s.1.size : Int)) then
                    bif decide ((s.1.extract ((0 : Int)).toNat (y11.2).toNat).size + (bytesStr [(byteAt s.2.1 (y12.2).toNat)]).size ≤ 9223372036854775807) then
                      let v15 := IntKind.i64.wrap (y11.2 + 1)
                      bif decide (0 ≤ v15) && decide (v15 ≤ (s.1.size : Int)) && decide ((s.1.size : Int) ≤ (s.1.size : Int)) then
                        bif decide (((s.1.extract ((0 : Int)).toNat (y11.2).toNat) ++ (bytesStr [(byteAt s.2.1 (y12.2).toNat)])).size + (s.1.extract (v15).toNat ((s.1.size : Int)).toNat).size ≤ 9223372036854775807) then
                          let v16 := IntKind.i64.wrap (s.2.2.1 - 1)
                          some (.inl (((((s.1.extract ((0 : Int)).toNat (y11.2).toNat) ++ (bytesStr [(byteAt s.2.1 (y12.2).toNat)])) ++ (s.1.extract (v15).toNat ((s.1.size : Int)).toNat)), (s.2.1, v16, y13.1))))
                        else none
                      else none
                    else none
                  else none
                else
                  bif decide (0 ≤ (0 : Int)) && decide ((0 : Int) ≤ y11.2) && decide (y11.2 ≤ (s.1.size : Int)) then
                    let v17 := IntKind.i64.wrap (y11.2 + 1)
                    bif decide (0 ≤ v17) && decide (v17 ≤ (s.1.size : Int)) && decide ((s.1.size : Int) ≤ (s.1.size : Int)) then
                      bif decide ((s.1.extract ((0 : Int)).toNat (y11.2).toNat).size + (s.1.extract (v17).toNat ((s.1.size : Int)).toNat).size ≤ 9223372036854775807) then
                        let v18 := IntKind.i64.wrap (s.2.2.1 - 1)
                        some (.inl ((((s.1.extract ((0 : Int)).toNat (y11.2).toNat) ++ (s.1.extract (v17).toNat ((s.1.size : Int)).toNat)), (s.2.1, v18, y13.1))))
                      else none
                    else none
                  else none
          else none
    else
      some (.inr ((s.1, s.2.2.2)))
  else
    some (.inr ((s.1, s.2.2.2)))
def pat_spec_l1Cur_spoilt_0 : Pat := { tmps := [.ptr 63 0, .v .str, .v .str, .any, .any, .any, .any, .v (.int .i64), .any, .any, .any, .any, .any, .any, .any, .any, .any, .any, .any, .any, .any, .any, .any, .any, .any, .any, .any, .any, .any, .any, .any, .any, .any, .any, .any, .any, .any, .any, .any, .any, .any, .any, .any, .any, .any, .any, .any, .any, .any, .any, .any, .any, .any, .any, .any, .any, .any, .any, .any, .any, .any, .any, .any, .any, .any, .any, .any, .any], blks := [(63, .box [.v (.slice (.int .u8)), .v (.int .i64), .v (.int .u64)])] }
def outs_spec_l1Cur_spoilt_0 : List (Exit × Pat) := [(.exit 0, { tmps := [.any, .v .str, .any, .any, .any, .any, .any, .any, .any, .any, .any, .any, .any, .any, .any, .any, .any, .any, .any, .any, .any, .any, .any, .any, .any, .any, .any, .any, .any, .any, .any, .any, .any, .any, .any, .any, .any, .any, .any, .any, .any, .any, .any, .any, .any, .any, .any, .any, .any, .any, .any, .any, .any, .any, .any, .any, .any, .any, .any, .any, .any, .any, .any, .any, .any, .any, .any, .any], blks := [(63, .box [.v (.slice (.int .u8)), .v (.int .i64), .v (.int .u64)])] })]
noncomputable def F_spec_l1Cur_spoilt (x : ((List Int) × (Int × Int)) × ByteArray × ByteArray) : Option (((List Int) × (Int × Int)) × ByteArray) :=
  match F_spec_l1Cur_pick ((x.1, 2)) with
  | none => none
  | some y1 =>
    let v2 := IntKind.i64.wrap (1 + y1.2)
    match runL step_spec_l1Cur_spoilt_0 ((x.2.1, (x.2.2, v2, y1.1))) with
    | none => none
    | some o19 =>
      some ((o19.2, o19.1))
noncomputable def c_spec_l1Cur_spoilt : Con := { ps := [(.io false, (.ptr (.st (.pair (.slice (.int .u8)) (.pair (.int .i64) (.int .u64)))))), (.val, .str), (.val, .str)], rs := [(.val, .str)], F := F_spec_l1Cur_spoilt }
noncomputable def env_spec_l1Cur_spoilt : Env := { par := [63], dp := false, settle := [], con := fun f => match f with | 28 => some c_spec_l1Cur_pick | _ => none, clo := fun _ => none, T := tinf Tryd.prog }
noncomputable def loops_spec_l1Cur_spoilt : Nat → Option Loop := fun n => match n with | 2 => some { pat := pat_spec_l1Cur_spoilt_0, outs := outs_spec_l1Cur_spoilt_0, run := runL (step_spec_l1Cur_spoilt_0) } | _ => none
theorem step_spec_l1Cur_spoilt_0_eq (s : ByteArray × ByteArray × Int × (List Int) × Int × Int) : stepEv env_spec_l1Cur_spoilt loops_spec_l1Cur_spoilt pat_spec_l1Cur_spoilt_0 outs_spec_l1Cur_spoilt_0 Tryd.f38 2 s = step_spec_l1Cur_spoilt_0 s := by kernel_rfl
theorem F_spec_l1Cur_spoilt_eq (x : ((List Int) × (Int × Int)) × ByteArray × ByteArray) : Fev env_spec_l1Cur_spoilt loops_spec_l1Cur_spoilt c_spec_l1Cur_spoilt.ps c_spec_l1Cur_spoilt.rs Tryd.f38 x = F_spec_l1Cur_spoilt x := by kernel_rfl
theorem env_spec_l1Cur_spoilt_ok : EnvOK Tryd.prog env_spec_l1Cur_spoilt := envOK_of (fun f c h => by
  simp only [env_spec_l1Cur_spoilt] at h
  split at h
  · cases h; exact con_spec_l1Cur_pick
  · cases h) (fun f c h => by cases h) rfl
theorem con_spec_l1Cur_spoilt : ConOK Tryd.prog 38 c_spec_l1Cur_spoilt := con_of_ev' (body := Tryd.f38.body.getD .skip) (Λ := loops_spec_l1Cur_spoilt) mixed Tryd.func38 (by kernel_rfl) (by kernel_rfl) env_spec_l1Cur_spoilt_ok (by kernel_rfl) (by kernel_rfl) (fun n L h => by
  unfold loops_spec_l1Cur_spoilt at h
  split at h
  · cases h; exact fun s o ho => loop_ok (stepF := stepEv env_spec_l1Cur_spoilt loops_spec_l1Cur_spoilt pat_spec_l1Cur_spoilt_0 outs_spec_l1Cur_spoilt_0 Tryd.f38 2) (step_spec_l1Cur_spoilt_0_eq) ho
  · cases h) F_spec_l1Cur_spoilt_eq

noncomputable def step_spec_l1Cur_editText_0 (s : ByteArray × Int × (List Int) × Int × Int) : Option ((ByteArray × Int × (List Int) × Int × Int) ⊕ ((ByteArray × (List Int) × Int × Int))) :=
  bif (decide ((s.1.size : Int) < s.2.1)) then
    bif decide (s.1.size + (⟨#[120]⟩ : ByteArray).size ≤ 9223372036854775807) then
      some (.inl (((s.1 ++ (⟨#[120]⟩ : ByteArray)), s.2)))
    else none
  else
    some (.inr ((s.1, s.2.2)))
def pat_spec_l1Cur_editText_0 : Pat := { tmps := [.any, .any, .any, .any, .v .str, .v (.int .i64), .any, .any, .any, .any, .any, .any, .any, .any, .any, .any, .any, .any, .any, .any, .any, .any, .any, .any, .any, .any, .any, .any, .any, .any, .any, .any, .any, .any, .any, .any, .any, .any, .any, .any, .any, .any, .any, .any, .any, .any, .any, .any, .any, .any, .any], blks := [(63, .box [.v (.slice (.int .u8)), .v (.int .i64), .v (.int .u64)])] }
def outs_spec_l1Cur_editText_0 : List (Exit × Pat) := [(.exit 1, { tmps := [.any, .any, .any, .any, .v .str, .any, .any, .any, .any, .any, .any, .any, .any, .any, .any, .any, .any, .any, .any, .any, .any, .any, .any, .any, .any, .any, .any, .any, .any, .any, .any, .any, .any, .any, .any, .any, .any, .any, .any, .any, .any, .any, .any, .any, .any, .any, .any, .any, .any, .any, .any], blks := [(63, .box [.v (.slice (.int .u8)), .v (.int .i64), .v (.int .u64)])] })]
noncomputable def F_spec_l1Cur_editText (x : ((List Int) × (Int × Int))) : Option (((List Int) × (Int × Int)) × ByteArray) :=
  match F_spec_l1Cur_edits (x) with
  | none => none
  | some y1 =>
    match F_spec_joGood (y1.2) with
    | none => none
    | some y2 =>
      bif (!y2) then
        match F_spec_l1Cur_of ((y1.1, [(⟨#[]⟩ : ByteArray), (⟨#[10]⟩ : ByteArray), (⟨#[49, 43, 71, 79, 46, 53, 10]⟩ : ByteArray), (⟨#[120]⟩ : ByteArray)])) with
        | none => none
        | some y3 =>
          some (y3)
      else
        match F_spec_joText (y1.2) with
        | none => none
        | some y4 =>
          match F_spec_l1Cur_pick ((y1.1, 5)) with
          | none => none
          | some y5 =>
            bif ((y5.2 == 0)) then
              let v6 := IntKind.i64.wrap ((y4.size : Int) + 1)
              match F_spec_l1Cur_pick ((y5.1, v6)) with
              | none => none
              | some y7 =>
                bif decide (0 ≤ (0 : Int)) && decide ((0 : Int) ≤ y7.2) && decide (y7.2 ≤ (y4.size : Int)) then
                  some ((y7.1, (y4.extract ((0 : Int)).toNat (y7.2).toNat)))
                else none
            else
              bif ((y5.2 == 1)) then
                bif ((y5.2 == 1)) then
                  match F_spec_l1Cur_spoilt ((y5.1, y4, (⟨#[43, 45, 46, 10, 48, 49, 71, 79]⟩ : ByteArray))) with
                  | none => none
                  | some y8 =>
                    some (y8)
                else
                  bif ((y5.2 == 3)) then
                    match F_spec_l1Cur_one ((y5.1, 4)) with
                    | none => none
                    | some y9 =>
                      bif y9.2 then
                        match F_spec_l1Cur_pick ((y9.1, 2)) with
                        | none => none
                        | some y10 =>
                          let v11 := IntKind.i64.wrap (2000 + y10.2)
                          match runL step_spec_l1Cur_editText_0 ((y4, v11, y10.1)) with
                          | none => none
                          | some o12 =>
                            some ((o12.2, o12.1))
                      else
                        bif decide (y4.size + y4.size ≤ 9223372036854775807) then
                          some ((y9.1, (y4 ++ y4)))
                        else none
                  else
                    some ((y5.1, y4))
              else
                bif ((y5.2 == 2)) then
                  match F_spec_l1Cur_spoilt ((y5.1, y4, (⟨#[43, 45, 46, 10, 48, 49, 71, 79]⟩ : ByteArray))) with
                  | none => none
                  | some y13 =>
                    some (y13)
                else
                  bif ((y5.2 == 3)) then
                    match F_spec_l1Cur_one ((y5.1, 4)) with
                    | none => none
                    | some y14 =>
                      bif y14.2 then
                        match F_spec_l1Cur_pick ((y14.1, 2)) with
                        | none => none
                        | some y15 =>
                          let v16 := IntKind.i64.wrap (2000 + y15.2)
                          match runL step_spec_l1Cur_editText_0 ((y4, v16, y15.1)) with
                          | none => none
                          | some o17 =>
                            some ((o17.2, o17.1))
                      else
                        bif decide (y4.size + y4.size ≤ 9223372036854775807) then
                          some ((y14.1, (y4 ++ y4)))
                        else none
                  else
                    some ((y5.1, y4))
noncomputable def c_spec_l1Cur_editText : Con := { ps := [(.io false, (.ptr (.st (.pair (.slice (.int .u8)) (.pair (.int .i64) (.int .u64))))))], rs := [(.val, .str)], F := F_spec_l1Cur_editText }
noncomputable def env_spec_l1Cur_editText : Env := { par := [63], dp := false, settle := [], con := fun f => match f with | 28 => some c_spec_l1Cur_pick | 31 => some c_spec_joGood | 33 => some c_spec_joText | 37 => some c_spec_l1Cur_one | 38 => some c_spec_l1Cur_spoilt | 48 => some c_spec_l1Cur_edits | 50 => some c_spec_l1Cur_of | _ => none, clo := fun _ => none, T := tinf Tryd.prog }
noncomputable def loops_spec_l1Cur_editText : Nat → Option Loop := fun n => match n with | 14 => some { pat := pat_spec_l1Cur_editText_0, outs := outs_spec_l1Cur_editText_0, run := runL (step_spec_l1Cur_editText_0) } | _ => none
theorem step_spec_l1Cur_editText_0_eq (s : ByteArray × Int × (List Int) × Int × Int) : stepEv env_spec_l1Cur_editText loops_spec_l1Cur_editText pat_spec_l1Cur_editText_0 outs_spec_l1Cur_editText_0 Tryd.f44 14 s = step_spec_l1Cur_editText_0 s := by kernel_rfl
theorem F_spec_l1Cur_editText_eq (x : ((List Int) × (Int × Int))) : Fev env_spec_l1Cur_editText loops_spec_l1Cur_editText c_spec_l1Cur_editText.ps c_spec_l1Cur_editText.rs Tryd.f44 x = F_spec_l1Cur_editText x := by kernel_rfl
theorem env_spec_l1Cur_editText_ok : EnvOK Tryd.prog env_spec_l1Cur_editText := envOK_of (fun f c h => by
  simp only [env_spec_l1Cur_editText] at h
  split at h
  · cases h; exact con_spec_l1Cur_pick
  · cases h; exact con_spec_joGood
  · cases h; exact con_spec_joText
  · cases h; exact con_spec_l1Cur_one
  · cases h; exact con_spec_l1Cur_spoilt
  · cases h; exact con_spec_l1Cur_edits
  · cases h; exact con_spec_l1Cur_of
  · cases h) (fun f c h => by cases h) rfl
theorem con_spec_l1Cur_editText : ConOK Tryd.prog 44 c_spec_l1Cur_editText := con_of_ev' (body := Tryd.f44.body.getD .skip) (Λ := loops_spec_l1Cur_editText) mixed Tryd.func44 (by kernel_rfl) (by kernel_rfl) env_spec_l1Cur_editText_ok (by kernel_rfl) (by kernel_rfl) (fun n L h => by
  unfold loops_spec_l1Cur_editText at h
  split at h
  · cases h; exact fun s o ho => loop_ok (stepF := stepEv env_spec_l1Cur_editText loops_spec_l1Cur_editText pat_spec_l1Cur_editText_0 outs_spec_l1Cur_editText_0 Tryd.f44 14) (step_spec_l1Cur_editText_0_eq) ho
  · cases h) F_spec_l1Cur_editText_eq

noncomputable def F_spec_DrawReadEdits (x : (List Int)) : Option (ByteArray) :=
  match F_spec_l1Cur_editText ((x, 0, 0)) with
  | none => none
  | some y1 =>
    some (y1.2)
noncomputable def c_spec_DrawReadEdits : Con := { ps := [(.val, (.slice (.int .u8)))], rs := [(.val, .str)], F := F_spec_DrawReadEdits }
noncomputable def env_spec_DrawReadEdits : Env := { par := [], dp := false, settle := [], con := fun f => match f with | 44 => some c_spec_l1Cur_editText | _ => none, clo := fun _ => none, T := tinf Tryd.prog }
noncomputable def loops_spec_DrawReadEdits : Nat → Option Loop := fun n => none
theorem F_spec_DrawReadEdits_eq (x : (List Int)) : Fev env_spec_DrawReadEdits loops_spec_DrawReadEdits c_spec_DrawReadEdits.ps c_spec_DrawReadEdits.rs Tryd.f20 x = F_spec_DrawReadEdits x := by kernel_rfl
theorem env_spec_DrawReadEdits_ok : EnvOK Tryd.prog env_spec_DrawReadEdits := envOK_of (fun f c h => by
  simp only [env_spec_DrawReadEdits] at h
  split at h
  · cases h; exact con_spec_l1Cur_editText
  · cases h) (fun f c h => by cases h) rfl
theorem con_spec_DrawReadEdits : ConOK Tryd.prog 20 c_spec_DrawReadEdits := con_of_ev' (body := Tryd.f20.body.getD .skip) (Λ := loops_spec_DrawReadEdits) mixed Tryd.func20 (by kernel_rfl) (by kernel_rfl) env_spec_DrawReadEdits_ok (by kernel_rfl) (by kernel_rfl) (fun n L h => by cases h) F_spec_DrawReadEdits_eq

noncomputable def F_spec_DrawSalvageEdits (x : (List Int)) : Option (ByteArray) :=
  match F_spec_DrawReadEdits (x) with
  | none => none
  | some y1 =>
    some (y1)
noncomputable def c_spec_DrawSalvageEdits : Con := { ps := [(.val, (.slice (.int .u8)))], rs := [(.val, .str)], F := F_spec_DrawSalvageEdits }
noncomputable def env_spec_DrawSalvageEdits : Env := { par := [], dp := false, settle := [], con := fun f => match f with | 20 => some c_spec_DrawReadEdits | _ => none, clo := fun _ => none, T := tinf Tryd.prog }
noncomputable def loops_spec_DrawSalvageEdits : Nat → Option Loop := fun n => none
theorem F_spec_DrawSalvageEdits_eq (x : (List Int)) : Fev env_spec_DrawSalvageEdits loops_spec_DrawSalvageEdits c_spec_DrawSalvageEdits.ps c_spec_DrawSalvageEdits.rs Tryd.f4 x = F_spec_DrawSalvageEdits x := by kernel_rfl
theorem env_spec_DrawSalvageEdits_ok : EnvOK Tryd.prog env_spec_DrawSalvageEdits := envOK_of (fun f c h => by
  simp only [env_spec_DrawSalvageEdits] at h
  split at h
  · cases h; exact con_spec_DrawReadEdits
  · cases h) (fun f c h => by cases h) rfl
theorem con_spec_DrawSalvageEdits : ConOK Tryd.prog 4 c_spec_DrawSalvageEdits := con_of_ev' (body := Tryd.f4.body.getD .skip) (Λ := loops_spec_DrawSalvageEdits) mixed Tryd.func4 (by kernel_rfl) (by kernel_rfl) env_spec_DrawSalvageEdits_ok (by kernel_rfl) (by kernel_rfl) (fun n L h => by cases h) F_spec_DrawSalvageEdits_eq

theorem IndexAny_ex : ∃ f : ByteArray × ByteArray → Option Int, f = fun x => bif decide (x.1.size < 4294967281) && decide (x.2 = pm) then some (Lib.indexAny x.1.data.toList [43, 45]) else none := ⟨_, rfl⟩
noncomputable def F_strings_IndexAny : ByteArray × ByteArray → Option Int := Classical.choose IndexAny_ex
theorem F_strings_IndexAny_is (x : ByteArray × ByteArray) : F_strings_IndexAny x = bif decide (x.1.size < 4294967281) && decide (x.2 = pm) then some (Lib.indexAny x.1.data.toList [43, 45]) else none := congrFun (Classical.choose_spec IndexAny_ex) x
noncomputable def c_strings_IndexAny : Con := { ps := [(.val, .str), (.val, .str)], rs := [(.val, .int .i64)], F := F_strings_IndexAny }
theorem calls_F_strings_IndexAny (w : World) (s t : ByteArray) (y : Int) (hy : F_strings_IndexAny (s, t) = some y) : Calls Tryd.prog 39 #[.string s, .string t] w fun e w' => e = .returned (.int .i64 y) ∧ Fr NoB w w' := by
  rw [F_strings_IndexAny_is] at hy
  obtain ⟨hg, hy⟩ := bif_none hy
  have hg : (decide (s.size < 4294967281) && decide (t = pm)) = true := hg
  obtain ⟨h0, h1⟩ := and_b hg
  have h0 : s.size < 4294967281 := of_decide_eq_true h0
  have h1 : t = pm := of_decide_eq_true h1
  subst h1
  have e : y = Lib.indexAny s.data.toList [43, 45] := (Option.some.inj hy).symm
  subst e
  refine (idxAny s h0 w).mono ?_
  rintro e w' ⟨rfl, hw⟩
  exact ⟨rfl, fr_of_below hw⟩
theorem con_strings_IndexAny : ConOK Tryd.prog 39 c_strings_IndexAny := con_of_pure ⟨Tryd.f39, Tryd.func39, by kernel_rfl, by kernel_rfl⟩ rfl rfl fun w x y hy _ => calls_F_strings_IndexAny w x.1 x.2 y hy

set_option maxHeartbeats 1000000 in
theorem calls_strings_IndexByte (s : ByteArray) (c : Int) (w : World) :
    Calls Tryd.prog 40 #[.string s, .int .u8 c] w fun e w' => e = .returned (.int .i64 (Lib.indexByte s.data.toList c.toNat.toUInt8)) ∧ w' = w := by
  go_enter Tryd.func40, Tryd.ntmps40
  go_wp2
  rw [run_callFunc_extern Tryd.func64 (by kernel_rfl) (by kernel_rfl) (by kernel_rfl) (e := Extern.BytealgIndexByte.indexByte) (by kernel_rfl), Lib.run_indexByteString]
  simp only [Result.andThen]
  rw [Oper.upon_value]
  go_wp2
  go_ret
  exact ⟨rfl, rfl⟩
def F_strings_IndexByte (x : ByteArray × Int) : Option Int := some (Lib.indexByte x.1.data.toList x.2.toNat.toUInt8)
def c_strings_IndexByte : Con := { ps := [(.val, .str), (.val, .int .u8)], rs := [(.val, .int .i64)], F := F_strings_IndexByte }
theorem con_strings_IndexByte : ConOK Tryd.prog 40 c_strings_IndexByte := con_of_pure ⟨Tryd.f40, Tryd.func40, by kernel_rfl, by kernel_rfl⟩ rfl rfl fun w x y hy _ => by
  have e : y = Lib.indexByte x.1.data.toList x.2.toNat.toUInt8 := (Option.some.inj hy).symm
  subst e
  refine (calls_strings_IndexByte x.1 x.2 w).mono ?_
  rintro e w' ⟨rfl, rfl⟩
  exact ⟨rfl, Fr.refl _ _⟩

theorem decimal_ex : ∃ f : ByteArray → Option (Int × Bool), f = fun x => bif decide (x.size ≤ 281474976710656) then some (decOf x) else none := ⟨_, rfl⟩
noncomputable def F_impl_decimal : ByteArray → Option (Int × Bool) := Classical.choose decimal_ex
theorem F_impl_decimal_is (x : ByteArray) : F_impl_decimal x = bif decide (x.size ≤ 281474976710656) then some (decOf x) else none := congrFun (Classical.choose_spec decimal_ex) x
noncomputable def c_impl_decimal : Con := { ps := [(.val, .str)], rs := [(.val, .int .i64), (.val, .bool)], F := F_impl_decimal }
theorem var_of_ifc {w : World} (ht : Tabs Tryd.prog w) {q : String} (hq : q ∈ ifcList) : ∃ tp p, w.var? Tryd.prog q = some #[.iface tp p] := (ht.2.2.2 q hq).2
theorem calls_F_impl_decimal (w : World) (s : ByteArray) (y : Int × Bool) (hy : F_impl_decimal s = some y) (ht : Tabs Tryd.prog w) : Calls Tryd.prog 41 #[.string s] w fun e w' => e = .returned (.tuple #[.int .i64 y.1, .bool y.2]) ∧ Fr NoB w w' := by
  rw [F_impl_decimal_is] at hy
  obtain ⟨hg, hy⟩ := bif_none hy
  have h0 : s.size ≤ 281474976710656 := of_decide_eq_true hg
  have e : y = decOf s := (Option.some.inj hy).symm
  subst e
  refine (calls_decimal s h0 w (var_of_ifc ht (by simp [ifcList])) (var_of_ifc ht (by simp [ifcList])) fun w' hw => (((fr_of_below hw).tabs ht).1 _ (List.mem_cons_self ..)).2).mono ?_
  rintro e w' ⟨rfl, hw⟩
  exact ⟨rfl, fr_of_below hw⟩
theorem con_impl_decimal : ConOK Tryd.prog 41 c_impl_decimal := con_of_pure ⟨Tryd.f41, Tryd.func41, by kernel_rfl, by kernel_rfl⟩ rfl rfl fun w x y hy ht => calls_F_impl_decimal w x y hy ht

noncomputable def F_impl_within (x : Int × Int × Int) : Option (Bool) :=
  bif (decide (x.1 ≥ x.2.1)) then
    some ((decide (x.1 ≤ x.2.2)))
  else
    some (false)
noncomputable def c_impl_within : Con := { ps := [(.val, (.int .i64)), (.val, (.int .i64)), (.val, (.int .i64))], rs := [(.val, .bool)], F := F_impl_within }
noncomputable def env_impl_within : Env := { par := [], dp := false, settle := [], con := fun _ => none, clo := fun _ => none, T := tinf Tryd.prog }
noncomputable def loops_impl_within : Nat → Option Loop := fun n => none
theorem F_impl_within_eq (x : Int × Int × Int) : Fev env_impl_within loops_impl_within c_impl_within.ps c_impl_within.rs Tryd.f29 x = F_impl_within x := by kernel_rfl
theorem env_impl_within_ok : EnvOK Tryd.prog env_impl_within := envOK_of (fun f c h => by cases h) (fun f c h => by cases h) rfl
theorem con_impl_within : ConOK Tryd.prog 29 c_impl_within := con_of_ev' (body := Tryd.f29.body.getD .skip) (Λ := loops_impl_within) mixed Tryd.func29 (by kernel_rfl) (by kernel_rfl) env_impl_within_ok (by kernel_rfl) (by kernel_rfl) (fun n L h => by cases h) F_impl_within_eq

noncomputable def step_impl_hasOnly_0 (s : ByteArray × ByteArray × Int × Int) : Option ((ByteArray × ByteArray × Int × Int) ⊕ ((Bool) ⊕ (Unit))) :=
  bif (decide (s.2.2.2 < s.2.2.1)) then
    bif decide (0 ≤ s.2.2.2) && decide (s.2.2.2 < (s.1.size : Int)) then
      match F_strings_IndexByte ((s.2.1, (byteAt s.1 (s.2.2.2).toNat))) with
      | none => none
      | some y3 =>
        bif (decide (y3 < 0)) then
          some (.inr (.inl (false)))
        else
          let v4 := IntKind.i64.wrap (s.2.2.2 + 1)
          some (.inl ((s.1, (s.2.1, s.2.2.1, v4))))
    else none
  else
    some (.inr (.inr (())))
def pat_impl_hasOnly_0 : Pat := { tmps := [.v .str, .v .str, .any, .any, .any, .any, .any, .v (.int .i64), .v (.int .i64), .any, .any, .any, .any, .any, .any, .any, .any, .any], blks := [] }
def outs_impl_hasOnly_0 : List (Exit × Pat) := [(.ret, { tmps := [.any, .any, .any, .any, .v .bool, .any, .any, .any, .any, .any, .any, .any, .any, .any, .any, .any, .any, .any], blks := [] }), (.exit 0, { tmps := [.any, .any, .any, .any, .any, .any, .any, .any, .any, .any, .any, .any, .any, .any, .any, .any, .any, .any], blks := [] })]
noncomputable def F_impl_hasOnly (x : ByteArray × ByteArray) : Option (Bool) :=
  match runL step_impl_hasOnly_0 ((x.1, (x.2, (x.1.size : Int), 0))) with
  | none => none
  | some (.inl o5) =>
    some (o5)
  | some (.inr o5) =>
    some (true)
noncomputable def c_impl_hasOnly : Con := { ps := [(.val, .str), (.val, .str)], rs := [(.val, .bool)], F := F_impl_hasOnly }
noncomputable def env_impl_hasOnly : Env := { par := [], dp := false, settle := [], con := fun f => match f with | 40 => some c_strings_IndexByte | _ => none, clo := fun _ => none, T := tinf Tryd.prog }
noncomputable def loops_impl_hasOnly : Nat → Option Loop := fun n => match n with | 2 => some { pat := pat_impl_hasOnly_0, outs := outs_impl_hasOnly_0, run := runL (step_impl_hasOnly_0) } | _ => none
theorem step_impl_hasOnly_0_eq (s : ByteArray × ByteArray × Int × Int) : stepEv env_impl_hasOnly loops_impl_hasOnly pat_impl_hasOnly_0 outs_impl_hasOnly_0 Tryd.f75 2 s = step_impl_hasOnly_0 s := by kernel_rfl
theorem F_impl_hasOnly_eq (x : ByteArray × ByteArray) : Fev env_impl_hasOnly loops_impl_hasOnly c_impl_hasOnly.ps c_impl_hasOnly.rs Tryd.f75 x = F_impl_hasOnly x := by kernel_rfl
theorem env_impl_hasOnly_ok : EnvOK Tryd.prog env_impl_hasOnly := envOK_of (fun f c h => by
  simp only [env_impl_hasOnly] at h
  split at h
  · cases h; exact con_strings_IndexByte
  · cases h) (fun f c h => by cases h) rfl
theorem con_impl_hasOnly : ConOK Tryd.prog 75 c_impl_hasOnly := con_of_ev' (body := Tryd.f75.body.getD .skip) (Λ := loops_impl_hasOnly) mixed Tryd.func75 (by kernel_rfl) (by kernel_rfl) env_impl_hasOnly_ok (by kernel_rfl) (by kernel_rfl) (fun n L h => by
  unfold loops_impl_hasOnly at h
  split at h
  · cases h; exact fun s o ho => loop_ok (stepF := stepEv env_impl_hasOnly loops_impl_hasOnly pat_impl_hasOnly_0 outs_impl_hasOnly_0 Tryd.f75 2) (step_impl_hasOnly_0_eq) ho
  · cases h) F_impl_hasOnly_eq

noncomputable def F_impl_isWordOf (x : ByteArray × ByteArray) : Option (Bool) :=
  match F_impl_within (((x.1.size : Int), 1, 8)) with
  | none => none
  | some y1 =>
    bif y1 then
      match F_impl_hasOnly (x) with
      | none => none
      | some y2 =>
        some (y2)
    else
      some (false)
noncomputable def c_impl_isWordOf : Con := { ps := [(.val, .str), (.val, .str)], rs := [(.val, .bool)], F := F_impl_isWordOf }
noncomputable def env_impl_isWordOf : Env := { par := [], dp := false, settle := [], con := fun f => match f with | 29 => some c_impl_within | 75 => some c_impl_hasOnly | _ => none, clo := fun _ => none, T := tinf Tryd.prog }
noncomputable def loops_impl_isWordOf : Nat → Option Loop := fun n => none
theorem F_impl_isWordOf_eq (x : ByteArray × ByteArray) : Fev env_impl_isWordOf loops_impl_isWordOf c_impl_isWordOf.ps c_impl_isWordOf.rs Tryd.f68 x = F_impl_isWordOf x := by kernel_rfl
theorem env_impl_isWordOf_ok : EnvOK Tryd.prog env_impl_isWordOf := envOK_of (fun f c h => by
  simp only [env_impl_isWordOf] at h
  split at h
  · cases h; exact con_impl_within
  · cases h; exact con_impl_hasOnly
  · cases h) (fun f c h => by cases h) rfl
theorem con_impl_isWordOf : ConOK Tryd.prog 68 c_impl_isWordOf := con_of_ev' (body := Tryd.f68.body.getD .skip) (Λ := loops_impl_isWordOf) mixed Tryd.func68 (by kernel_rfl) (by kernel_rfl) env_impl_isWordOf_ok (by kernel_rfl) (by kernel_rfl) (fun n L h => by cases h) F_impl_isWordOf_eq

noncomputable def F_impl_IsGloss (x : ByteArray) : Option (Bool) :=
  match F_impl_isWordOf ((x, (⟨#[65, 66, 67, 68, 69, 70, 71, 72, 73, 74, 75, 76, 77, 78, 79, 80, 81, 82, 83, 84, 85, 86, 87, 88, 89, 90]⟩ : ByteArray))) with
  | none => none
  | some y1 =>
    some (y1)
noncomputable def c_impl_IsGloss : Con := { ps := [(.val, .str)], rs := [(.val, .bool)], F := F_impl_IsGloss }
noncomputable def env_impl_IsGloss : Env := { par := [], dp := false, settle := [], con := fun f => match f with | 68 => some c_impl_isWordOf | _ => none, clo := fun _ => none, T := tinf Tryd.prog }
noncomputable def loops_impl_IsGloss : Nat → Option Loop := fun n => none
theorem F_impl_IsGloss_eq (x : ByteArray) : Fev env_impl_IsGloss loops_impl_IsGloss c_impl_IsGloss.ps c_impl_IsGloss.rs Tryd.f60 x = F_impl_IsGloss x := by kernel_rfl
theorem env_impl_IsGloss_ok : EnvOK Tryd.prog env_impl_IsGloss := envOK_of (fun f c h => by
  simp only [env_impl_IsGloss] at h
  split at h
  · cases h; exact con_impl_isWordOf
  · cases h) (fun f c h => by cases h) rfl
theorem con_impl_IsGloss : ConOK Tryd.prog 60 c_impl_IsGloss := con_of_ev' (body := Tryd.f60.body.getD .skip) (Λ := loops_impl_IsGloss) mixed Tryd.func60 (by kernel_rfl) (by kernel_rfl) env_impl_IsGloss_ok (by kernel_rfl) (by kernel_rfl) (fun n L h => by cases h) F_impl_IsGloss_eq

noncomputable def F_impl_isLogEdit (x : (Int × (ByteArray × Bool))) : Option (Bool) :=
  match F_impl_within ((x.1, 1, 999)) with
  | none => none
  | some y1 =>
    bif y1 then
      match F_impl_IsGloss (x.2.1) with
      | none => none
      | some y2 =>
        some (y2)
    else
      some (false)
noncomputable def c_impl_isLogEdit : Con := { ps := [(.val, (.st (.pair (.int .i64) (.pair .str .bool))))], rs := [(.val, .bool)], F := F_impl_isLogEdit }
noncomputable def env_impl_isLogEdit : Env := { par := [], dp := false, settle := [], con := fun f => match f with | 29 => some c_impl_within | 60 => some c_impl_IsGloss | _ => none, clo := fun _ => none, T := tinf Tryd.prog }
noncomputable def loops_impl_isLogEdit : Nat → Option Loop := fun n => none
theorem F_impl_isLogEdit_eq (x : (Int × (ByteArray × Bool))) : Fev env_impl_isLogEdit loops_impl_isLogEdit c_impl_isLogEdit.ps c_impl_isLogEdit.rs Tryd.f42 x = F_impl_isLogEdit x := by kernel_rfl
theorem env_impl_isLogEdit_ok : EnvOK Tryd.prog env_impl_isLogEdit := envOK_of (fun f c h => by
  simp only [env_impl_isLogEdit] at h
  split at h
  · cases h; exact con_impl_within
  · cases h; exact con_impl_IsGloss
  · cases h) (fun f c h => by cases h) rfl
theorem con_impl_isLogEdit : ConOK Tryd.prog 42 c_impl_isLogEdit := con_of_ev' (body := Tryd.f42.body.getD .skip) (Λ := loops_impl_isLogEdit) mixed Tryd.func42 (by kernel_rfl) (by kernel_rfl) env_impl_isLogEdit_ok (by kernel_rfl) (by kernel_rfl) (fun n L h => by cases h) F_impl_isLogEdit_eq

theorem Itoa_ex : ∃ f : Int → Option ByteArray, f = fun n => bif decide (-9223372036854775808 ≤ n) && decide (n ≤ 9223372036854775807) then some ⟨(Lib.itoa n).toArray⟩ else none := ⟨_, rfl⟩
noncomputable def F_strconv_Itoa : Int → Option ByteArray := Classical.choose Itoa_ex
theorem F_strconv_Itoa_is (n : Int) : F_strconv_Itoa n = bif decide (-9223372036854775808 ≤ n) && decide (n ≤ 9223372036854775807) then some ⟨(Lib.itoa n).toArray⟩ else none := congrFun (Classical.choose_spec Itoa_ex) n
noncomputable def c_strconv_Itoa : Con := { ps := [(.val, .int .i64)], rs := [(.val, .str)], F := F_strconv_Itoa }
theorem calls_F_strconv_Itoa (w : World) (x : Int) (y : ByteArray) (hy : F_strconv_Itoa x = some y) (ht : Tabs Tryd.prog w) : Calls Tryd.prog 59 #[.int .i64 x] w fun e w' => e = .returned (.string y) ∧ Fr NoB w w' := by
  rw [F_strconv_Itoa_is] at hy
  obtain ⟨hg, hy⟩ := bif_none hy
  obtain ⟨h0, h1⟩ := and_b hg
  have h0 : -9223372036854775808 ≤ x := of_decide_eq_true h0
  have h1 : x ≤ 9223372036854775807 := of_decide_eq_true h1
  have e : y = ⟨(Lib.itoa x).toArray⟩ := (Option.some.inj hy).symm
  subst e
  refine (Tryd.strconv_Itoa x h0 h1 w (ht.1 _ (List.mem_cons_self ..)).2).mono ?_
  rintro e w' ⟨rfl, k, os, rfl⟩
  exact ⟨rfl, fr_of_below (Go.Lib.below_grow _ _ (Nat.le_refl _) k os)⟩
theorem con_strconv_Itoa : ConOK Tryd.prog 59 c_strconv_Itoa := con_of_pure ⟨Tryd.f59, Tryd.func59, by kernel_rfl, by kernel_rfl⟩ rfl rfl fun w x y hy ht => calls_F_strconv_Itoa w x y hy ht

noncomputable def step_impl_LogEdit_line_0 (s : ByteArray × Int × Int × Int) : Option ((ByteArray × Int × Int × Int) ⊕ ((ByteArray × Int))) :=
  bif (decide (s.2.2.2 < s.2.2.1)) then
    let v20 := IntKind.i64.wrap (7 * s.2.1)
    bif decide (0 ≤ s.2.2.2) && decide (s.2.2.2 < (s.1.size : Int)) then
      let v21 := IntKind.i64.wrap (byteAt s.1 (s.2.2.2).toNat)
      let v22 := IntKind.i64.wrap (v20 + v21)
      bif !decide (9973 = 0) then
        let v23 := (v22).tmod 9973
        let v24 := IntKind.i64.wrap (s.2.2.2 + 1)
        some (.inl ((s.1, (v23, s.2.2.1, v24))))
      else none
    else none
  else
    some (.inr ((s.1, s.2.1)))
def pat_impl_LogEdit_line_0 : Pat := { tmps := [.any, .any, .any, .v .str, .v (.int .i64), .any, .any, .any, .any, .any, .any, .any, .any, .any, .any, .any, .any, .any, .any, .any, .any, .any, .any, .v (.int .i64), .v (.int .i64), .any, .any, .any, .any, .any, .any, .any, .any, .any, .any, .any, .any, .any, .any, .any, .any, .any], blks := [] }
def outs_impl_LogEdit_line_0 : List (Exit × Pat) := [(.exit 0, { tmps := [.any, .any, .any, .v .str, .v (.int .i64), .any, .any, .any, .any, .any, .any, .any, .any, .any, .any, .any, .any, .any, .any, .any, .any, .any, .any, .any, .any, .any, .any, .any, .any, .any, .any, .any, .any, .any, .any, .any, .any, .any, .any, .any, .any, .any], blks := [] })]
noncomputable def F_impl_LogEdit_line (x : (Int × (ByteArray × Bool))) : Option (ByteArray) :=
  match F_strconv_Itoa (x.1) with
  | none => none
  | some y1 =>
    bif decide (y1.size + (⟨#[43]⟩ : ByteArray).size ≤ 9223372036854775807) then
      bif decide ((y1 ++ (⟨#[43]⟩ : ByteArray)).size + x.2.1.size ≤ 9223372036854775807) then
        bif x.2.2 then
          match F_strconv_Itoa (x.1) with
          | none => none
          | some y2 =>
            bif decide (y2.size + (⟨#[45]⟩ : ByteArray).size ≤ 9223372036854775807) then
              bif decide ((y2 ++ (⟨#[45]⟩ : ByteArray)).size + x.2.1.size ≤ 9223372036854775807) then
                match runL step_impl_LogEdit_line_0 ((((y2 ++ (⟨#[45]⟩ : ByteArray)) ++ x.2.1), (3, (((y2 ++ (⟨#[45]⟩ : ByteArray)) ++ x.2.1).size : Int), 0))) with
                | none => none
                | some o13 =>
                  bif decide (o13.1.size + (⟨#[46]⟩ : ByteArray).size ≤ 9223372036854775807) then
                    match F_strconv_Itoa (o13.2) with
                    | none => none
                    | some y14 =>
                      bif decide ((o13.1 ++ (⟨#[46]⟩ : ByteArray)).size + y14.size ≤ 9223372036854775807) then
                        bif decide (((o13.1 ++ (⟨#[46]⟩ : ByteArray)) ++ y14).size + (⟨#[10]⟩ : ByteArray).size ≤ 9223372036854775807) then
                          some ((((o13.1 ++ (⟨#[46]⟩ : ByteArray)) ++ y14) ++ (⟨#[10]⟩ : ByteArray)))
                        else none
                      else none
                  else none
              else none
            else none
        else
          match runL step_impl_LogEdit_line_0 ((((y1 ++ (⟨#[43]⟩ : ByteArray)) ++ x.2.1), (3, (((y1 ++ (⟨#[43]⟩ : ByteArray)) ++ x.2.1).size : Int), 0))) with
          | none => none
          | some o25 =>
            bif decide (o25.1.size + (⟨#[46]⟩ : ByteArray).size ≤ 9223372036854775807) then
              match F_strconv_Itoa (o25.2) with
              | none => none
              | some y26 =>
                bif decide ((o25.1 ++ (⟨#[46]⟩ : ByteArray)).size + y26.size ≤ 9223372036854775807) then
                  bif decide (((o25.1 ++ (⟨#[46]⟩ : ByteArray)) ++ y26).size + (⟨#[10]⟩ : ByteArray).size ≤ 9223372036854775807) then
                    some ((((o25.1 ++ (⟨#[46]⟩ : ByteArray)) ++ y26) ++ (⟨#[10]⟩ : ByteArray)))
                  else none
                else none
            else none
      else none
    else none
noncomputable def c_impl_LogEdit_line : Con := { ps := [(.val, (.st (.pair (.int .i64) (.pair .str .bool))))], rs := [(.val, .str)], F := F_impl_LogEdit_line }
noncomputable def env_impl_LogEdit_line : Env := { par := [], dp := false, settle := [], con := fun f => match f with | 59 => some c_strconv_Itoa | _ => none, clo := fun _ => none, T := tinf Tryd.prog }
noncomputable def loops_impl_LogEdit_line : Nat → Option Loop := fun n => match n with | 6 => some { pat := pat_impl_LogEdit_line_0, outs := outs_impl_LogEdit_line_0, run := runL (step_impl_LogEdit_line_0) } | _ => none
theorem step_impl_LogEdit_line_0_eq (s : ByteArray × Int × Int × Int) : stepEv env_impl_LogEdit_line loops_impl_LogEdit_line pat_impl_LogEdit_line_0 outs_impl_LogEdit_line_0 Tryd.f43 6 s = step_impl_LogEdit_line_0 s := by kernel_rfl
theorem F_impl_LogEdit_line_eq (x : (Int × (ByteArray × Bool))) : Fev env_impl_LogEdit_line loops_impl_LogEdit_line c_impl_LogEdit_line.ps c_impl_LogEdit_line.rs Tryd.f43 x = F_impl_LogEdit_line x := by kernel_rfl
theorem env_impl_LogEdit_line_ok : EnvOK Tryd.prog env_impl_LogEdit_line := envOK_of (fun f c h => by
  simp only [env_impl_LogEdit_line] at h
  split at h
  · cases h; exact con_strconv_Itoa
  · cases h) (fun f c h => by cases h) rfl
theorem con_impl_LogEdit_line : ConOK Tryd.prog 43 c_impl_LogEdit_line := con_of_ev' (body := Tryd.f43.body.getD .skip) (Λ := loops_impl_LogEdit_line) mixed Tryd.func43 (by kernel_rfl) (by kernel_rfl) env_impl_LogEdit_line_ok (by kernel_rfl) (by kernel_rfl) (fun n L h => by
  unfold loops_impl_LogEdit_line at h
  split at h
  · cases h; exact fun s o ho => loop_ok (stepF := stepEv env_impl_LogEdit_line loops_impl_LogEdit_line pat_impl_LogEdit_line_0 outs_impl_LogEdit_line_0 Tryd.f43 6) (step_impl_LogEdit_line_0_eq) ho
  · cases h) F_impl_LogEdit_line_eq

noncomputable def F_impl_ParseEditLine (x : ByteArray) : Option ((Int × (ByteArray × Bool)) × Bool) :=
  match F_strings_IndexAny ((x, (⟨#[43, 45]⟩ : ByteArray))) with
  | none => none
  | some y1 =>
    match F_strings_IndexByte ((x, 46)) with
    | none => none
    | some y2 =>
      bif (decide (y1 < 0)) then
        some (((0, ByteArray.empty, false), false))
      else
        bif (decide (y2 < y1)) then
          some (((0, ByteArray.empty, false), false))
        else
          bif (decide ((x.size : Int) > 2000)) then
            some (((0, ByteArray.empty, false), false))
          else
            let v3 := IntKind.i64.wrap (y1 + 1)
            bif decide (0 ≤ v3) && decide (v3 ≤ y2) && decide (y2 ≤ (x.size : Int)) then
              bif decide (0 ≤ y1) && decide (y1 < (x.size : Int)) then
                bif decide (0 ≤ (0 : Int)) && decide ((0 : Int) ≤ y1) && decide (y1 ≤ (x.size : Int)) then
                  match F_impl_decimal ((x.extract ((0 : Int)).toNat (y1).toNat)) with
                  | none => none
                  | some y4 =>
                    match F_impl_isLogEdit ((y4.1, (x.extract (v3).toNat (y2).toNat), (((byteAt x (y1).toNat) == 45)))) with
                    | none => none
                    | some y5 =>
                      bif (!y5) then
                        some (((0, ByteArray.empty, false), false))
                      else
                        match F_impl_LogEdit_line ((y4.1, (x.extract (v3).toNat (y2).toNat), (((byteAt x (y1).toNat) == 45)))) with
                        | none => none
                        | some y6 =>
                          bif (!(y6.toList == x.toList)) then
                            some (((0, ByteArray.empty, false), false))
                          else
                            some (((y4.1, (x.extract (v3).toNat (y2).toNat), (((byteAt x (y1).toNat) == 45))), true))
                else none
              else none
            else none
noncomputable def c_impl_ParseEditLine : Con := { ps := [(.val, .str)], rs := [(.val, (.st (.pair (.int .i64) (.pair .str .bool)))), (.val, .bool)], F := F_impl_ParseEditLine }
noncomputable def env_impl_ParseEditLine : Env := { par := [], dp := false, settle := [], con := fun f => match f with | 39 => some c_strings_IndexAny | 40 => some c_strings_IndexByte | 41 => some c_impl_decimal | 42 => some c_impl_isLogEdit | 43 => some c_impl_LogEdit_line | _ => none, clo := fun _ => none, T := tinf Tryd.prog }
noncomputable def loops_impl_ParseEditLine : Nat → Option Loop := fun n => none
theorem F_impl_ParseEditLine_eq (x : ByteArray) : Fev env_impl_ParseEditLine loops_impl_ParseEditLine c_impl_ParseEditLine.ps c_impl_ParseEditLine.rs Tryd.f13 x = F_impl_ParseEditLine x := by kernel_rfl
theorem env_impl_ParseEditLine_ok : EnvOK Tryd.prog env_impl_ParseEditLine := envOK_of (fun f c h => by
  simp only [env_impl_ParseEditLine] at h
  split at h
  · cases h; exact con_strings_IndexAny
  · cases h; exact con_strings_IndexByte
  · cases h; exact con_impl_decimal
  · cases h; exact con_impl_isLogEdit
  · cases h; exact con_impl_LogEdit_line
  · cases h) (fun f c h => by cases h) rfl
theorem con_impl_ParseEditLine : ConOK Tryd.prog 13 c_impl_ParseEditLine := con_of_ev' (body := Tryd.f13.body.getD .skip) (Λ := loops_impl_ParseEditLine) mixed Tryd.func13 (by kernel_rfl) (by kernel_rfl) env_impl_ParseEditLine_ok (by kernel_rfl) (by kernel_rfl) (fun n L h => by cases h) F_impl_ParseEditLine_eq

noncomputable def step_impl_AreEdits_0 (s : (List (Int × (ByteArray × Bool))) × (List (Int × (ByteArray × Bool))) × Int × Int) : Option (((List (Int × (ByteArray × Bool))) × (List (Int × (ByteArray × Bool))) × Int × Int) ⊕ ((Bool) ⊕ ((List (Int × (ByteArray × Bool)))))) :=
  bif (decide (s.2.2.2 < s.2.2.1)) then
    bif decide (0 ≤ s.2.2.2) && decide (s.2.2.2 < (s.2.1.length : Int)) then
      match F_impl_isLogEdit ((s.2.1.getD (s.2.2.2).toNat (0, ByteArray.empty, false))) with
      | none => none
      | some y5 =>
        bif (!y5) then
          some (.inr (.inl (false)))
        else
          bif (decide (s.2.2.2 > 0)) then
            let v6 := IntKind.i64.wrap (s.2.2.2 - 1)
            bif decide (0 ≤ v6) && decide (v6 < (s.1.length : Int)) then
              bif (decide ((s.2.1.getD (s.2.2.2).toNat (0, ByteArray.empty, false)).1 ≤ (s.1.getD (v6).toNat (0, ByteArray.empty, false)).1)) then
                some (.inr (.inl (false)))
              else
                let v7 := IntKind.i64.wrap (s.2.2.2 + 1)
                some (.inl ((s.1, (s.2.1, s.2.2.1, v7))))
            else none
          else
            let v8 := IntKind.i64.wrap (s.2.2.2 + 1)
            some (.inl ((s.1, (s.2.1, s.2.2.1, v8))))
    else none
  else
    some (.inr (.inr (s.1)))
def pat_impl_AreEdits_0 : Pat := { tmps := [.v (.slice (.st (.pair (.int .i64) (.pair .str .bool)))), .any, .any, .any, .any, .v (.slice (.st (.pair (.int .i64) (.pair .str .bool)))), .v (.int .i64), .v (.int .i64), .any, .any, .any, .any, .any, .any, .any, .any, .any, .any, .any, .any, .any, .any, .any, .any, .any, .any, .any, .any, .any, .any, .any, .any, .any, .any], blks := [] }
def outs_impl_AreEdits_0 : List (Exit × Pat) := [(.ret, { tmps := [.any, .any, .v .bool, .any, .any, .any, .any, .any, .any, .any, .any, .any, .any, .any, .any, .any, .any, .any, .any, .any, .any, .any, .any, .any, .any, .any, .any, .any, .any, .any, .any, .any, .any, .any], blks := [] }), (.exit 0, { tmps := [.v (.slice (.st (.pair (.int .i64) (.pair .str .bool)))), .any, .any, .any, .any, .any, .any, .any, .any, .any, .any, .any, .any, .any, .any, .any, .any, .any, .any, .any, .any, .any, .any, .any, .any, .any, .any, .any, .any, .any, .any, .any, .any, .any], blks := [] })]
noncomputable def F_impl_AreEdits (x : (List (Int × (ByteArray × Bool)))) : Option (Bool) :=
  match runL step_impl_AreEdits_0 ((x, (x, (x.length : Int), 0))) with
  | none => none
  | some (.inl o9) =>
    some (o9)
  | some (.inr o9) =>
    some ((decide ((o9.length : Int) ≤ 40)))
noncomputable def c_impl_AreEdits : Con := { ps := [(.val, (.slice (.st (.pair (.int .i64) (.pair .str .bool)))))], rs := [(.val, .bool)], F := F_impl_AreEdits }
noncomputable def env_impl_AreEdits : Env := { par := [], dp := false, settle := [], con := fun f => match f with | 42 => some c_impl_isLogEdit | _ => none, clo := fun _ => none, T := tinf Tryd.prog }
noncomputable def loops_impl_AreEdits : Nat → Option Loop := fun n => match n with | 2 => some { pat := pat_impl_AreEdits_0, outs := outs_impl_AreEdits_0, run := runL (step_impl_AreEdits_0) } | _ => none
theorem step_impl_AreEdits_0_eq (s : (List (Int × (ByteArray × Bool))) × (List (Int × (ByteArray × Bool))) × Int × Int) : stepEv env_impl_AreEdits loops_impl_AreEdits pat_impl_AreEdits_0 outs_impl_AreEdits_0 Tryd.f16 2 s = step_impl_AreEdits_0 s := by kernel_rfl
theorem F_impl_AreEdits_eq (x : (List (Int × (ByteArray × Bool)))) : Fev env_impl_AreEdits loops_impl_AreEdits c_impl_AreEdits.ps c_impl_AreEdits.rs Tryd.f16 x = F_impl_AreEdits x := by kernel_rfl
theorem env_impl_AreEdits_ok : EnvOK Tryd.prog env_impl_AreEdits := envOK_of (fun f c h => by
  simp only [env_impl_AreEdits] at h
  split at h
  · cases h; exact con_impl_isLogEdit
  · cases h) (fun f c h => by cases h) rfl
theorem con_impl_AreEdits : ConOK Tryd.prog 16 c_impl_AreEdits := con_of_ev' (body := Tryd.f16.body.getD .skip) (Λ := loops_impl_AreEdits) mixed Tryd.func16 (by kernel_rfl) (by kernel_rfl) env_impl_AreEdits_ok (by kernel_rfl) (by kernel_rfl) (fun n L h => by
  unfold loops_impl_AreEdits at h
  split at h
  · cases h; exact fun s o ho => loop_ok (stepF := stepEv env_impl_AreEdits loops_impl_AreEdits pat_impl_AreEdits_0 outs_impl_AreEdits_0 Tryd.f16 2) (step_impl_AreEdits_0_eq) ho
  · cases h) F_impl_AreEdits_eq

section
open Go.RowKit
theorem nil_slices_Clone_impl_LogEdit_impl_LogEdit (n c : Nat) (w : World) : Calls Tryd.prog 22 #[.slice none n c] w fun e w' => e = .returned (.slice none 0 0) ∧ w' = w := by
  have q : ∀ (w : World) (a : Option Addr) (n c n' c' : Nat), (binOp .eql 24 (.slice a n c) (.slice none n' c')).run Tryd.prog w = .ok (.bool a.isNone) w := fun w a n c n' c' => Lib.run_eql_slice_nil w _ _ a n c n' c' (show Tryd.prog.underlying 24 = some (.slice 34) by kernel_rfl)
  go_enter Tryd.func22, Tryd.ntmps22
  go_wp2
  go_ret
  exact ⟨rfl, rfl⟩
set_option maxHeartbeats 2000000 in
theorem some_slices_Clone_impl_LogEdit_impl_LogEdit (ad : Addr) (n c : Nat) (news : List Value) (w : World) (hl : news.length = n * 3) (hc : ∀ j u, news[j]? = some u → w.cell? (ad.add j) = some u) (h1 : ∀ u ∈ news, u.oneCell' = true) (hbig : n * 32 ≤ 140737488355328) :
    Calls Tryd.prog 22 #[.slice (some ad) n c] w fun e w' => ∃ v', e = .returned v' ∧ w'.ownsRow w.heap.size 34 3 v' n news ∧ Below w.heap.size w w' := by
  have q : ∀ (w : World) (a : Option Addr) (n c n' c' : Nat), (binOp .eql 24 (.slice a n c) (.slice none n' c')).run Tryd.prog w = .ok (.bool a.isNone) w := fun w a n c n' c' => Lib.run_eql_slice_nil w _ _ a n c n' c' (show Tryd.prog.underlying 24 = some (.slice 34) by kernel_rfl)
  obtain ⟨i0, hi, hz0, hz1, hz2⟩ := info_parts (P := Tryd.prog) (e := 34) (z := (.agg #[(.int .i64 0), (.string ⟨#[]⟩), (.bool false)])) (size := 3) (bytes := 32) (by kernel_rfl)
  have A : Aside (∀ j u, news[j]? = some u → w.cell? (ad.add j) = some u) := hc
  clear hc
  go_enter Tryd.func22, Tryd.ntmps22
  go_wp2_with (at_builtin; refine wpList_append_own _ rfl _ _ 24 rfl w.heap.size 34 i0 (.agg #[(.int .i64 0), (.string ⟨#[]⟩), (.bool false)]) 3 32 (by kernel_rfl) hi hz0 hz1 hz2 rfl (by decide) _ _ _ rfl (World.ownsRow_made w #[] 0 (Nat.le_refl _) (Nat.zero_le _) rfl) ad n c news rfl ?qc1 ?qc2 ?qc3 ?qc4 ?qc5 ?qc6 ?_)
  case qc1 => exact hl
  case qc2 => exact fun j u hj => Lib.cell?_alloc_some _ (A.out j u hj)
  case qc3 => exact h1
  case qc4 => unfold maxLen; omega
  case qc5 => omega
  case qc6 => simp
  intro v' w1 hown hgrow hnil
  go_wp2
  go_ret
  refine ⟨v', rfl, by simpa using hown, ?_⟩
  exact ((Below.refl _ w).alloc (Nat.le_refl _) _).grown hgrow (by simp) (by intro k hk; simp [Value.ownBlock] at hk; omega)
def F_slices_Clone_impl_LogEdit_impl_LogEdit (x : List (Int × (ByteArray × Bool))) : Option (List (Int × (ByteArray × Bool))) := bif decide (x.length * 32 ≤ 140737488355328) then some x else none
noncomputable def c_slices_Clone_impl_LogEdit_impl_LogEdit : Con := { ps := [(.val, .slice (.st (.pair (.int .i64) (.pair .str .bool))))], rs := [(.io true, .slice (.st (.pair (.int .i64) (.pair .str .bool))))], F := F_slices_Clone_impl_LogEdit_impl_LogEdit }
theorem con_slices_Clone_impl_LogEdit_impl_LogEdit : ConOK Tryd.prog 22 c_slices_Clone_impl_LogEdit_impl_LogEdit := con_clone ⟨Tryd.f22, Tryd.func22, by kernel_rfl, by kernel_rfl⟩ (.st (.pair (.int .i64) (.pair .str .bool))) true rfl 32 34 nil_slices_Clone_impl_LogEdit_impl_LogEdit some_slices_Clone_impl_LogEdit_impl_LogEdit
end

set_option maxHeartbeats 1000000 in
theorem calls_strings_Lines (s : ByteArray) (w : World) : Calls Tryd.prog 21 #[.string s] w fun e w' => e = .returned (.func (.func 45) #[] #[.pointer (some ⟨w.heap.size, 0, none⟩)]) ∧ w' = w.alloc (.cells #[.string s] 9) := by
  go_enter Tryd.func21, Tryd.ntmps21
  go_wp2
  go_ret
  exact ⟨rfl, rfl⟩
abbrev tyE : Ty := .st (.pair (.int .i64) (.pair .str .bool))
attribute [local go_sem] Oper.semAt_some
noncomputable def step_impl_SalvageEdits_L (s : (List (Int × (ByteArray × Bool)))) (x : ByteArray) : Option (((List (Int × (ByteArray × Bool)))) ⊕ ((List (Int × (ByteArray × Bool))))) :=
  match F_impl_ParseEditLine (x) with
  | none => none
  | some y1 =>
    bif y1.2 then
      match F_slices_Clone_impl_LogEdit_impl_LogEdit (s) with
      | none => none
      | some y2 =>
        bif decide ((y2.length + ([y1.1] : List ((Int × (ByteArray × Bool)))).length) * 32 ≤ 140737488355328) then
          let v3 := y2 ++ ([y1.1] : List ((Int × (ByteArray × Bool))))
          match F_impl_AreEdits (v3) with
          | none => none
          | some y4 =>
            bif y4 then
              bif decide ((s.length + [y1.1].length) * 32 ≤ 140737488355328) then
                let v5 := s ++ [y1.1]
                some (.inl (v5))
              else none
            else
              some (.inl (s))
        else none
    else
      some (.inl (s))
def pat_impl_SalvageEdits_L : Pat := { tmps := [.any, .any, .any, .any, .ptr 62 0, .any, .any, .any, .any, .any, .any, .any, .any, .any, .any, .any, .any, .any, .any, .any, .any, .any, .any, .any, .any, .any, .any, .any, .any, .any, .any, .any, .any], blks := [(62, .box [.own 126]), (126, .row true (.st (.pair (.int .i64) (.pair .str .bool))))] }
noncomputable def env_impl_SalvageEdits : Env := { par := [62, 126], dp := false, settle := [], con := fun f => match f with | 13 => some c_impl_ParseEditLine | 16 => some c_impl_AreEdits | 22 => some c_slices_Clone_impl_LogEdit_impl_LogEdit | _ => none, clo := fun _ => none, T := tinf Tryd.prog }
noncomputable def body_impl_SalvageEdits : Code := rfBody (Tryd.f5.body.getD .skip)
theorem step_impl_SalvageEdits_L_eq (s : (List (Int × (ByteArray × Bool)))) (x : ByteArray) : ev env_impl_SalvageEdits (fun _ => none) body_impl_SalvageEdits (((pat_impl_SalvageEdits_L.enc s).set 13 (.c (.str x))).set 5 (.c (.str x))) (kstep pat_impl_SalvageEdits_L [(.exit 0, pat_impl_SalvageEdits_L)]) = step_impl_SalvageEdits_L s x := by kernel_rfl
theorem env_impl_SalvageEdits_ok : EnvOK Tryd.prog env_impl_SalvageEdits := envOK_of (fun f c h => by
  simp only [env_impl_SalvageEdits] at h
  split at h
  · cases h; exact con_impl_ParseEditLine
  · cases h; exact con_impl_AreEdits
  · cases h; exact con_slices_Clone_impl_LogEdit_impl_LogEdit
  · cases h) (fun f c h => by cases h) rfl
noncomputable def F_impl_SalvageEdits (x : ByteArray) : Option (List (Int × (ByteArray × Bool)) × Bool) :=
  bif decide ((x.size : Int) > 2000) then some ([], false) else
  match foldL step_impl_SalvageEdits_L [] (linesOf x) with
  | none => none
  | some (.inl s) => some (s, true)
  | some (.inr s) => some (s, true)
def Post_impl_SalvageEdits (w : World) (y : List (Int × (ByteArray × Bool)) × Bool) (e : Ending) (w' : World) : Prop := ∃ v, ∃ F : Nat → Prop, e = .returned (.tuple #[v, .bool y.2]) ∧ (∀ b, F b → w.heap.size ≤ b ∧ b < w'.heap.size) ∧ RowOf Tryd.prog false true tyE w' NoB F v y.1 ∧ Fr NoB w w'
open Go.RowKit in
set_option maxHeartbeats 8000000 in
set_option maxRecDepth 1000000 in
theorem calls_impl_SalvageEdits (x : ByteArray) (w : World) (y : List (Int × (ByteArray × Bool)) × Bool) (hF : F_impl_SalvageEdits x = some y) (ht : Tabs Tryd.prog w) :
    Calls Tryd.prog 5 #[.string x] w fun e w' => Post_impl_SalvageEdits w y e w' := by
  refine (callsIn_wide (n := 3)).1 ?_
  refine callsIn_of_wp_marks (F := Fence.wide) Tryd.func5 rfl trivial ?_ rfl
  simp only [Tryd.ntmps5, List.size_toArray, List.length_cons, List.length_nil, Nat.reduceAdd, Nat.reduceSub, Array.replicate_succ, Array.replicate_zero, List.push_toArray, List.append_toArray, List.nil_append, List.cons_append]
  unfold F_impl_SalvageEdits at hF
  cases hbig : decide ((x.size : Int) > 2000) with
  | true =>
    rw [hbig] at hF
    obtain rfl : y = ([], false) := (Option.some.inj hF).symm
    have hb : (2000 : Int) < (x.size : Int) := of_decide_eq_true hbig
    gi_wp2
    refine ⟨_, results_tmp2 rfl _ _ _, ?_⟩
    show Post_impl_SalvageEdits _ _ _ _
    unfold Post_impl_SalvageEdits
    exact ⟨_, NoB, rfl, fun _ f => f.elim, ⟨none, 0, rfl, Nat.le_refl _, .inl rfl⟩, Fr.refl _ _⟩
  | false =>
    rw [hbig] at hF
    simp only [cond_false] at hF
    have hb : ¬ (2000 : Int) < (x.size : Int) := of_decide_eq_false hbig
    gi_wp2_with (refine ⟨trivial, ?_⟩; refine (callsIn_wide.2 (calls_strings_Lines _ _)).mono ?_; rintro e w' ⟨rfl, hw⟩; rw [hw])
    generalize hact : ({ tmps := _, defers := _ } : Act) = act
    obtain ⟨W1, hW1⟩ : ∃ W1, (w.alloc (.cells #[.slice none 0 0] 24)).alloc (.cells #[.string x] 9) = W1 := ⟨_, rfl⟩
    rw [hW1]
    have hs1 : W1.heap.size = w.heap.size + 2 := by rw [← hW1]; simp
    have h4 : W1.heap[w.heap.size]? = some (.cells #[.slice none 0 0] 24 (0, 0)) := by rw [← hW1]; exact (Below.heap_alloc _ _ _ (by simp)).trans (World.alloc_heap_new w _)
    have hbs : W1.heap[w.heap.size + 1]? = some (.cells #[.string x] 9 (0, 0)) := by
      rw [← hW1]; have := World.alloc_heap_new (w.alloc (.cells #[.slice none 0 0] 24)) (.cells #[.string x] 9); rwa [World.size_alloc] at this
    have hb1 : Below w.heap.size w W1 := by rw [← hW1]; exact ((Below.refl _ w).alloc (Nat.le_refl _) _).alloc (by simp) _
    have ht1 : Tabs Tryd.prog W1 := (fr_of_below hb1).tabs ht
    cases hfold : foldL step_impl_SalvageEdits_L [] (linesOf x) with
    | none => rw [hfold] at hF; cases hF
    | some r =>
    rw [hfold] at hF
    have hact4 : act.tmps[4]? = some (.pointer (some ⟨w.heap.size, 0, none⟩)) := by rw [← hact]; rfl
    have hLM : LM Tryd.prog [62, 126] (fun b => b = w.heap.size + 1 ∨ b = W1.heap.size ∨ b = W1.heap.size + 1) w.heap.size (pat_impl_SalvageEdits_L.enc []) act.tmps W1 :=
      lm_start1 (ty := tyE) (t := 4) (b4 := w.heap.size) ht1 ht.2.1 h4 ⟨Nat.le_refl _, by omega⟩ hact4 (by rw [← hact]; rfl) rfl
    refine wp_lines (E := env_impl_SalvageEdits) (Λ := fun _ => none) (T := [15, 16, 14, 17, 18, 6, 7, 19, 20, 21, 22, 23, 24, 25, 26, 27, 28, 29, 30, 31]) (pat := pat_impl_SalvageEdits_L) (id := 0) (body := body_impl_SalvageEdits) (n₀ := w.heap.size) (stp := step_impl_SalvageEdits_L) mixed env_impl_SalvageEdits_ok rfl (by kernel_rfl) (by kernel_rfl) (by kernel_rfl)
      (fun l n a W K h => assign_ok h) lines_ok (enters_of Tryd.func45 (by kernel_rfl) rfl) (by rw [← hact]) (by rw [← hact]; rfl) (by rw [← hact]; show 13 < 33; omega) (by omega) (by rw [← hact]; rfl) hbs ht.2.1 (by omega)
      (fun s x r h => (step_impl_SalvageEdits_L_eq s x).trans h) (fun b => Iff.rfl) hLM hfold ?_
    intro s' W' hb' hLM' hD
    obtain ⟨b, v, e, q1, q2, q3, q4, F, qF, q5⟩ := lm_slice (t := 4) (ty := tyE) (xs := s') hLM' rfl rfl rfl rfl
    obtain rfl : w.heap.size = b := by
      rw [hact4] at q1
      have := Option.some.inj q1
      simpa using this
    have hcell : W'.cell? ⟨w.heap.size, 0, none⟩ = some v := by simp [World.cell?, q2]
    rw [hs1] at hD
    have hsz' : (W'.putObj (w.heap.size + 2) (.deferred none)).heap.size = W'.heap.size := World.putObj_size
    have hrd : RowOf Tryd.prog false true tyE (W'.putObj (w.heap.size + 2) (.deferred none)) NoB F v s' := q5.agree (fun _ _ f => f.elim) (w' := W'.putObj (w.heap.size + 2) (.deferred none)) ⟨by rw [hsz']; exact Nat.le_refl _, fun _ _ f => f.elim⟩ (fun _ h => h) ⟨by rw [hsz']; exact Nat.le_refl _, fun b _ hb => World.putObj_heap_other (w := W') (fun e => (qF b hb).2.1 (.inr (.inl (by omega))))⟩
    have hfr : Fr NoB w (W'.putObj (w.heap.size + 2) (.deferred none)) := fr_of_below ((hb1.trans hb').trans ⟨rfl, rfl, rfl, by simp, fun k hk => World.putObj_heap_other (by omega)⟩)
    subst hact
    refine ⟨fun hr => ?_, fun hr => ?_⟩
    all_goals
      subst hr
      obtain rfl : y = (s', true) := (Option.some.inj hF).symm
      gi_wp2
      refine ⟨by simp, .inl ⟨_, _, rfl, run_takeDeferred hD, ?_⟩⟩
      refine ⟨_, results_tmp2 rfl _ _ _, ?_⟩
      show Post_impl_SalvageEdits _ _ _ _
      unfold Post_impl_SalvageEdits
      exact ⟨v, F, rfl, fun b hb => ⟨(qF b hb).1, by rw [hsz']; exact (qF b hb).2.2⟩, hrd, hfr⟩
noncomputable def c_impl_SalvageEdits : Con := { ps := [(.val, .str)], rs := [(.io true, .slice tyE), (.val, .bool)], F := F_impl_SalvageEdits }
theorem con_impl_SalvageEdits : ConOK Tryd.prog 5 c_impl_SalvageEdits := by
  refine ⟨⟨Tryd.f5, Tryd.func5, by kernel_rfl, by kernel_rfl⟩, fun w Z X vals x y hy _ _ hold ht _ => ?_⟩
  rw [holds_valsL [(.val, .str)] X vals x rfl hold]
  refine (calls_impl_SalvageEdits x w y hy ht).mono ?_
  rintro e' w' ⟨v, F, rfl, hF, hrd, hfr⟩
  exact ⟨_, [v, .bool y.2], F, NoB, rfl, rfl, rfl, hfr.le, fun b hb => ⟨.inl (hF b hb).1, (hF b hb).2⟩, fun _ f => f.elim, fun _ _ f => f, holds_nil rfl _,
    ⟨v, _, F, NoB, rfl, fun _ h => h, fun _ f => f.elim, fun _ _ f => f, RowOf.agree hrd (fun _ _ f => f.elim) (Agree.refl _ _) (fun _ h => h) (Agree.refl _ _), _, [], rfl, ⟨[.bool y.2], rfl, rfl⟩, rfl⟩⟩

noncomputable def step_spec_joParts_0 (s : ByteArray × Int × Int × (List ByteArray)) : Option ((ByteArray × Int × Int × (List ByteArray)) ⊕ (((List ByteArray)))) :=
  bif (decide (s.2.2.1 < (s.1.size : Int))) then
    bif decide (0 ≤ s.2.2.1) && decide (s.2.2.1 < (s.1.size : Int)) then
      bif (((byteAt s.1 (s.2.2.1).toNat) == 10)) then
        let v10 := IntKind.i64.wrap (s.2.2.1 + 1)
        bif decide (0 ≤ s.2.1) && decide (s.2.1 ≤ v10) && decide (v10 ≤ (s.1.size : Int)) then
          bif decide ((s.2.2.2.length + [(s.1.extract (s.2.1).toNat (v10).toNat)].length) * 16 ≤ 140737488355328) then
            let v11 := s.2.2.2 ++ [(s.1.extract (s.2.1).toNat (v10).toNat)]
            let v12 := IntKind.i64.wrap (s.2.2.1 + 1)
            let v13 := IntKind.i64.wrap (s.2.2.1 + 1)
            some (.inl ((s.1, (v12, v13, v11))))
          else none
        else none
      else
        let v14 := IntKind.i64.wrap (s.2.2.1 + 1)
        some (.inl ((s.1, (s.2.1, v14, s.2.2.2))))
    else none
  else
    some (.inr (s.2.2.2))
def pat_spec_joParts_0 : Pat := { tmps := [.v .str, .any, .any, .own 1472, .v (.int .i64), .v (.int .i64), .any, .any, .any, .any, .any, .any, .any, .any, .any, .any, .any, .any, .any, .any, .any, .any, .any, .any, .any, .any, .any], blks := [(1472, .row true .str)] }
def outs_spec_joParts_0 : List (Exit × Pat) := [(.exit 0, { tmps := [.any, .any, .any, .own 1472, .any, .any, .any, .any, .any, .any, .any, .any, .any, .any, .any, .any, .any, .any, .any, .any, .any, .any, .any, .any, .any, .any, .any], blks := [(1472, .row true .str)] })]
noncomputable def F_spec_joParts (x : ByteArray) : Option ((List ByteArray)) :=
  match runL step_spec_joParts_0 ((x, (0, 0, []))) with
  | none => none
  | some o15 =>
    some (o15)
noncomputable def c_spec_joParts : Con := { ps := [(.val, .str)], rs := [(.io true, (.slice .str))], F := F_spec_joParts }
noncomputable def env_spec_joParts : Env := { par := [], dp := false, settle := [], con := fun _ => none, clo := fun _ => none, T := tinf Tryd.prog }
noncomputable def loops_spec_joParts : Nat → Option Loop := fun n => match n with | 4 => some { pat := pat_spec_joParts_0, outs := outs_spec_joParts_0, run := runL (step_spec_joParts_0) } | _ => none
theorem step_spec_joParts_0_eq (s : ByteArray × Int × Int × (List ByteArray)) : stepEv env_spec_joParts loops_spec_joParts pat_spec_joParts_0 outs_spec_joParts_0 Tryd.f23 4 s = step_spec_joParts_0 s := by kernel_rfl
theorem F_spec_joParts_eq (x : ByteArray) : Fev env_spec_joParts loops_spec_joParts c_spec_joParts.ps c_spec_joParts.rs Tryd.f23 x = F_spec_joParts x := by kernel_rfl
theorem env_spec_joParts_ok : EnvOK Tryd.prog env_spec_joParts := envOK_of (fun f c h => by cases h) (fun f c h => by cases h) rfl
theorem con_spec_joParts : ConOK Tryd.prog 23 c_spec_joParts := con_of_ev' (body := Tryd.f23.body.getD .skip) (Λ := loops_spec_joParts) mixed Tryd.func23 (by kernel_rfl) (by kernel_rfl) env_spec_joParts_ok (by kernel_rfl) (by kernel_rfl) (fun n L h => by
  unfold loops_spec_joParts at h
  split at h
  · cases h; exact fun s o ho => loop_ok (stepF := stepEv env_spec_joParts loops_spec_joParts pat_spec_joParts_0 outs_spec_joParts_0 Tryd.f23 4) (step_spec_joParts_0_eq) ho
  · cases h) F_spec_joParts_eq

noncomputable def step_spec_l1Split_0 (s : ByteArray × Int × Int × Int × (List ByteArray)) : Option ((ByteArray × Int × Int × Int × (List ByteArray)) ⊕ ((ByteArray × Int × (List ByteArray)))) :=
  bif (decide (s.2.2.2.1 < (s.1.size : Int))) then
    bif decide (0 ≤ s.2.2.2.1) && decide (s.2.2.2.1 < (s.1.size : Int)) then
      bif (((byteAt s.1 (s.2.2.2.1).toNat) == s.2.1)) then
        bif decide (0 ≤ s.2.2.1) && decide (s.2.2.1 ≤ s.2.2.2.1) && decide (s.2.2.2.1 ≤ (s.1.size : Int)) then
          bif decide ((s.2.2.2.2.length + [(s.1.extract (s.2.2.1).toNat (s.2.2.2.1).toNat)].length) * 16 ≤ 140737488355328) then
            let v8 := s.2.2.2.2 ++ [(s.1.extract (s.2.2.1).toNat (s.2.2.2.1).toNat)]
            let v9 := IntKind.i64.wrap (s.2.2.2.1 + 1)
            let v10 := IntKind.i64.wrap (s.2.2.2.1 + 1)
            some (.inl ((s.1, s.2.1, (v9, v10, v8))))
          else none
        else none
      else
        let v11 := IntKind.i64.wrap (s.2.2.2.1 + 1)
        some (.inl ((s.1, s.2.1, (s.2.2.1, v11, s.2.2.2.2))))
    else none
  else
    some (.inr ((s.1, s.2.2.1, s.2.2.2.2)))
def pat_spec_l1Split_0 : Pat := { tmps := [.v .str, .v (.int .u8), .any, .any, .any, .own 1600, .v (.int .i64), .v (.int .i64), .any, .any, .any, .any, .any, .any, .any, .any, .any, .any, .any, .any, .any, .any, .any, .any, .any, .any, .any, .any, .any, .any, .any, .any, .any, .any], blks := [(1600, .row true .str)] }
def outs_spec_l1Split_0 : List (Exit × Pat) := [(.exit 0, { tmps := [.v .str, .any, .any, .any, .any, .own 1600, .v (.int .i64), .any, .any, .any, .any, .any, .any, .any, .any, .any, .any, .any, .any, .any, .any, .any, .any, .any, .any, .any, .any, .any, .any, .any, .any, .any, .any, .any], blks := [(1600, .row true .str)] })]
noncomputable def F_spec_l1Split (x : ByteArray × Int) : Option ((List ByteArray)) :=
  match runL step_spec_l1Split_0 ((x.1, x.2, (0, 0, []))) with
  | none => none
  | some o12 =>
    bif decide (0 ≤ o12.2.1) && decide (o12.2.1 ≤ (o12.1.size : Int)) && decide ((o12.1.size : Int) ≤ (o12.1.size : Int)) then
      bif decide ((o12.2.2.length + [(o12.1.extract (o12.2.1).toNat ((o12.1.size : Int)).toNat)].length) * 16 ≤ 140737488355328) then
        let v13 := o12.2.2 ++ [(o12.1.extract (o12.2.1).toNat ((o12.1.size : Int)).toNat)]
        some (v13)
      else none
    else none
noncomputable def c_spec_l1Split : Con := { ps := [(.val, .str), (.val, (.int .u8))], rs := [(.io true, (.slice .str))], F := F_spec_l1Split }
noncomputable def env_spec_l1Split : Env := { par := [], dp := false, settle := [], con := fun _ => none, clo := fun _ => none, T := tinf Tryd.prog }
noncomputable def loops_spec_l1Split : Nat → Option Loop := fun n => match n with | 4 => some { pat := pat_spec_l1Split_0, outs := outs_spec_l1Split_0, run := runL (step_spec_l1Split_0) } | _ => none
theorem step_spec_l1Split_0_eq (s : ByteArray × Int × Int × Int × (List ByteArray)) : stepEv env_spec_l1Split loops_spec_l1Split pat_spec_l1Split_0 outs_spec_l1Split_0 Tryd.f46 4 s = step_spec_l1Split_0 s := by kernel_rfl
theorem F_spec_l1Split_eq (x : ByteArray × Int) : Fev env_spec_l1Split loops_spec_l1Split c_spec_l1Split.ps c_spec_l1Split.rs Tryd.f46 x = F_spec_l1Split x := by kernel_rfl
theorem env_spec_l1Split_ok : EnvOK Tryd.prog env_spec_l1Split := envOK_of (fun f c h => by cases h) (fun f c h => by cases h) rfl
theorem con_spec_l1Split : ConOK Tryd.prog 46 c_spec_l1Split := con_of_ev' (body := Tryd.f46.body.getD .skip) (Λ := loops_spec_l1Split) mixed Tryd.func46 (by kernel_rfl) (by kernel_rfl) env_spec_l1Split_ok (by kernel_rfl) (by kernel_rfl) (fun n L h => by
  unfold loops_spec_l1Split at h
  split at h
  · cases h; exact fun s o ho => loop_ok (stepF := stepEv env_spec_l1Split loops_spec_l1Split pat_spec_l1Split_0 outs_spec_l1Split_0 Tryd.f46 4) (step_spec_l1Split_0_eq) ho
  · cases h) F_spec_l1Split_eq

noncomputable def step_spec_l1Read_0 (s : ByteArray × Int × Int) : Option ((ByteArray × Int × Int) ⊕ ((Int) ⊕ (Int))) :=
  bif (decide (s.2.2 < (s.1.size : Int))) then
    bif decide (0 ≤ s.2.2) && decide (s.2.2 < (s.1.size : Int)) then
      bif (decide ((byteAt s.1 (s.2.2).toNat) < 48)) then
        some (.inr (.inl ((-1))))
      else
        bif decide (0 ≤ s.2.2) && decide (s.2.2 < (s.1.size : Int)) then
          bif (decide ((byteAt s.1 (s.2.2).toNat) > 57)) then
            some (.inr (.inl ((-1))))
          else
            let v18 := IntKind.i64.wrap (10 * s.2.1)
            bif decide (0 ≤ s.2.2) && decide (s.2.2 < (s.1.size : Int)) then
              let v19 := IntKind.u8.wrap ((byteAt s.1 (s.2.2).toNat) - 48)
              let v20 := IntKind.i64.wrap v19
              let v21 := IntKind.i64.wrap (v18 + v20)
              let v22 := IntKind.i64.wrap (s.2.2 + 1)
              some (.inl ((s.1, v21, v22)))
            else none
        else none
    else none
  else
    some (.inr (.inr (s.2.1)))
def pat_spec_l1Read_0 : Pat := { tmps := [.v .str, .any, .any, .v (.int .i64), .v (.int .i64), .any, .any, .any, .any, .any, .any, .any, .any, .any, .any, .any, .any, .any, .any, .any, .any, .any, .any, .any, .any, .any, .any, .any, .any, .any, .any, .any, .any, .any, .any, .any, .any, .any, .any, .any, .any, .any, .any, .any], blks := [] }
def outs_spec_l1Read_0 : List (Exit × Pat) := [(.ret, { tmps := [.any, .any, .v (.int .i64), .any, .any, .any, .any, .any, .any, .any, .any, .any, .any, .any, .any, .any, .any, .any, .any, .any, .any, .any, .any, .any, .any, .any, .any, .any, .any, .any, .any, .any, .any, .any, .any, .any, .any, .any, .any, .any, .any, .any, .any, .any], blks := [] }), (.exit 0, { tmps := [.any, .any, .any, .v (.int .i64), .any, .any, .any, .any, .any, .any, .any, .any, .any, .any, .any, .any, .any, .any, .any, .any, .any, .any, .any, .any, .any, .any, .any, .any, .any, .any, .any, .any, .any, .any, .any, .any, .any, .any, .any, .any, .any, .any, .any, .any], blks := [] })]
noncomputable def F_spec_l1Read (x : ByteArray) : Option (Int) :=
  match F_spec_l1In (((x.size : Int), 1, 6)) with
  | none => none
  | some y1 =>
    bif (!y1) then
      some ((-1))
    else
      bif decide (0 ≤ 0) && decide (0 < (x.size : Int)) then
        bif (((byteAt x (0 : Int).toNat) == 48)) then
          bif (decide ((x.size : Int) > 1)) then
            some ((-1))
          else
            match runL step_spec_l1Read_0 ((x, 0, 0)) with
            | none => none
            | some (.inl o12) =>
              some (o12)
            | some (.inr o12) =>
              some (o12)
        else
          match runL step_spec_l1Read_0 ((x, 0, 0)) with
          | none => none
          | some (.inl o23) =>
            some (o23)
          | some (.inr o23) =>
            some (o23)
      else none
noncomputable def c_spec_l1Read : Con := { ps := [(.val, .str)], rs := [(.val, (.int .i64))], F := F_spec_l1Read }
noncomputable def env_spec_l1Read : Env := { par := [], dp := false, settle := [], con := fun f => match f with | 32 => some c_spec_l1In | _ => none, clo := fun _ => none, T := tinf Tryd.prog }
noncomputable def loops_spec_l1Read : Nat → Option Loop := fun n => match n with | 5 => some { pat := pat_spec_l1Read_0, outs := outs_spec_l1Read_0, run := runL (step_spec_l1Read_0) } | _ => none
theorem step_spec_l1Read_0_eq (s : ByteArray × Int × Int) : stepEv env_spec_l1Read loops_spec_l1Read pat_spec_l1Read_0 outs_spec_l1Read_0 Tryd.f47 5 s = step_spec_l1Read_0 s := by kernel_rfl
theorem F_spec_l1Read_eq (x : ByteArray) : Fev env_spec_l1Read loops_spec_l1Read c_spec_l1Read.ps c_spec_l1Read.rs Tryd.f47 x = F_spec_l1Read x := by kernel_rfl
theorem env_spec_l1Read_ok : EnvOK Tryd.prog env_spec_l1Read := envOK_of (fun f c h => by
  simp only [env_spec_l1Read] at h
  split at h
  · cases h; exact con_spec_l1In
  · cases h) (fun f c h => by cases h) rfl
theorem con_spec_l1Read : ConOK Tryd.prog 47 c_spec_l1Read := con_of_ev' (body := Tryd.f47.body.getD .skip) (Λ := loops_spec_l1Read) mixed Tryd.func47 (by kernel_rfl) (by kernel_rfl) env_spec_l1Read_ok (by kernel_rfl) (by kernel_rfl) (fun n L h => by
  unfold loops_spec_l1Read at h
  split at h
  · cases h; exact fun s o ho => loop_ok (stepF := stepEv env_spec_l1Read loops_spec_l1Read pat_spec_l1Read_0 outs_spec_l1Read_0 Tryd.f47 5) (step_spec_l1Read_0_eq) ho
  · cases h) F_spec_l1Read_eq

noncomputable def step_spec_joParse_0 (s : ByteArray × Int × Int × ByteArray × Bool) : Option ((ByteArray × Int × Int × ByteArray × Bool) ⊕ ((Bool × Int × ByteArray × Bool) ⊕ (Int × ByteArray × Bool))) :=
  bif (decide (s.2.1 < (s.1.size : Int))) then
    bif (decide (s.2.1 < 4)) then
      bif decide (0 ≤ s.2.1) && decide (s.2.1 < (s.1.size : Int)) then
        bif (((byteAt s.1 (s.2.1).toNat) != 43)) then
          bif decide (0 ≤ s.2.1) && decide (s.2.1 < (s.1.size : Int)) then
            bif (((byteAt s.1 (s.2.1).toNat) != 45)) then
              let v12 := IntKind.i64.wrap (s.2.1 + 1)
              some (.inl ((s.1, v12, s.2.2)))
            else
              let v13 := IntKind.i64.wrap (s.2.1 + 1)
              bif decide (0 ≤ v13) && decide (v13 ≤ (s.1.size : Int)) && decide ((s.1.size : Int) ≤ (s.1.size : Int)) then
                match F_spec_l1Split (((s.1.extract (v13).toNat ((s.1.size : Int)).toNat), 46)) with
                | none => none
                | some y14 =>
                  bif decide (0 ≤ (0 : Int)) && decide ((0 : Int) ≤ s.2.1) && decide (s.2.1 ≤ (s.1.size : Int)) then
                    bif decide (0 ≤ 0) && decide (0 < (y14.length : Int)) then
                      bif decide (0 ≤ s.2.1) && decide (s.2.1 < (s.1.size : Int)) then
                        match F_spec_l1Read ((s.1.extract ((0 : Int)).toNat (s.2.1).toNat)) with
                        | none => none
                        | some y15 =>
                          match F_spec_joOne ((y15, (y14.getD (0 : Int).toNat ByteArray.empty), (((byteAt s.1 (s.2.1).toNat) == 45)))) with
                          | none => none
                          | some y16 =>
                            bif y16 then
                              match F_spec_joLine ((y15, (y14.getD (0 : Int).toNat ByteArray.empty), (((byteAt s.1 (s.2.1).toNat) == 45)))) with
                              | none => none
                              | some y17 =>
                                bif (y17.toList == s.1.toList) then
                                  some (.inr (.inl ((true, (y15, (y14.getD (0 : Int).toNat ByteArray.empty), (((byteAt s.1 (s.2.1).toNat) == 45)))))))
                                else
                                  some (.inr (.inr (s.2.2)))
                            else
                              some (.inr (.inr (s.2.2)))
                      else none
                    else none
                  else none
              else none
          else none
        else
          let v18 := IntKind.i64.wrap (s.2.1 + 1)
          bif decide (0 ≤ v18) && decide (v18 ≤ (s.1.size : Int)) && decide ((s.1.size : Int) ≤ (s.1.size : Int)) then
            match F_spec_l1Split (((s.1.extract (v18).toNat ((s.1.size : Int)).toNat), 46)) with
            | none => none
            | some y19 =>
              bif decide (0 ≤ (0 : Int)) && decide ((0 : Int) ≤ s.2.1) && decide (s.2.1 ≤ (s.1.size : Int)) then
                bif decide (0 ≤ 0) && decide (0 < (y19.length : Int)) then
                  bif decide (0 ≤ s.2.1) && decide (s.2.1 < (s.1.size : Int)) then
                    match F_spec_l1Read ((s.1.extract ((0 : Int)).toNat (s.2.1).toNat)) with
                    | none => none
                    | some y20 =>
                      match F_spec_joOne ((y20, (y19.getD (0 : Int).toNat ByteArray.empty), (((byteAt s.1 (s.2.1).toNat) == 45)))) with
                      | none => none
                      | some y21 =>
                        bif y21 then
                          match F_spec_joLine ((y20, (y19.getD (0 : Int).toNat ByteArray.empty), (((byteAt s.1 (s.2.1).toNat) == 45)))) with
                          | none => none
                          | some y22 =>
                            bif (y22.toList == s.1.toList) then
                              some (.inr (.inl ((true, (y20, (y19.getD (0 : Int).toNat ByteArray.empty), (((byteAt s.1 (s.2.1).toNat) == 45)))))))
                            else
                              some (.inr (.inr (s.2.2)))
                        else
                          some (.inr (.inr (s.2.2)))
                  else none
                else none
              else none
          else none
      else none
    else
      some (.inr (.inr (s.2.2)))
  else
    some (.inr (.inr (s.2.2)))
def pat_spec_joParse_0 : Pat := { tmps := [.v .str, .any, .ptr 128 0, .any, .v (.int .i64), .any, .any, .any, .any, .any, .any, .any, .any, .any, .any, .any, .any, .any, .any, .any, .any, .any, .any, .any, .any, .any, .any, .any, .any, .any, .any, .any, .any, .any, .any, .any, .any, .any, .any, .any, .any, .any, .any, .any, .any, .any, .any, .any, .any, .any, .any, .any, .any, .any], blks := [(128, .box [.v (.int .i64), .v .str, .v .bool])] }
def outs_spec_joParse_0 : List (Exit × Pat) := [(.ret, { tmps := [.any, .any, .ptr 128 0, .v .bool, .any, .any, .any, .any, .any, .any, .any, .any, .any, .any, .any, .any, .any, .any, .any, .any, .any, .any, .any, .any, .any, .any, .any, .any, .any, .any, .any, .any, .any, .any, .any, .any, .any, .any, .any, .any, .any, .any, .any, .any, .any, .any, .any, .any, .any, .any, .any, .any, .any, .any], blks := [(128, .box [.v (.int .i64), .v .str, .v .bool])] }), (.exit 0, { tmps := [.any, .any, .ptr 128 0, .any, .any, .any, .any, .any, .any, .any, .any, .any, .any, .any, .any, .any, .any, .any, .any, .any, .any, .any, .any, .any, .any, .any, .any, .any, .any, .any, .any, .any, .any, .any, .any, .any, .any, .any, .any, .any, .any, .any, .any, .any, .any, .any, .any, .any, .any, .any, .any, .any, .any, .any], blks := [(128, .box [.v (.int .i64), .v .str, .v .bool])] })]
noncomputable def F_spec_joParse (x : ByteArray) : Option ((Int × (ByteArray × Bool)) × Bool) :=
  match runL step_spec_joParse_0 ((x, 0, (0, ByteArray.empty, false))) with
  | none => none
  | some (.inl o23) =>
    some ((o23.2, o23.1))
  | some (.inr o23) =>
    some (((0, ByteArray.empty, false), false))
noncomputable def c_spec_joParse : Con := { ps := [(.val, .str)], rs := [(.val, (.st (.pair (.int .i64) (.pair .str .bool)))), (.val, .bool)], F := F_spec_joParse }
noncomputable def env_spec_joParse : Env := { par := [], dp := false, settle := [], con := fun f => match f with | 35 => some c_spec_joOne | 36 => some c_spec_joLine | 46 => some c_spec_l1Split | 47 => some c_spec_l1Read | _ => none, clo := fun _ => none, T := tinf Tryd.prog }
noncomputable def loops_spec_joParse : Nat → Option Loop := fun n => match n with | 2 => some { pat := pat_spec_joParse_0, outs := outs_spec_joParse_0, run := runL (step_spec_joParse_0) } | _ => none
theorem step_spec_joParse_0_eq (s : ByteArray × Int × Int × ByteArray × Bool) : stepEv env_spec_joParse loops_spec_joParse pat_spec_joParse_0 outs_spec_joParse_0 Tryd.f24 2 s = step_spec_joParse_0 s := by kernel_rfl
theorem F_spec_joParse_eq (x : ByteArray) : Fev env_spec_joParse loops_spec_joParse c_spec_joParse.ps c_spec_joParse.rs Tryd.f24 x = F_spec_joParse x := by kernel_rfl
theorem env_spec_joParse_ok : EnvOK Tryd.prog env_spec_joParse := envOK_of (fun f c h => by
  simp only [env_spec_joParse] at h
  split at h
  · cases h; exact con_spec_joOne
  · cases h; exact con_spec_joLine
  · cases h; exact con_spec_l1Split
  · cases h; exact con_spec_l1Read
  · cases h) (fun f c h => by cases h) rfl
theorem con_spec_joParse : ConOK Tryd.prog 24 c_spec_joParse := con_of_ev' (body := Tryd.f24.body.getD .skip) (Λ := loops_spec_joParse) mixed Tryd.func24 (by kernel_rfl) (by kernel_rfl) env_spec_joParse_ok (by kernel_rfl) (by kernel_rfl) (fun n L h => by
  unfold loops_spec_joParse at h
  split at h
  · cases h; exact fun s o ho => loop_ok (stepF := stepEv env_spec_joParse loops_spec_joParse pat_spec_joParse_0 outs_spec_joParse_0 Tryd.f24 2) (step_spec_joParse_0_eq) ho
  · cases h) F_spec_joParse_eq

noncomputable def F_spec_joNext (x : (List (Int × (ByteArray × Bool))) × (Int × (ByteArray × Bool))) : Option (Bool) :=
  bif (decide ((x.1.length : Int) < 40)) then
    bif (((x.1.length : Int) == 0)) then
      some (true)
    else
      let v1 := IntKind.i64.wrap ((x.1.length : Int) - 1)
      bif decide (0 ≤ v1) && decide (v1 < (x.1.length : Int)) then
        some ((decide ((x.1.getD (v1).toNat (0, ByteArray.empty, false)).1 < x.2.1)))
      else none
  else
    some (false)
noncomputable def c_spec_joNext : Con := { ps := [(.val, (.slice (.st (.pair (.int .i64) (.pair .str .bool))))), (.val, (.st (.pair (.int .i64) (.pair .str .bool))))], rs := [(.val, .bool)], F := F_spec_joNext }
noncomputable def env_spec_joNext : Env := { par := [], dp := false, settle := [], con := fun _ => none, clo := fun _ => none, T := tinf Tryd.prog }
noncomputable def loops_spec_joNext : Nat → Option Loop := fun n => none
theorem F_spec_joNext_eq (x : (List (Int × (ByteArray × Bool))) × (Int × (ByteArray × Bool))) : Fev env_spec_joNext loops_spec_joNext c_spec_joNext.ps c_spec_joNext.rs Tryd.f25 x = F_spec_joNext x := by kernel_rfl
theorem env_spec_joNext_ok : EnvOK Tryd.prog env_spec_joNext := envOK_of (fun f c h => by cases h) (fun f c h => by cases h) rfl
theorem con_spec_joNext : ConOK Tryd.prog 25 c_spec_joNext := con_of_ev' (body := Tryd.f25.body.getD .skip) (Λ := loops_spec_joNext) mixed Tryd.func25 (by kernel_rfl) (by kernel_rfl) env_spec_joNext_ok (by kernel_rfl) (by kernel_rfl) (fun n L h => by cases h) F_spec_joNext_eq

noncomputable def step_spec_SalvageEdits_0 (s : Int × Int × (List ByteArray) × (List (Int × (ByteArray × Bool)))) : Option ((Int × Int × (List ByteArray) × (List (Int × (ByteArray × Bool)))) ⊕ (((List (Int × (ByteArray × Bool)))))) :=
  bif (decide (s.2.1 < s.1)) then
    bif decide (0 ≤ s.2.1) && decide (s.2.1 < (s.2.2.1.length : Int)) then
      match F_spec_joParse ((s.2.2.1.getD (s.2.1).toNat ByteArray.empty)) with
      | none => none
      | some y13 =>
        bif y13.2 then
          match F_spec_joNext ((s.2.2.2, y13.1)) with
          | none => none
          | some y14 =>
            bif y14 then
              bif decide ((s.2.2.2.length + [y13.1].length) * 32 ≤ 140737488355328) then
                let v15 := s.2.2.2 ++ [y13.1]
                let v16 := IntKind.i64.wrap (s.2.1 + 1)
                some (.inl ((s.1, (v16, s.2.2.1, v15))))
              else none
            else
              let v17 := IntKind.i64.wrap (s.2.1 + 1)
              some (.inl ((s.1, v17, s.2.2)))
        else
          let v18 := IntKind.i64.wrap (s.2.1 + 1)
          some (.inl ((s.1, v18, s.2.2)))
    else none
  else
    some (.inr (s.2.2.2))
def pat_spec_SalvageEdits_0 : Pat := { tmps := [.any, .any, .any, .any, .own 2112, .any, .any, .any, .any, .any, .any, .any, .any, .own 832, .v (.int .i64), .v (.int .i64), .any, .any, .any, .any, .any, .any, .any, .any, .any, .any, .any, .any, .any, .any, .any, .any, .any, .any, .any, .any], blks := [(832, .row true .str), (2112, .row true (.st (.pair (.int .i64) (.pair .str .bool))))] }
def outs_spec_SalvageEdits_0 : List (Exit × Pat) := [(.exit 0, { tmps := [.any, .any, .any, .any, .own 2112, .any, .any, .any, .any, .any, .any, .any, .any, .any, .any, .any, .any, .any, .any, .any, .any, .any, .any, .any, .any, .any, .any, .any, .any, .any, .any, .any, .any, .any, .any, .any], blks := [(2112, .row true (.st (.pair (.int .i64) (.pair .str .bool))))] })]
noncomputable def F_spec_SalvageEdits (x : ByteArray) : Option ((List (Int × (ByteArray × Bool))) × Bool) :=
  bif (decide ((x.size : Int) > 2000)) then
    some (([], false))
  else
    match F_spec_joParts (x) with
    | none => none
    | some y1 =>
      match runL step_spec_SalvageEdits_0 (((y1.length : Int), (0, y1, []))) with
      | none => none
      | some o19 =>
        some ((o19, true))
noncomputable def c_spec_SalvageEdits : Con := { ps := [(.val, .str)], rs := [(.io true, (.slice (.st (.pair (.int .i64) (.pair .str .bool))))), (.val, .bool)], F := F_spec_SalvageEdits }
noncomputable def env_spec_SalvageEdits : Env := { par := [], dp := false, settle := [], con := fun f => match f with | 23 => some c_spec_joParts | 24 => some c_spec_joParse | 25 => some c_spec_joNext | _ => none, clo := fun _ => none, T := tinf Tryd.prog }
noncomputable def loops_spec_SalvageEdits : Nat → Option Loop := fun n => match n with | 5 => some { pat := pat_spec_SalvageEdits_0, outs := outs_spec_SalvageEdits_0, run := runL (step_spec_SalvageEdits_0) } | _ => none
theorem step_spec_SalvageEdits_0_eq (s : Int × Int × (List ByteArray) × (List (Int × (ByteArray × Bool)))) : stepEv env_spec_SalvageEdits loops_spec_SalvageEdits pat_spec_SalvageEdits_0 outs_spec_SalvageEdits_0 Tryd.f6 5 s = step_spec_SalvageEdits_0 s := by kernel_rfl
theorem F_spec_SalvageEdits_eq (x : ByteArray) : Fev env_spec_SalvageEdits loops_spec_SalvageEdits c_spec_SalvageEdits.ps c_spec_SalvageEdits.rs Tryd.f6 x = F_spec_SalvageEdits x := by kernel_rfl
theorem env_spec_SalvageEdits_ok : EnvOK Tryd.prog env_spec_SalvageEdits := envOK_of (fun f c h => by
  simp only [env_spec_SalvageEdits] at h
  split at h
  · cases h; exact con_spec_joParts
  · cases h; exact con_spec_joParse
  · cases h; exact con_spec_joNext
  · cases h) (fun f c h => by cases h) rfl
theorem con_spec_SalvageEdits : ConOK Tryd.prog 6 c_spec_SalvageEdits := con_of_ev' (body := Tryd.f6.body.getD .skip) (Λ := loops_spec_SalvageEdits) mixed Tryd.func6 (by kernel_rfl) (by kernel_rfl) env_spec_SalvageEdits_ok (by kernel_rfl) (by kernel_rfl) (fun n L h => by
  unfold loops_spec_SalvageEdits at h
  split at h
  · cases h; exact fun s o ho => loop_ok (stepF := stepEv env_spec_SalvageEdits loops_spec_SalvageEdits pat_spec_SalvageEdits_0 outs_spec_SalvageEdits_0 Tryd.f6 5) (step_spec_SalvageEdits_0_eq) ho
  · cases h) F_spec_SalvageEdits_eq

noncomputable def step_impl_ReadEdits_L (s : (List (Int × (ByteArray × Bool))) × Int) (x : ByteArray) : Option (((List (Int × (ByteArray × Bool))) × Int) ⊕ ((List (Int × (ByteArray × Bool))) × Int)) :=
  match F_impl_ParseEditLine (x) with
  | none => none
  | some y1 =>
    bif (!y1.2) then
      some (.inr (s))
    else
      match F_slices_Clone_impl_LogEdit_impl_LogEdit (s.1) with
      | none => none
      | some y2 =>
        bif decide ((y2.length + ([y1.1] : List ((Int × (ByteArray × Bool)))).length) * 32 ≤ 140737488355328) then
          let v3 := y2 ++ ([y1.1] : List ((Int × (ByteArray × Bool))))
          match F_impl_AreEdits (v3) with
          | none => none
          | some y4 =>
            bif (!y4) then
              some (.inr (s))
            else
              bif decide ((s.1.length + [y1.1].length) * 32 ≤ 140737488355328) then
                let v5 := s.1 ++ [y1.1]
                let v6 := IntKind.i64.wrap (s.2 + (x.size : Int))
                some (.inl ((v5, v6)))
              else none
        else none
def pat_impl_ReadEdits_L : Pat := { tmps := [.any, .any, .any, .any, .any, .ptr 62 0, .ptr 190 0, .any, .any, .any, .any, .any, .any, .any, .any, .any, .any, .any, .any, .any, .any, .any, .any, .any, .any, .any, .any, .any, .any, .any, .any, .any, .any, .any, .any, .any, .any, .any, .any, .any, .any, .any], blks := [(62, .box [.own 126]), (126, .row true (.st (.pair (.int .i64) (.pair .str .bool)))), (190, .box [.v (.int .i64)])] }
noncomputable def env_impl_ReadEdits : Env := { par := [62, 126, 190], dp := false, settle := [], con := fun f => match f with | 13 => some c_impl_ParseEditLine | 16 => some c_impl_AreEdits | 22 => some c_slices_Clone_impl_LogEdit_impl_LogEdit | _ => none, clo := fun _ => none, T := tinf Tryd.prog }
noncomputable def body_impl_ReadEdits : Code := rfBody (Tryd.f7.body.getD .skip)
theorem step_impl_ReadEdits_L_eq (s : (List (Int × (ByteArray × Bool))) × Int) (x : ByteArray) : ev env_impl_ReadEdits (fun _ => none) body_impl_ReadEdits (((pat_impl_ReadEdits_L.enc s).set 15 (.c (.str x))).set 7 (.c (.str x))) (kstep pat_impl_ReadEdits_L [(.exit 0, pat_impl_ReadEdits_L)]) = step_impl_ReadEdits_L s x := by kernel_rfl
theorem env_impl_ReadEdits_ok : EnvOK Tryd.prog env_impl_ReadEdits := envOK_of (fun f c h => by
  simp only [env_impl_ReadEdits] at h
  split at h
  · cases h; exact con_impl_ParseEditLine
  · cases h; exact con_impl_AreEdits
  · cases h; exact con_slices_Clone_impl_LogEdit_impl_LogEdit
  · cases h) (fun f c h => by cases h) rfl
noncomputable def F_impl_ReadEdits (x : ByteArray) : Option (List (Int × (ByteArray × Bool)) × Int × Bool) :=
  bif decide ((x.size : Int) > 2000) then some ([], 0, false) else
  match foldL step_impl_ReadEdits_L ([], 0) (linesOf x) with
  | none => none
  | some (.inl s) => some (s.1, s.2, true)
  | some (.inr s) => some (s.1, s.2, true)
def Post_impl_ReadEdits (w : World) (y : List (Int × (ByteArray × Bool)) × Int × Bool) (e : Ending) (w' : World) : Prop := ∃ v, ∃ F : Nat → Prop, e = .returned (.tuple #[v, .int .i64 y.2.1, .bool y.2.2]) ∧ (∀ b, F b → w.heap.size ≤ b ∧ b < w'.heap.size) ∧ RowOf Tryd.prog false true tyE w' NoB F v y.1 ∧ Fr NoB w w'
open Go.RowKit in
set_option maxHeartbeats 8000000 in
set_option maxRecDepth 1000000 in
theorem calls_impl_ReadEdits (x : ByteArray) (w : World) (y : List (Int × (ByteArray × Bool)) × Int × Bool) (hF : F_impl_ReadEdits x = some y) (ht : Tabs Tryd.prog w) :
    Calls Tryd.prog 7 #[.string x] w fun e w' => Post_impl_ReadEdits w y e w' := by
  refine (callsIn_wide (n := 3)).1 ?_
  refine callsIn_of_wp_marks (F := Fence.wide) Tryd.func7 rfl trivial ?_ rfl
  simp only [Tryd.ntmps7, List.size_toArray, List.length_cons, List.length_nil, Nat.reduceAdd, Nat.reduceSub, Array.replicate_succ, Array.replicate_zero, List.push_toArray, List.append_toArray, List.nil_append, List.cons_append]
  unfold F_impl_ReadEdits at hF
  have mixed : Tryd.prog.follows .mixedOrders = true := by kernel_rfl
  cases hbig : decide ((x.size : Int) > 2000) with
  | true =>
    rw [hbig] at hF
    obtain rfl : y = ([], 0, false) := (Option.some.inj hF).symm
    have hb : (2000 : Int) < (x.size : Int) := of_decide_eq_true hbig
    gi_wp2
    refine ⟨_, results_tmp3 rfl _ _ _, ?_⟩
    show Post_impl_ReadEdits _ _ _ _
    unfold Post_impl_ReadEdits
    exact ⟨_, NoB, rfl, fun _ f => f.elim, ⟨none, 0, rfl, Nat.le_refl _, .inl rfl⟩, Fr.refl _ _⟩
  | false =>
    rw [hbig] at hF
    simp only [cond_false] at hF
    have hb : ¬ (2000 : Int) < (x.size : Int) := of_decide_eq_false hbig
    gi_wp2_with (refine ⟨trivial, ?_⟩; refine (callsIn_wide.2 (calls_strings_Lines _ _)).mono ?_; rintro e w' ⟨rfl, hw⟩; rw [hw])
    generalize hact : ({ tmps := _, defers := _ } : Act) = act
    obtain ⟨W1, hW1⟩ : ∃ W1, ((w.alloc (.cells #[.slice none 0 0] 24)).alloc (.cells #[.int .i64 0] 3)).alloc (.cells #[.string x] 9) = W1 := ⟨_, rfl⟩
    rw [hW1]
    have hs1 : W1.heap.size = w.heap.size + 3 := by rw [← hW1]; simp
    have h4 : W1.heap[w.heap.size]? = some (.cells #[.slice none 0 0] 24 (0, 0)) := by rw [← hW1]; exact (Below.heap_alloc _ _ _ (by simp; omega)).trans ((Below.heap_alloc _ _ _ (by simp)).trans (World.alloc_heap_new w _))
    have h6 : W1.heap[w.heap.size + 1]? = some (.cells #[.int .i64 0] 3 (0, 0)) := by
      rw [← hW1]
      refine (Below.heap_alloc _ _ _ (by simp)).trans ?_
      have := World.alloc_heap_new (w.alloc (.cells #[.slice none 0 0] 24)) (.cells #[.int .i64 0] 3); rwa [World.size_alloc] at this
    have hbs : W1.heap[w.heap.size + 1 + 1]? = some (.cells #[.string x] 9 (0, 0)) := by
      rw [← hW1]; have := World.alloc_heap_new ((w.alloc (.cells #[.slice none 0 0] 24)).alloc (.cells #[.int .i64 0] 3)) (.cells #[.string x] 9); rwa [World.size_alloc, World.size_alloc] at this
    have hb1 : Below w.heap.size w W1 := by rw [← hW1]; exact (((Below.refl _ w).alloc (Nat.le_refl _) _).alloc (by simp) _).alloc (by simp; omega) _
    have ht1 : Tabs Tryd.prog W1 := (fr_of_below hb1).tabs ht
    cases hfold : foldL step_impl_ReadEdits_L ([], 0) (linesOf x) with
    | none => rw [hfold] at hF; cases hF
    | some r =>
    rw [hfold] at hF
    have hact4 : act.tmps[5]? = some (.pointer (some ⟨w.heap.size, 0, none⟩)) := by rw [← hact]; rfl
    have hact6 : act.tmps[6]? = some (.pointer (some ⟨w.heap.size + 1, 0, none⟩)) := by rw [← hact]; rfl
    have hLM : LM Tryd.prog [62, 126, 190] (fun b => b = w.heap.size + 1 + 1 ∨ b = W1.heap.size ∨ b = W1.heap.size + 1) w.heap.size (pat_impl_ReadEdits_L.enc ((([], (0 : Int)) : List (Int × (ByteArray × Bool)) × Int))) act.tmps W1 :=
      lm_start2 (ty := tyE) (t := 5) (b4 := w.heap.size) (t6 := 6) (b6 := w.heap.size + 1) ht1 ht.2.1 h4 ⟨Nat.le_refl _, by omega⟩ hact4 h6 ⟨by omega, by omega⟩ hact6 (by omega) (by rw [← hact]; rfl) rfl
    refine wp_lines (E := env_impl_ReadEdits) (Λ := fun _ => none) (T := [17, 18, 16, 19, 20, 8, 9, 21, 22, 23, 24, 25, 26, 27, 28, 29, 30, 31, 32, 33, 34, 35, 36, 37, 38, 39]) (pat := pat_impl_ReadEdits_L) (id := 0) (body := body_impl_ReadEdits) (n₀ := w.heap.size) (stp := step_impl_ReadEdits_L) mixed env_impl_ReadEdits_ok rfl (by kernel_rfl) (by kernel_rfl) (by kernel_rfl)
      (fun l n a W K h => assign_ok h) lines_ok (enters_of Tryd.func45 (by kernel_rfl) rfl) (by rw [← hact]) (by rw [← hact]; rfl) (by rw [← hact]; show 15 < 42; omega) (by omega) (by rw [← hact]; rfl) hbs ht.2.1 (by omega)
      (fun s x r h => (step_impl_ReadEdits_L_eq s x).trans h) (fun b => Iff.rfl) hLM hfold ?_
    intro s' W' hb' hLM' hD
    obtain ⟨b, v, e, q1, q2, q3, q4, F, qF, q5⟩ := lm_slice (t := 5) (ty := tyE) (xs := s'.1) hLM' rfl rfl rfl rfl
    obtain rfl : w.heap.size = b := by
      rw [hact4] at q1
      have := Option.some.inj q1
      simpa using this
    obtain ⟨b6, e6, q6, q7⟩ := lm_int (t := 6) (n := 190) (z := s'.2) hLM' rfl rfl
    obtain rfl : w.heap.size + 1 = b6 := by
      rw [hact6] at q6
      have := Option.some.inj q6
      simpa using this
    have hcell : W'.cell? ⟨w.heap.size, 0, none⟩ = some v := by simp [World.cell?, q2]
    have hcell6 : W'.cell? ⟨w.heap.size + 1, 0, none⟩ = some (.int .i64 s'.2) := by simp [World.cell?, q7]
    rw [hs1] at hD
    have hsz' : (W'.drew.putObj (w.heap.size + 3) (.deferred none)).heap.size = W'.heap.size := World.putObj_size
    have hrd : RowOf Tryd.prog false true tyE (W'.drew.putObj (w.heap.size + 3) (.deferred none)) NoB F v s'.1 := q5.agree (fun _ _ f => f.elim) (w' := W'.drew.putObj (w.heap.size + 3) (.deferred none)) ⟨by rw [hsz']; exact Nat.le_refl _, fun _ _ f => f.elim⟩ (fun _ h => h) ⟨by rw [hsz']; exact Nat.le_refl _, fun b _ hb => World.putObj_heap_other (w := W'.drew) (fun e => (qF b hb).2.1 (.inr (.inl (by omega))))⟩
    have hfr : Fr NoB w (W'.drew.putObj (w.heap.size + 3) (.deferred none)) := fr_of_below ((hb1.trans hb').trans ⟨rfl, rfl, rfl, by simp, fun k hk => World.putObj_heap_other (w := W'.drew) (by omega)⟩)
    subst hact
    refine ⟨fun hr => ?_, fun hr => ?_⟩
    all_goals
      subst hr
      obtain rfl : y = (s'.1, s'.2, true) := (Option.some.inj hF).symm
      gi_wp2
      refine wpIn_wide.2 ?_
      go_region_o
      gi_wp2
    all_goals
      refine ⟨by simp, .inl ⟨_, _, rfl, run_takeDeferred (w := W'.drew) hD, ?_⟩⟩
      refine ⟨_, results_tmp3 rfl _ _ _, ?_⟩
      show Post_impl_ReadEdits _ _ _ _
      unfold Post_impl_ReadEdits
      exact ⟨v, F, rfl, fun b hb => ⟨(qF b hb).1, by rw [hsz']; exact (qF b hb).2.2⟩, hrd, hfr⟩
noncomputable def c_impl_ReadEdits : Con := { ps := [(.val, .str)], rs := [(.io true, .slice tyE), (.val, .int .i64), (.val, .bool)], F := F_impl_ReadEdits }
theorem con_impl_ReadEdits : ConOK Tryd.prog 7 c_impl_ReadEdits := by
  refine ⟨⟨Tryd.f7, Tryd.func7, by kernel_rfl, by kernel_rfl⟩, fun w Z X vals x y hy _ _ hold ht _ => ?_⟩
  rw [holds_valsL [(.val, .str)] X vals x rfl hold]
  refine (calls_impl_ReadEdits x w y hy ht).mono ?_
  rintro e' w' ⟨v, F, rfl, hF, hrd, hfr⟩
  exact ⟨_, [v, .int .i64 y.2.1, .bool y.2.2], F, NoB, rfl, rfl, rfl, hfr.le, fun b hb => ⟨.inl (hF b hb).1, (hF b hb).2⟩, fun _ f => f.elim, fun _ _ f => f, holds_nil rfl _,
    ⟨v, _, F, NoB, rfl, fun _ h => h, fun _ f => f.elim, fun _ _ f => f, RowOf.agree hrd (fun _ _ f => f.elim) (Agree.refl _ _) (fun _ h => h) (Agree.refl _ _), _, _, rfl, ⟨[.int .i64 y.2.1], rfl, rfl⟩, _, [], rfl, ⟨[.bool y.2.2], rfl, rfl⟩, rfl⟩⟩

noncomputable def step_spec_ReadEdits_0 (s : Int × Int × Int × (List ByteArray) × (List (Int × (ByteArray × Bool)))) : Option ((Int × Int × Int × (List ByteArray) × (List (Int × (ByteArray × Bool)))) ⊕ ((Int × (List (Int × (ByteArray × Bool)))))) :=
  bif (decide (s.2.2.1 < s.2.1)) then
    bif decide (0 ≤ s.2.2.1) && decide (s.2.2.1 < (s.2.2.2.1.length : Int)) then
      match F_spec_joParse ((s.2.2.2.1.getD (s.2.2.1).toNat ByteArray.empty)) with
      | none => none
      | some y11 =>
        bif (!y11.2) then
          some (.inr ((s.1, s.2.2.2.2)))
        else
          match F_spec_joNext ((s.2.2.2.2, y11.1)) with
          | none => none
          | some y12 =>
            bif (!y12) then
              some (.inr ((s.1, s.2.2.2.2)))
            else
              bif decide ((s.2.2.2.2.length + [y11.1].length) * 32 ≤ 140737488355328) then
                let v13 := s.2.2.2.2 ++ [y11.1]
                let v14 := IntKind.i64.wrap (s.1 + ((s.2.2.2.1.getD (s.2.2.1).toNat ByteArray.empty).size : Int))
                let v15 := IntKind.i64.wrap (s.2.2.1 + 1)
                some (.inl ((v14, s.2.1, (v15, s.2.2.2.1, v13))))
              else none
    else none
  else
    some (.inr ((s.1, s.2.2.2.2)))
def pat_spec_ReadEdits_0 : Pat := { tmps := [.any, .any, .any, .any, .any, .own 2368, .v (.int .i64), .any, .any, .any, .any, .any, .any, .any, .any, .own 960, .v (.int .i64), .v (.int .i64), .any, .any, .any, .any, .any, .any, .any, .any, .any, .any, .any, .any, .any, .any, .any, .any, .any, .any, .any, .any, .any, .any, .any, .any, .any, .any, .any], blks := [(960, .row true .str), (2368, .row true (.st (.pair (.int .i64) (.pair .str .bool))))] }
def outs_spec_ReadEdits_0 : List (Exit × Pat) := [(.exit 0, { tmps := [.any, .any, .any, .any, .any, .own 2368, .v (.int .i64), .any, .any, .any, .any, .any, .any, .any, .any, .any, .any, .any, .any, .any, .any, .any, .any, .any, .any, .any, .any, .any, .any, .any, .any, .any, .any, .any, .any, .any, .any, .any, .any, .any, .any, .any, .any, .any, .any], blks := [(2368, .row true (.st (.pair (.int .i64) (.pair .str .bool))))] })]
noncomputable def F_spec_ReadEdits (x : ByteArray) : Option ((List (Int × (ByteArray × Bool))) × Int × Bool) :=
  bif (decide ((x.size : Int) > 2000)) then
    some (([], 0, false))
  else
    match F_spec_joParts (x) with
    | none => none
    | some y1 =>
      match runL step_spec_ReadEdits_0 ((0, (y1.length : Int), (0, y1, []))) with
      | none => none
      | some o16 =>
        some ((o16.2, o16.1, true))
noncomputable def c_spec_ReadEdits : Con := { ps := [(.val, .str)], rs := [(.io true, (.slice (.st (.pair (.int .i64) (.pair .str .bool))))), (.val, (.int .i64)), (.val, .bool)], F := F_spec_ReadEdits }
noncomputable def env_spec_ReadEdits : Env := { par := [], dp := false, settle := [], con := fun f => match f with | 23 => some c_spec_joParts | 24 => some c_spec_joParse | 25 => some c_spec_joNext | _ => none, clo := fun _ => none, T := tinf Tryd.prog }
noncomputable def loops_spec_ReadEdits : Nat → Option Loop := fun n => match n with | 6 => some { pat := pat_spec_ReadEdits_0, outs := outs_spec_ReadEdits_0, run := runL (step_spec_ReadEdits_0) } | _ => none
theorem step_spec_ReadEdits_0_eq (s : Int × Int × Int × (List ByteArray) × (List (Int × (ByteArray × Bool)))) : stepEv env_spec_ReadEdits loops_spec_ReadEdits pat_spec_ReadEdits_0 outs_spec_ReadEdits_0 Tryd.f8 6 s = step_spec_ReadEdits_0 s := by kernel_rfl
theorem F_spec_ReadEdits_eq (x : ByteArray) : Fev env_spec_ReadEdits loops_spec_ReadEdits c_spec_ReadEdits.ps c_spec_ReadEdits.rs Tryd.f8 x = F_spec_ReadEdits x := by kernel_rfl
theorem env_spec_ReadEdits_ok : EnvOK Tryd.prog env_spec_ReadEdits := envOK_of (fun f c h => by
  simp only [env_spec_ReadEdits] at h
  split at h
  · cases h; exact con_spec_joParts
  · cases h; exact con_spec_joParse
  · cases h; exact con_spec_joNext
  · cases h) (fun f c h => by cases h) rfl
theorem con_spec_ReadEdits : ConOK Tryd.prog 8 c_spec_ReadEdits := con_of_ev' (body := Tryd.f8.body.getD .skip) (Λ := loops_spec_ReadEdits) mixed Tryd.func8 (by kernel_rfl) (by kernel_rfl) env_spec_ReadEdits_ok (by kernel_rfl) (by kernel_rfl) (fun n L h => by
  unfold loops_spec_ReadEdits at h
  split at h
  · cases h; exact fun s o ho => loop_ok (stepF := stepEv env_spec_ReadEdits loops_spec_ReadEdits pat_spec_ReadEdits_0 outs_spec_ReadEdits_0 Tryd.f8 6) (step_spec_ReadEdits_0_eq) ho
  · cases h) F_spec_ReadEdits_eq

noncomputable def F_spec_DrawTearText (x : (List Int)) : Option ((List (Int × (ByteArray × Bool))) × Int) :=
  match F_spec_l1Cur_edits ((x, 0, 0)) with
  | none => none
  | some y1 =>
    match F_spec_joGood (y1.2) with
    | none => none
    | some y2 =>
      bif y2 then
        match F_spec_joText (y1.2) with
        | none => none
        | some y3 =>
          let v4 := IntKind.i64.wrap ((y3.size : Int) + 1)
          match F_spec_l1Cur_pick ((y1.1, v4)) with
          | none => none
          | some y5 =>
            let v6 := IntKind.i64.wrap ((y3.size : Int) + 1)
            match F_spec_l1Cur_pick ((y5.1, v6)) with
            | none => none
            | some y7 =>
              let v8 := IntKind.i64.wrap ((y3.size : Int) + 1)
              match F_spec_l1Cur_among ((y7.1, [0, (y3.size : Int), y5.2, y7.2, v8, (-1)])) with
              | none => none
              | some y9 =>
                some ((y1.2, y9.2))
      else
        let v10 := IntKind.i64.wrap (0 + 1)
        match F_spec_l1Cur_pick ((y1.1, v10)) with
        | none => none
        | some y11 =>
          let v12 := IntKind.i64.wrap (0 + 1)
          match F_spec_l1Cur_pick ((y11.1, v12)) with
          | none => none
          | some y13 =>
            let v14 := IntKind.i64.wrap (0 + 1)
            match F_spec_l1Cur_among ((y13.1, [0, 0, y11.2, y13.2, v14, (-1)])) with
            | none => none
            | some y15 =>
              some ((y1.2, y15.2))
noncomputable def c_spec_DrawTearText : Con := { ps := [(.val, (.slice (.int .u8)))], rs := [(.io true, (.slice (.st (.pair (.int .i64) (.pair .str .bool))))), (.val, (.int .i64))], F := F_spec_DrawTearText }
noncomputable def env_spec_DrawTearText : Env := { par := [], dp := false, settle := [], con := fun f => match f with | 27 => some c_spec_l1Cur_among | 28 => some c_spec_l1Cur_pick | 31 => some c_spec_joGood | 33 => some c_spec_joText | 48 => some c_spec_l1Cur_edits | _ => none, clo := fun _ => none, T := tinf Tryd.prog }
noncomputable def loops_spec_DrawTearText : Nat → Option Loop := fun n => none
theorem F_spec_DrawTearText_eq (x : (List Int)) : Fev env_spec_DrawTearText loops_spec_DrawTearText c_spec_DrawTearText.ps c_spec_DrawTearText.rs Tryd.f26 x = F_spec_DrawTearText x := by kernel_rfl
theorem env_spec_DrawTearText_ok : EnvOK Tryd.prog env_spec_DrawTearText := envOK_of (fun f c h => by
  simp only [env_spec_DrawTearText] at h
  split at h
  · cases h; exact con_spec_l1Cur_among
  · cases h; exact con_spec_l1Cur_pick
  · cases h; exact con_spec_joGood
  · cases h; exact con_spec_joText
  · cases h; exact con_spec_l1Cur_edits
  · cases h) (fun f c h => by cases h) rfl
theorem con_spec_DrawTearText : ConOK Tryd.prog 26 c_spec_DrawTearText := con_of_ev' (body := Tryd.f26.body.getD .skip) (Λ := loops_spec_DrawTearText) mixed Tryd.func26 (by kernel_rfl) (by kernel_rfl) env_spec_DrawTearText_ok (by kernel_rfl) (by kernel_rfl) (fun n L h => by cases h) F_spec_DrawTearText_eq

noncomputable def F_spec_DrawDamageText (x : (List Int)) : Option ((List (Int × (ByteArray × Bool))) × Int × Int) :=
  match F_spec_DrawTearText (x) with
  | none => none
  | some y1 =>
    match F_spec_l1Cur_pick (((x, 0, 0), 256)) with
    | none => none
    | some y2 =>
      match F_spec_l1Cur_among ((y2.1, [46, (-1), 256])) with
      | none => none
      | some y3 =>
        match F_spec_l1Cur_among ((y3.1, [0, 10, 43, 65, 255, y2.2, y3.2])) with
        | none => none
        | some y4 =>
          some ((y1.1, y1.2, y4.2))
noncomputable def c_spec_DrawDamageText : Con := { ps := [(.val, (.slice (.int .u8)))], rs := [(.io true, (.slice (.st (.pair (.int .i64) (.pair .str .bool))))), (.val, (.int .i64)), (.val, (.int .i64))], F := F_spec_DrawDamageText }
noncomputable def env_spec_DrawDamageText : Env := { par := [], dp := false, settle := [], con := fun f => match f with | 26 => some c_spec_DrawTearText | 27 => some c_spec_l1Cur_among | 28 => some c_spec_l1Cur_pick | _ => none, clo := fun _ => none, T := tinf Tryd.prog }
noncomputable def loops_spec_DrawDamageText : Nat → Option Loop := fun n => none
theorem F_spec_DrawDamageText_eq (x : (List Int)) : Fev env_spec_DrawDamageText loops_spec_DrawDamageText c_spec_DrawDamageText.ps c_spec_DrawDamageText.rs Tryd.f9 x = F_spec_DrawDamageText x := by kernel_rfl
theorem env_spec_DrawDamageText_ok : EnvOK Tryd.prog env_spec_DrawDamageText := envOK_of (fun f c h => by
  simp only [env_spec_DrawDamageText] at h
  split at h
  · cases h; exact con_spec_DrawTearText
  · cases h; exact con_spec_l1Cur_among
  · cases h; exact con_spec_l1Cur_pick
  · cases h) (fun f c h => by cases h) rfl
theorem con_spec_DrawDamageText : ConOK Tryd.prog 9 c_spec_DrawDamageText := con_of_ev' (body := Tryd.f9.body.getD .skip) (Λ := loops_spec_DrawDamageText) mixed Tryd.func9 (by kernel_rfl) (by kernel_rfl) env_spec_DrawDamageText_ok (by kernel_rfl) (by kernel_rfl) (fun n L h => by cases h) F_spec_DrawDamageText_eq

noncomputable def step_impl_editsText_0 (s : ByteArray × (List (Int × (ByteArray × Bool))) × Int × Int) : Option ((ByteArray × (List (Int × (ByteArray × Bool))) × Int × Int) ⊕ ((ByteArray))) :=
  bif (decide (s.2.2.2 < s.2.2.1)) then
    bif decide (0 ≤ s.2.2.2) && decide (s.2.2.2 < (s.2.1.length : Int)) then
      match F_impl_LogEdit_line ((s.2.1.getD (s.2.2.2).toNat (0, ByteArray.empty, false))) with
      | none => none
      | some y3 =>
        bif decide (s.1.size + y3.size ≤ 9223372036854775807) then
          let v4 := IntKind.i64.wrap (s.2.2.2 + 1)
          some (.inl (((s.1 ++ y3), (s.2.1, s.2.2.1, v4))))
        else none
    else none
  else
    some (.inr (s.1))
def pat_impl_editsText_0 : Pat := { tmps := [.any, .any, .any, .v .str, .any, .any, .v (.slice (.st (.pair (.int .i64) (.pair .str .bool)))), .v (.int .i64), .v (.int .i64), .any, .any, .any, .any, .any, .any, .any, .any, .any], blks := [] }
def outs_impl_editsText_0 : List (Exit × Pat) := [(.exit 0, { tmps := [.any, .any, .any, .v .str, .any, .any, .any, .any, .any, .any, .any, .any, .any, .any, .any, .any, .any, .any], blks := [] })]
noncomputable def F_impl_editsText (x : (List (Int × (ByteArray × Bool)))) : Option (ByteArray) :=
  match runL step_impl_editsText_0 (((⟨#[]⟩ : ByteArray), (x, (x.length : Int), 0))) with
  | none => none
  | some o5 =>
    some (o5)
noncomputable def c_impl_editsText : Con := { ps := [(.val, (.slice (.st (.pair (.int .i64) (.pair .str .bool)))))], rs := [(.val, .str)], F := F_impl_editsText }
noncomputable def env_impl_editsText : Env := { par := [], dp := false, settle := [], con := fun f => match f with | 43 => some c_impl_LogEdit_line | _ => none, clo := fun _ => none, T := tinf Tryd.prog }
noncomputable def loops_impl_editsText : Nat → Option Loop := fun n => match n with | 3 => some { pat := pat_impl_editsText_0, outs := outs_impl_editsText_0, run := runL (step_impl_editsText_0) } | _ => none
theorem step_impl_editsText_0_eq (s : ByteArray × (List (Int × (ByteArray × Bool))) × Int × Int) : stepEv env_impl_editsText loops_impl_editsText pat_impl_editsText_0 outs_impl_editsText_0 Tryd.f30 3 s = step_impl_editsText_0 s := by kernel_rfl
theorem F_impl_editsText_eq (x : (List (Int × (ByteArray × Bool)))) : Fev env_impl_editsText loops_impl_editsText c_impl_editsText.ps c_impl_editsText.rs Tryd.f30 x = F_impl_editsText x := by kernel_rfl
theorem env_impl_editsText_ok : EnvOK Tryd.prog env_impl_editsText := envOK_of (fun f c h => by
  simp only [env_impl_editsText] at h
  split at h
  · cases h; exact con_impl_LogEdit_line
  · cases h) (fun f c h => by cases h) rfl
theorem con_impl_editsText : ConOK Tryd.prog 30 c_impl_editsText := con_of_ev' (body := Tryd.f30.body.getD .skip) (Λ := loops_impl_editsText) mixed Tryd.func30 (by kernel_rfl) (by kernel_rfl) env_impl_editsText_ok (by kernel_rfl) (by kernel_rfl) (fun n L h => by
  unfold loops_impl_editsText at h
  split at h
  · cases h; exact fun s o ho => loop_ok (stepF := stepEv env_impl_editsText loops_impl_editsText pat_impl_editsText_0 outs_impl_editsText_0 Tryd.f30 3) (step_impl_editsText_0_eq) ho
  · cases h) F_impl_editsText_eq

noncomputable def F_impl_DamageText (x : (List (Int × (ByteArray × Bool))) × Int × Int) : Option (ByteArray × Bool) :=
  match F_impl_AreEdits (x.1) with
  | none => none
  | some y1 =>
    bif (!y1) then
      some (((⟨#[]⟩ : ByteArray), false))
    else
      match F_impl_editsText (x.1) with
      | none => none
      | some y2 =>
        let v3 := IntKind.i64.wrap ((y2.size : Int) - 1)
        match F_impl_within ((x.2.1, 0, v3)) with
        | none => none
        | some y4 =>
          bif (!y4) then
            some (((⟨#[]⟩ : ByteArray), false))
          else
            match F_impl_within ((x.2.2, 0, 255)) with
            | none => none
            | some y5 =>
              bif (!y5) then
                some (((⟨#[]⟩ : ByteArray), false))
              else
                match F_impl_editsText (x.1) with
                | none => none
                | some y6 =>
                  let v7 := IntKind.u8.wrap x.2.2
                  bif decide (0 ≤ x.2.1) && decide (x.2.1 < ((strBytes y6).length : Int)) then
                    let v8 := (strBytes y6).set (x.2.1).toNat (v7)
                    some (((bytesStr v8), true))
                  else none
noncomputable def c_impl_DamageText : Con := { ps := [(.val, (.slice (.st (.pair (.int .i64) (.pair .str .bool))))), (.val, (.int .i64)), (.val, (.int .i64))], rs := [(.val, .str), (.val, .bool)], F := F_impl_DamageText }
noncomputable def env_impl_DamageText : Env := { par := [], dp := false, settle := [], con := fun f => match f with | 16 => some c_impl_AreEdits | 29 => some c_impl_within | 30 => some c_impl_editsText | _ => none, clo := fun _ => none, T := tinf Tryd.prog }
noncomputable def loops_impl_DamageText : Nat → Option Loop := fun n => none
theorem F_impl_DamageText_eq (x : (List (Int × (ByteArray × Bool))) × Int × Int) : Fev env_impl_DamageText loops_impl_DamageText c_impl_DamageText.ps c_impl_DamageText.rs Tryd.f10 x = F_impl_DamageText x := by kernel_rfl
theorem env_impl_DamageText_ok : EnvOK Tryd.prog env_impl_DamageText := envOK_of (fun f c h => by
  simp only [env_impl_DamageText] at h
  split at h
  · cases h; exact con_impl_AreEdits
  · cases h; exact con_impl_within
  · cases h; exact con_impl_editsText
  · cases h) (fun f c h => by cases h) rfl
theorem con_impl_DamageText : ConOK Tryd.prog 10 c_impl_DamageText := con_of_ev' (body := Tryd.f10.body.getD .skip) (Λ := loops_impl_DamageText) mixed Tryd.func10 (by kernel_rfl) (by kernel_rfl) env_impl_DamageText_ok (by kernel_rfl) (by kernel_rfl) (fun n L h => by cases h) F_impl_DamageText_eq

noncomputable def F_spec_DamageText (x : (List (Int × (ByteArray × Bool))) × Int × Int) : Option (ByteArray × Bool) :=
  match F_spec_joGood (x.1) with
  | none => none
  | some y1 =>
    bif (!y1) then
      some (((⟨#[]⟩ : ByteArray), false))
    else
      match F_spec_joText (x.1) with
      | none => none
      | some y2 =>
        let v3 := IntKind.i64.wrap ((y2.size : Int) - 1)
        match F_spec_l1In ((x.2.1, 0, v3)) with
        | none => none
        | some y4 =>
          bif (!y4) then
            some (((⟨#[]⟩ : ByteArray), false))
          else
            match F_spec_l1In ((x.2.2, 0, 255)) with
            | none => none
            | some y5 =>
              bif (!y5) then
                some (((⟨#[]⟩ : ByteArray), false))
              else
                match F_spec_joText (x.1) with
                | none => none
                | some y6 =>
                  bif decide (0 ≤ (0 : Int)) && decide ((0 : Int) ≤ x.2.1) && decide (x.2.1 ≤ (y6.size : Int)) then
                    let v7 := IntKind.u8.wrap x.2.2
                    let v8 := IntKind.i64.wrap (x.2.1 + 1)
                    bif decide (0 ≤ v8) && decide (v8 ≤ (y6.size : Int)) && decide ((y6.size : Int) ≤ (y6.size : Int)) then
                      bif decide ((y6.extract ((0 : Int)).toNat (x.2.1).toNat).size + (bytesStr [v7]).size ≤ 9223372036854775807) then
                        bif decide (((y6.extract ((0 : Int)).toNat (x.2.1).toNat) ++ (bytesStr [v7])).size + (y6.extract (v8).toNat ((y6.size : Int)).toNat).size ≤ 9223372036854775807) then
                          some (((((y6.extract ((0 : Int)).toNat (x.2.1).toNat) ++ (bytesStr [v7])) ++ (y6.extract (v8).toNat ((y6.size : Int)).toNat)), true))
                        else none
                      else none
                    else none
                  else none
noncomputable def c_spec_DamageText : Con := { ps := [(.val, (.slice (.st (.pair (.int .i64) (.pair .str .bool))))), (.val, (.int .i64)), (.val, (.int .i64))], rs := [(.val, .str), (.val, .bool)], F := F_spec_DamageText }
noncomputable def env_spec_DamageText : Env := { par := [], dp := false, settle := [], con := fun f => match f with | 31 => some c_spec_joGood | 32 => some c_spec_l1In | 33 => some c_spec_joText | _ => none, clo := fun _ => none, T := tinf Tryd.prog }
noncomputable def loops_spec_DamageText : Nat → Option Loop := fun n => none
theorem F_spec_DamageText_eq (x : (List (Int × (ByteArray × Bool))) × Int × Int) : Fev env_spec_DamageText loops_spec_DamageText c_spec_DamageText.ps c_spec_DamageText.rs Tryd.f11 x = F_spec_DamageText x := by kernel_rfl
theorem env_spec_DamageText_ok : EnvOK Tryd.prog env_spec_DamageText := envOK_of (fun f c h => by
  simp only [env_spec_DamageText] at h
  split at h
  · cases h; exact con_spec_joGood
  · cases h; exact con_spec_l1In
  · cases h; exact con_spec_joText
  · cases h) (fun f c h => by cases h) rfl
theorem con_spec_DamageText : ConOK Tryd.prog 11 c_spec_DamageText := con_of_ev' (body := Tryd.f11.body.getD .skip) (Λ := loops_spec_DamageText) mixed Tryd.func11 (by kernel_rfl) (by kernel_rfl) env_spec_DamageText_ok (by kernel_rfl) (by kernel_rfl) (fun n L h => by cases h) F_spec_DamageText_eq

noncomputable def F_spec_DrawParseEditLine (x : (List Int)) : Option (ByteArray) :=
  match F_spec_l1Cur_among (((x, 0, 0), [1, 7, 12, 999])) with
  | none => none
  | some y1 =>
    match F_spec_l1Cur_edit (y1) with
    | none => none
    | some y2 =>
      match F_spec_joOne (y2.2) with
      | none => none
      | some y3 =>
        bif y3 then
          match F_spec_joLine (y2.2) with
          | none => none
          | some y4 =>
            match F_spec_l1Cur_one ((y2.1, 3)) with
            | none => none
            | some y5 =>
              bif y5.2 then
                match F_spec_l1Cur_spoilt ((y5.1, y4, (⟨#[43, 45, 46, 10, 48, 49, 71, 79]⟩ : ByteArray))) with
                | none => none
                | some y6 =>
                  some (y6.2)
              else
                some (y4)
        else
          match F_spec_l1Cur_one ((y2.1, 3)) with
          | none => none
          | some y7 =>
            bif y7.2 then
              match F_spec_l1Cur_spoilt ((y7.1, (⟨#[49, 43, 71, 79, 46, 53, 10]⟩ : ByteArray), (⟨#[43, 45, 46, 10, 48, 49, 71, 79]⟩ : ByteArray))) with
              | none => none
              | some y8 =>
                some (y8.2)
            else
              some ((⟨#[49, 43, 71, 79, 46, 53, 10]⟩ : ByteArray))
noncomputable def c_spec_DrawParseEditLine : Con := { ps := [(.val, (.slice (.int .u8)))], rs := [(.val, .str)], F := F_spec_DrawParseEditLine }
noncomputable def env_spec_DrawParseEditLine : Env := { par := [], dp := false, settle := [], con := fun f => match f with | 27 => some c_spec_l1Cur_among | 34 => some c_spec_l1Cur_edit | 35 => some c_spec_joOne | 36 => some c_spec_joLine | 37 => some c_spec_l1Cur_one | 38 => some c_spec_l1Cur_spoilt | _ => none, clo := fun _ => none, T := tinf Tryd.prog }
noncomputable def loops_spec_DrawParseEditLine : Nat → Option Loop := fun n => none
theorem F_spec_DrawParseEditLine_eq (x : (List Int)) : Fev env_spec_DrawParseEditLine loops_spec_DrawParseEditLine c_spec_DrawParseEditLine.ps c_spec_DrawParseEditLine.rs Tryd.f12 x = F_spec_DrawParseEditLine x := by kernel_rfl
theorem env_spec_DrawParseEditLine_ok : EnvOK Tryd.prog env_spec_DrawParseEditLine := envOK_of (fun f c h => by
  simp only [env_spec_DrawParseEditLine] at h
  split at h
  · cases h; exact con_spec_l1Cur_among
  · cases h; exact con_spec_l1Cur_edit
  · cases h; exact con_spec_joOne
  · cases h; exact con_spec_joLine
  · cases h; exact con_spec_l1Cur_one
  · cases h; exact con_spec_l1Cur_spoilt
  · cases h) (fun f c h => by cases h) rfl
theorem con_spec_DrawParseEditLine : ConOK Tryd.prog 12 c_spec_DrawParseEditLine := con_of_ev' (body := Tryd.f12.body.getD .skip) (Λ := loops_spec_DrawParseEditLine) mixed Tryd.func12 (by kernel_rfl) (by kernel_rfl) env_spec_DrawParseEditLine_ok (by kernel_rfl) (by kernel_rfl) (fun n L h => by cases h) F_spec_DrawParseEditLine_eq

noncomputable def F_spec_ParseEditLine (x : ByteArray) : Option ((Int × (ByteArray × Bool)) × Bool) :=
  match F_spec_joParse (x) with
  | none => none
  | some y1 =>
    some (y1)
noncomputable def c_spec_ParseEditLine : Con := { ps := [(.val, .str)], rs := [(.val, (.st (.pair (.int .i64) (.pair .str .bool)))), (.val, .bool)], F := F_spec_ParseEditLine }
noncomputable def env_spec_ParseEditLine : Env := { par := [], dp := false, settle := [], con := fun f => match f with | 24 => some c_spec_joParse | _ => none, clo := fun _ => none, T := tinf Tryd.prog }
noncomputable def loops_spec_ParseEditLine : Nat → Option Loop := fun n => none
theorem F_spec_ParseEditLine_eq (x : ByteArray) : Fev env_spec_ParseEditLine loops_spec_ParseEditLine c_spec_ParseEditLine.ps c_spec_ParseEditLine.rs Tryd.f14 x = F_spec_ParseEditLine x := by kernel_rfl
theorem env_spec_ParseEditLine_ok : EnvOK Tryd.prog env_spec_ParseEditLine := envOK_of (fun f c h => by
  simp only [env_spec_ParseEditLine] at h
  split at h
  · cases h; exact con_spec_joParse
  · cases h) (fun f c h => by cases h) rfl
theorem con_spec_ParseEditLine : ConOK Tryd.prog 14 c_spec_ParseEditLine := con_of_ev' (body := Tryd.f14.body.getD .skip) (Λ := loops_spec_ParseEditLine) mixed Tryd.func14 (by kernel_rfl) (by kernel_rfl) env_spec_ParseEditLine_ok (by kernel_rfl) (by kernel_rfl) (fun n L h => by cases h) F_spec_ParseEditLine_eq

noncomputable def step_laws_qEdits_0 (s : (List (Int × (ByteArray × Bool))) × (List (Int × (ByteArray × Bool))) × Int × Int) : Option (((List (Int × (ByteArray × Bool))) × (List (Int × (ByteArray × Bool))) × Int × Int) ⊕ ((Bool) ⊕ (Unit))) :=
  bif (decide (s.2.2.2 < s.2.2.1)) then
    bif decide (0 ≤ s.2.2.2) && decide (s.2.2.2 < (s.1.length : Int)) then
      bif decide (0 ≤ s.2.2.2) && decide (s.2.2.2 < (s.2.1.length : Int)) then
        bif (!(((s.1.getD (s.2.2.2).toNat (0, ByteArray.empty, false)).1 == (s.2.1.getD (s.2.2.2).toNat (0, ByteArray.empty, false)).1) && (((s.1.getD (s.2.2.2).toNat (0, ByteArray.empty, false)).2.1.toList == (s.2.1.getD (s.2.2.2).toNat (0, ByteArray.empty, false)).2.1.toList) && (((s.1.getD (s.2.2.2).toNat (0, ByteArray.empty, false)).2.2 == (s.2.1.getD (s.2.2.2).toNat (0, ByteArray.empty, false)).2.2) && true)))) then
          some (.inr (.inl (false)))
        else
          let v2 := IntKind.i64.wrap (s.2.2.2 + 1)
          some (.inl ((s.1, (s.2.1, s.2.2.1, v2))))
      else none
    else none
  else
    some (.inr (.inr (())))
def pat_laws_qEdits_0 : Pat := { tmps := [.v (.slice (.st (.pair (.int .i64) (.pair .str .bool)))), .v (.slice (.st (.pair (.int .i64) (.pair .str .bool)))), .any, .any, .any, .any, .any, .any, .any, .any, .any, .any, .v (.int .i64), .v (.int .i64), .any, .any, .any, .any, .any, .any, .any, .any, .any, .any, .any, .any], blks := [] }
def outs_laws_qEdits_0 : List (Exit × Pat) := [(.ret, { tmps := [.any, .any, .any, .any, .v .bool, .any, .any, .any, .any, .any, .any, .any, .any, .any, .any, .any, .any, .any, .any, .any, .any, .any, .any, .any, .any, .any], blks := [] }), (.exit 0, { tmps := [.any, .any, .any, .any, .any, .any, .any, .any, .any, .any, .any, .any, .any, .any, .any, .any, .any, .any, .any, .any, .any, .any, .any, .any, .any, .any], blks := [] })]
noncomputable def F_laws_qEdits (x : (List (Int × (ByteArray × Bool))) × (List (Int × (ByteArray × Bool)))) : Option (Bool) :=
  bif (((x.1.length : Int) != (x.2.length : Int))) then
    some (false)
  else
    match runL step_laws_qEdits_0 ((x.1, (x.2, (x.1.length : Int), 0))) with
    | none => none
    | some (.inl o3) =>
      some (o3)
    | some (.inr o3) =>
      some (true)
noncomputable def c_laws_qEdits : Con := { ps := [(.val, (.slice (.st (.pair (.int .i64) (.pair .str .bool))))), (.val, (.slice (.st (.pair (.int .i64) (.pair .str .bool)))))], rs := [(.val, .bool)], F := F_laws_qEdits }
noncomputable def env_laws_qEdits : Env := { par := [], dp := false, settle := [], con := fun _ => none, clo := fun _ => none, T := tinf Tryd.prog }
noncomputable def loops_laws_qEdits : Nat → Option Loop := fun n => match n with | 4 => some { pat := pat_laws_qEdits_0, outs := outs_laws_qEdits_0, run := runL (step_laws_qEdits_0) } | _ => none
theorem step_laws_qEdits_0_eq (s : (List (Int × (ByteArray × Bool))) × (List (Int × (ByteArray × Bool))) × Int × Int) : stepEv env_laws_qEdits loops_laws_qEdits pat_laws_qEdits_0 outs_laws_qEdits_0 Tryd.f15 4 s = step_laws_qEdits_0 s := by kernel_rfl
theorem F_laws_qEdits_eq (x : (List (Int × (ByteArray × Bool))) × (List (Int × (ByteArray × Bool)))) : Fev env_laws_qEdits loops_laws_qEdits c_laws_qEdits.ps c_laws_qEdits.rs Tryd.f15 x = F_laws_qEdits x := by kernel_rfl
theorem env_laws_qEdits_ok : EnvOK Tryd.prog env_laws_qEdits := envOK_of (fun f c h => by cases h) (fun f c h => by cases h) rfl
theorem con_laws_qEdits : ConOK Tryd.prog 15 c_laws_qEdits := con_of_ev' (body := Tryd.f15.body.getD .skip) (Λ := loops_laws_qEdits) mixed Tryd.func15 (by kernel_rfl) (by kernel_rfl) env_laws_qEdits_ok (by kernel_rfl) (by kernel_rfl) (fun n L h => by
  unfold loops_laws_qEdits at h
  split at h
  · cases h; exact fun s o ho => loop_ok (stepF := stepEv env_laws_qEdits loops_laws_qEdits pat_laws_qEdits_0 outs_laws_qEdits_0 Tryd.f15 4) (step_laws_qEdits_0_eq) ho
  · cases h) F_laws_qEdits_eq

noncomputable def F_impl_EditsText (x : (List (Int × (ByteArray × Bool)))) : Option (ByteArray × Bool) :=
  match F_impl_AreEdits (x) with
  | none => none
  | some y1 =>
    bif (!y1) then
      some (((⟨#[]⟩ : ByteArray), false))
    else
      match F_impl_editsText (x) with
      | none => none
      | some y2 =>
        some ((y2, true))
noncomputable def c_impl_EditsText : Con := { ps := [(.val, (.slice (.st (.pair (.int .i64) (.pair .str .bool)))))], rs := [(.val, .str), (.val, .bool)], F := F_impl_EditsText }
noncomputable def env_impl_EditsText : Env := { par := [], dp := false, settle := [], con := fun f => match f with | 16 => some c_impl_AreEdits | 30 => some c_impl_editsText | _ => none, clo := fun _ => none, T := tinf Tryd.prog }
noncomputable def loops_impl_EditsText : Nat → Option Loop := fun n => none
theorem F_impl_EditsText_eq (x : (List (Int × (ByteArray × Bool)))) : Fev env_impl_EditsText loops_impl_EditsText c_impl_EditsText.ps c_impl_EditsText.rs Tryd.f17 x = F_impl_EditsText x := by kernel_rfl
theorem env_impl_EditsText_ok : EnvOK Tryd.prog env_impl_EditsText := envOK_of (fun f c h => by
  simp only [env_impl_EditsText] at h
  split at h
  · cases h; exact con_impl_AreEdits
  · cases h; exact con_impl_editsText
  · cases h) (fun f c h => by cases h) rfl
theorem con_impl_EditsText : ConOK Tryd.prog 17 c_impl_EditsText := con_of_ev' (body := Tryd.f17.body.getD .skip) (Λ := loops_impl_EditsText) mixed Tryd.func17 (by kernel_rfl) (by kernel_rfl) env_impl_EditsText_ok (by kernel_rfl) (by kernel_rfl) (fun n L h => by cases h) F_impl_EditsText_eq

noncomputable def F_spec_EditsText (x : (List (Int × (ByteArray × Bool)))) : Option (ByteArray × Bool) :=
  match F_spec_joGood (x) with
  | none => none
  | some y1 =>
    bif (!y1) then
      some (((⟨#[]⟩ : ByteArray), false))
    else
      match F_spec_joText (x) with
      | none => none
      | some y2 =>
        some ((y2, true))
noncomputable def c_spec_EditsText : Con := { ps := [(.val, (.slice (.st (.pair (.int .i64) (.pair .str .bool)))))], rs := [(.val, .str), (.val, .bool)], F := F_spec_EditsText }
noncomputable def env_spec_EditsText : Env := { par := [], dp := false, settle := [], con := fun f => match f with | 31 => some c_spec_joGood | 33 => some c_spec_joText | _ => none, clo := fun _ => none, T := tinf Tryd.prog }
noncomputable def loops_spec_EditsText : Nat → Option Loop := fun n => none
theorem F_spec_EditsText_eq (x : (List (Int × (ByteArray × Bool)))) : Fev env_spec_EditsText loops_spec_EditsText c_spec_EditsText.ps c_spec_EditsText.rs Tryd.f18 x = F_spec_EditsText x := by kernel_rfl
theorem env_spec_EditsText_ok : EnvOK Tryd.prog env_spec_EditsText := envOK_of (fun f c h => by
  simp only [env_spec_EditsText] at h
  split at h
  · cases h; exact con_spec_joGood
  · cases h; exact con_spec_joText
  · cases h) (fun f c h => by cases h) rfl
theorem con_spec_EditsText : ConOK Tryd.prog 18 c_spec_EditsText := con_of_ev' (body := Tryd.f18.body.getD .skip) (Λ := loops_spec_EditsText) mixed Tryd.func18 (by kernel_rfl) (by kernel_rfl) env_spec_EditsText_ok (by kernel_rfl) (by kernel_rfl) (fun n L h => by cases h) F_spec_EditsText_eq

noncomputable def F_impl_EditLine (x : (Int × (ByteArray × Bool))) : Option (ByteArray × Bool) :=
  match F_impl_isLogEdit (x) with
  | none => none
  | some y1 =>
    bif (!y1) then
      some (((⟨#[]⟩ : ByteArray), false))
    else
      match F_impl_LogEdit_line (x) with
      | none => none
      | some y2 =>
        some ((y2, true))
noncomputable def c_impl_EditLine : Con := { ps := [(.val, (.st (.pair (.int .i64) (.pair .str .bool))))], rs := [(.val, .str), (.val, .bool)], F := F_impl_EditLine }
noncomputable def env_impl_EditLine : Env := { par := [], dp := false, settle := [], con := fun f => match f with | 42 => some c_impl_isLogEdit | 43 => some c_impl_LogEdit_line | _ => none, clo := fun _ => none, T := tinf Tryd.prog }
noncomputable def loops_impl_EditLine : Nat → Option Loop := fun n => none
theorem F_impl_EditLine_eq (x : (Int × (ByteArray × Bool))) : Fev env_impl_EditLine loops_impl_EditLine c_impl_EditLine.ps c_impl_EditLine.rs Tryd.f19 x = F_impl_EditLine x := by kernel_rfl
theorem env_impl_EditLine_ok : EnvOK Tryd.prog env_impl_EditLine := envOK_of (fun f c h => by
  simp only [env_impl_EditLine] at h
  split at h
  · cases h; exact con_impl_isLogEdit
  · cases h; exact con_impl_LogEdit_line
  · cases h) (fun f c h => by cases h) rfl
theorem con_impl_EditLine : ConOK Tryd.prog 19 c_impl_EditLine := con_of_ev' (body := Tryd.f19.body.getD .skip) (Λ := loops_impl_EditLine) mixed Tryd.func19 (by kernel_rfl) (by kernel_rfl) env_impl_EditLine_ok (by kernel_rfl) (by kernel_rfl) (fun n L h => by cases h) F_impl_EditLine_eq

noncomputable def step_laws_FnSalvage_0 (s : Int × ByteArray × ByteArray × Bool × ByteArray × Int × Int × ByteArray × Bool) : Option ((Int × ByteArray × ByteArray × Bool × ByteArray × Int × Int × ByteArray × Bool) ⊕ ((Bool) ⊕ (ByteArray × Bool × Int × ByteArray × Bool))) :=
  bif (decide (s.2.2.2.2.2.1 < (s.2.2.2.2.1.size : Int))) then
    match (bif ((s.2.2.2.2.2.1 != s.1)) then
      bif decide (0 ≤ s.2.2.2.2.2.1) && decide (s.2.2.2.2.2.1 < (s.2.1.size : Int)) then
        bif decide (0 ≤ s.2.2.2.2.2.1) && decide (s.2.2.2.2.2.1 < (s.2.2.2.2.1.size : Int)) then
          bif (((byteAt s.2.1 (s.2.2.2.2.2.1).toNat) != (byteAt s.2.2.2.2.1 (s.2.2.2.2.2.1).toNat))) then
            some (.inr (.inr (.inl (false))))
          else
            some (.inl (s))
        else none
      else none
    else
      some (.inl (s)) : Option ((Int × ByteArray × ByteArray × Bool × ByteArray × Int × Int × ByteArray × Bool) ⊕ ((Int × ByteArray × ByteArray × Bool × ByteArray × Int × Int × ByteArray × Bool) ⊕ ((Bool) ⊕ (ByteArray × Bool × Int × ByteArray × Bool))))) with
    | none => none
    | some (.inl j22) =>
      let v23 := IntKind.i64.wrap (j22.2.2.2.2.2.1 + 1)
      some (.inl ((j22.1, j22.2.1, (j22.2.2.1, j22.2.2.2.1, (j22.2.2.2.2.1, v23, j22.2.2.2.2.2.2)))))
    | some (.inr r) => some r
  else
    some (.inr (.inr ((s.2.2.1, s.2.2.2.1, s.2.2.2.2.2.2))))
def pat_laws_FnSalvage_0 : Pat := { tmps := [.any, .any, .any, .any, .any, .any, .any, .any, .any, .any, .any, .any, .any, .any, .any, .any, .any, .v (.int .i64), .any, .any, .any, .v .str, .any, .v .str, .ptr 1536 0, .v .bool, .any, .any, .any, .any, .v .str, .any, .v (.int .i64), .any, .any, .any, .any, .any, .any, .any, .any, .any, .any, .any, .any, .any, .any, .any, .any, .any, .any, .any, .any, .any, .any, .any, .any, .any, .any, .any, .any, .any, .any, .any, .any, .any, .any, .any, .any, .any, .any, .any, .any, .any, .any, .any, .any, .any, .any, .any, .any, .any, .any, .any, .any, .any, .any, .any, .any, .any, .any, .any, .any, .any, .any, .any, .any, .any, .any, .any, .any, .any, .any, .any, .any, .any, .any, .any, .any, .any, .any, .any, .any, .any, .any, .any, .any, .any, .any, .any, .any, .any, .any, .any, .any, .any, .any, .any, .any, .any, .any, .any, .any, .any, .any, .any, .any, .any, .any, .any, .any, .any, .any, .any, .any, .any, .any, .any, .any, .any, .any, .any, .any, .any, .any, .any, .any, .any, .any, .any, .any, .any, .any, .any, .any, .any, .any, .any, .any, .any, .any, .any, .any, .any, .any, .any, .any, .any, .any, .any, .any, .any, .any, .any, .any, .any, .any, .any, .any, .any, .any, .any, .any, .any, .any, .any, .any, .any, .any, .any, .any, .any, .any, .any, .any, .any, .any, .any, .any, .any, .any, .any, .any, .any, .any, .any, .any, .any, .any, .any, .any, .any, .any, .any, .any, .any, .any, .any, .any, .any, .any, .any], blks := [(1536, .box [.v (.int .i64), .v .str, .v .bool])] }
def outs_laws_FnSalvage_0 : List (Exit × Pat) := [(.ret, { tmps := [.any, .any, .any, .any, .v .bool, .any, .any, .any, .any, .any, .any, .any, .any, .any, .any, .any, .any, .any, .any, .any, .any, .any, .any, .any, .any, .any, .any, .any, .any, .any, .any, .any, .any, .any, .any, .any, .any, .any, .any, .any, .any, .any, .any, .any, .any, .any, .any, .any, .any, .any, .any, .any, .any, .any, .any, .any, .any, .any, .any, .any, .any, .any, .any, .any, .any, .any, .any, .any, .any, .any, .any, .any, .any, .any, .any, .any, .any, .any, .any, .any, .any, .any, .any, .any, .any, .any, .any, .any, .any, .any, .any, .any, .any, .any, .any, .any, .any, .any, .any, .any, .any, .any, .any, .any, .any, .any, .any, .any, .any, .any, .any, .any, .any, .any, .any, .any, .any, .any, .any, .any, .any, .any, .any, .any, .any, .any, .any, .any, .any, .any, .any, .any, .any, .any, .any, .any, .any, .any, .any, .any, .any, .any, .any, .any, .any, .any, .any, .any, .any, .any, .any, .any, .any, .any, .any, .any, .any, .any, .any, .any, .any, .any, .any, .any, .any, .any, .any, .any, .any, .any, .any, .any, .any, .any, .any, .any, .any, .any, .any, .any, .any, .any, .any, .any, .any, .any, .any, .any, .any, .any, .any, .any, .any, .any, .any, .any, .any, .any, .any, .any, .any, .any, .any, .any, .any, .any, .any, .any, .any, .any, .any, .any, .any, .any, .any, .any, .any, .any, .any, .any, .any, .any, .any, .any, .any, .any, .any, .any, .any, .any, .any, .any], blks := [] }), (.exit 0, { tmps := [.any, .any, .any, .any, .any, .any, .any, .any, .any, .any, .any, .any, .any, .any, .any, .any, .any, .any, .any, .any, .any, .any, .any, .v .str, .ptr 1536 0, .v .bool, .any, .any, .any, .any, .any, .any, .any, .any, .any, .any, .any, .any, .any, .any, .any, .any, .any, .any, .any, .any, .any, .any, .any, .any, .any, .any, .any, .any, .any, .any, .any, .any, .any, .any, .any, .any, .any, .any, .any, .any, .any, .any, .any, .any, .any, .any, .any, .any, .any, .any, .any, .any, .any, .any, .any, .any, .any, .any, .any, .any, .any, .any, .any, .any, .any, .any, .any, .any, .any, .any, .any, .any, .any, .any, .any, .any, .any, .any, .any, .any, .any, .any, .any, .any, .any, .any, .any, .any, .any, .any, .any, .any, .any, .any, .any, .any, .any, .any, .any, .any, .any, .any, .any, .any, .any, .any, .any, .any, .any, .any, .any, .any, .any, .any, .any, .any, .any, .any, .any, .any, .any, .any, .any, .any, .any, .any, .any, .any, .any, .any, .any, .any, .any, .any, .any, .any, .any, .any, .any, .any, .any, .any, .any, .any, .any, .any, .any, .any, .any, .any, .any, .any, .any, .any, .any, .any, .any, .any, .any, .any, .any, .any, .any, .any, .any, .any, .any, .any, .any, .any, .any, .any, .any, .any, .any, .any, .any, .any, .any, .any, .any, .any, .any, .any, .any, .any, .any, .any, .any, .any, .any, .any, .any, .any, .any, .any, .any, .any, .any, .any, .any, .any, .any, .any, .any, .any], blks := [(1536, .box [.v (.int .i64), .v .str, .v .bool])] })]
def pat_laws_FnSalvage_J22 : Pat := { tmps := [.any, .any, .any, .any, .any, .any, .any, .any, .any, .any, .any, .any, .any, .any, .any, .any, .own 4288, .v (.int .i64), .any, .any, .v .bool, .v .str, .any, .v .str, .ptr 1536 0, .v .bool, .any, .any, .any, .any, .any, .any, .any, .any, .any, .any, .any, .any, .any, .any, .any, .any, .any, .any, .any, .any, .any, .any, .any, .any, .any, .any, .any, .any, .any, .any, .any, .any, .any, .any, .any, .any, .any, .any, .any, .any, .any, .any, .any, .any, .any, .any, .any, .any, .any, .any, .any, .any, .any, .any, .any, .any, .any, .any, .any, .any, .any, .any, .any, .any, .any, .any, .any, .any, .any, .any, .any, .any, .any, .any, .any, .any, .any, .any, .any, .any, .any, .any, .any, .any, .any, .any, .any, .any, .any, .any, .any, .any, .any, .any, .any, .any, .any, .any, .any, .any, .any, .any, .any, .any, .any, .any, .any, .any, .any, .any, .any, .any, .any, .any, .any, .any, .any, .any, .any, .any, .any, .any, .any, .any, .any, .any, .any, .any, .any, .any, .any, .any, .any, .any, .any, .any, .any, .any, .any, .any, .any, .any, .any, .any, .any, .any, .any, .any, .any, .any, .any, .any, .any, .any, .any, .any, .any, .any, .any, .any, .any, .any, .any, .any, .any, .any, .any, .any, .any, .any, .any, .any, .any, .any, .any, .any, .any, .any, .any, .any, .any, .any, .any, .any, .any, .any, .any, .any, .any, .any, .any, .any, .any, .any, .any, .any, .any, .any, .any, .any, .any, .any, .any, .any, .any, .any], blks := [(1536, .box [.v (.int .i64), .v .str, .v .bool]), (4288, .row true (.st (.pair (.int .i64) (.pair .str .bool))))] }
def pat_laws_FnSalvage_J28 : Pat := { tmps := [.any, .any, .any, .any, .any, .any, .any, .any, .any, .any, .any, .any, .any, .any, .any, .any, .any, .v (.int .i64), .any, .any, .any, .v .str, .any, .v .str, .ptr 1536 0, .v .bool, .any, .any, .any, .any, .v .str, .any, .v (.int .i64), .any, .any, .any, .any, .any, .any, .any, .any, .any, .any, .any, .any, .any, .any, .any, .any, .any, .any, .any, .any, .any, .any, .any, .any, .any, .any, .any, .any, .any, .any, .any, .any, .any, .any, .any, .any, .any, .any, .any, .any, .any, .any, .any, .any, .any, .any, .any, .any, .any, .any, .any, .any, .any, .any, .any, .any, .any, .any, .any, .any, .any, .any, .any, .any, .any, .any, .any, .any, .any, .any, .any, .any, .any, .any, .any, .any, .any, .any, .any, .any, .any, .any, .any, .any, .any, .any, .any, .any, .any, .any, .any, .any, .any, .any, .any, .any, .any, .any, .any, .any, .any, .any, .any, .any, .any, .any, .any, .any, .any, .any, .any, .any, .any, .any, .any, .any, .any, .any, .any, .any, .any, .any, .any, .any, .any, .any, .any, .any, .any, .any, .any, .any, .any, .any, .any, .any, .any, .any, .any, .any, .any, .any, .any, .any, .any, .any, .any, .any, .any, .any, .any, .any, .any, .any, .any, .any, .any, .any, .any, .any, .any, .any, .any, .any, .any, .any, .any, .any, .any, .any, .any, .any, .any, .any, .any, .any, .any, .any, .any, .any, .any, .any, .any, .any, .any, .any, .any, .any, .any, .any, .any, .any, .any, .any, .any, .any, .any, .any, .any], blks := [(1536, .box [.v (.int .i64), .v .str, .v .bool])] }
def pat_laws_FnSalvage_J31 : Pat := { tmps := [.any, .any, .any, .any, .any, .any, .any, .any, .any, .any, .any, .any, .any, .any, .any, .any, .any, .any, .any, .any, .any, .any, .any, .v .str, .ptr 1536 0, .v .bool, .any, .any, .any, .any, .any, .any, .any, .any, .any, .any, .any, .any, .any, .any, .any, .any, .any, .any, .any, .any, .any, .any, .any, .any, .any, .any, .any, .any, .any, .any, .any, .any, .any, .any, .any, .any, .any, .any, .any, .any, .any, .any, .any, .any, .any, .any, .any, .any, .any, .any, .any, .any, .any, .any, .any, .any, .any, .any, .any, .any, .any, .any, .any, .any, .any, .any, .any, .any, .any, .any, .any, .any, .any, .any, .any, .any, .any, .any, .any, .any, .any, .any, .any, .any, .any, .any, .any, .any, .any, .any, .any, .any, .any, .any, .any, .any, .any, .any, .any, .any, .any, .any, .any, .any, .any, .any, .any, .any, .any, .any, .any, .any, .any, .any, .any, .any, .any, .any, .any, .any, .any, .any, .any, .any, .any, .any, .any, .any, .any, .any, .any, .any, .any, .any, .any, .any, .any, .any, .any, .any, .any, .any, .any, .any, .any, .any, .any, .any, .any, .any, .any, .any, .any, .any, .any, .any, .any, .any, .any, .any, .any, .any, .any, .any, .any, .any, .any, .any, .any, .any, .any, .any, .any, .any, .any, .any, .any, .any, .any, .any, .any, .any, .any, .any, .any, .any, .any, .any, .any, .any, .any, .any, .any, .any, .any, .any, .any, .any, .any, .any, .any, .any, .any, .any, .any, .any], blks := [(1536, .box [.v (.int .i64), .v .str, .v .bool])] }
noncomputable def F_laws_FnSalvage (x : (List Int) × (List Int)) : Option (Bool) :=
  let v1 := IntKind.i64.wrap ((x.1.length : Int) + (x.2.length : Int))
  bif (decide (v1 > 1048576)) then
    some (true)
  else
    match F_spec_DrawSalvageEdits (x.1) with
    | none => none
    | some y2 =>
      match F_impl_SalvageEdits (y2) with
      | none => none
      | some y3 =>
        match F_spec_SalvageEdits (y2) with
        | none => none
        | some y4 =>
          match F_impl_ReadEdits (y2) with
          | none => none
          | some y5 =>
            match F_spec_ReadEdits (y2) with
            | none => none
            | some y6 =>
              match F_spec_DrawDamageText (x.2) with
              | none => none
              | some y7 =>
                match F_impl_DamageText (y7) with
                | none => none
                | some y8 =>
                  match F_spec_DamageText (y7) with
                  | none => none
                  | some y9 =>
                    match F_spec_DrawParseEditLine (x.2) with
                    | none => none
                    | some y10 =>
                      match F_impl_ParseEditLine (y10) with
                      | none => none
                      | some y11 =>
                        match F_spec_ParseEditLine (y10) with
                        | none => none
                        | some y12 =>
                          bif (!(y3.2 == y4.2)) then
                            some (false)
                          else
                            match F_laws_qEdits ((y3.1, y4.1)) with
                            | none => none
                            | some y13 =>
                              bif (!y13) then
                                some (false)
                              else
                                bif (!(y5.2.2 == y6.2.2)) then
                                  some (false)
                                else
                                  match F_laws_qEdits ((y5.1, y6.1)) with
                                  | none => none
                                  | some y14 =>
                                    bif (!y14) then
                                      some (false)
                                    else
                                      bif ((y5.2.1 != y6.2.1)) then
                                        some (false)
                                      else
                                        bif (!(y8.2 == y9.2)) then
                                          some (false)
                                        else
                                          bif (!(y8.1.toList == y9.1.toList)) then
                                            some (false)
                                          else
                                            bif (!(y11.2 == y12.2)) then
                                              some (false)
                                            else
                                              bif (!((y11.1.1 == y12.1.1) && ((y11.1.2.1.toList == y12.1.2.1.toList) && ((y11.1.2.2 == y12.1.2.2) && true)))) then
                                                some (false)
                                              else
                                                bif (!(y5.2.2 == y3.2)) then
                                                  some (false)
                                                else
                                                  match (bif y3.2 then
                                                    bif (decide ((y6.1.length : Int) > (y4.1.length : Int))) then
                                                      some (.inr (false))
                                                    else
                                                      bif decide (0 ≤ (0 : Int)) && decide ((0 : Int) ≤ (y6.1.length : Int)) && decide ((y6.1.length : Int) ≤ (y4.1.length : Int)) then
                                                        match F_laws_qEdits ((y6.1, ((y4.1.drop ((0 : Int)).toNat).take (((y6.1.length : Int)).toNat - ((0 : Int)).toNat)))) with
                                                        | none => none
                                                        | some y15 =>
                                                          bif (!y15) then
                                                            some (.inr (false))
                                                          else
                                                            bif (decide (y6.2.1 > (y2.size : Int))) then
                                                              some (.inr (false))
                                                            else
                                                              match F_impl_AreEdits (y3.1) with
                                                              | none => none
                                                              | some y16 =>
                                                                bif (!y16) then
                                                                  some (.inr (false))
                                                                else
                                                                  match F_impl_EditsText (y5.1) with
                                                                  | none => none
                                                                  | some y17 =>
                                                                    bif (!y17.2) then
                                                                      some (.inr (false))
                                                                    else
                                                                      bif decide (0 ≤ (0 : Int)) && decide ((0 : Int) ≤ y6.2.1) && decide (y6.2.1 ≤ (y2.size : Int)) then
                                                                        bif (!(y17.1.toList == (y2.extract ((0 : Int)).toNat (y6.2.1).toNat).toList)) then
                                                                          some (.inr (false))
                                                                        else
                                                                          some (.inl ((y7.2.1, y8.2, (y9.1, y10, (y11.2, y11.1.1, (y11.1.2.1, y11.1.2.2, y7.1))))))
                                                                      else none
                                                      else none
                                                  else
                                                    some (.inl ((y7.2.1, y8.2, (y9.1, y10, (y11.2, y11.1.1, (y11.1.2.1, y11.1.2.2, y7.1)))))) : Option ((Int × Bool × ByteArray × ByteArray × Bool × Int × ByteArray × Bool × (List (Int × (ByteArray × Bool)))) ⊕ (Bool))) with
                                                  | none => none
                                                  | some (.inl j18) =>
                                                    match (bif j18.2.1 then
                                                      match F_spec_EditsText (j18.2.2.2.2.2.2.2.2) with
                                                      | none => none
                                                      | some y19 =>
                                                        bif (!y19.2) then
                                                          some (.inr (false))
                                                        else
                                                          bif (((j18.2.2.1.size : Int) != (y19.1.size : Int))) then
                                                            some (.inr (false))
                                                          else
                                                            match runL step_laws_FnSalvage_0 ((j18.1, j18.2.2.1, (j18.2.2.2.1, j18.2.2.2.2.1, (y19.1, 0, (j18.2.2.2.2.2.1, j18.2.2.2.2.2.2.1, j18.2.2.2.2.2.2.2.1))))) with
                                                            | none => none
                                                            | some (.inl o24) =>
                                                              some (.inr (o24))
                                                            | some (.inr o24) =>
                                                              some (.inl (o24))
                                                    else
                                                      some (.inl ((j18.2.2.2.1, j18.2.2.2.2.1, (j18.2.2.2.2.2.1, j18.2.2.2.2.2.2.1, j18.2.2.2.2.2.2.2.1)))) : Option ((ByteArray × Bool × Int × ByteArray × Bool) ⊕ (Bool))) with
                                                    | none => none
                                                    | some (.inl j25) =>
                                                      bif j25.2.1 then
                                                        match F_impl_EditLine (j25.2.2) with
                                                        | none => none
                                                        | some y26 =>
                                                          bif y26.2 then
                                                            some ((y26.1.toList == j25.1.toList))
                                                          else
                                                            some (false)
                                                      else
                                                        some (true)
                                                    | some (.inr r) => some r
                                                  | some (.inr r) => some r
noncomputable def c_laws_FnSalvage : Con := { ps := [(.val, (.slice (.int .u8))), (.val, (.slice (.int .u8)))], rs := [(.val, .bool)], F := F_laws_FnSalvage }
noncomputable def env_laws_FnSalvage : Env := { par := [], dp := false, settle := [], con := fun f => match f with | 4 => some c_spec_DrawSalvageEdits | 5 => some c_impl_SalvageEdits | 6 => some c_spec_SalvageEdits | 7 => some c_impl_ReadEdits | 8 => some c_spec_ReadEdits | 9 => some c_spec_DrawDamageText | 10 => some c_impl_DamageText | 11 => some c_spec_DamageText | 12 => some c_spec_DrawParseEditLine | 13 => some c_impl_ParseEditLine | 14 => some c_spec_ParseEditLine | 15 => some c_laws_qEdits | 16 => some c_impl_AreEdits | 17 => some c_impl_EditsText | 18 => some c_spec_EditsText | 19 => some c_impl_EditLine | _ => none, clo := fun _ => none, T := tinf Tryd.prog }
noncomputable def loops_laws_FnSalvage : Nat → Option Loop := fun n => match n with | 27 => some { pat := pat_laws_FnSalvage_0, outs := outs_laws_FnSalvage_0, run := runL (step_laws_FnSalvage_0) } | 1022 => some { pat := pat_laws_FnSalvage_J22, outs := [], run := fun _ => none } | 1028 => some { pat := pat_laws_FnSalvage_J28, outs := [], run := fun _ => none } | 1031 => some { pat := pat_laws_FnSalvage_J31, outs := [], run := fun _ => none } | _ => none
theorem step_laws_FnSalvage_0_eq (s : Int × ByteArray × ByteArray × Bool × ByteArray × Int × Int × ByteArray × Bool) : stepEv env_laws_FnSalvage loops_laws_FnSalvage pat_laws_FnSalvage_0 outs_laws_FnSalvage_0 Tryd.f3 27 s = step_laws_FnSalvage_0 s := by kernel_rfl
theorem F_laws_FnSalvage_eq (x : (List Int) × (List Int)) : Fev env_laws_FnSalvage loops_laws_FnSalvage c_laws_FnSalvage.ps c_laws_FnSalvage.rs Tryd.f3 x = F_laws_FnSalvage x := by kernel_rfl
theorem env_laws_FnSalvage_ok : EnvOK Tryd.prog env_laws_FnSalvage := envOK_of (fun f c h => by
  simp only [env_laws_FnSalvage] at h
  split at h
  · cases h; exact con_spec_DrawSalvageEdits
  · cases h; exact con_impl_SalvageEdits
  · cases h; exact con_spec_SalvageEdits
  · cases h; exact con_impl_ReadEdits
  · cases h; exact con_spec_ReadEdits
  · cases h; exact con_spec_DrawDamageText
  · cases h; exact con_impl_DamageText
  · cases h; exact con_spec_DamageText
  · cases h; exact con_spec_DrawParseEditLine
  · cases h; exact con_impl_ParseEditLine
  · cases h; exact con_spec_ParseEditLine
  · cases h; exact con_laws_qEdits
  · cases h; exact con_impl_AreEdits
  · cases h; exact con_impl_EditsText
  · cases h; exact con_spec_EditsText
  · cases h; exact con_impl_EditLine
  · cases h) (fun f c h => by cases h) rfl
theorem con_laws_FnSalvage : ConOK Tryd.prog 3 c_laws_FnSalvage := con_of_ev' (body := Tryd.f3.body.getD .skip) (Λ := loops_laws_FnSalvage) mixed Tryd.func3 (by kernel_rfl) (by kernel_rfl) env_laws_FnSalvage_ok (by kernel_rfl) (by kernel_rfl) (fun n L h => by
  unfold loops_laws_FnSalvage at h
  split at h
  · cases h; exact fun s o ho => loop_ok (stepF := stepEv env_laws_FnSalvage loops_laws_FnSalvage pat_laws_FnSalvage_0 outs_laws_FnSalvage_0 Tryd.f3 27) (step_laws_FnSalvage_0_eq) ho
  · cases h; exact fun s o ho => by cases ho
  · cases h; exact fun s o ho => by cases ho
  · cases h; exact fun s o ho => by cases ho
  · cases h) F_laws_FnSalvage_eq

end Go.Proofs.YtldeplpiokdmpaaDoor
