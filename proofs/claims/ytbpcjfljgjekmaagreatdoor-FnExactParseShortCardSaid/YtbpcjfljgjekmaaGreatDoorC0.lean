/- Contracts of functions of the program, written by a program of this claim. No conditions. -/
import Derived.Test.YtbpcjfljgjekmaaGreatDoorEvZk
import Derived.Test.YtbpcjfljgjekmaaGreatDoorRows
import Derived.Shelf.Strings.Search1
import Derived.Lib.CutLaws
import Derived.Lib.SplitLaws
import Derived.Lib.Join
import Derived.Lib.AppendIntMem
import Derived.Lib.RepeatB
import Derived.Test.YtbpcjfljgjekmaaGreatDoorNu
import Derived.Test.YtbpcjfljgjekmaaGreatDoorShelf
import Derived.Test.YtbpcjfljgjekmaaGreatDoorDec
import Derived.Test.YtbpcjfljgjekmaaGreatDoorRp
set_option linter.unusedVariables false
set_option maxRecDepth 100000
namespace Go.Proofs.YtbpcjfljgjekmaaGreatDoor
open Go
theorem mixed : Tryz.prog.follows .mixedOrders = true := by kernel_rfl
noncomputable def F_spec_paGiven (x : ByteArray) : Option (Bool) :=
 some ((decide ((x.size : Int) ≤ 200)))
noncomputable def c_spec_paGiven : Con := { ps := [(.val, .str)], rs := [(.val, .bool)], F := F_spec_paGiven }
noncomputable def env_spec_paGiven : Env := { par := [], dp := false, settle := [], con := fun _ => none, clo := fun _ => none, T := tinf Tryz.prog }
noncomputable def loops_spec_paGiven : Nat → Option Loop := fun n => none
theorem F_spec_paGiven_eq (x : ByteArray) : Fev env_spec_paGiven loops_spec_paGiven c_spec_paGiven.ps c_spec_paGiven.rs Tryz.f106 x = F_spec_paGiven x := by kernel_rfl
theorem env_spec_paGiven_ok : EnvOK Tryz.prog env_spec_paGiven := envOK_of (fun f c h => by cases h) (fun f c h => by cases h) rfl
theorem con_spec_paGiven : ConOK Tryz.prog 106 c_spec_paGiven := con_of_ev' (body := Tryz.f106.body.getD .skip) (Λ := loops_spec_paGiven) mixed Tryz.func106 (by kernel_rfl) (by kernel_rfl) env_spec_paGiven_ok (by kernel_rfl) (by kernel_rfl) (fun n L h => by cases h) F_spec_paGiven_eq

noncomputable def step_spec_l1Split_0 (s : ByteArray × Int × Int × Int × (List ByteArray)) : Option ((ByteArray × Int × Int × Int × (List ByteArray)) ⊕ ((ByteArray × Int × (List ByteArray)))) :=
 bif (decide (s.2.2.2.1 < (s.1.size : Int))) then
  bif decide (0 ≤ s.2.2.2.1) && decide (s.2.2.2.1 < (s.1.size : Int)) then
   bif (((byteAt s.1 (s.2.2.2.1).toNat) == s.2.1)) then
    bif decide (0 ≤ s.2.2.1) && decide (s.2.2.1 ≤ s.2.2.2.1) && decide (s.2.2.2.1 ≤ (s.1.size : Int)) then
     bif decide ((s.2.2.2.2.length + [(s.1.extract (s.2.2.1).toNat (s.2.2.2.1).toNat)].length) * 16 ≤ 140737488355328) then
      let v8 := s.2.2.2.2 ++ [(s.1.extract (s.2.2.1).toNat (s.2.2.2.1).toNat)]
      let v9 := IntKind.i64.wrap (s.2.2.2.1 + 1)
      let v10 := IntKind.i64.wrap (s.2.2.2.1 + 1)
      some (.inl ((s.1, s.2.1, (v9, v10, v8))))
     else none
    else none
   else
    let v11 := IntKind.i64.wrap (s.2.2.2.1 + 1)
    some (.inl ((s.1, s.2.1, (s.2.2.1, v11, s.2.2.2.2))))
  else none
 else
  some (.inr ((s.1, s.2.2.1, s.2.2.2.2)))
def pat_spec_l1Split_0 : Pat := { tmps := [.v .str, .v (.int .u8), .any, .any, .any, .own 1600, .v (.int .i64), .v (.int .i64), .any, .any, .any, .any, .any, .any, .any, .any, .any, .any, .any, .any, .any, .any, .any, .any, .any, .any, .any, .any, .any, .any, .any, .any, .any, .any], blks := [(1600, .row true .str)] }
def outs_spec_l1Split_0 : List (Exit × Pat) := [(.exit 0, { tmps := [.v .str, .any, .any, .any, .any, .own 1600, .v (.int .i64), .any, .any, .any, .any, .any, .any, .any, .any, .any, .any, .any, .any, .any, .any, .any, .any, .any, .any, .any, .any, .any, .any, .any, .any, .any, .any, .any], blks := [(1600, .row true .str)] })]
noncomputable def F_spec_l1Split (x : ByteArray × Int) : Option ((List ByteArray)) :=
 match runL step_spec_l1Split_0 ((x.1, x.2, (0, 0, []))) with
 | none => none
 | some o12 =>
  bif decide (0 ≤ o12.2.1) && decide (o12.2.1 ≤ (o12.1.size : Int)) && decide ((o12.1.size : Int) ≤ (o12.1.size : Int)) then
   bif decide ((o12.2.2.length + [(o12.1.extract (o12.2.1).toNat ((o12.1.size : Int)).toNat)].length) * 16 ≤ 140737488355328) then
    let v13 := o12.2.2 ++ [(o12.1.extract (o12.2.1).toNat ((o12.1.size : Int)).toNat)]
    some (v13)
   else none
  else none
noncomputable def c_spec_l1Split : Con := { ps := [(.val, .str), (.val, (.int .u8))], rs := [(.io true, (.slice .str))], F := F_spec_l1Split }
noncomputable def env_spec_l1Split : Env := { par := [], dp := false, settle := [], con := fun _ => none, clo := fun _ => none, T := tinf Tryz.prog }
noncomputable def loops_spec_l1Split : Nat → Option Loop := fun n => match n with | 4 => some { pat := pat_spec_l1Split_0, outs := outs_spec_l1Split_0, run := runL (step_spec_l1Split_0) } | _ => none
theorem step_spec_l1Split_0_eq (s : ByteArray × Int × Int × Int × (List ByteArray)) : stepEv env_spec_l1Split loops_spec_l1Split pat_spec_l1Split_0 outs_spec_l1Split_0 Tryz.f107 4 s = step_spec_l1Split_0 s := by kernel_rfl
theorem F_spec_l1Split_eq (x : ByteArray × Int) : Fev env_spec_l1Split loops_spec_l1Split c_spec_l1Split.ps c_spec_l1Split.rs Tryz.f107 x = F_spec_l1Split x := by kernel_rfl
theorem env_spec_l1Split_ok : EnvOK Tryz.prog env_spec_l1Split := envOK_of (fun f c h => by cases h) (fun f c h => by cases h) rfl
theorem con_spec_l1Split : ConOK Tryz.prog 107 c_spec_l1Split := con_of_ev' (body := Tryz.f107.body.getD .skip) (Λ := loops_spec_l1Split) mixed Tryz.func107 (by kernel_rfl) (by kernel_rfl) env_spec_l1Split_ok (by kernel_rfl) (by kernel_rfl) (fun n L h => by
  unfold loops_spec_l1Split at h
  split at h
  · cases h; exact fun s o ho => loop_ok (stepF := stepEv env_spec_l1Split loops_spec_l1Split pat_spec_l1Split_0 outs_spec_l1Split_0 Tryz.f107 4) (step_spec_l1Split_0_eq) ho
  · cases h) F_spec_l1Split_eq

noncomputable def F_spec_l1In (x : Int × Int × Int) : Option (Bool) :=
 bif (decide (x.1 ≥ x.2.1)) then
  some ((decide (x.1 ≤ x.2.2)))
 else
  some (false)
noncomputable def c_spec_l1In : Con := { ps := [(.val, (.int .i64)), (.val, (.int .i64)), (.val, (.int .i64))], rs := [(.val, .bool)], F := F_spec_l1In }
noncomputable def env_spec_l1In : Env := { par := [], dp := false, settle := [], con := fun _ => none, clo := fun _ => none, T := tinf Tryz.prog }
noncomputable def loops_spec_l1In : Nat → Option Loop := fun n => none
theorem F_spec_l1In_eq (x : Int × Int × Int) : Fev env_spec_l1In loops_spec_l1In c_spec_l1In.ps c_spec_l1In.rs Tryz.f57 x = F_spec_l1In x := by kernel_rfl
theorem env_spec_l1In_ok : EnvOK Tryz.prog env_spec_l1In := envOK_of (fun f c h => by cases h) (fun f c h => by cases h) rfl
theorem con_spec_l1In : ConOK Tryz.prog 57 c_spec_l1In := con_of_ev' (body := Tryz.f57.body.getD .skip) (Λ := loops_spec_l1In) mixed Tryz.func57 (by kernel_rfl) (by kernel_rfl) env_spec_l1In_ok (by kernel_rfl) (by kernel_rfl) (fun n L h => by cases h) F_spec_l1In_eq

noncomputable def F_spec_shFingers (x : (Int × (Int × (Int × (Int × (Int × Bool)))))) : Option ((List Int)) :=
 some ([x.2.1, x.2.2.1, x.2.2.2.1, x.2.2.2.2.1])
noncomputable def c_spec_shFingers : Con := { ps := [(.val, (.st (.pair (.int .i64) (.pair (.int .i64) (.pair (.int .i64) (.pair (.int .i64) (.pair (.int .i64) .bool)))))))], rs := [(.io true, (.slice (.int .i64)))], F := F_spec_shFingers }
noncomputable def env_spec_shFingers : Env := { par := [], dp := false, settle := [], con := fun _ => none, clo := fun _ => none, T := tinf Tryz.prog }
noncomputable def loops_spec_shFingers : Nat → Option Loop := fun n => none
theorem F_spec_shFingers_eq (x : (Int × (Int × (Int × (Int × (Int × Bool)))))) : Fev env_spec_shFingers loops_spec_shFingers c_spec_shFingers.ps c_spec_shFingers.rs Tryz.f303 x = F_spec_shFingers x := by kernel_rfl
theorem env_spec_shFingers_ok : EnvOK Tryz.prog env_spec_shFingers := envOK_of (fun f c h => by cases h) (fun f c h => by cases h) rfl
theorem con_spec_shFingers : ConOK Tryz.prog 303 c_spec_shFingers := con_of_ev' (body := Tryz.f303.body.getD .skip) (Λ := loops_spec_shFingers) mixed Tryz.func303 (by kernel_rfl) (by kernel_rfl) env_spec_shFingers_ok (by kernel_rfl) (by kernel_rfl) (fun n L h => by cases h) F_spec_shFingers_eq

noncomputable def step_spec_l1All_0 (s : Int × Int × (List Int) × Int × Int) : Option ((Int × Int × (List Int) × Int × Int) ⊕ ((Bool) ⊕ (Unit))) :=
 bif (decide (s.2.2.2.2 < s.2.2.2.1)) then
  bif decide (0 ≤ s.2.2.2.2) && decide (s.2.2.2.2 < (s.2.2.1.length : Int)) then
   match F_spec_l1In (((s.2.2.1.getD (s.2.2.2.2).toNat 0), s.1, s.2.1)) with
   | none => none
   | some y3 =>
    bif (!y3) then
     some (.inr (.inl (false)))
    else
     let v4 := IntKind.i64.wrap (s.2.2.2.2 + 1)
     some (.inl ((s.1, s.2.1, (s.2.2.1, s.2.2.2.1, v4))))
  else none
 else
  some (.inr (.inr (())))
def pat_spec_l1All_0 : Pat := { tmps := [.any, .v (.int .i64), .v (.int .i64), .any, .any, .any, .any, .any, .any, .v (.slice (.int .i64)), .v (.int .i64), .v (.int .i64), .any, .any, .any, .any, .any, .any, .any, .any, .any], blks := [] }
def outs_spec_l1All_0 : List (Exit × Pat) := [(.ret, { tmps := [.any, .any, .any, .any, .any, .any, .v .bool, .any, .any, .any, .any, .any, .any, .any, .any, .any, .any, .any, .any, .any, .any], blks := [] }), (.exit 0, { tmps := [.any, .any, .any, .any, .any, .any, .any, .any, .any, .any, .any, .any, .any, .any, .any, .any, .any, .any, .any, .any, .any], blks := [] })]
noncomputable def F_spec_l1All (x : (List Int) × Int × Int) : Option (Bool) :=
 match runL step_spec_l1All_0 ((x.2.1, x.2.2, (x.1, (x.1.length : Int), 0))) with
 | none => none
 | some (.inl o5) =>
  some (o5)
 | some (.inr o5) =>
  some (true)
noncomputable def c_spec_l1All : Con := { ps := [(.val, (.slice (.int .i64))), (.val, (.int .i64)), (.val, (.int .i64))], rs := [(.val, .bool)], F := F_spec_l1All }
noncomputable def env_spec_l1All : Env := { par := [], dp := false, settle := [], con := fun f => match f with | 57 => some c_spec_l1In | _ => none, clo := fun _ => none, T := tinf Tryz.prog }
noncomputable def loops_spec_l1All : Nat → Option Loop := fun n => match n with | 2 => some { pat := pat_spec_l1All_0, outs := outs_spec_l1All_0, run := runL (step_spec_l1All_0) } | _ => none
theorem step_spec_l1All_0_eq (s : Int × Int × (List Int) × Int × Int) : stepEv env_spec_l1All loops_spec_l1All pat_spec_l1All_0 outs_spec_l1All_0 Tryz.f302 2 s = step_spec_l1All_0 s := by kernel_rfl
theorem F_spec_l1All_eq (x : (List Int) × Int × Int) : Fev env_spec_l1All loops_spec_l1All c_spec_l1All.ps c_spec_l1All.rs Tryz.f302 x = F_spec_l1All x := by kernel_rfl
theorem env_spec_l1All_ok : EnvOK Tryz.prog env_spec_l1All := envOK_of (fun f c h => by
  simp only [env_spec_l1All] at h
  split at h
  · cases h; exact con_spec_l1In
  · cases h) (fun f c h => by cases h) rfl
theorem con_spec_l1All : ConOK Tryz.prog 302 c_spec_l1All := con_of_ev' (body := Tryz.f302.body.getD .skip) (Λ := loops_spec_l1All) mixed Tryz.func302 (by kernel_rfl) (by kernel_rfl) env_spec_l1All_ok (by kernel_rfl) (by kernel_rfl) (fun n L h => by
  unfold loops_spec_l1All at h
  split at h
  · cases h; exact fun s o ho => loop_ok (stepF := stepEv env_spec_l1All loops_spec_l1All pat_spec_l1All_0 outs_spec_l1All_0 Tryz.f302 2) (step_spec_l1All_0_eq) ho
  · cases h) F_spec_l1All_eq

noncomputable def step_spec_shWide_0 (s : Int × (List Int)) : Option ((Int × (List Int)) ⊕ ((Bool) ⊕ (Unit))) :=
 bif (decide (s.1 < 4)) then
  let v5 := IntKind.i64.wrap (s.1 - 1)
  bif decide (0 ≤ v5) && decide (v5 < (s.2.length : Int)) then
   bif (((s.2.getD (v5).toNat 0) == 0)) then
    bif decide (0 ≤ s.1) && decide (s.1 < (s.2.length : Int)) then
     bif (((s.2.getD (s.1).toNat 0) == 0)) then
      some (.inr (.inl (true)))
     else
      let v6 := IntKind.i64.wrap (s.1 + 1)
      some (.inl ((v6, s.2)))
    else none
   else
    let v7 := IntKind.i64.wrap (s.1 + 1)
    some (.inl ((v7, s.2)))
  else none
 else
  some (.inr (.inr (())))
def pat_spec_shWide_0 : Pat := { tmps := [.any, .any, .any, .own 384, .v (.int .i64), .any, .any, .any, .any, .any, .any, .any, .any, .any, .any, .any, .any, .any, .any, .any, .any, .any, .any, .any], blks := [(384, .row true (.int .i64))] }
def outs_spec_shWide_0 : List (Exit × Pat) := [(.ret, { tmps := [.any, .any, .v .bool, .any, .any, .any, .any, .any, .any, .any, .any, .any, .any, .any, .any, .any, .any, .any, .any, .any, .any, .any, .any, .any], blks := [] }), (.exit 0, { tmps := [.any, .any, .any, .any, .any, .any, .any, .any, .any, .any, .any, .any, .any, .any, .any, .any, .any, .any, .any, .any, .any, .any, .any, .any], blks := [] })]
noncomputable def F_spec_shWide (x : (Int × (Int × (Int × (Int × (Int × Bool)))))) : Option (Bool) :=
 match F_spec_shFingers (x) with
 | none => none
 | some y1 =>
  match runL step_spec_shWide_0 ((1, y1)) with
  | none => none
  | some (.inl o8) =>
   some (o8)
  | some (.inr o8) =>
   some (false)
noncomputable def c_spec_shWide : Con := { ps := [(.val, (.st (.pair (.int .i64) (.pair (.int .i64) (.pair (.int .i64) (.pair (.int .i64) (.pair (.int .i64) .bool)))))))], rs := [(.val, .bool)], F := F_spec_shWide }
noncomputable def env_spec_shWide : Env := { par := [], dp := false, settle := [], con := fun f => match f with | 303 => some c_spec_shFingers | _ => none, clo := fun _ => none, T := tinf Tryz.prog }
noncomputable def loops_spec_shWide : Nat → Option Loop := fun n => match n with | 3 => some { pat := pat_spec_shWide_0, outs := outs_spec_shWide_0, run := runL (step_spec_shWide_0) } | _ => none
theorem step_spec_shWide_0_eq (s : Int × (List Int)) : stepEv env_spec_shWide loops_spec_shWide pat_spec_shWide_0 outs_spec_shWide_0 Tryz.f304 3 s = step_spec_shWide_0 s := by kernel_rfl
theorem F_spec_shWide_eq (x : (Int × (Int × (Int × (Int × (Int × Bool)))))) : Fev env_spec_shWide loops_spec_shWide c_spec_shWide.ps c_spec_shWide.rs Tryz.f304 x = F_spec_shWide x := by kernel_rfl
theorem env_spec_shWide_ok : EnvOK Tryz.prog env_spec_shWide := envOK_of (fun f c h => by
  simp only [env_spec_shWide] at h
  split at h
  · cases h; exact con_spec_shFingers
  · cases h) (fun f c h => by cases h) rfl
theorem con_spec_shWide : ConOK Tryz.prog 304 c_spec_shWide := con_of_ev' (body := Tryz.f304.body.getD .skip) (Λ := loops_spec_shWide) mixed Tryz.func304 (by kernel_rfl) (by kernel_rfl) env_spec_shWide_ok (by kernel_rfl) (by kernel_rfl) (fun n L h => by
  unfold loops_spec_shWide at h
  split at h
  · cases h; exact fun s o ho => loop_ok (stepF := stepEv env_spec_shWide loops_spec_shWide pat_spec_shWide_0 outs_spec_shWide_0 Tryz.f304 3) (step_spec_shWide_0_eq) ho
  · cases h) F_spec_shWide_eq

noncomputable def F_spec_shGood (x : (Int × (Int × (Int × (Int × (Int × Bool)))))) : Option (Bool) :=
 match F_spec_l1In ((x.1, 0, 2)) with
 | none => none
 | some y1 =>
  bif y1 then
   match F_spec_shFingers (x) with
   | none => none
   | some y2 =>
    match F_spec_l1All ((y2, 0, 2)) with
    | none => none
    | some y3 =>
     bif y3 then
      bif (!x.2.2.2.2.2) then
       some (true)
      else
       match F_spec_shWide (x) with
       | none => none
       | some y4 =>
        some (y4)
     else
      some (false)
  else
   some (false)
noncomputable def c_spec_shGood : Con := { ps := [(.val, (.st (.pair (.int .i64) (.pair (.int .i64) (.pair (.int .i64) (.pair (.int .i64) (.pair (.int .i64) .bool)))))))], rs := [(.val, .bool)], F := F_spec_shGood }
noncomputable def env_spec_shGood : Env := { par := [], dp := false, settle := [], con := fun f => match f with | 57 => some c_spec_l1In | 302 => some c_spec_l1All | 303 => some c_spec_shFingers | 304 => some c_spec_shWide | _ => none, clo := fun _ => none, T := tinf Tryz.prog }
noncomputable def loops_spec_shGood : Nat → Option Loop := fun n => none
theorem F_spec_shGood_eq (x : (Int × (Int × (Int × (Int × (Int × Bool)))))) : Fev env_spec_shGood loops_spec_shGood c_spec_shGood.ps c_spec_shGood.rs Tryz.f223 x = F_spec_shGood x := by kernel_rfl
theorem env_spec_shGood_ok : EnvOK Tryz.prog env_spec_shGood := envOK_of (fun f c h => by
  simp only [env_spec_shGood] at h
  split at h
  · cases h; exact con_spec_l1In
  · cases h; exact con_spec_l1All
  · cases h; exact con_spec_shFingers
  · cases h; exact con_spec_shWide
  · cases h) (fun f c h => by cases h) rfl
theorem con_spec_shGood : ConOK Tryz.prog 223 c_spec_shGood := con_of_ev' (body := Tryz.f223.body.getD .skip) (Λ := loops_spec_shGood) mixed Tryz.func223 (by kernel_rfl) (by kernel_rfl) env_spec_shGood_ok (by kernel_rfl) (by kernel_rfl) (fun n L h => by cases h) F_spec_shGood_eq

noncomputable def step_spec_shParse_0 (s : ByteArray × Int × Int × Int × Int × Int × Int × Bool × (List Int)) : Option ((ByteArray × Int × Int × Int × Int × Int × Int × Bool × (List Int)) ⊕ ((ByteArray × (List Int) × Int × Int × Int × Int × Int × Bool))) :=
 bif (decide (s.2.1 < 5)) then
  bif decide (0 ≤ s.2.1) && decide (s.2.1 < (s.1.size : Int)) then
   let v22 := IntKind.i64.wrap (byteAt s.1 (s.2.1).toNat)
   let v23 := IntKind.i64.wrap (v22 - 48)
   bif decide ((s.2.2.2.2.2.2.2.2.length + [v23].length) * 8 ≤ 140737488355328) then
    let v24 := s.2.2.2.2.2.2.2.2 ++ [v23]
    let v25 := IntKind.i64.wrap (s.2.1 + 1)
    some (.inl ((s.1, v25, (s.2.2.1, s.2.2.2.1, (s.2.2.2.2.1, s.2.2.2.2.2.1, (s.2.2.2.2.2.2.1, s.2.2.2.2.2.2.2.1, v24))))))
   else none
  else none
 else
  some (.inr ((s.1, (s.2.2.2.2.2.2.2.2, s.2.2.1, (s.2.2.2.1, s.2.2.2.2.1, (s.2.2.2.2.2.1, s.2.2.2.2.2.2.1, s.2.2.2.2.2.2.2.1))))))
def pat_spec_shParse_0 : Pat := { tmps := [.v .str, .any, .ptr 128 0, .any, .own 2112, .v (.int .i64), .any, .any, .any, .any, .any, .any, .any, .any, .any, .any, .any, .any, .any, .any, .any, .any, .any, .any, .any, .any, .any, .any, .any, .any, .any, .any, .any, .any, .any, .any, .any, .any, .any, .any, .any, .any, .any, .any, .any, .any, .any, .any, .any, .any, .any, .any, .any, .any, .any, .any, .any, .any], blks := [(128, .box [.v (.int .i64), .v (.int .i64), .v (.int .i64), .v (.int .i64), .v (.int .i64), .v .bool]), (2112, .row true (.int .i64))] }
def outs_spec_shParse_0 : List (Exit × Pat) := [(.exit 0, { tmps := [.v .str, .any, .ptr 128 0, .any, .own 2112, .any, .any, .any, .any, .any, .any, .any, .any, .any, .any, .any, .any, .any, .any, .any, .any, .any, .any, .any, .any, .any, .any, .any, .any, .any, .any, .any, .any, .any, .any, .any, .any, .any, .any, .any, .any, .any, .any, .any, .any, .any, .any, .any, .any, .any, .any, .any, .any, .any, .any, .any, .any, .any], blks := [(2112, .row true (.int .i64)), (128, .box [.v (.int .i64), .v (.int .i64), .v (.int .i64), .v (.int .i64), .v (.int .i64), .v .bool])] })]
noncomputable def F_spec_shParse (x : ByteArray) : Option ((Int × (Int × (Int × (Int × (Int × Bool))))) × Bool) :=
 match F_spec_l1In (((x.size : Int), 5, 6)) with
 | none => none
 | some y1 =>
  bif (!y1) then
   some (((0, (0, 0, (0, 0, false))), false))
  else
   bif (((x.size : Int) == 6)) then
    bif decide (0 ≤ 5) && decide (5 < (x.size : Int)) then
     bif (((byteAt x (5 : Int).toNat) != 115)) then
      some (((0, (0, 0, (0, 0, false))), false))
     else
      match runL step_spec_shParse_0 ((x, 0, (0, 0, (0, 0, (0, false, []))))) with
      | none => none
      | some o13 =>
       bif decide (0 ≤ 0) && decide (0 < (o13.2.1.length : Int)) then
        bif decide (0 ≤ 1) && decide (1 < (o13.2.1.length : Int)) then
         bif decide (0 ≤ 2) && decide (2 < (o13.2.1.length : Int)) then
          bif decide (0 ≤ 3) && decide (3 < (o13.2.1.length : Int)) then
           bif decide (0 ≤ 4) && decide (4 < (o13.2.1.length : Int)) then
            match F_spec_shGood (((o13.2.1.getD (0 : Int).toNat 0), ((o13.2.1.getD (1 : Int).toNat 0), (o13.2.1.getD (2 : Int).toNat 0), ((o13.2.1.getD (3 : Int).toNat 0), (o13.2.1.getD (4 : Int).toNat 0), (((o13.1.size : Int) == 6)))))) with
            | none => none
            | some y14 =>
             bif (!y14) then
              some (((0, (0, 0, (0, 0, false))), false))
             else
              some ((((o13.2.1.getD (0 : Int).toNat 0), ((o13.2.1.getD (1 : Int).toNat 0), (o13.2.1.getD (2 : Int).toNat 0), ((o13.2.1.getD (3 : Int).toNat 0), (o13.2.1.getD (4 : Int).toNat 0), (((o13.1.size : Int) == 6))))), true))
           else none
          else none
         else none
        else none
       else none
    else none
   else
    match runL step_spec_shParse_0 ((x, 0, (0, 0, (0, 0, (0, false, []))))) with
    | none => none
    | some o26 =>
     bif decide (0 ≤ 0) && decide (0 < (o26.2.1.length : Int)) then
      bif decide (0 ≤ 1) && decide (1 < (o26.2.1.length : Int)) then
       bif decide (0 ≤ 2) && decide (2 < (o26.2.1.length : Int)) then
        bif decide (0 ≤ 3) && decide (3 < (o26.2.1.length : Int)) then
         bif decide (0 ≤ 4) && decide (4 < (o26.2.1.length : Int)) then
          match F_spec_shGood (((o26.2.1.getD (0 : Int).toNat 0), ((o26.2.1.getD (1 : Int).toNat 0), (o26.2.1.getD (2 : Int).toNat 0), ((o26.2.1.getD (3 : Int).toNat 0), (o26.2.1.getD (4 : Int).toNat 0), (((o26.1.size : Int) == 6)))))) with
          | none => none
          | some y27 =>
           bif (!y27) then
            some (((0, (0, 0, (0, 0, false))), false))
           else
            some ((((o26.2.1.getD (0 : Int).toNat 0), ((o26.2.1.getD (1 : Int).toNat 0), (o26.2.1.getD (2 : Int).toNat 0), ((o26.2.1.getD (3 : Int).toNat 0), (o26.2.1.getD (4 : Int).toNat 0), (((o26.1.size : Int) == 6))))), true))
         else none
        else none
       else none
      else none
     else none
noncomputable def c_spec_shParse : Con := { ps := [(.val, .str)], rs := [(.val, (.st (.pair (.int .i64) (.pair (.int .i64) (.pair (.int .i64) (.pair (.int .i64) (.pair (.int .i64) .bool))))))), (.val, .bool)], F := F_spec_shParse }
noncomputable def env_spec_shParse : Env := { par := [], dp := false, settle := [], con := fun f => match f with | 57 => some c_spec_l1In | 223 => some c_spec_shGood | _ => none, clo := fun _ => none, T := tinf Tryz.prog }
noncomputable def loops_spec_shParse : Nat → Option Loop := fun n => match n with | 5 => some { pat := pat_spec_shParse_0, outs := outs_spec_shParse_0, run := runL (step_spec_shParse_0) } | _ => none
theorem step_spec_shParse_0_eq (s : ByteArray × Int × Int × Int × Int × Int × Int × Bool × (List Int)) : stepEv env_spec_shParse loops_spec_shParse pat_spec_shParse_0 outs_spec_shParse_0 Tryz.f145 5 s = step_spec_shParse_0 s := by kernel_rfl
theorem F_spec_shParse_eq (x : ByteArray) : Fev env_spec_shParse loops_spec_shParse c_spec_shParse.ps c_spec_shParse.rs Tryz.f145 x = F_spec_shParse x := by kernel_rfl
theorem env_spec_shParse_ok : EnvOK Tryz.prog env_spec_shParse := envOK_of (fun f c h => by
  simp only [env_spec_shParse] at h
  split at h
  · cases h; exact con_spec_l1In
  · cases h; exact con_spec_shGood
  · cases h) (fun f c h => by cases h) rfl
theorem con_spec_shParse : ConOK Tryz.prog 145 c_spec_shParse := con_of_ev' (body := Tryz.f145.body.getD .skip) (Λ := loops_spec_shParse) mixed Tryz.func145 (by kernel_rfl) (by kernel_rfl) env_spec_shParse_ok (by kernel_rfl) (by kernel_rfl) (fun n L h => by
  unfold loops_spec_shParse at h
  split at h
  · cases h; exact fun s o ho => loop_ok (stepF := stepEv env_spec_shParse loops_spec_shParse pat_spec_shParse_0 outs_spec_shParse_0 Tryz.f145 5) (step_spec_shParse_0_eq) ho
  · cases h) F_spec_shParse_eq

noncomputable def step_spec_orLetter_0 (s : Int × Int) : Option ((Int × Int) ⊕ ((Int) ⊕ (Unit))) :=
 bif (decide (s.2 < 6)) then
  bif decide (0 ≤ s.2) && decide (s.2 < ((⟨#[117, 100, 108, 114, 102, 98]⟩ : ByteArray).size : Int)) then
   bif (((byteAt (⟨#[117, 100, 108, 114, 102, 98]⟩ : ByteArray) (s.2).toNat) == s.1)) then
    some (.inr (.inl (s.2)))
   else
    let v2 := IntKind.i64.wrap (s.2 + 1)
    some (.inl ((s.1, v2)))
  else none
 else
  some (.inr (.inr (())))
def pat_spec_orLetter_0 : Pat := { tmps := [.v (.int .u8), .any, .any, .v (.int .i64), .any, .any, .any, .any, .any, .any, .any, .any, .any], blks := [] }
def outs_spec_orLetter_0 : List (Exit × Pat) := [(.ret, { tmps := [.any, .any, .v (.int .i64), .any, .any, .any, .any, .any, .any, .any, .any, .any, .any], blks := [] }), (.exit 0, { tmps := [.any, .any, .any, .any, .any, .any, .any, .any, .any, .any, .any, .any, .any], blks := [] })]
noncomputable def F_spec_orLetter (x : Int) : Option (Int) :=
 match runL step_spec_orLetter_0 ((x, 0)) with
 | none => none
 | some (.inl o3) =>
  some (o3)
 | some (.inr o3) =>
  some ((-1))
noncomputable def c_spec_orLetter : Con := { ps := [(.val, (.int .u8))], rs := [(.val, (.int .i64))], F := F_spec_orLetter }
noncomputable def env_spec_orLetter : Env := { par := [], dp := false, settle := [], con := fun _ => none, clo := fun _ => none, T := tinf Tryz.prog }
noncomputable def loops_spec_orLetter : Nat → Option Loop := fun n => match n with | 2 => some { pat := pat_spec_orLetter_0, outs := outs_spec_orLetter_0, run := runL (step_spec_orLetter_0) } | _ => none
theorem step_spec_orLetter_0_eq (s : Int × Int) : stepEv env_spec_orLetter loops_spec_orLetter pat_spec_orLetter_0 outs_spec_orLetter_0 Tryz.f224 2 s = step_spec_orLetter_0 s := by kernel_rfl
theorem F_spec_orLetter_eq (x : Int) : Fev env_spec_orLetter loops_spec_orLetter c_spec_orLetter.ps c_spec_orLetter.rs Tryz.f224 x = F_spec_orLetter x := by kernel_rfl
theorem env_spec_orLetter_ok : EnvOK Tryz.prog env_spec_orLetter := envOK_of (fun f c h => by cases h) (fun f c h => by cases h) rfl
theorem con_spec_orLetter : ConOK Tryz.prog 224 c_spec_orLetter := con_of_ev' (body := Tryz.f224.body.getD .skip) (Λ := loops_spec_orLetter) mixed Tryz.func224 (by kernel_rfl) (by kernel_rfl) env_spec_orLetter_ok (by kernel_rfl) (by kernel_rfl) (fun n L h => by
  unfold loops_spec_orLetter at h
  split at h
  · cases h; exact fun s o ho => loop_ok (stepF := stepEv env_spec_orLetter loops_spec_orLetter pat_spec_orLetter_0 outs_spec_orLetter_0 Tryz.f224 2) (step_spec_orLetter_0_eq) ho
  · cases h) F_spec_orLetter_eq

noncomputable def F_spec_orDir (x : Int) : Option (Bool) :=
 match F_spec_l1In ((x, 0, 5)) with
 | none => none
 | some y1 =>
  some (y1)
noncomputable def c_spec_orDir : Con := { ps := [(.val, (.int .i64))], rs := [(.val, .bool)], F := F_spec_orDir }
noncomputable def env_spec_orDir : Env := { par := [], dp := false, settle := [], con := fun f => match f with | 57 => some c_spec_l1In | _ => none, clo := fun _ => none, T := tinf Tryz.prog }
noncomputable def loops_spec_orDir : Nat → Option Loop := fun n => none
theorem F_spec_orDir_eq (x : Int) : Fev env_spec_orDir loops_spec_orDir c_spec_orDir.ps c_spec_orDir.rs Tryz.f305 x = F_spec_orDir x := by kernel_rfl
theorem env_spec_orDir_ok : EnvOK Tryz.prog env_spec_orDir := envOK_of (fun f c h => by
  simp only [env_spec_orDir] at h
  split at h
  · cases h; exact con_spec_l1In
  · cases h) (fun f c h => by cases h) rfl
theorem con_spec_orDir : ConOK Tryz.prog 305 c_spec_orDir := con_of_ev' (body := Tryz.f305.body.getD .skip) (Λ := loops_spec_orDir) mixed Tryz.func305 (by kernel_rfl) (by kernel_rfl) env_spec_orDir_ok (by kernel_rfl) (by kernel_rfl) (fun n L h => by cases h) F_spec_orDir_eq

noncomputable def F_spec_orOpposite (x : Int) : Option (Int) :=
 bif !decide (2 = 0) then
  let v1 := (x).tmod 2
  bif ((v1 == 0)) then
   let v2 := IntKind.i64.wrap (x + 1)
   some (v2)
  else
   let v3 := IntKind.i64.wrap (x - 1)
   some (v3)
 else none
noncomputable def c_spec_orOpposite : Con := { ps := [(.val, (.int .i64))], rs := [(.val, (.int .i64))], F := F_spec_orOpposite }
noncomputable def env_spec_orOpposite : Env := { par := [], dp := false, settle := [], con := fun _ => none, clo := fun _ => none, T := tinf Tryz.prog }
noncomputable def loops_spec_orOpposite : Nat → Option Loop := fun n => none
theorem F_spec_orOpposite_eq (x : Int) : Fev env_spec_orOpposite loops_spec_orOpposite c_spec_orOpposite.ps c_spec_orOpposite.rs Tryz.f306 x = F_spec_orOpposite x := by kernel_rfl
theorem env_spec_orOpposite_ok : EnvOK Tryz.prog env_spec_orOpposite := envOK_of (fun f c h => by cases h) (fun f c h => by cases h) rfl
theorem con_spec_orOpposite : ConOK Tryz.prog 306 c_spec_orOpposite := con_of_ev' (body := Tryz.f306.body.getD .skip) (Λ := loops_spec_orOpposite) mixed Tryz.func306 (by kernel_rfl) (by kernel_rfl) env_spec_orOpposite_ok (by kernel_rfl) (by kernel_rfl) (fun n L h => by cases h) F_spec_orOpposite_eq

noncomputable def F_spec_orGood (x : (Int × Int)) : Option (Bool) :=
 match F_spec_orDir (x.1) with
 | none => none
 | some y1 =>
  bif y1 then
   match F_spec_orDir (x.2) with
   | none => none
   | some y2 =>
    bif y2 then
     bif ((x.1 != x.2)) then
      match F_spec_orOpposite (x.2) with
      | none => none
      | some y3 =>
       some (((x.1 != y3)))
     else
      some (false)
    else
     some (false)
  else
   some (false)
noncomputable def c_spec_orGood : Con := { ps := [(.val, (.st (.pair (.int .i64) (.int .i64))))], rs := [(.val, .bool)], F := F_spec_orGood }
noncomputable def env_spec_orGood : Env := { par := [], dp := false, settle := [], con := fun f => match f with | 305 => some c_spec_orDir | 306 => some c_spec_orOpposite | _ => none, clo := fun _ => none, T := tinf Tryz.prog }
noncomputable def loops_spec_orGood : Nat → Option Loop := fun n => none
theorem F_spec_orGood_eq (x : (Int × Int)) : Fev env_spec_orGood loops_spec_orGood c_spec_orGood.ps c_spec_orGood.rs Tryz.f225 x = F_spec_orGood x := by kernel_rfl
theorem env_spec_orGood_ok : EnvOK Tryz.prog env_spec_orGood := envOK_of (fun f c h => by
  simp only [env_spec_orGood] at h
  split at h
  · cases h; exact con_spec_orDir
  · cases h; exact con_spec_orOpposite
  · cases h) (fun f c h => by cases h) rfl
theorem con_spec_orGood : ConOK Tryz.prog 225 c_spec_orGood := con_of_ev' (body := Tryz.f225.body.getD .skip) (Λ := loops_spec_orGood) mixed Tryz.func225 (by kernel_rfl) (by kernel_rfl) env_spec_orGood_ok (by kernel_rfl) (by kernel_rfl) (fun n L h => by cases h) F_spec_orGood_eq

noncomputable def F_spec_orParse (x : ByteArray) : Option ((Int × Int) × Bool) :=
 bif (((x.size : Int) != 2)) then
  some (((0, 0), false))
 else
  bif decide (0 ≤ 0) && decide (0 < (x.size : Int)) then
   bif decide (0 ≤ 1) && decide (1 < (x.size : Int)) then
    match F_spec_orLetter ((byteAt x (0 : Int).toNat)) with
    | none => none
    | some y1 =>
     match F_spec_orLetter ((byteAt x (1 : Int).toNat)) with
     | none => none
     | some y2 =>
      match F_spec_orGood ((y1, y2)) with
      | none => none
      | some y3 =>
       bif (!y3) then
        some (((0, 0), false))
       else
        some (((y1, y2), true))
   else none
  else none
noncomputable def c_spec_orParse : Con := { ps := [(.val, .str)], rs := [(.val, (.st (.pair (.int .i64) (.int .i64)))), (.val, .bool)], F := F_spec_orParse }
noncomputable def env_spec_orParse : Env := { par := [], dp := false, settle := [], con := fun f => match f with | 224 => some c_spec_orLetter | 225 => some c_spec_orGood | _ => none, clo := fun _ => none, T := tinf Tryz.prog }
noncomputable def loops_spec_orParse : Nat → Option Loop := fun n => none
theorem F_spec_orParse_eq (x : ByteArray) : Fev env_spec_orParse loops_spec_orParse c_spec_orParse.ps c_spec_orParse.rs Tryz.f146 x = F_spec_orParse x := by kernel_rfl
theorem env_spec_orParse_ok : EnvOK Tryz.prog env_spec_orParse := envOK_of (fun f c h => by
  simp only [env_spec_orParse] at h
  split at h
  · cases h; exact con_spec_orLetter
  · cases h; exact con_spec_orGood
  · cases h) (fun f c h => by cases h) rfl
theorem con_spec_orParse : ConOK Tryz.prog 146 c_spec_orParse := con_of_ev' (body := Tryz.f146.body.getD .skip) (Λ := loops_spec_orParse) mixed Tryz.func146 (by kernel_rfl) (by kernel_rfl) env_spec_orParse_ok (by kernel_rfl) (by kernel_rfl) (fun n L h => by cases h) F_spec_orParse_eq

noncomputable def F_spec_plGood (x : (Int × (Int × Bool))) : Option (Bool) :=
 match F_spec_l1In ((x.1, 0, 9)) with
 | none => none
 | some y1 =>
  bif y1 then
   match F_spec_l1In ((x.2.1, (-1), 1)) with
   | none => none
   | some y2 =>
    bif y2 then
     bif (decide (x.1 > 0)) then
      some (true)
     else
      some ((!x.2.2))
    else
     some (false)
  else
   some (false)
noncomputable def c_spec_plGood : Con := { ps := [(.val, (.st (.pair (.int .i64) (.pair (.int .i64) .bool))))], rs := [(.val, .bool)], F := F_spec_plGood }
noncomputable def env_spec_plGood : Env := { par := [], dp := false, settle := [], con := fun f => match f with | 57 => some c_spec_l1In | _ => none, clo := fun _ => none, T := tinf Tryz.prog }
noncomputable def loops_spec_plGood : Nat → Option Loop := fun n => none
theorem F_spec_plGood_eq (x : (Int × (Int × Bool))) : Fev env_spec_plGood loops_spec_plGood c_spec_plGood.ps c_spec_plGood.rs Tryz.f229 x = F_spec_plGood x := by kernel_rfl
theorem env_spec_plGood_ok : EnvOK Tryz.prog env_spec_plGood := envOK_of (fun f c h => by
  simp only [env_spec_plGood] at h
  split at h
  · cases h; exact con_spec_l1In
  · cases h) (fun f c h => by cases h) rfl
theorem con_spec_plGood : ConOK Tryz.prog 229 c_spec_plGood := con_of_ev' (body := Tryz.f229.body.getD .skip) (Λ := loops_spec_plGood) mixed Tryz.func229 (by kernel_rfl) (by kernel_rfl) env_spec_plGood_ok (by kernel_rfl) (by kernel_rfl) (fun n L h => by cases h) F_spec_plGood_eq

noncomputable def step_spec_plAll_0 (s : Int × Int × Int × Int × (List Bool) × (List (Int × (Int × Bool)))) : Option ((Int × Int × Int × Int × (List Bool) × (List (Int × (Int × Bool)))) ⊕ ((Int × Int × (List (Int × (Int × Bool)))))) :=
 bif (decide (s.2.2.2.1 < s.2.2.1)) then
  bif decide (0 ≤ s.2.2.2.1) && decide (s.2.2.2.1 < (s.2.2.2.2.1.length : Int)) then
   match F_spec_plGood ((s.1, s.2.1, (s.2.2.2.2.1.getD (s.2.2.2.1).toNat false))) with
   | none => none
   | some y72 =>
    bif y72 then
     bif decide ((s.2.2.2.2.2.length + [(s.1, s.2.1, (s.2.2.2.2.1.getD (s.2.2.2.1).toNat false))].length) * 24 ≤ 140737488355328) then
      let v73 := s.2.2.2.2.2 ++ [(s.1, s.2.1, (s.2.2.2.2.1.getD (s.2.2.2.1).toNat false))]
      let v74 := IntKind.i64.wrap (s.2.2.2.1 + 1)
      some (.inl ((s.1, (s.2.1, s.2.2.1, (v74, s.2.2.2.2.1, v73)))))
     else none
    else
     let v75 := IntKind.i64.wrap (s.2.2.2.1 + 1)
     some (.inl ((s.1, s.2.1, (s.2.2.1, v75, s.2.2.2.2))))
  else none
 else
  some (.inr ((s.1, s.2.1, s.2.2.2.2.2)))
def pat_spec_plAll_0 : Pat := { tmps := [.any, .own 1920, .v (.int .i64), .v (.int .i64), .any, .any, .any, .any, .any, .any, .any, .any, .any, .any, .any, .own 960, .v (.int .i64), .v (.int .i64), .any, .any, .any, .any, .any, .any, .any, .any, .any, .any, .any, .any, .any, .any, .any], blks := [(960, .row true .bool), (1920, .row true (.st (.pair (.int .i64) (.pair (.int .i64) .bool))))] }
def outs_spec_plAll_0 : List (Exit × Pat) := [(.exit 4, { tmps := [.any, .own 1920, .v (.int .i64), .v (.int .i64), .any, .any, .any, .any, .any, .any, .any, .any, .any, .any, .any, .any, .any, .any, .any, .any, .any, .any, .any, .any, .any, .any, .any, .any, .any, .any, .any, .any, .any], blks := [(1920, .row true (.st (.pair (.int .i64) (.pair (.int .i64) .bool))))] })]
noncomputable def step_spec_plAll_1 (s : Int × Int × (List (Int × (Int × Bool)))) : Option ((Int × Int × (List (Int × (Int × Bool)))) ⊕ ((Int × (List (Int × (Int × Bool)))))) :=
 bif (decide (s.2.1 ≤ 1)) then
  match runL step_spec_plAll_0 ((s.1, (s.2.1, ([false, true].length : Int), (0, [false, true], s.2.2)))) with
  | none => none
  | some o76 =>
   let v77 := IntKind.i64.wrap (o76.2.1 + 1)
   some (.inl ((o76.1, v77, o76.2.2)))
 else
  some (.inr ((s.1, s.2.2)))
def pat_spec_plAll_1 : Pat := { tmps := [.any, .own 1920, .v (.int .i64), .v (.int .i64), .any, .any, .any, .any, .any, .any, .any, .any, .any, .any, .any, .any, .any, .any, .any, .any, .any, .any, .any, .any, .any, .any, .any, .any, .any, .any, .any, .any, .any], blks := [(1920, .row true (.st (.pair (.int .i64) (.pair (.int .i64) .bool))))] }
def outs_spec_plAll_1 : List (Exit × Pat) := [(.exit 2, { tmps := [.any, .own 1920, .v (.int .i64), .any, .any, .any, .any, .any, .any, .any, .any, .any, .any, .any, .any, .any, .any, .any, .any, .any, .any, .any, .any, .any, .any, .any, .any, .any, .any, .any, .any, .any, .any], blks := [(1920, .row true (.st (.pair (.int .i64) (.pair (.int .i64) .bool))))] })]
noncomputable def step_spec_plAll_2 (s : Int × (List (Int × (Int × Bool)))) : Option ((Int × (List (Int × (Int × Bool)))) ⊕ (((List (Int × (Int × Bool)))))) :=
 bif (decide (s.1 < 10)) then
  match runL step_spec_plAll_1 ((s.1, (-1), s.2)) with
  | none => none
  | some o78 =>
   let v79 := IntKind.i64.wrap (o78.1 + 1)
   some (.inl ((v79, o78.2)))
 else
  some (.inr (s.2))
def pat_spec_plAll_2 : Pat := { tmps := [.any, .own 1920, .v (.int .i64), .any, .any, .any, .any, .any, .any, .any, .any, .any, .any, .any, .any, .any, .any, .any, .any, .any, .any, .any, .any, .any, .any, .any, .any, .any, .any, .any, .any, .any, .any], blks := [(1920, .row true (.st (.pair (.int .i64) (.pair (.int .i64) .bool))))] }
def outs_spec_plAll_2 : List (Exit × Pat) := [(.exit 0, { tmps := [.any, .own 1920, .any, .any, .any, .any, .any, .any, .any, .any, .any, .any, .any, .any, .any, .any, .any, .any, .any, .any, .any, .any, .any, .any, .any, .any, .any, .any, .any, .any, .any, .any, .any], blks := [(1920, .row true (.st (.pair (.int .i64) (.pair (.int .i64) .bool))))] })]
noncomputable def F_spec_plAll (x : Unit) : Option ((List (Int × (Int × Bool)))) :=
 match runL step_spec_plAll_2 ((0, [])) with
 | none => none
 | some o80 =>
  some (o80)
noncomputable def c_spec_plAll : Con := { ps := [], rs := [(.io true, (.slice (.st (.pair (.int .i64) (.pair (.int .i64) .bool)))))], F := F_spec_plAll }
noncomputable def env_spec_plAll : Env := { par := [], dp := false, settle := [], con := fun f => match f with | 229 => some c_spec_plGood | _ => none, clo := fun _ => none, T := tinf Tryz.prog }
noncomputable def loops_spec_plAll : Nat → Option Loop := fun n => match n with | 9 => some { pat := pat_spec_plAll_0, outs := outs_spec_plAll_0, run := runL (step_spec_plAll_0) } | 6 => some { pat := pat_spec_plAll_1, outs := outs_spec_plAll_1, run := runL (step_spec_plAll_1) } | 3 => some { pat := pat_spec_plAll_2, outs := outs_spec_plAll_2, run := runL (step_spec_plAll_2) } | _ => none
theorem step_spec_plAll_0_eq (s : Int × Int × Int × Int × (List Bool) × (List (Int × (Int × Bool)))) : stepEv env_spec_plAll loops_spec_plAll pat_spec_plAll_0 outs_spec_plAll_0 Tryz.f307 9 s = step_spec_plAll_0 s := by kernel_rfl
theorem step_spec_plAll_1_eq (s : Int × Int × (List (Int × (Int × Bool)))) : stepEv env_spec_plAll loops_spec_plAll pat_spec_plAll_1 outs_spec_plAll_1 Tryz.f307 6 s = step_spec_plAll_1 s := by kernel_rfl
theorem step_spec_plAll_2_eq (s : Int × (List (Int × (Int × Bool)))) : stepEv env_spec_plAll loops_spec_plAll pat_spec_plAll_2 outs_spec_plAll_2 Tryz.f307 3 s = step_spec_plAll_2 s := by kernel_rfl
theorem F_spec_plAll_eq (x : Unit) : Fev env_spec_plAll loops_spec_plAll c_spec_plAll.ps c_spec_plAll.rs Tryz.f307 x = F_spec_plAll x := by kernel_rfl
theorem env_spec_plAll_ok : EnvOK Tryz.prog env_spec_plAll := envOK_of (fun f c h => by
  simp only [env_spec_plAll] at h
  split at h
  · cases h; exact con_spec_plGood
  · cases h) (fun f c h => by cases h) rfl
theorem con_spec_plAll : ConOK Tryz.prog 307 c_spec_plAll := con_of_ev' (body := Tryz.f307.body.getD .skip) (Λ := loops_spec_plAll) mixed Tryz.func307 (by kernel_rfl) (by kernel_rfl) env_spec_plAll_ok (by kernel_rfl) (by kernel_rfl) (fun n L h => by
  unfold loops_spec_plAll at h
  split at h
  · cases h; exact fun s o ho => loop_ok (stepF := stepEv env_spec_plAll loops_spec_plAll pat_spec_plAll_0 outs_spec_plAll_0 Tryz.f307 9) (step_spec_plAll_0_eq) ho
  · cases h; exact fun s o ho => loop_ok (stepF := stepEv env_spec_plAll loops_spec_plAll pat_spec_plAll_1 outs_spec_plAll_1 Tryz.f307 6) (step_spec_plAll_1_eq) ho
  · cases h; exact fun s o ho => loop_ok (stepF := stepEv env_spec_plAll loops_spec_plAll pat_spec_plAll_2 outs_spec_plAll_2 Tryz.f307 3) (step_spec_plAll_2_eq) ho
  · cases h) F_spec_plAll_eq

noncomputable def F_spec_plNames (x : Unit) : Option ((List ByteArray)) :=
 some ([(⟨#[115, 112, 97, 99, 101]⟩ : ByteArray), (⟨#[104, 101, 97, 100]⟩ : ByteArray), (⟨#[101, 121, 101]⟩ : ByteArray), (⟨#[99, 104, 101, 101, 107]⟩ : ByteArray), (⟨#[109, 111, 117, 116, 104]⟩ : ByteArray), (⟨#[99, 104, 105, 110]⟩ : ByteArray), (⟨#[110, 101, 99, 107]⟩ : ByteArray), (⟨#[99, 104, 101, 115, 116]⟩ : ByteArray), (⟨#[119, 97, 105, 115, 116]⟩ : ByteArray), (⟨#[104, 105, 112]⟩ : ByteArray)])
noncomputable def c_spec_plNames : Con := { ps := [], rs := [(.io true, (.slice .str))], F := F_spec_plNames }
noncomputable def env_spec_plNames : Env := { par := [], dp := false, settle := [], con := fun _ => none, clo := fun _ => none, T := tinf Tryz.prog }
noncomputable def loops_spec_plNames : Nat → Option Loop := fun n => none
theorem F_spec_plNames_eq (x : Unit) : Fev env_spec_plNames loops_spec_plNames c_spec_plNames.ps c_spec_plNames.rs Tryz.f332 x = F_spec_plNames x := by kernel_rfl
theorem env_spec_plNames_ok : EnvOK Tryz.prog env_spec_plNames := envOK_of (fun f c h => by cases h) (fun f c h => by cases h) rfl
theorem con_spec_plNames : ConOK Tryz.prog 332 c_spec_plNames := con_of_ev' (body := Tryz.f332.body.getD .skip) (Λ := loops_spec_plNames) mixed Tryz.func332 (by kernel_rfl) (by kernel_rfl) env_spec_plNames_ok (by kernel_rfl) (by kernel_rfl) (fun n L h => by cases h) F_spec_plNames_eq

noncomputable def F_spec_plText (x : (Int × (Int × Bool))) : Option (ByteArray) :=
 match F_spec_plNames () with
 | none => none
 | some y1 =>
  bif decide (0 ≤ x.1) && decide (x.1 < (y1.length : Int)) then
   bif ((x.2.1 == (-1))) then
    bif decide ((y1.getD (x.1).toNat ByteArray.empty).size + (⟨#[60]⟩ : ByteArray).size ≤ 9223372036854775807) then
     bif x.2.2 then
      bif decide (((y1.getD (x.1).toNat ByteArray.empty) ++ (⟨#[60]⟩ : ByteArray)).size + (⟨#[42]⟩ : ByteArray).size ≤ 9223372036854775807) then
       some ((((y1.getD (x.1).toNat ByteArray.empty) ++ (⟨#[60]⟩ : ByteArray)) ++ (⟨#[42]⟩ : ByteArray)))
      else none
     else
      some (((y1.getD (x.1).toNat ByteArray.empty) ++ (⟨#[60]⟩ : ByteArray)))
    else none
   else
    bif ((x.2.1 == 1)) then
     bif decide ((y1.getD (x.1).toNat ByteArray.empty).size + (⟨#[62]⟩ : ByteArray).size ≤ 9223372036854775807) then
      bif x.2.2 then
       bif decide (((y1.getD (x.1).toNat ByteArray.empty) ++ (⟨#[62]⟩ : ByteArray)).size + (⟨#[42]⟩ : ByteArray).size ≤ 9223372036854775807) then
        some ((((y1.getD (x.1).toNat ByteArray.empty) ++ (⟨#[62]⟩ : ByteArray)) ++ (⟨#[42]⟩ : ByteArray)))
       else none
      else
       some (((y1.getD (x.1).toNat ByteArray.empty) ++ (⟨#[62]⟩ : ByteArray)))
     else none
    else
     bif x.2.2 then
      bif decide ((y1.getD (x.1).toNat ByteArray.empty).size + (⟨#[42]⟩ : ByteArray).size ≤ 9223372036854775807) then
       some (((y1.getD (x.1).toNat ByteArray.empty) ++ (⟨#[42]⟩ : ByteArray)))
      else none
     else
      some ((y1.getD (x.1).toNat ByteArray.empty))
  else none
noncomputable def c_spec_plText : Con := { ps := [(.val, (.st (.pair (.int .i64) (.pair (.int .i64) .bool))))], rs := [(.val, .str)], F := F_spec_plText }
noncomputable def env_spec_plText : Env := { par := [], dp := false, settle := [], con := fun f => match f with | 332 => some c_spec_plNames | _ => none, clo := fun _ => none, T := tinf Tryz.prog }
noncomputable def loops_spec_plText : Nat → Option Loop := fun n => none
theorem F_spec_plText_eq (x : (Int × (Int × Bool))) : Fev env_spec_plText loops_spec_plText c_spec_plText.ps c_spec_plText.rs Tryz.f273 x = F_spec_plText x := by kernel_rfl
theorem env_spec_plText_ok : EnvOK Tryz.prog env_spec_plText := envOK_of (fun f c h => by
  simp only [env_spec_plText] at h
  split at h
  · cases h; exact con_spec_plNames
  · cases h) (fun f c h => by cases h) rfl
theorem con_spec_plText : ConOK Tryz.prog 273 c_spec_plText := con_of_ev' (body := Tryz.f273.body.getD .skip) (Λ := loops_spec_plText) mixed Tryz.func273 (by kernel_rfl) (by kernel_rfl) env_spec_plText_ok (by kernel_rfl) (by kernel_rfl) (fun n L h => by cases h) F_spec_plText_eq

noncomputable def step_spec_plParse_0 (s : ByteArray × Int × Int × (List (Int × (Int × Bool))) × Int × Int × Bool) : Option ((ByteArray × Int × Int × (List (Int × (Int × Bool))) × Int × Int × Bool) ⊕ ((Bool × Int × Int × Bool) ⊕ (Int × Int × Bool))) :=
 bif (decide (s.2.2.1 < s.2.1)) then
  bif decide (0 ≤ s.2.2.1) && decide (s.2.2.1 < (s.2.2.2.1.length : Int)) then
   match F_spec_plText ((s.2.2.2.1.getD (s.2.2.1).toNat (0, 0, false))) with
   | none => none
   | some y4 =>
    bif (y4.toList == s.1.toList) then
     some (.inr (.inl ((true, (s.2.2.2.1.getD (s.2.2.1).toNat (0, 0, false))))))
    else
     let v5 := IntKind.i64.wrap (s.2.2.1 + 1)
     some (.inl ((s.1, (s.2.1, v5, s.2.2.2))))
  else none
 else
  some (.inr (.inr (s.2.2.2.2)))
def pat_spec_plParse_0 : Pat := { tmps := [.v .str, .any, .ptr 128 0, .any, .any, .any, .own 384, .v (.int .i64), .v (.int .i64), .any, .any, .any, .any, .any, .any, .any, .any, .any, .any], blks := [(384, .row true (.st (.pair (.int .i64) (.pair (.int .i64) .bool)))), (128, .box [.v (.int .i64), .v (.int .i64), .v .bool])] }
def outs_spec_plParse_0 : List (Exit × Pat) := [(.ret, { tmps := [.any, .any, .ptr 128 0, .v .bool, .any, .any, .any, .any, .any, .any, .any, .any, .any, .any, .any, .any, .any, .any, .any], blks := [(128, .box [.v (.int .i64), .v (.int .i64), .v .bool])] }), (.exit 0, { tmps := [.any, .any, .ptr 128 0, .any, .any, .any, .any, .any, .any, .any, .any, .any, .any, .any, .any, .any, .any, .any, .any], blks := [(128, .box [.v (.int .i64), .v (.int .i64), .v .bool])] })]
noncomputable def F_spec_plParse (x : ByteArray) : Option ((Int × (Int × Bool)) × Bool) :=
 match F_spec_plAll () with
 | none => none
 | some y1 =>
  match runL step_spec_plParse_0 ((x, (y1.length : Int), (0, y1, (0, 0, false)))) with
  | none => none
  | some (.inl o6) =>
   some ((o6.2, o6.1))
  | some (.inr o6) =>
   some (((0, 0, false), false))
noncomputable def c_spec_plParse : Con := { ps := [(.val, .str)], rs := [(.val, (.st (.pair (.int .i64) (.pair (.int .i64) .bool)))), (.val, .bool)], F := F_spec_plParse }
noncomputable def env_spec_plParse : Env := { par := [], dp := false, settle := [], con := fun f => match f with | 273 => some c_spec_plText | 307 => some c_spec_plAll | _ => none, clo := fun _ => none, T := tinf Tryz.prog }
noncomputable def loops_spec_plParse : Nat → Option Loop := fun n => match n with | 2 => some { pat := pat_spec_plParse_0, outs := outs_spec_plParse_0, run := runL (step_spec_plParse_0) } | _ => none
theorem step_spec_plParse_0_eq (s : ByteArray × Int × Int × (List (Int × (Int × Bool))) × Int × Int × Bool) : stepEv env_spec_plParse loops_spec_plParse pat_spec_plParse_0 outs_spec_plParse_0 Tryz.f227 2 s = step_spec_plParse_0 s := by kernel_rfl
theorem F_spec_plParse_eq (x : ByteArray) : Fev env_spec_plParse loops_spec_plParse c_spec_plParse.ps c_spec_plParse.rs Tryz.f227 x = F_spec_plParse x := by kernel_rfl
theorem env_spec_plParse_ok : EnvOK Tryz.prog env_spec_plParse := envOK_of (fun f c h => by
  simp only [env_spec_plParse] at h
  split at h
  · cases h; exact con_spec_plText
  · cases h; exact con_spec_plAll
  · cases h) (fun f c h => by cases h) rfl
theorem con_spec_plParse : ConOK Tryz.prog 227 c_spec_plParse := con_of_ev' (body := Tryz.f227.body.getD .skip) (Λ := loops_spec_plParse) mixed Tryz.func227 (by kernel_rfl) (by kernel_rfl) env_spec_plParse_ok (by kernel_rfl) (by kernel_rfl) (fun n L h => by
  unfold loops_spec_plParse at h
  split at h
  · cases h; exact fun s o ho => loop_ok (stepF := stepEv env_spec_plParse loops_spec_plParse pat_spec_plParse_0 outs_spec_plParse_0 Tryz.f227 2) (step_spec_plParse_0_eq) ho
  · cases h) F_spec_plParse_eq

noncomputable def step_spec_l1Read_0 (s : ByteArray × Int × Int) : Option ((ByteArray × Int × Int) ⊕ ((Int) ⊕ (Int))) :=
 bif (decide (s.2.2 < (s.1.size : Int))) then
  bif decide (0 ≤ s.2.2) && decide (s.2.2 < (s.1.size : Int)) then
   bif (decide ((byteAt s.1 (s.2.2).toNat) < 48)) then
    some (.inr (.inl ((-1))))
   else
    bif decide (0 ≤ s.2.2) && decide (s.2.2 < (s.1.size : Int)) then
     bif (decide ((byteAt s.1 (s.2.2).toNat) > 57)) then
      some (.inr (.inl ((-1))))
     else
      let v18 := IntKind.i64.wrap (10 * s.2.1)
      bif decide (0 ≤ s.2.2) && decide (s.2.2 < (s.1.size : Int)) then
       let v19 := IntKind.u8.wrap ((byteAt s.1 (s.2.2).toNat) - 48)
       let v20 := IntKind.i64.wrap v19
       let v21 := IntKind.i64.wrap (v18 + v20)
       let v22 := IntKind.i64.wrap (s.2.2 + 1)
       some (.inl ((s.1, v21, v22)))
      else none
    else none
  else none
 else
  some (.inr (.inr (s.2.1)))
def pat_spec_l1Read_0 : Pat := { tmps := [.v .str, .any, .any, .v (.int .i64), .v (.int .i64), .any, .any, .any, .any, .any, .any, .any, .any, .any, .any, .any, .any, .any, .any, .any, .any, .any, .any, .any, .any, .any, .any, .any, .any, .any, .any, .any, .any, .any, .any, .any, .any, .any, .any, .any, .any, .any, .any, .any], blks := [] }
def outs_spec_l1Read_0 : List (Exit × Pat) := [(.ret, { tmps := [.any, .any, .v (.int .i64), .any, .any, .any, .any, .any, .any, .any, .any, .any, .any, .any, .any, .any, .any, .any, .any, .any, .any, .any, .any, .any, .any, .any, .any, .any, .any, .any, .any, .any, .any, .any, .any, .any, .any, .any, .any, .any, .any, .any, .any, .any], blks := [] }), (.exit 0, { tmps := [.any, .any, .any, .v (.int .i64), .any, .any, .any, .any, .any, .any, .any, .any, .any, .any, .any, .any, .any, .any, .any, .any, .any, .any, .any, .any, .any, .any, .any, .any, .any, .any, .any, .any, .any, .any, .any, .any, .any, .any, .any, .any, .any, .any, .any, .any], blks := [] })]
noncomputable def F_spec_l1Read (x : ByteArray) : Option (Int) :=
 match F_spec_l1In (((x.size : Int), 1, 6)) with
 | none => none
 | some y1 =>
  bif (!y1) then
   some ((-1))
  else
   bif decide (0 ≤ 0) && decide (0 < (x.size : Int)) then
    bif (((byteAt x (0 : Int).toNat) == 48)) then
     bif (decide ((x.size : Int) > 1)) then
      some ((-1))
     else
      match runL step_spec_l1Read_0 ((x, 0, 0)) with
      | none => none
      | some (.inl o12) =>
       some (o12)
      | some (.inr o12) =>
       some (o12)
    else
     match runL step_spec_l1Read_0 ((x, 0, 0)) with
     | none => none
     | some (.inl o23) =>
      some (o23)
     | some (.inr o23) =>
      some (o23)
   else none
noncomputable def c_spec_l1Read : Con := { ps := [(.val, .str)], rs := [(.val, (.int .i64))], F := F_spec_l1Read }
noncomputable def env_spec_l1Read : Env := { par := [], dp := false, settle := [], con := fun f => match f with | 57 => some c_spec_l1In | _ => none, clo := fun _ => none, T := tinf Tryz.prog }
noncomputable def loops_spec_l1Read : Nat → Option Loop := fun n => match n with | 5 => some { pat := pat_spec_l1Read_0, outs := outs_spec_l1Read_0, run := runL (step_spec_l1Read_0) } | _ => none
theorem step_spec_l1Read_0_eq (s : ByteArray × Int × Int) : stepEv env_spec_l1Read loops_spec_l1Read pat_spec_l1Read_0 outs_spec_l1Read_0 Tryz.f308 5 s = step_spec_l1Read_0 s := by kernel_rfl
theorem F_spec_l1Read_eq (x : ByteArray) : Fev env_spec_l1Read loops_spec_l1Read c_spec_l1Read.ps c_spec_l1Read.rs Tryz.f308 x = F_spec_l1Read x := by kernel_rfl
theorem env_spec_l1Read_ok : EnvOK Tryz.prog env_spec_l1Read := envOK_of (fun f c h => by
  simp only [env_spec_l1Read] at h
  split at h
  · cases h; exact con_spec_l1In
  · cases h) (fun f c h => by cases h) rfl
theorem con_spec_l1Read : ConOK Tryz.prog 308 c_spec_l1Read := con_of_ev' (body := Tryz.f308.body.getD .skip) (Λ := loops_spec_l1Read) mixed Tryz.func308 (by kernel_rfl) (by kernel_rfl) env_spec_l1Read_ok (by kernel_rfl) (by kernel_rfl) (fun n L h => by
  unfold loops_spec_l1Read at h
  split at h
  · cases h; exact fun s o ho => loop_ok (stepF := stepEv env_spec_l1Read loops_spec_l1Read pat_spec_l1Read_0 outs_spec_l1Read_0 Tryz.f308 5) (step_spec_l1Read_0_eq) ho
  · cases h) F_spec_l1Read_eq

noncomputable def F_spec_mvLetters (x : Unit) : Option (ByteArray) :=
 some ((⟨#[117, 100, 108, 114, 102, 98]⟩ : ByteArray))
noncomputable def c_spec_mvLetters : Con := { ps := [], rs := [(.val, .str)], F := F_spec_mvLetters }
noncomputable def env_spec_mvLetters : Env := { par := [], dp := false, settle := [], con := fun _ => none, clo := fun _ => none, T := tinf Tryz.prog }
noncomputable def loops_spec_mvLetters : Nat → Option Loop := fun n => none
theorem F_spec_mvLetters_eq (x : Unit) : Fev env_spec_mvLetters loops_spec_mvLetters c_spec_mvLetters.ps c_spec_mvLetters.rs Tryz.f380 x = F_spec_mvLetters x := by kernel_rfl
theorem env_spec_mvLetters_ok : EnvOK Tryz.prog env_spec_mvLetters := envOK_of (fun f c h => by cases h) (fun f c h => by cases h) rfl
theorem con_spec_mvLetters : ConOK Tryz.prog 380 c_spec_mvLetters := con_of_ev' (body := Tryz.f380.body.getD .skip) (Λ := loops_spec_mvLetters) mixed Tryz.func380 (by kernel_rfl) (by kernel_rfl) env_spec_mvLetters_ok (by kernel_rfl) (by kernel_rfl) (fun n L h => by cases h) F_spec_mvLetters_eq

noncomputable def step_spec_mvIndex_0 (s : Int × Int) : Option ((Int × Int) ⊕ ((Int) ⊕ (Unit))) :=
 match F_spec_mvLetters () with
 | none => none
 | some y4 =>
  bif (decide (s.2 < (y4.size : Int))) then
   match F_spec_mvLetters () with
   | none => none
   | some y5 =>
    bif decide (0 ≤ s.2) && decide (s.2 < (y5.size : Int)) then
     bif (((byteAt y5 (s.2).toNat) == s.1)) then
      some (.inr (.inl (s.2)))
     else
      let v6 := IntKind.i64.wrap (s.2 + 1)
      some (.inl ((s.1, v6)))
    else none
  else
   some (.inr (.inr (())))
def pat_spec_mvIndex_0 : Pat := { tmps := [.v (.int .u8), .any, .any, .v (.int .i64), .any, .any, .any, .any, .any, .any, .any, .any, .any, .any, .any, .any], blks := [] }
def outs_spec_mvIndex_0 : List (Exit × Pat) := [(.ret, { tmps := [.any, .any, .v (.int .i64), .any, .any, .any, .any, .any, .any, .any, .any, .any, .any, .any, .any, .any], blks := [] }), (.exit 0, { tmps := [.any, .any, .any, .any, .any, .any, .any, .any, .any, .any, .any, .any, .any, .any, .any, .any], blks := [] })]
noncomputable def F_spec_mvIndex (x : Int) : Option (Int) :=
 match runL step_spec_mvIndex_0 ((x, 0)) with
 | none => none
 | some (.inl o7) =>
  some (o7)
 | some (.inr o7) =>
  some ((-1))
noncomputable def c_spec_mvIndex : Con := { ps := [(.val, (.int .u8))], rs := [(.val, (.int .i64))], F := F_spec_mvIndex }
noncomputable def env_spec_mvIndex : Env := { par := [], dp := false, settle := [], con := fun f => match f with | 380 => some c_spec_mvLetters | _ => none, clo := fun _ => none, T := tinf Tryz.prog }
noncomputable def loops_spec_mvIndex : Nat → Option Loop := fun n => match n with | 2 => some { pat := pat_spec_mvIndex_0, outs := outs_spec_mvIndex_0, run := runL (step_spec_mvIndex_0) } | _ => none
theorem step_spec_mvIndex_0_eq (s : Int × Int) : stepEv env_spec_mvIndex loops_spec_mvIndex pat_spec_mvIndex_0 outs_spec_mvIndex_0 Tryz.f356 2 s = step_spec_mvIndex_0 s := by kernel_rfl
theorem F_spec_mvIndex_eq (x : Int) : Fev env_spec_mvIndex loops_spec_mvIndex c_spec_mvIndex.ps c_spec_mvIndex.rs Tryz.f356 x = F_spec_mvIndex x := by kernel_rfl
theorem env_spec_mvIndex_ok : EnvOK Tryz.prog env_spec_mvIndex := envOK_of (fun f c h => by
  simp only [env_spec_mvIndex] at h
  split at h
  · cases h; exact con_spec_mvLetters
  · cases h) (fun f c h => by cases h) rfl
theorem con_spec_mvIndex : ConOK Tryz.prog 356 c_spec_mvIndex := con_of_ev' (body := Tryz.f356.body.getD .skip) (Λ := loops_spec_mvIndex) mixed Tryz.func356 (by kernel_rfl) (by kernel_rfl) env_spec_mvIndex_ok (by kernel_rfl) (by kernel_rfl) (fun n L h => by
  unfold loops_spec_mvIndex at h
  split at h
  · cases h; exact fun s o ho => loop_ok (stepF := stepEv env_spec_mvIndex loops_spec_mvIndex pat_spec_mvIndex_0 outs_spec_mvIndex_0 Tryz.f356 2) (step_spec_mvIndex_0_eq) ho
  · cases h) F_spec_mvIndex_eq

noncomputable def step_spec_mvSteps_0 (s : ByteArray × Int) : Option ((ByteArray × Int) ⊕ ((Bool) ⊕ (Unit))) :=
 bif (decide (s.2 < (s.1.size : Int))) then
  bif decide (0 ≤ s.2) && decide (s.2 < (s.1.size : Int)) then
   match F_spec_mvIndex ((byteAt s.1 (s.2).toNat)) with
   | none => none
   | some y3 =>
    bif (decide (y3 < 0)) then
     some (.inr (.inl (false)))
    else
     let v4 := IntKind.i64.wrap (s.2 + 1)
     some (.inl ((s.1, v4)))
  else none
 else
  some (.inr (.inr (())))
def pat_spec_mvSteps_0 : Pat := { tmps := [.v .str, .any, .any, .v (.int .i64), .any, .any, .any, .any, .any, .any, .any, .any, .any, .any, .any], blks := [] }
def outs_spec_mvSteps_0 : List (Exit × Pat) := [(.ret, { tmps := [.any, .any, .v .bool, .any, .any, .any, .any, .any, .any, .any, .any, .any, .any, .any, .any], blks := [] }), (.exit 0, { tmps := [.any, .any, .any, .any, .any, .any, .any, .any, .any, .any, .any, .any, .any, .any, .any], blks := [] })]
noncomputable def F_spec_mvSteps (x : ByteArray) : Option (Bool) :=
 match runL step_spec_mvSteps_0 ((x, 0)) with
 | none => none
 | some (.inl o5) =>
  some (o5)
 | some (.inr o5) =>
  some (true)
noncomputable def c_spec_mvSteps : Con := { ps := [(.val, .str)], rs := [(.val, .bool)], F := F_spec_mvSteps }
noncomputable def env_spec_mvSteps : Env := { par := [], dp := false, settle := [], con := fun f => match f with | 356 => some c_spec_mvIndex | _ => none, clo := fun _ => none, T := tinf Tryz.prog }
noncomputable def loops_spec_mvSteps : Nat → Option Loop := fun n => match n with | 2 => some { pat := pat_spec_mvSteps_0, outs := outs_spec_mvSteps_0, run := runL (step_spec_mvSteps_0) } | _ => none
theorem step_spec_mvSteps_0_eq (s : ByteArray × Int) : stepEv env_spec_mvSteps loops_spec_mvSteps pat_spec_mvSteps_0 outs_spec_mvSteps_0 Tryz.f309 2 s = step_spec_mvSteps_0 s := by kernel_rfl
theorem F_spec_mvSteps_eq (x : ByteArray) : Fev env_spec_mvSteps loops_spec_mvSteps c_spec_mvSteps.ps c_spec_mvSteps.rs Tryz.f309 x = F_spec_mvSteps x := by kernel_rfl
theorem env_spec_mvSteps_ok : EnvOK Tryz.prog env_spec_mvSteps := envOK_of (fun f c h => by
  simp only [env_spec_mvSteps] at h
  split at h
  · cases h; exact con_spec_mvIndex
  · cases h) (fun f c h => by cases h) rfl
theorem con_spec_mvSteps : ConOK Tryz.prog 309 c_spec_mvSteps := con_of_ev' (body := Tryz.f309.body.getD .skip) (Λ := loops_spec_mvSteps) mixed Tryz.func309 (by kernel_rfl) (by kernel_rfl) env_spec_mvSteps_ok (by kernel_rfl) (by kernel_rfl) (fun n L h => by
  unfold loops_spec_mvSteps at h
  split at h
  · cases h; exact fun s o ho => loop_ok (stepF := stepEv env_spec_mvSteps loops_spec_mvSteps pat_spec_mvSteps_0 outs_spec_mvSteps_0 Tryz.f309 2) (step_spec_mvSteps_0_eq) ho
  · cases h) F_spec_mvSteps_eq

noncomputable def F_spec_mvGood (x : (ByteArray × Int)) : Option (Bool) :=
 bif (decide ((x.1.size : Int) ≤ 6)) then
  match F_spec_mvSteps (x.1) with
  | none => none
  | some y1 =>
   bif y1 then
    match F_spec_l1In ((x.2, 1, 3)) with
    | none => none
    | some y2 =>
     bif y2 then
      bif (!(x.1.toList == (⟨#[]⟩ : ByteArray).toList)) then
       some (true)
      else
       some (((x.2 == 1)))
     else
      some (false)
   else
    some (false)
 else
  some (false)
noncomputable def c_spec_mvGood : Con := { ps := [(.val, (.st (.pair .str (.int .i64))))], rs := [(.val, .bool)], F := F_spec_mvGood }
noncomputable def env_spec_mvGood : Env := { par := [], dp := false, settle := [], con := fun f => match f with | 57 => some c_spec_l1In | 309 => some c_spec_mvSteps | _ => none, clo := fun _ => none, T := tinf Tryz.prog }
noncomputable def loops_spec_mvGood : Nat → Option Loop := fun n => none
theorem F_spec_mvGood_eq (x : (ByteArray × Int)) : Fev env_spec_mvGood loops_spec_mvGood c_spec_mvGood.ps c_spec_mvGood.rs Tryz.f230 x = F_spec_mvGood x := by kernel_rfl
theorem env_spec_mvGood_ok : EnvOK Tryz.prog env_spec_mvGood := envOK_of (fun f c h => by
  simp only [env_spec_mvGood] at h
  split at h
  · cases h; exact con_spec_l1In
  · cases h; exact con_spec_mvSteps
  · cases h) (fun f c h => by cases h) rfl
theorem con_spec_mvGood : ConOK Tryz.prog 230 c_spec_mvGood := con_of_ev' (body := Tryz.f230.body.getD .skip) (Λ := loops_spec_mvGood) mixed Tryz.func230 (by kernel_rfl) (by kernel_rfl) env_spec_mvGood_ok (by kernel_rfl) (by kernel_rfl) (fun n L h => by cases h) F_spec_mvGood_eq


noncomputable def F_spec_mvText (x : (ByteArray × Int)) : Option (ByteArray) :=
 bif (x.1.toList == (⟨#[]⟩ : ByteArray).toList) then
  some ((⟨#[45]⟩ : ByteArray))
 else
  bif (decide (x.2 > 1)) then
   bif decide (x.1.size + (⟨#[42]⟩ : ByteArray).size ≤ 9223372036854775807) then
    match F_spec_l1Num (x.2) with
    | none => none
    | some y1 =>
     bif decide ((x.1 ++ (⟨#[42]⟩ : ByteArray)).size + y1.size ≤ 9223372036854775807) then
      some (((x.1 ++ (⟨#[42]⟩ : ByteArray)) ++ y1))
     else none
   else none
  else
   some (x.1)
noncomputable def c_spec_mvText : Con := { ps := [(.val, (.st (.pair .str (.int .i64))))], rs := [(.val, .str)], F := F_spec_mvText }
noncomputable def env_spec_mvText : Env := { par := [], dp := false, settle := [], con := fun f => match f with | 283 => some c_spec_l1Num | _ => none, clo := fun _ => none, T := tinf Tryz.prog }
noncomputable def loops_spec_mvText : Nat → Option Loop := fun n => none
theorem F_spec_mvText_eq (x : (ByteArray × Int)) : Fev env_spec_mvText loops_spec_mvText c_spec_mvText.ps c_spec_mvText.rs Tryz.f274 x = F_spec_mvText x := by kernel_rfl
theorem env_spec_mvText_ok : EnvOK Tryz.prog env_spec_mvText := envOK_of (fun f c h => by
  simp only [env_spec_mvText] at h
  split at h
  · cases h; exact con_spec_l1Num
  · cases h) (fun f c h => by cases h) rfl
theorem con_spec_mvText : ConOK Tryz.prog 274 c_spec_mvText := con_of_ev' (body := Tryz.f274.body.getD .skip) (Λ := loops_spec_mvText) mixed Tryz.func274 (by kernel_rfl) (by kernel_rfl) env_spec_mvText_ok (by kernel_rfl) (by kernel_rfl) (fun n L h => by cases h) F_spec_mvText_eq

noncomputable def F_spec_mvParse (x : ByteArray) : Option ((ByteArray × Int) × Bool) :=
 match F_spec_l1Split ((x, 42)) with
 | none => none
 | some y1 =>
  bif decide (0 ≤ 0) && decide (0 < (y1.length : Int)) then
   bif (x.toList == (⟨#[45]⟩ : ByteArray).toList) then
    bif (((y1.length : Int) == 2)) then
     bif decide (0 ≤ 1) && decide (1 < (y1.length : Int)) then
      match F_spec_l1Read ((y1.getD (1 : Int).toNat ByteArray.empty)) with
      | none => none
      | some y2 =>
       bif (decide ((y1.length : Int) > 2)) then
        some (((ByteArray.empty, 0), false))
       else
        match F_spec_mvGood (((⟨#[]⟩ : ByteArray), y2)) with
        | none => none
        | some y3 =>
         bif (!y3) then
          some (((ByteArray.empty, 0), false))
         else
          match F_spec_mvText (((⟨#[]⟩ : ByteArray), y2)) with
          | none => none
          | some y4 =>
           bif (!(y4.toList == x.toList)) then
            some (((ByteArray.empty, 0), false))
           else
            some ((((⟨#[]⟩ : ByteArray), y2), true))
     else none
    else
     bif (decide ((y1.length : Int) > 2)) then
      some (((ByteArray.empty, 0), false))
     else
      match F_spec_mvGood (((⟨#[]⟩ : ByteArray), 1)) with
      | none => none
      | some y5 =>
       bif (!y5) then
        some (((ByteArray.empty, 0), false))
       else
        match F_spec_mvText (((⟨#[]⟩ : ByteArray), 1)) with
        | none => none
        | some y6 =>
         bif (!(y6.toList == x.toList)) then
          some (((ByteArray.empty, 0), false))
         else
          some ((((⟨#[]⟩ : ByteArray), 1), true))
   else
    bif (((y1.length : Int) == 2)) then
     bif decide (0 ≤ 1) && decide (1 < (y1.length : Int)) then
      match F_spec_l1Read ((y1.getD (1 : Int).toNat ByteArray.empty)) with
      | none => none
      | some y7 =>
       bif (decide ((y1.length : Int) > 2)) then
        some (((ByteArray.empty, 0), false))
       else
        match F_spec_mvGood (((y1.getD (0 : Int).toNat ByteArray.empty), y7)) with
        | none => none
        | some y8 =>
         bif (!y8) then
          some (((ByteArray.empty, 0), false))
         else
          match F_spec_mvText (((y1.getD (0 : Int).toNat ByteArray.empty), y7)) with
          | none => none
          | some y9 =>
           bif (!(y9.toList == x.toList)) then
            some (((ByteArray.empty, 0), false))
           else
            some ((((y1.getD (0 : Int).toNat ByteArray.empty), y7), true))
     else none
    else
     bif (decide ((y1.length : Int) > 2)) then
      some (((ByteArray.empty, 0), false))
     else
      match F_spec_mvGood (((y1.getD (0 : Int).toNat ByteArray.empty), 1)) with
      | none => none
      | some y10 =>
       bif (!y10) then
        some (((ByteArray.empty, 0), false))
       else
        match F_spec_mvText (((y1.getD (0 : Int).toNat ByteArray.empty), 1)) with
        | none => none
        | some y11 =>
         bif (!(y11.toList == x.toList)) then
          some (((ByteArray.empty, 0), false))
         else
          some ((((y1.getD (0 : Int).toNat ByteArray.empty), 1), true))
  else none
noncomputable def c_spec_mvParse : Con := { ps := [(.val, .str)], rs := [(.val, (.st (.pair .str (.int .i64)))), (.val, .bool)], F := F_spec_mvParse }
noncomputable def env_spec_mvParse : Env := { par := [], dp := false, settle := [], con := fun f => match f with | 107 => some c_spec_l1Split | 230 => some c_spec_mvGood | 274 => some c_spec_mvText | 308 => some c_spec_l1Read | _ => none, clo := fun _ => none, T := tinf Tryz.prog }
noncomputable def loops_spec_mvParse : Nat → Option Loop := fun n => none
theorem F_spec_mvParse_eq (x : ByteArray) : Fev env_spec_mvParse loops_spec_mvParse c_spec_mvParse.ps c_spec_mvParse.rs Tryz.f228 x = F_spec_mvParse x := by kernel_rfl
theorem env_spec_mvParse_ok : EnvOK Tryz.prog env_spec_mvParse := envOK_of (fun f c h => by
  simp only [env_spec_mvParse] at h
  split at h
  · cases h; exact con_spec_l1Split
  · cases h; exact con_spec_mvGood
  · cases h; exact con_spec_mvText
  · cases h; exact con_spec_l1Read
  · cases h) (fun f c h => by cases h) rfl
theorem con_spec_mvParse : ConOK Tryz.prog 228 c_spec_mvParse := con_of_ev' (body := Tryz.f228.body.getD .skip) (Λ := loops_spec_mvParse) mixed Tryz.func228 (by kernel_rfl) (by kernel_rfl) env_spec_mvParse_ok (by kernel_rfl) (by kernel_rfl) (fun n L h => by cases h) F_spec_mvParse_eq

noncomputable def F_spec_paHand (x : ByteArray) : Option (((Int × (Int × (Int × (Int × (Int × Bool))))) × ((Int × Int) × ((Int × (Int × Bool)) × (ByteArray × Int)))) × Int × Int) :=
 match F_spec_l1Split ((x, 47)) with
 | none => none
 | some y1 =>
  bif (((y1.length : Int) != 4)) then
   some ((((0, (0, 0, (0, 0, false))), (0, 0), ((0, 0, false), ByteArray.empty, 0)), 2, 0))
  else
   bif decide (0 ≤ 0) && decide (0 < (y1.length : Int)) then
    match F_spec_shParse ((y1.getD (0 : Int).toNat ByteArray.empty)) with
    | none => none
    | some y2 =>
     bif (!y2.2) then
      some ((((0, (0, 0, (0, 0, false))), (0, 0), ((0, 0, false), ByteArray.empty, 0)), 3, 0))
     else
      bif decide (0 ≤ 0) && decide (0 < (y1.length : Int)) then
       let v3 := IntKind.i64.wrap (((y1.getD (0 : Int).toNat ByteArray.empty).size : Int) + 1)
       let v4 := IntKind.i64.wrap (0 + v3)
       bif decide (0 ≤ 1) && decide (1 < (y1.length : Int)) then
        match F_spec_orParse ((y1.getD (1 : Int).toNat ByteArray.empty)) with
        | none => none
        | some y5 =>
         bif (!y5.2) then
          some ((((0, (0, 0, (0, 0, false))), (0, 0), ((0, 0, false), ByteArray.empty, 0)), 4, v4))
         else
          bif decide (0 ≤ 1) && decide (1 < (y1.length : Int)) then
           let v6 := IntKind.i64.wrap (((y1.getD (1 : Int).toNat ByteArray.empty).size : Int) + 1)
           let v7 := IntKind.i64.wrap (v4 + v6)
           bif decide (0 ≤ 2) && decide (2 < (y1.length : Int)) then
            match F_spec_plParse ((y1.getD (2 : Int).toNat ByteArray.empty)) with
            | none => none
            | some y8 =>
             bif (!y8.2) then
              some ((((0, (0, 0, (0, 0, false))), (0, 0), ((0, 0, false), ByteArray.empty, 0)), 5, v7))
             else
              bif decide (0 ≤ 2) && decide (2 < (y1.length : Int)) then
               let v9 := IntKind.i64.wrap (((y1.getD (2 : Int).toNat ByteArray.empty).size : Int) + 1)
               let v10 := IntKind.i64.wrap (v7 + v9)
               bif decide (0 ≤ 3) && decide (3 < (y1.length : Int)) then
                match F_spec_mvParse ((y1.getD (3 : Int).toNat ByteArray.empty)) with
                | none => none
                | some y11 =>
                 bif (!y11.2) then
                  some ((((0, (0, 0, (0, 0, false))), (0, 0), ((0, 0, false), ByteArray.empty, 0)), 6, v10))
                 else
                  some (((y2.1, (y5.1, y8.1, y11.1)), 0, 0))
               else none
              else none
           else none
          else none
       else none
      else none
   else none
noncomputable def c_spec_paHand : Con := { ps := [(.val, .str)], rs := [(.val, (.st (.pair (.st (.pair (.int .i64) (.pair (.int .i64) (.pair (.int .i64) (.pair (.int .i64) (.pair (.int .i64) .bool)))))) (.pair (.st (.pair (.int .i64) (.int .i64))) (.pair (.st (.pair (.int .i64) (.pair (.int .i64) .bool))) (.st (.pair .str (.int .i64)))))))), (.val, (.int .i64)), (.val, (.int .i64))], F := F_spec_paHand }
noncomputable def env_spec_paHand : Env := { par := [], dp := false, settle := [], con := fun f => match f with | 107 => some c_spec_l1Split | 145 => some c_spec_shParse | 146 => some c_spec_orParse | 227 => some c_spec_plParse | 228 => some c_spec_mvParse | _ => none, clo := fun _ => none, T := tinf Tryz.prog }
noncomputable def loops_spec_paHand : Nat → Option Loop := fun n => none
theorem F_spec_paHand_eq (x : ByteArray) : Fev env_spec_paHand loops_spec_paHand c_spec_paHand.ps c_spec_paHand.rs Tryz.f184 x = F_spec_paHand x := by kernel_rfl
theorem env_spec_paHand_ok : EnvOK Tryz.prog env_spec_paHand := envOK_of (fun f c h => by
  simp only [env_spec_paHand] at h
  split at h
  · cases h; exact con_spec_l1Split
  · cases h; exact con_spec_shParse
  · cases h; exact con_spec_orParse
  · cases h; exact con_spec_plParse
  · cases h; exact con_spec_mvParse
  · cases h) (fun f c h => by cases h) rfl
theorem con_spec_paHand : ConOK Tryz.prog 184 c_spec_paHand := con_of_ev' (body := Tryz.f184.body.getD .skip) (Λ := loops_spec_paHand) mixed Tryz.func184 (by kernel_rfl) (by kernel_rfl) env_spec_paHand_ok (by kernel_rfl) (by kernel_rfl) (fun n L h => by cases h) F_spec_paHand_eq

noncomputable def step_spec_siPlain_0 (s : Int × Int × (List ByteArray) × (List (Int × (Int × (Int × (Int × (Int × Bool))))))) : Option ((Int × Int × (List ByteArray) × (List (Int × (Int × (Int × (Int × (Int × Bool))))))) ⊕ (((List (Int × (Int × (Int × (Int × (Int × Bool))))))))) :=
 bif (decide (s.2.1 < s.1)) then
  bif decide (0 ≤ s.2.1) && decide (s.2.1 < (s.2.2.1.length : Int)) then
   match F_spec_shParse ((s.2.2.1.getD (s.2.1).toNat ByteArray.empty)) with
   | none => none
   | some y6 =>
    bif decide ((s.2.2.2.length + [y6.1].length) * 48 ≤ 140737488355328) then
     let v7 := s.2.2.2 ++ [y6.1]
     let v8 := IntKind.i64.wrap (s.2.1 + 1)
     some (.inl ((s.1, (v8, s.2.2.1, v7))))
    else none
  else none
 else
  some (.inr (s.2.2.2))
def pat_spec_siPlain_0 : Pat := { tmps := [.any, .own 1280, .any, .any, .any, .any, .own 384, .v (.int .i64), .v (.int .i64), .any, .any, .any, .any, .any, .any, .any, .any, .any, .any, .any, .any, .any, .any], blks := [(384, .row true .str), (1280, .row true (.st (.pair (.int .i64) (.pair (.int .i64) (.pair (.int .i64) (.pair (.int .i64) (.pair (.int .i64) .bool)))))))] }
def outs_spec_siPlain_0 : List (Exit × Pat) := [(.exit 0, { tmps := [.any, .own 1280, .any, .any, .any, .any, .any, .any, .any, .any, .any, .any, .any, .any, .any, .any, .any, .any, .any, .any, .any, .any, .any], blks := [(1280, .row true (.st (.pair (.int .i64) (.pair (.int .i64) (.pair (.int .i64) (.pair (.int .i64) (.pair (.int .i64) .bool)))))))] })]
noncomputable def F_spec_siPlain (x : Unit) : Option ((List (Int × (Int × (Int × (Int × (Int × Bool))))))) :=
 match runL step_spec_siPlain_0 ((([(⟨#[48, 48, 48, 48, 48]⟩ : ByteArray), (⟨#[48, 48, 48, 48, 48, 115]⟩ : ByteArray), (⟨#[50, 50, 50, 50, 50]⟩ : ByteArray), (⟨#[49, 48, 48, 48, 48]⟩ : ByteArray), (⟨#[49, 48, 50, 50, 50]⟩ : ByteArray), (⟨#[48, 48, 50, 50, 50]⟩ : ByteArray)].length : Int), (0, [(⟨#[48, 48, 48, 48, 48]⟩ : ByteArray), (⟨#[48, 48, 48, 48, 48, 115]⟩ : ByteArray), (⟨#[50, 50, 50, 50, 50]⟩ : ByteArray), (⟨#[49, 48, 48, 48, 48]⟩ : ByteArray), (⟨#[49, 48, 50, 50, 50]⟩ : ByteArray), (⟨#[48, 48, 50, 50, 50]⟩ : ByteArray)], []))) with
 | none => none
 | some o9 =>
  some (o9)
noncomputable def c_spec_siPlain : Con := { ps := [], rs := [(.io true, (.slice (.st (.pair (.int .i64) (.pair (.int .i64) (.pair (.int .i64) (.pair (.int .i64) (.pair (.int .i64) .bool))))))))], F := F_spec_siPlain }
noncomputable def env_spec_siPlain : Env := { par := [], dp := false, settle := [], con := fun f => match f with | 145 => some c_spec_shParse | _ => none, clo := fun _ => none, T := tinf Tryz.prog }
noncomputable def loops_spec_siPlain : Nat → Option Loop := fun n => match n with | 3 => some { pat := pat_spec_siPlain_0, outs := outs_spec_siPlain_0, run := runL (step_spec_siPlain_0) } | _ => none
theorem step_spec_siPlain_0_eq (s : Int × Int × (List ByteArray) × (List (Int × (Int × (Int × (Int × (Int × Bool))))))) : stepEv env_spec_siPlain loops_spec_siPlain pat_spec_siPlain_0 outs_spec_siPlain_0 Tryz.f231 3 s = step_spec_siPlain_0 s := by kernel_rfl
theorem F_spec_siPlain_eq (x : Unit) : Fev env_spec_siPlain loops_spec_siPlain c_spec_siPlain.ps c_spec_siPlain.rs Tryz.f231 x = F_spec_siPlain x := by kernel_rfl
theorem env_spec_siPlain_ok : EnvOK Tryz.prog env_spec_siPlain := envOK_of (fun f c h => by
  simp only [env_spec_siPlain] at h
  split at h
  · cases h; exact con_spec_shParse
  · cases h) (fun f c h => by cases h) rfl
theorem con_spec_siPlain : ConOK Tryz.prog 231 c_spec_siPlain := con_of_ev' (body := Tryz.f231.body.getD .skip) (Λ := loops_spec_siPlain) mixed Tryz.func231 (by kernel_rfl) (by kernel_rfl) env_spec_siPlain_ok (by kernel_rfl) (by kernel_rfl) (fun n L h => by
  unfold loops_spec_siPlain at h
  split at h
  · cases h; exact fun s o ho => loop_ok (stepF := stepEv env_spec_siPlain loops_spec_siPlain pat_spec_siPlain_0 outs_spec_siPlain_0 Tryz.f231 3) (step_spec_siPlain_0_eq) ho
  · cases h) F_spec_siPlain_eq

noncomputable def F_spec_orSwap (x : Int) : Option (Int) :=
 bif ((x == 2)) then
  match F_spec_orOpposite (x) with
  | none => none
  | some y1 =>
   some (y1)
 else
  bif ((x == 3)) then
   match F_spec_orOpposite (x) with
   | none => none
   | some y2 =>
    some (y2)
  else
   some (x)
noncomputable def c_spec_orSwap : Con := { ps := [(.val, (.int .i64))], rs := [(.val, (.int .i64))], F := F_spec_orSwap }
noncomputable def env_spec_orSwap : Env := { par := [], dp := false, settle := [], con := fun f => match f with | 306 => some c_spec_orOpposite | _ => none, clo := fun _ => none, T := tinf Tryz.prog }
noncomputable def loops_spec_orSwap : Nat → Option Loop := fun n => none
theorem F_spec_orSwap_eq (x : Int) : Fev env_spec_orSwap loops_spec_orSwap c_spec_orSwap.ps c_spec_orSwap.rs Tryz.f310 x = F_spec_orSwap x := by kernel_rfl
theorem env_spec_orSwap_ok : EnvOK Tryz.prog env_spec_orSwap := envOK_of (fun f c h => by
  simp only [env_spec_orSwap] at h
  split at h
  · cases h; exact con_spec_orOpposite
  · cases h) (fun f c h => by cases h) rfl
theorem con_spec_orSwap : ConOK Tryz.prog 310 c_spec_orSwap := con_of_ev' (body := Tryz.f310.body.getD .skip) (Λ := loops_spec_orSwap) mixed Tryz.func310 (by kernel_rfl) (by kernel_rfl) env_spec_orSwap_ok (by kernel_rfl) (by kernel_rfl) (fun n L h => by cases h) F_spec_orSwap_eq

noncomputable def F_spec_orMirror (x : (Int × Int)) : Option ((Int × Int)) :=
 match F_spec_orSwap (x.1) with
 | none => none
 | some y1 =>
  match F_spec_orSwap (x.2) with
  | none => none
  | some y2 =>
   some ((y1, y2))
noncomputable def c_spec_orMirror : Con := { ps := [(.val, (.st (.pair (.int .i64) (.int .i64))))], rs := [(.val, (.st (.pair (.int .i64) (.int .i64))))], F := F_spec_orMirror }
noncomputable def env_spec_orMirror : Env := { par := [], dp := false, settle := [], con := fun f => match f with | 310 => some c_spec_orSwap | _ => none, clo := fun _ => none, T := tinf Tryz.prog }
noncomputable def loops_spec_orMirror : Nat → Option Loop := fun n => none
theorem F_spec_orMirror_eq (x : (Int × Int)) : Fev env_spec_orMirror loops_spec_orMirror c_spec_orMirror.ps c_spec_orMirror.rs Tryz.f232 x = F_spec_orMirror x := by kernel_rfl
theorem env_spec_orMirror_ok : EnvOK Tryz.prog env_spec_orMirror := envOK_of (fun f c h => by
  simp only [env_spec_orMirror] at h
  split at h
  · cases h; exact con_spec_orSwap
  · cases h) (fun f c h => by cases h) rfl
theorem con_spec_orMirror : ConOK Tryz.prog 232 c_spec_orMirror := con_of_ev' (body := Tryz.f232.body.getD .skip) (Λ := loops_spec_orMirror) mixed Tryz.func232 (by kernel_rfl) (by kernel_rfl) env_spec_orMirror_ok (by kernel_rfl) (by kernel_rfl) (fun n L h => by cases h) F_spec_orMirror_eq

noncomputable def step_spec_mvTimes_0 (s : ByteArray × Int × ByteArray) : Option ((ByteArray × Int × ByteArray) ⊕ ((ByteArray))) :=
 bif (decide (s.2.1 > 0)) then
  bif decide (s.2.2.size + s.1.size ≤ 9223372036854775807) then
   let v2 := IntKind.i64.wrap (s.2.1 - 1)
   some (.inl ((s.1, v2, (s.2.2 ++ s.1))))
  else none
 else
  some (.inr (s.2.2))
def pat_spec_mvTimes_0 : Pat := { tmps := [.v .str, .v (.int .i64), .any, .any, .any, .v .str, .any, .any, .any, .any, .any, .any, .any, .any], blks := [] }
def outs_spec_mvTimes_0 : List (Exit × Pat) := [(.exit 0, { tmps := [.any, .any, .any, .any, .any, .v .str, .any, .any, .any, .any, .any, .any, .any, .any], blks := [] })]
noncomputable def F_spec_mvTimes (x : ByteArray × Int) : Option (ByteArray) :=
 match runL step_spec_mvTimes_0 ((x.1, x.2, (⟨#[]⟩ : ByteArray))) with
 | none => none
 | some o3 =>
  some (o3)
noncomputable def c_spec_mvTimes : Con := { ps := [(.val, .str), (.val, (.int .i64))], rs := [(.val, .str)], F := F_spec_mvTimes }
noncomputable def env_spec_mvTimes : Env := { par := [], dp := false, settle := [], con := fun _ => none, clo := fun _ => none, T := tinf Tryz.prog }
noncomputable def loops_spec_mvTimes : Nat → Option Loop := fun n => match n with | 2 => some { pat := pat_spec_mvTimes_0, outs := outs_spec_mvTimes_0, run := runL (step_spec_mvTimes_0) } | _ => none
theorem step_spec_mvTimes_0_eq (s : ByteArray × Int × ByteArray) : stepEv env_spec_mvTimes loops_spec_mvTimes pat_spec_mvTimes_0 outs_spec_mvTimes_0 Tryz.f290 2 s = step_spec_mvTimes_0 s := by kernel_rfl
theorem F_spec_mvTimes_eq (x : ByteArray × Int) : Fev env_spec_mvTimes loops_spec_mvTimes c_spec_mvTimes.ps c_spec_mvTimes.rs Tryz.f290 x = F_spec_mvTimes x := by kernel_rfl
theorem env_spec_mvTimes_ok : EnvOK Tryz.prog env_spec_mvTimes := envOK_of (fun f c h => by cases h) (fun f c h => by cases h) rfl
theorem con_spec_mvTimes : ConOK Tryz.prog 290 c_spec_mvTimes := con_of_ev' (body := Tryz.f290.body.getD .skip) (Λ := loops_spec_mvTimes) mixed Tryz.func290 (by kernel_rfl) (by kernel_rfl) env_spec_mvTimes_ok (by kernel_rfl) (by kernel_rfl) (fun n L h => by
  unfold loops_spec_mvTimes at h
  split at h
  · cases h; exact fun s o ho => loop_ok (stepF := stepEv env_spec_mvTimes loops_spec_mvTimes pat_spec_mvTimes_0 outs_spec_mvTimes_0 Tryz.f290 2) (step_spec_mvTimes_0_eq) ho
  · cases h) F_spec_mvTimes_eq

noncomputable def F_spec_mvAll (x : (ByteArray × Int)) : Option (ByteArray) :=
 match F_spec_mvTimes (x) with
 | none => none
 | some y1 =>
  some (y1)
noncomputable def c_spec_mvAll : Con := { ps := [(.val, (.st (.pair .str (.int .i64))))], rs := [(.val, .str)], F := F_spec_mvAll }
noncomputable def env_spec_mvAll : Env := { par := [], dp := false, settle := [], con := fun f => match f with | 290 => some c_spec_mvTimes | _ => none, clo := fun _ => none, T := tinf Tryz.prog }
noncomputable def loops_spec_mvAll : Nat → Option Loop := fun n => none
theorem F_spec_mvAll_eq (x : (ByteArray × Int)) : Fev env_spec_mvAll loops_spec_mvAll c_spec_mvAll.ps c_spec_mvAll.rs Tryz.f217 x = F_spec_mvAll x := by kernel_rfl
theorem env_spec_mvAll_ok : EnvOK Tryz.prog env_spec_mvAll := envOK_of (fun f c h => by
  simp only [env_spec_mvAll] at h
  split at h
  · cases h; exact con_spec_mvTimes
  · cases h) (fun f c h => by cases h) rfl
theorem con_spec_mvAll : ConOK Tryz.prog 217 c_spec_mvAll := con_of_ev' (body := Tryz.f217.body.getD .skip) (Λ := loops_spec_mvAll) mixed Tryz.func217 (by kernel_rfl) (by kernel_rfl) env_spec_mvAll_ok (by kernel_rfl) (by kernel_rfl) (fun n L h => by cases h) F_spec_mvAll_eq

noncomputable def step_spec_mvMirror_0 (s : ByteArray × Int × ByteArray × Int × ByteArray × Int) : Option ((ByteArray × Int × ByteArray × Int × ByteArray × Int) ⊕ ((ByteArray × ByteArray × Int × ByteArray × Int))) :=
 bif (decide (s.2.1 < (s.2.2.2.2.1.size : Int))) then
  bif decide (0 ≤ s.2.1) && decide (s.2.1 < (s.2.2.2.2.1.size : Int)) then
   bif (((byteAt s.2.2.2.2.1 (s.2.1).toNat) == 108)) then
    bif decide (s.1.size + (⟨#[114]⟩ : ByteArray).size ≤ 9223372036854775807) then
     let v5 := IntKind.i64.wrap (s.2.1 + 1)
     some (.inl (((s.1 ++ (⟨#[114]⟩ : ByteArray)), v5, s.2.2)))
    else none
   else
    bif (((byteAt s.2.2.2.2.1 (s.2.1).toNat) == 114)) then
     bif decide (s.1.size + (⟨#[108]⟩ : ByteArray).size ≤ 9223372036854775807) then
      let v6 := IntKind.i64.wrap (s.2.1 + 1)
      some (.inl (((s.1 ++ (⟨#[108]⟩ : ByteArray)), v6, s.2.2)))
     else none
    else
     let v7 := IntKind.i64.wrap (s.2.1 + 1)
     bif decide (0 ≤ s.2.1) && decide (s.2.1 ≤ v7) && decide (v7 ≤ (s.2.2.2.2.1.size : Int)) then
      bif decide (s.1.size + (s.2.2.2.2.1.extract (s.2.1).toNat (v7).toNat).size ≤ 9223372036854775807) then
       let v8 := IntKind.i64.wrap (s.2.1 + 1)
       some (.inl (((s.1 ++ (s.2.2.2.2.1.extract (s.2.1).toNat (v7).toNat)), v8, s.2.2)))
      else none
     else none
  else none
 else
  some (.inr ((s.1, s.2.2)))
def pat_spec_mvMirror_0 : Pat := { tmps := [.any, .ptr 64 0, .ptr 128 0, .v .str, .v (.int .i64), .any, .any, .any, .any, .any, .any, .any, .any, .any, .any, .any, .any, .any, .any, .any, .any, .any, .any, .any, .any, .any, .any, .any, .any, .any, .any, .any, .any, .any, .any, .any], blks := [(128, .box [.v .str, .v (.int .i64)]), (64, .box [.v .str, .v (.int .i64)])] }
def outs_spec_mvMirror_0 : List (Exit × Pat) := [(.exit 0, { tmps := [.any, .ptr 64 0, .ptr 128 0, .v .str, .any, .any, .any, .any, .any, .any, .any, .any, .any, .any, .any, .any, .any, .any, .any, .any, .any, .any, .any, .any, .any, .any, .any, .any, .any, .any, .any, .any, .any, .any, .any, .any], blks := [(128, .box [.v .str, .v (.int .i64)]), (64, .box [.v .str, .v (.int .i64)])] })]
noncomputable def F_spec_mvMirror (x : (ByteArray × Int)) : Option ((ByteArray × Int)) :=
 match runL step_spec_mvMirror_0 (((⟨#[]⟩ : ByteArray), 0, (ByteArray.empty, 0, x))) with
 | none => none
 | some o9 =>
  some ((o9.1, o9.2.2.2.2))
noncomputable def c_spec_mvMirror : Con := { ps := [(.val, (.st (.pair .str (.int .i64))))], rs := [(.val, (.st (.pair .str (.int .i64))))], F := F_spec_mvMirror }
noncomputable def env_spec_mvMirror : Env := { par := [], dp := false, settle := [], con := fun _ => none, clo := fun _ => none, T := tinf Tryz.prog }
noncomputable def loops_spec_mvMirror : Nat → Option Loop := fun n => match n with | 3 => some { pat := pat_spec_mvMirror_0, outs := outs_spec_mvMirror_0, run := runL (step_spec_mvMirror_0) } | _ => none
theorem step_spec_mvMirror_0_eq (s : ByteArray × Int × ByteArray × Int × ByteArray × Int) : stepEv env_spec_mvMirror loops_spec_mvMirror pat_spec_mvMirror_0 outs_spec_mvMirror_0 Tryz.f233 3 s = step_spec_mvMirror_0 s := by kernel_rfl
theorem F_spec_mvMirror_eq (x : (ByteArray × Int)) : Fev env_spec_mvMirror loops_spec_mvMirror c_spec_mvMirror.ps c_spec_mvMirror.rs Tryz.f233 x = F_spec_mvMirror x := by kernel_rfl
theorem env_spec_mvMirror_ok : EnvOK Tryz.prog env_spec_mvMirror := envOK_of (fun f c h => by cases h) (fun f c h => by cases h) rfl
theorem con_spec_mvMirror : ConOK Tryz.prog 233 c_spec_mvMirror := con_of_ev' (body := Tryz.f233.body.getD .skip) (Λ := loops_spec_mvMirror) mixed Tryz.func233 (by kernel_rfl) (by kernel_rfl) env_spec_mvMirror_ok (by kernel_rfl) (by kernel_rfl) (fun n L h => by
  unfold loops_spec_mvMirror at h
  split at h
  · cases h; exact fun s o ho => loop_ok (stepF := stepEv env_spec_mvMirror loops_spec_mvMirror pat_spec_mvMirror_0 outs_spec_mvMirror_0 Tryz.f233 3) (step_spec_mvMirror_0_eq) ho
  · cases h) F_spec_mvMirror_eq

noncomputable def step_spec_siBroken_0 (s : Int × Int × (List (Int × (Int × (Int × (Int × (Int × Bool)))))) × Int × Int × Int × Int × Int × Bool × Int × Int × Int × Int × Bool × ByteArray × Int) : Option ((Int × Int × (List (Int × (Int × (Int × (Int × (Int × Bool)))))) × Int × Int × Int × Int × Int × Bool × Int × Int × Int × Int × Bool × ByteArray × Int) ⊕ ((Int) ⊕ (Unit))) :=
 bif (decide (s.2.1 < s.1)) then
  bif decide (0 ≤ s.2.1) && decide (s.2.1 < (s.2.2.1.length : Int)) then
   bif (((s.2.2.1.getD (s.2.1).toNat (0, (0, 0, (0, 0, false)))).1 == s.2.2.2.1) && (((s.2.2.1.getD (s.2.1).toNat (0, (0, 0, (0, 0, false)))).2.1 == s.2.2.2.2.1) && (((s.2.2.1.getD (s.2.1).toNat (0, (0, 0, (0, 0, false)))).2.2.1 == s.2.2.2.2.2.1) && (((s.2.2.1.getD (s.2.1).toNat (0, (0, 0, (0, 0, false)))).2.2.2.1 == s.2.2.2.2.2.2.1) && (((s.2.2.1.getD (s.2.1).toNat (0, (0, 0, (0, 0, false)))).2.2.2.2.1 == s.2.2.2.2.2.2.2.1) && (((s.2.2.1.getD (s.2.1).toNat (0, (0, 0, (0, 0, false)))).2.2.2.2.2 == s.2.2.2.2.2.2.2.2.1) && true)))))) then
    some (.inr (.inl (0)))
   else
    let v3 := IntKind.i64.wrap (s.2.1 + 1)
    some (.inl ((s.1, v3, s.2.2)))
  else none
 else
  some (.inr (.inr (())))
def pat_spec_siBroken_0 : Pat := { tmps := [.any, .any, .any, .ptr 192 0, .any, .any, .any, .any, .any, .any, .any, .any, .any, .any, .any, .any, .own 1024, .v (.int .i64), .v (.int .i64), .any, .any, .any, .any, .any, .any, .any, .any, .any, .any, .any, .any, .any, .any, .any, .any, .any, .any, .any, .any, .any, .any, .any, .any, .any, .any, .any, .any, .any, .any, .any, .any, .any, .any, .any, .any, .any, .any, .any, .any, .any, .any, .any, .any, .any, .any, .any, .any, .any, .any, .any], blks := [(1024, .row true (.st (.pair (.int .i64) (.pair (.int .i64) (.pair (.int .i64) (.pair (.int .i64) (.pair (.int .i64) .bool))))))), (192, .box [.v (.int .i64), .v (.int .i64), .v (.int .i64), .v (.int .i64), .v (.int .i64), .v .bool, .v (.int .i64), .v (.int .i64), .v (.int .i64), .v (.int .i64), .v .bool, .v .str, .v (.int .i64)])] }
def outs_spec_siBroken_0 : List (Exit × Pat) := [(.ret, { tmps := [.any, .any, .any, .any, .v (.int .i64), .any, .any, .any, .any, .any, .any, .any, .any, .any, .any, .any, .any, .any, .any, .any, .any, .any, .any, .any, .any, .any, .any, .any, .any, .any, .any, .any, .any, .any, .any, .any, .any, .any, .any, .any, .any, .any, .any, .any, .any, .any, .any, .any, .any, .any, .any, .any, .any, .any, .any, .any, .any, .any, .any, .any, .any, .any, .any, .any, .any, .any, .any, .any, .any, .any], blks := [] }), (.exit 0, { tmps := [.any, .any, .any, .any, .any, .any, .any, .any, .any, .any, .any, .any, .any, .any, .any, .any, .any, .any, .any, .any, .any, .any, .any, .any, .any, .any, .any, .any, .any, .any, .any, .any, .any, .any, .any, .any, .any, .any, .any, .any, .any, .any, .any, .any, .any, .any, .any, .any, .any, .any, .any, .any, .any, .any, .any, .any, .any, .any, .any, .any, .any, .any, .any, .any, .any, .any, .any, .any, .any, .any], blks := [] })]
noncomputable def F_spec_siBroken (x : ((Int × (Int × (Int × (Int × (Int × Bool))))) × ((Int × Int) × ((Int × (Int × Bool)) × (ByteArray × Int)))) × ((Int × (Int × (Int × (Int × (Int × Bool))))) × ((Int × Int) × ((Int × (Int × Bool)) × (ByteArray × Int))))) : Option (Int) :=
 bif (x.2.2.2.2.1.toList == (⟨#[]⟩ : ByteArray).toList) then
  bif ((x.1.1.1 == x.2.1.1) && ((x.1.1.2.1 == x.2.1.2.1) && ((x.1.1.2.2.1 == x.2.1.2.2.1) && ((x.1.1.2.2.2.1 == x.2.1.2.2.2.1) && ((x.1.1.2.2.2.2.1 == x.2.1.2.2.2.2.1) && ((x.1.1.2.2.2.2.2 == x.2.1.2.2.2.2.2) && true)))))) then
   some (0)
  else
   match F_spec_siPlain () with
   | none => none
   | some y1 =>
    match runL step_spec_siBroken_0 (((y1.length : Int), 0, (y1, x.2.1.1, (x.2.1.2.1, x.2.1.2.2.1, (x.2.1.2.2.2.1, x.2.1.2.2.2.2.1, (x.2.1.2.2.2.2.2, x.2.2.1.1, (x.2.2.1.2, x.2.2.2.1.1, (x.2.2.2.1.2.1, x.2.2.2.1.2.2, x.2.2.2.2)))))))) with
    | none => none
    | some (.inl o4) =>
     some (o4)
    | some (.inr o4) =>
     some (4)
 else
  bif (x.1.2.2.2.1.toList == (⟨#[]⟩ : ByteArray).toList) then
   some (3)
  else
   bif (!((x.1.1.1 == x.2.1.1) && ((x.1.1.2.1 == x.2.1.2.1) && ((x.1.1.2.2.1 == x.2.1.2.2.1) && ((x.1.1.2.2.2.1 == x.2.1.2.2.2.1) && ((x.1.1.2.2.2.2.1 == x.2.1.2.2.2.2.1) && ((x.1.1.2.2.2.2.2 == x.2.1.2.2.2.2.2) && true))))))) then
    some (1)
   else
    bif (!((x.1.2.1.1 == x.2.2.1.1) && ((x.1.2.1.2 == x.2.2.1.2) && true))) then
     match F_spec_orMirror (x.2.2.1) with
     | none => none
     | some y5 =>
      bif (!((x.1.2.1.1 == y5.1) && ((x.1.2.1.2 == y5.2) && true))) then
       some (2)
      else
       match F_spec_mvAll (x.1.2.2.2) with
       | none => none
       | some y6 =>
        match F_spec_mvAll (x.2.2.2.2) with
        | none => none
        | some y7 =>
         bif (!(y6.toList == y7.toList)) then
          match F_spec_mvMirror (x.1.2.2.2) with
          | none => none
          | some y8 =>
           match F_spec_mvAll (y8) with
           | none => none
           | some y9 =>
            match F_spec_mvAll (x.2.2.2.2) with
            | none => none
            | some y10 =>
             bif (!(y9.toList == y10.toList)) then
              some (3)
             else
              some (0)
         else
          some (0)
    else
     match F_spec_mvAll (x.1.2.2.2) with
     | none => none
     | some y11 =>
      match F_spec_mvAll (x.2.2.2.2) with
      | none => none
      | some y12 =>
       bif (!(y11.toList == y12.toList)) then
        match F_spec_mvMirror (x.1.2.2.2) with
        | none => none
        | some y13 =>
         match F_spec_mvAll (y13) with
         | none => none
         | some y14 =>
          match F_spec_mvAll (x.2.2.2.2) with
          | none => none
          | some y15 =>
           bif (!(y14.toList == y15.toList)) then
            some (3)
           else
            some (0)
       else
        some (0)
noncomputable def c_spec_siBroken : Con := { ps := [(.val, (.st (.pair (.st (.pair (.int .i64) (.pair (.int .i64) (.pair (.int .i64) (.pair (.int .i64) (.pair (.int .i64) .bool)))))) (.pair (.st (.pair (.int .i64) (.int .i64))) (.pair (.st (.pair (.int .i64) (.pair (.int .i64) .bool))) (.st (.pair .str (.int .i64)))))))), (.val, (.st (.pair (.st (.pair (.int .i64) (.pair (.int .i64) (.pair (.int .i64) (.pair (.int .i64) (.pair (.int .i64) .bool)))))) (.pair (.st (.pair (.int .i64) (.int .i64))) (.pair (.st (.pair (.int .i64) (.pair (.int .i64) .bool))) (.st (.pair .str (.int .i64))))))))], rs := [(.val, (.int .i64))], F := F_spec_siBroken }
noncomputable def env_spec_siBroken : Env := { par := [], dp := false, settle := [], con := fun f => match f with | 217 => some c_spec_mvAll | 231 => some c_spec_siPlain | 232 => some c_spec_orMirror | 233 => some c_spec_mvMirror | _ => none, clo := fun _ => none, T := tinf Tryz.prog }
noncomputable def loops_spec_siBroken : Nat → Option Loop := fun n => match n with | 5 => some { pat := pat_spec_siBroken_0, outs := outs_spec_siBroken_0, run := runL (step_spec_siBroken_0) } | _ => none
theorem step_spec_siBroken_0_eq (s : Int × Int × (List (Int × (Int × (Int × (Int × (Int × Bool)))))) × Int × Int × Int × Int × Int × Bool × Int × Int × Int × Int × Bool × ByteArray × Int) : stepEv env_spec_siBroken loops_spec_siBroken pat_spec_siBroken_0 outs_spec_siBroken_0 Tryz.f149 5 s = step_spec_siBroken_0 s := by kernel_rfl
theorem F_spec_siBroken_eq (x : ((Int × (Int × (Int × (Int × (Int × Bool))))) × ((Int × Int) × ((Int × (Int × Bool)) × (ByteArray × Int)))) × ((Int × (Int × (Int × (Int × (Int × Bool))))) × ((Int × Int) × ((Int × (Int × Bool)) × (ByteArray × Int))))) : Fev env_spec_siBroken loops_spec_siBroken c_spec_siBroken.ps c_spec_siBroken.rs Tryz.f149 x = F_spec_siBroken x := by kernel_rfl
theorem env_spec_siBroken_ok : EnvOK Tryz.prog env_spec_siBroken := envOK_of (fun f c h => by
  simp only [env_spec_siBroken] at h
  split at h
  · cases h; exact con_spec_mvAll
  · cases h; exact con_spec_siPlain
  · cases h; exact con_spec_orMirror
  · cases h; exact con_spec_mvMirror
  · cases h) (fun f c h => by cases h) rfl
theorem con_spec_siBroken : ConOK Tryz.prog 149 c_spec_siBroken := con_of_ev' (body := Tryz.f149.body.getD .skip) (Λ := loops_spec_siBroken) mixed Tryz.func149 (by kernel_rfl) (by kernel_rfl) env_spec_siBroken_ok (by kernel_rfl) (by kernel_rfl) (fun n L h => by
  unfold loops_spec_siBroken at h
  split at h
  · cases h; exact fun s o ho => loop_ok (stepF := stepEv env_spec_siBroken loops_spec_siBroken pat_spec_siBroken_0 outs_spec_siBroken_0 Tryz.f149 5) (step_spec_siBroken_0_eq) ho
  · cases h) F_spec_siBroken_eq

noncomputable def F_spec_paParse (x : ByteArray) : Option ((((Int × (Int × (Int × (Int × (Int × Bool))))) × ((Int × Int) × ((Int × (Int × Bool)) × (ByteArray × Int)))) × (Bool × ((Int × (Int × (Int × (Int × (Int × Bool))))) × ((Int × Int) × ((Int × (Int × Bool)) × (ByteArray × Int)))))) × Int × Int) :=
 match F_spec_l1Split ((x, 43)) with
 | none => none
 | some y1 =>
  bif (decide ((y1.length : Int) > 2)) then
   some (((((0, (0, 0, (0, 0, false))), (0, 0), ((0, 0, false), ByteArray.empty, 0)), false, ((0, (0, 0, (0, 0, false))), (0, 0), ((0, 0, false), ByteArray.empty, 0))), 1, 0))
  else
   bif decide (0 ≤ 0) && decide (0 < (y1.length : Int)) then
    match F_spec_paHand ((y1.getD (0 : Int).toNat ByteArray.empty)) with
    | none => none
    | some y2 =>
     bif ((y2.2.1 != 0)) then
      some (((((0, (0, 0, (0, 0, false))), (0, 0), ((0, 0, false), ByteArray.empty, 0)), false, ((0, (0, 0, (0, 0, false))), (0, 0), ((0, 0, false), ByteArray.empty, 0))), y2.2))
     else
      bif (((y1.length : Int) == 1)) then
       some (((y2.1, false, ((0, (0, 0, (0, 0, false))), (0, 0), ((0, 0, false), ByteArray.empty, 0))), 0, 0))
      else
       bif decide (0 ≤ 0) && decide (0 < (y1.length : Int)) then
        let v3 := IntKind.i64.wrap (((y1.getD (0 : Int).toNat ByteArray.empty).size : Int) + 1)
        bif decide (0 ≤ 1) && decide (1 < (y1.length : Int)) then
         match F_spec_paHand ((y1.getD (1 : Int).toNat ByteArray.empty)) with
         | none => none
         | some y4 =>
          bif ((y4.2.1 != 0)) then
           let v5 := IntKind.i64.wrap (v3 + y4.2.2)
           some (((((0, (0, 0, (0, 0, false))), (0, 0), ((0, 0, false), ByteArray.empty, 0)), false, ((0, (0, 0, (0, 0, false))), (0, 0), ((0, 0, false), ByteArray.empty, 0))), y4.2.1, v5))
          else
           match F_spec_siBroken ((y2.1, y4.1)) with
           | none => none
           | some y6 =>
            bif ((y6 != 0)) then
             some (((((0, (0, 0, (0, 0, false))), (0, 0), ((0, 0, false), ByteArray.empty, 0)), false, ((0, (0, 0, (0, 0, false))), (0, 0), ((0, 0, false), ByteArray.empty, 0))), 7, v3))
            else
             some (((y2.1, true, y4.1), 0, 0))
        else none
       else none
   else none
noncomputable def c_spec_paParse : Con := { ps := [(.val, .str)], rs := [(.val, (.st (.pair (.st (.pair (.st (.pair (.int .i64) (.pair (.int .i64) (.pair (.int .i64) (.pair (.int .i64) (.pair (.int .i64) .bool)))))) (.pair (.st (.pair (.int .i64) (.int .i64))) (.pair (.st (.pair (.int .i64) (.pair (.int .i64) .bool))) (.st (.pair .str (.int .i64))))))) (.pair .bool (.st (.pair (.st (.pair (.int .i64) (.pair (.int .i64) (.pair (.int .i64) (.pair (.int .i64) (.pair (.int .i64) .bool)))))) (.pair (.st (.pair (.int .i64) (.int .i64))) (.pair (.st (.pair (.int .i64) (.pair (.int .i64) .bool))) (.st (.pair .str (.int .i64))))))))))), (.val, (.int .i64)), (.val, (.int .i64))], F := F_spec_paParse }
noncomputable def env_spec_paParse : Env := { par := [], dp := false, settle := [], con := fun f => match f with | 107 => some c_spec_l1Split | 149 => some c_spec_siBroken | 184 => some c_spec_paHand | _ => none, clo := fun _ => none, T := tinf Tryz.prog }
noncomputable def loops_spec_paParse : Nat → Option Loop := fun n => none
theorem F_spec_paParse_eq (x : ByteArray) : Fev env_spec_paParse loops_spec_paParse c_spec_paParse.ps c_spec_paParse.rs Tryz.f108 x = F_spec_paParse x := by kernel_rfl
theorem env_spec_paParse_ok : EnvOK Tryz.prog env_spec_paParse := envOK_of (fun f c h => by
  simp only [env_spec_paParse] at h
  split at h
  · cases h; exact con_spec_l1Split
  · cases h; exact con_spec_siBroken
  · cases h; exact con_spec_paHand
  · cases h) (fun f c h => by cases h) rfl
theorem con_spec_paParse : ConOK Tryz.prog 108 c_spec_paParse := con_of_ev' (body := Tryz.f108.body.getD .skip) (Λ := loops_spec_paParse) mixed Tryz.func108 (by kernel_rfl) (by kernel_rfl) env_spec_paParse_ok (by kernel_rfl) (by kernel_rfl) (fun n L h => by cases h) F_spec_paParse_eq

noncomputable def step_spec_shText_0 (s : ByteArray × Int × Int × (List Int) × Int × Int × Int × Int × Int × Bool) : Option ((ByteArray × Int × Int × (List Int) × Int × Int × Int × Int × Int × Bool) ⊕ ((ByteArray × Int × Int × Int × Int × Int × Bool))) :=
 bif (decide (s.2.2.1 < s.2.1)) then
  bif decide (0 ≤ s.2.2.1) && decide (s.2.2.1 < (s.2.2.2.1.length : Int)) then
   match F_spec_l1Num ((s.2.2.2.1.getD (s.2.2.1).toNat 0)) with
   | none => none
   | some y5 =>
    bif decide (s.1.size + y5.size ≤ 9223372036854775807) then
     let v6 := IntKind.i64.wrap (s.2.2.1 + 1)
     some (.inl (((s.1 ++ y5), (s.2.1, v6, s.2.2.2))))
    else none
  else none
 else
  some (.inr ((s.1, s.2.2.2.2)))
def pat_spec_shText_0 : Pat := { tmps := [.any, .ptr 64 0, .any, .v .str, .any, .any, .any, .any, .any, .any, .own 640, .v (.int .i64), .v (.int .i64), .any, .any, .any, .any, .any, .any, .any, .any, .any, .any, .any, .any, .any], blks := [(640, .row true (.int .i64)), (64, .box [.v (.int .i64), .v (.int .i64), .v (.int .i64), .v (.int .i64), .v (.int .i64), .v .bool])] }
def outs_spec_shText_0 : List (Exit × Pat) := [(.exit 0, { tmps := [.any, .ptr 64 0, .any, .v .str, .any, .any, .any, .any, .any, .any, .any, .any, .any, .any, .any, .any, .any, .any, .any, .any, .any, .any, .any, .any, .any, .any], blks := [(64, .box [.v (.int .i64), .v (.int .i64), .v (.int .i64), .v (.int .i64), .v (.int .i64), .v .bool])] })]
noncomputable def F_spec_shText (x : (Int × (Int × (Int × (Int × (Int × Bool)))))) : Option (ByteArray) :=
 match F_spec_l1Num (x.1) with
 | none => none
 | some y1 =>
  match F_spec_shFingers (x) with
  | none => none
  | some y2 =>
   match runL step_spec_shText_0 ((y1, (y2.length : Int), (0, y2, x))) with
   | none => none
   | some o7 =>
    bif o7.2.2.2.2.2.2 then
     bif decide (o7.1.size + (⟨#[115]⟩ : ByteArray).size ≤ 9223372036854775807) then
      some ((o7.1 ++ (⟨#[115]⟩ : ByteArray)))
     else none
    else
     some (o7.1)
noncomputable def c_spec_shText : Con := { ps := [(.val, (.st (.pair (.int .i64) (.pair (.int .i64) (.pair (.int .i64) (.pair (.int .i64) (.pair (.int .i64) .bool)))))))], rs := [(.val, .str)], F := F_spec_shText }
noncomputable def env_spec_shText : Env := { par := [], dp := false, settle := [], con := fun f => match f with | 283 => some c_spec_l1Num | 303 => some c_spec_shFingers | _ => none, clo := fun _ => none, T := tinf Tryz.prog }
noncomputable def loops_spec_shText : Nat → Option Loop := fun n => match n with | 3 => some { pat := pat_spec_shText_0, outs := outs_spec_shText_0, run := runL (step_spec_shText_0) } | _ => none
theorem step_spec_shText_0_eq (s : ByteArray × Int × Int × (List Int) × Int × Int × Int × Int × Int × Bool) : stepEv env_spec_shText loops_spec_shText pat_spec_shText_0 outs_spec_shText_0 Tryz.f272 3 s = step_spec_shText_0 s := by kernel_rfl
theorem F_spec_shText_eq (x : (Int × (Int × (Int × (Int × (Int × Bool)))))) : Fev env_spec_shText loops_spec_shText c_spec_shText.ps c_spec_shText.rs Tryz.f272 x = F_spec_shText x := by kernel_rfl
theorem env_spec_shText_ok : EnvOK Tryz.prog env_spec_shText := envOK_of (fun f c h => by
  simp only [env_spec_shText] at h
  split at h
  · cases h; exact con_spec_l1Num
  · cases h; exact con_spec_shFingers
  · cases h) (fun f c h => by cases h) rfl
theorem con_spec_shText : ConOK Tryz.prog 272 c_spec_shText := con_of_ev' (body := Tryz.f272.body.getD .skip) (Λ := loops_spec_shText) mixed Tryz.func272 (by kernel_rfl) (by kernel_rfl) env_spec_shText_ok (by kernel_rfl) (by kernel_rfl) (fun n L h => by
  unfold loops_spec_shText at h
  split at h
  · cases h; exact fun s o ho => loop_ok (stepF := stepEv env_spec_shText loops_spec_shText pat_spec_shText_0 outs_spec_shText_0 Tryz.f272 3) (step_spec_shText_0_eq) ho
  · cases h) F_spec_shText_eq

noncomputable def F_spec_orText (x : (Int × Int)) : Option (ByteArray) :=
 let v1 := IntKind.i64.wrap (x.1 + 1)
 bif decide (0 ≤ x.1) && decide (x.1 ≤ v1) && decide (v1 ≤ ((⟨#[117, 100, 108, 114, 102, 98]⟩ : ByteArray).size : Int)) then
  let v2 := IntKind.i64.wrap (x.2 + 1)
  bif decide (0 ≤ x.2) && decide (x.2 ≤ v2) && decide (v2 ≤ ((⟨#[117, 100, 108, 114, 102, 98]⟩ : ByteArray).size : Int)) then
   bif decide (((⟨#[117, 100, 108, 114, 102, 98]⟩ : ByteArray).extract (x.1).toNat (v1).toNat).size + ((⟨#[117, 100, 108, 114, 102, 98]⟩ : ByteArray).extract (x.2).toNat (v2).toNat).size ≤ 9223372036854775807) then
    some ((((⟨#[117, 100, 108, 114, 102, 98]⟩ : ByteArray).extract (x.1).toNat (v1).toNat) ++ ((⟨#[117, 100, 108, 114, 102, 98]⟩ : ByteArray).extract (x.2).toNat (v2).toNat)))
   else none
  else none
 else none
noncomputable def c_spec_orText : Con := { ps := [(.val, (.st (.pair (.int .i64) (.int .i64))))], rs := [(.val, .str)], F := F_spec_orText }
noncomputable def env_spec_orText : Env := { par := [], dp := false, settle := [], con := fun _ => none, clo := fun _ => none, T := tinf Tryz.prog }
noncomputable def loops_spec_orText : Nat → Option Loop := fun n => none
theorem F_spec_orText_eq (x : (Int × Int)) : Fev env_spec_orText loops_spec_orText c_spec_orText.ps c_spec_orText.rs Tryz.f214 x = F_spec_orText x := by kernel_rfl
theorem env_spec_orText_ok : EnvOK Tryz.prog env_spec_orText := envOK_of (fun f c h => by cases h) (fun f c h => by cases h) rfl
theorem con_spec_orText : ConOK Tryz.prog 214 c_spec_orText := con_of_ev' (body := Tryz.f214.body.getD .skip) (Λ := loops_spec_orText) mixed Tryz.func214 (by kernel_rfl) (by kernel_rfl) env_spec_orText_ok (by kernel_rfl) (by kernel_rfl) (fun n L h => by cases h) F_spec_orText_eq

noncomputable def F_spec_siText (x : ((Int × (Int × (Int × (Int × (Int × Bool))))) × ((Int × Int) × ((Int × (Int × Bool)) × (ByteArray × Int))))) : Option (ByteArray) :=
 match F_spec_shText (x.1) with
 | none => none
 | some y1 =>
  bif decide (y1.size + (⟨#[47]⟩ : ByteArray).size ≤ 9223372036854775807) then
   match F_spec_orText (x.2.1) with
   | none => none
   | some y2 =>
    bif decide ((y1 ++ (⟨#[47]⟩ : ByteArray)).size + y2.size ≤ 9223372036854775807) then
     bif decide (((y1 ++ (⟨#[47]⟩ : ByteArray)) ++ y2).size + (⟨#[47]⟩ : ByteArray).size ≤ 9223372036854775807) then
      match F_spec_plText (x.2.2.1) with
      | none => none
      | some y3 =>
       bif decide ((((y1 ++ (⟨#[47]⟩ : ByteArray)) ++ y2) ++ (⟨#[47]⟩ : ByteArray)).size + y3.size ≤ 9223372036854775807) then
        bif decide (((((y1 ++ (⟨#[47]⟩ : ByteArray)) ++ y2) ++ (⟨#[47]⟩ : ByteArray)) ++ y3).size + (⟨#[47]⟩ : ByteArray).size ≤ 9223372036854775807) then
         match F_spec_mvText (x.2.2.2) with
         | none => none
         | some y4 =>
          bif decide ((((((y1 ++ (⟨#[47]⟩ : ByteArray)) ++ y2) ++ (⟨#[47]⟩ : ByteArray)) ++ y3) ++ (⟨#[47]⟩ : ByteArray)).size + y4.size ≤ 9223372036854775807) then
           some (((((((y1 ++ (⟨#[47]⟩ : ByteArray)) ++ y2) ++ (⟨#[47]⟩ : ByteArray)) ++ y3) ++ (⟨#[47]⟩ : ByteArray)) ++ y4))
          else none
        else none
       else none
     else none
    else none
  else none
noncomputable def c_spec_siText : Con := { ps := [(.val, (.st (.pair (.st (.pair (.int .i64) (.pair (.int .i64) (.pair (.int .i64) (.pair (.int .i64) (.pair (.int .i64) .bool)))))) (.pair (.st (.pair (.int .i64) (.int .i64))) (.pair (.st (.pair (.int .i64) (.pair (.int .i64) .bool))) (.st (.pair .str (.int .i64))))))))], rs := [(.val, .str)], F := F_spec_siText }
noncomputable def env_spec_siText : Env := { par := [], dp := false, settle := [], con := fun f => match f with | 214 => some c_spec_orText | 272 => some c_spec_shText | 273 => some c_spec_plText | 274 => some c_spec_mvText | _ => none, clo := fun _ => none, T := tinf Tryz.prog }
noncomputable def loops_spec_siText : Nat → Option Loop := fun n => none
theorem F_spec_siText_eq (x : ((Int × (Int × (Int × (Int × (Int × Bool))))) × ((Int × Int) × ((Int × (Int × Bool)) × (ByteArray × Int))))) : Fev env_spec_siText loops_spec_siText c_spec_siText.ps c_spec_siText.rs Tryz.f186 x = F_spec_siText x := by kernel_rfl
theorem env_spec_siText_ok : EnvOK Tryz.prog env_spec_siText := envOK_of (fun f c h => by
  simp only [env_spec_siText] at h
  split at h
  · cases h; exact con_spec_orText
  · cases h; exact con_spec_shText
  · cases h; exact con_spec_plText
  · cases h; exact con_spec_mvText
  · cases h) (fun f c h => by cases h) rfl
theorem con_spec_siText : ConOK Tryz.prog 186 c_spec_siText := con_of_ev' (body := Tryz.f186.body.getD .skip) (Λ := loops_spec_siText) mixed Tryz.func186 (by kernel_rfl) (by kernel_rfl) env_spec_siText_ok (by kernel_rfl) (by kernel_rfl) (fun n L h => by cases h) F_spec_siText_eq

noncomputable def F_spec_paText (x : (((Int × (Int × (Int × (Int × (Int × Bool))))) × ((Int × Int) × ((Int × (Int × Bool)) × (ByteArray × Int)))) × (Bool × ((Int × (Int × (Int × (Int × (Int × Bool))))) × ((Int × Int) × ((Int × (Int × Bool)) × (ByteArray × Int))))))) : Option (ByteArray) :=
 bif x.2.1 then
  match F_spec_siText (x.1) with
  | none => none
  | some y1 =>
   bif decide (y1.size + (⟨#[43]⟩ : ByteArray).size ≤ 9223372036854775807) then
    match F_spec_siText (x.2.2) with
    | none => none
    | some y2 =>
     bif decide ((y1 ++ (⟨#[43]⟩ : ByteArray)).size + y2.size ≤ 9223372036854775807) then
      some (((y1 ++ (⟨#[43]⟩ : ByteArray)) ++ y2))
     else none
   else none
 else
  match F_spec_siText (x.1) with
  | none => none
  | some y3 =>
   some (y3)
noncomputable def c_spec_paText : Con := { ps := [(.val, (.st (.pair (.st (.pair (.st (.pair (.int .i64) (.pair (.int .i64) (.pair (.int .i64) (.pair (.int .i64) (.pair (.int .i64) .bool)))))) (.pair (.st (.pair (.int .i64) (.int .i64))) (.pair (.st (.pair (.int .i64) (.pair (.int .i64) .bool))) (.st (.pair .str (.int .i64))))))) (.pair .bool (.st (.pair (.st (.pair (.int .i64) (.pair (.int .i64) (.pair (.int .i64) (.pair (.int .i64) (.pair (.int .i64) .bool)))))) (.pair (.st (.pair (.int .i64) (.int .i64))) (.pair (.st (.pair (.int .i64) (.pair (.int .i64) .bool))) (.st (.pair .str (.int .i64)))))))))))], rs := [(.val, .str)], F := F_spec_paText }
noncomputable def env_spec_paText : Env := { par := [], dp := false, settle := [], con := fun f => match f with | 186 => some c_spec_siText | _ => none, clo := fun _ => none, T := tinf Tryz.prog }
noncomputable def loops_spec_paText : Nat → Option Loop := fun n => none
theorem F_spec_paText_eq (x : (((Int × (Int × (Int × (Int × (Int × Bool))))) × ((Int × Int) × ((Int × (Int × Bool)) × (ByteArray × Int)))) × (Bool × ((Int × (Int × (Int × (Int × (Int × Bool))))) × ((Int × Int) × ((Int × (Int × Bool)) × (ByteArray × Int))))))) : Fev env_spec_paText loops_spec_paText c_spec_paText.ps c_spec_paText.rs Tryz.f185 x = F_spec_paText x := by kernel_rfl
theorem env_spec_paText_ok : EnvOK Tryz.prog env_spec_paText := envOK_of (fun f c h => by
  simp only [env_spec_paText] at h
  split at h
  · cases h; exact con_spec_siText
  · cases h) (fun f c h => by cases h) rfl
theorem con_spec_paText : ConOK Tryz.prog 185 c_spec_paText := con_of_ev' (body := Tryz.f185.body.getD .skip) (Λ := loops_spec_paText) mixed Tryz.func185 (by kernel_rfl) (by kernel_rfl) env_spec_paText_ok (by kernel_rfl) (by kernel_rfl) (fun n L h => by cases h) F_spec_paText_eq

noncomputable def step_spec_paShort_0 (s : ByteArray × Int × Int × (List ByteArray) × (List ByteArray)) : Option ((ByteArray × Int × Int × (List ByteArray) × (List ByteArray)) ⊕ ((ByteArray))) :=
 bif (decide (s.2.2.1 < s.2.1)) then
  bif decide (0 ≤ s.2.2.1) && decide (s.2.2.1 < (s.2.2.2.1.length : Int)) then
   bif (decide (s.2.2.1 > 0)) then
    bif decide (s.1.size + (⟨#[47]⟩ : ByteArray).size ≤ 9223372036854775807) then
     bif decide (0 ≤ s.2.2.1) && decide (s.2.2.1 < (s.2.2.2.2.length : Int)) then
      bif ((s.2.2.2.1.getD (s.2.2.1).toNat ByteArray.empty).toList == (s.2.2.2.2.getD (s.2.2.1).toNat ByteArray.empty).toList) then
       bif decide ((s.1 ++ (⟨#[47]⟩ : ByteArray)).size + (⟨#[61]⟩ : ByteArray).size ≤ 9223372036854775807) then
        let v11 := IntKind.i64.wrap (s.2.2.1 + 1)
        some (.inl ((((s.1 ++ (⟨#[47]⟩ : ByteArray)) ++ (⟨#[61]⟩ : ByteArray)), (s.2.1, v11, s.2.2.2))))
       else none
      else
       bif decide ((s.1 ++ (⟨#[47]⟩ : ByteArray)).size + (s.2.2.2.1.getD (s.2.2.1).toNat ByteArray.empty).size ≤ 9223372036854775807) then
        let v12 := IntKind.i64.wrap (s.2.2.1 + 1)
        some (.inl ((((s.1 ++ (⟨#[47]⟩ : ByteArray)) ++ (s.2.2.2.1.getD (s.2.2.1).toNat ByteArray.empty)), (s.2.1, v12, s.2.2.2))))
       else none
     else none
    else none
   else
    bif decide (0 ≤ s.2.2.1) && decide (s.2.2.1 < (s.2.2.2.2.length : Int)) then
     bif ((s.2.2.2.1.getD (s.2.2.1).toNat ByteArray.empty).toList == (s.2.2.2.2.getD (s.2.2.1).toNat ByteArray.empty).toList) then
      bif decide (s.1.size + (⟨#[61]⟩ : ByteArray).size ≤ 9223372036854775807) then
       let v13 := IntKind.i64.wrap (s.2.2.1 + 1)
       some (.inl (((s.1 ++ (⟨#[61]⟩ : ByteArray)), (s.2.1, v13, s.2.2.2))))
      else none
     else
      bif decide (s.1.size + (s.2.2.2.1.getD (s.2.2.1).toNat ByteArray.empty).size ≤ 9223372036854775807) then
       let v14 := IntKind.i64.wrap (s.2.2.1 + 1)
       some (.inl (((s.1 ++ (s.2.2.2.1.getD (s.2.2.1).toNat ByteArray.empty)), (s.2.1, v14, s.2.2.2))))
      else none
    else none
  else none
 else
  some (.inr (s.1))
def pat_spec_paShort_0 : Pat := { tmps := [.any, .any, .any, .own 1024, .any, .v .str, .any, .any, .any, .any, .any, .any, .any, .any, .any, .any, .any, .any, .any, .any, .any, .any, .any, .any, .any, .own 1280, .v (.int .i64), .v (.int .i64), .any, .any, .any, .any, .any, .any, .any, .any, .any, .any, .any, .any, .any, .any, .any, .any, .any, .any, .any], blks := [(1280, .row true .str), (1024, .row true .str)] }
def outs_spec_paShort_0 : List (Exit × Pat) := [(.exit 0, { tmps := [.any, .any, .any, .any, .any, .v .str, .any, .any, .any, .any, .any, .any, .any, .any, .any, .any, .any, .any, .any, .any, .any, .any, .any, .any, .any, .any, .any, .any, .any, .any, .any, .any, .any, .any, .any, .any, .any, .any, .any, .any, .any, .any, .any, .any, .any, .any, .any], blks := [] })]
noncomputable def F_spec_paShort (x : (((Int × (Int × (Int × (Int × (Int × Bool))))) × ((Int × Int) × ((Int × (Int × Bool)) × (ByteArray × Int)))) × (Bool × ((Int × (Int × (Int × (Int × (Int × Bool))))) × ((Int × Int) × ((Int × (Int × Bool)) × (ByteArray × Int))))))) : Option (ByteArray) :=
 bif (!x.2.1) then
  match F_spec_paText (x) with
  | none => none
  | some y1 =>
   some (y1)
 else
  match F_spec_siText (x.1) with
  | none => none
  | some y2 =>
   match F_spec_l1Split ((y2, 47)) with
   | none => none
   | some y3 =>
    match F_spec_siText (x.2.2) with
    | none => none
    | some y4 =>
     match F_spec_l1Split ((y4, 47)) with
     | none => none
     | some y5 =>
      match F_spec_siText (x.1) with
      | none => none
      | some y6 =>
       bif decide (y6.size + (⟨#[43]⟩ : ByteArray).size ≤ 9223372036854775807) then
        match runL step_spec_paShort_0 (((y6 ++ (⟨#[43]⟩ : ByteArray)), (y5.length : Int), (0, y5, y3))) with
        | none => none
        | some o15 =>
         some (o15)
       else none
noncomputable def c_spec_paShort : Con := { ps := [(.val, (.st (.pair (.st (.pair (.st (.pair (.int .i64) (.pair (.int .i64) (.pair (.int .i64) (.pair (.int .i64) (.pair (.int .i64) .bool)))))) (.pair (.st (.pair (.int .i64) (.int .i64))) (.pair (.st (.pair (.int .i64) (.pair (.int .i64) .bool))) (.st (.pair .str (.int .i64))))))) (.pair .bool (.st (.pair (.st (.pair (.int .i64) (.pair (.int .i64) (.pair (.int .i64) (.pair (.int .i64) (.pair (.int .i64) .bool)))))) (.pair (.st (.pair (.int .i64) (.int .i64))) (.pair (.st (.pair (.int .i64) (.pair (.int .i64) .bool))) (.st (.pair .str (.int .i64)))))))))))], rs := [(.val, .str)], F := F_spec_paShort }
noncomputable def env_spec_paShort : Env := { par := [], dp := false, settle := [], con := fun f => match f with | 107 => some c_spec_l1Split | 185 => some c_spec_paText | 186 => some c_spec_siText | _ => none, clo := fun _ => none, T := tinf Tryz.prog }
noncomputable def loops_spec_paShort : Nat → Option Loop := fun n => match n with | 6 => some { pat := pat_spec_paShort_0, outs := outs_spec_paShort_0, run := runL (step_spec_paShort_0) } | _ => none
theorem step_spec_paShort_0_eq (s : ByteArray × Int × Int × (List ByteArray) × (List ByteArray)) : stepEv env_spec_paShort loops_spec_paShort pat_spec_paShort_0 outs_spec_paShort_0 Tryz.f109 6 s = step_spec_paShort_0 s := by kernel_rfl
theorem F_spec_paShort_eq (x : (((Int × (Int × (Int × (Int × (Int × Bool))))) × ((Int × Int) × ((Int × (Int × Bool)) × (ByteArray × Int)))) × (Bool × ((Int × (Int × (Int × (Int × (Int × Bool))))) × ((Int × Int) × ((Int × (Int × Bool)) × (ByteArray × Int))))))) : Fev env_spec_paShort loops_spec_paShort c_spec_paShort.ps c_spec_paShort.rs Tryz.f109 x = F_spec_paShort x := by kernel_rfl
theorem env_spec_paShort_ok : EnvOK Tryz.prog env_spec_paShort := envOK_of (fun f c h => by
  simp only [env_spec_paShort] at h
  split at h
  · cases h; exact con_spec_l1Split
  · cases h; exact con_spec_paText
  · cases h; exact con_spec_siText
  · cases h) (fun f c h => by cases h) rfl
theorem con_spec_paShort : ConOK Tryz.prog 109 c_spec_paShort := con_of_ev' (body := Tryz.f109.body.getD .skip) (Λ := loops_spec_paShort) mixed Tryz.func109 (by kernel_rfl) (by kernel_rfl) env_spec_paShort_ok (by kernel_rfl) (by kernel_rfl) (fun n L h => by
  unfold loops_spec_paShort at h
  split at h
  · cases h; exact fun s o ho => loop_ok (stepF := stepEv env_spec_paShort loops_spec_paShort pat_spec_paShort_0 outs_spec_paShort_0 Tryz.f109 6) (step_spec_paShort_0_eq) ho
  · cases h) F_spec_paShort_eq

noncomputable def step_spec_ParseShort_0 (s : ByteArray × ByteArray × Int × Int × (List ByteArray) × (List ByteArray) × (List ByteArray) × Int × Int × Int × Int × Int × Bool × Int × Int × Int × Int × Bool × ByteArray × Int × Bool × Int × Int × Int × Int × Int × Bool × Int × Int × Int × Int × Bool × ByteArray × Int) : Option ((ByteArray × ByteArray × Int × Int × (List ByteArray) × (List ByteArray) × (List ByteArray) × Int × Int × Int × Int × Int × Bool × Int × Int × Int × Int × Bool × ByteArray × Int × Bool × Int × Int × Int × Int × Int × Bool × Int × Int × Int × Int × Bool × ByteArray × Int) ⊕ ((ByteArray × ByteArray × (List ByteArray) × (List ByteArray) × Int × Int × Int × Int × Int × Bool × Int × Int × Int × Int × Bool × ByteArray × Int × Bool × Int × Int × Int × Int × Int × Bool × Int × Int × Int × Int × Bool × ByteArray × Int))) :=
 bif (decide (s.2.2.2.1 < s.2.2.1)) then
  bif decide (0 ≤ s.2.2.2.1) && decide (s.2.2.2.1 < (s.2.2.2.2.1.length : Int)) then
   bif ((s.2.2.2.2.1.getD (s.2.2.2.1).toNat ByteArray.empty).toList == (⟨#[61]⟩ : ByteArray).toList) then
    bif decide (0 ≤ s.2.2.2.1) && decide (s.2.2.2.1 < (s.2.2.2.2.2.1.length : Int)) then
     bif decide (0 ≤ s.2.2.2.1) && decide (s.2.2.2.1 < (s.2.2.2.2.1.length : Int)) then
      let v8 := s.2.2.2.2.1.set (s.2.2.2.1).toNat ((s.2.2.2.2.2.1.getD (s.2.2.2.1).toNat ByteArray.empty))
      let v9 := IntKind.i64.wrap (s.2.2.2.1 + 1)
      some (.inl ((s.1, (s.2.1, s.2.2.1, (v9, v8, s.2.2.2.2.2)))))
     else none
    else none
   else
    let v10 := IntKind.i64.wrap (s.2.2.2.1 + 1)
    some (.inl ((s.1, s.2.1, (s.2.2.1, v10, s.2.2.2.2))))
  else none
 else
  some (.inr ((s.1, (s.2.1, s.2.2.2.2.1, s.2.2.2.2.2.2))))
def pat_spec_ParseShort_0 : Pat := { tmps := [.v .str, .any, .ptr 128 0, .any, .own 1152, .v .str, .own 1792, .own 2048, .any, .any, .any, .any, .any, .any, .any, .any, .any, .any, .any, .any, .any, .any, .any, .any, .any, .any, .any, .any, .any, .any, .any, .any, .any, .any, .any, .any, .any, .any, .any, .any, .any, .any, .own 2048, .v (.int .i64), .v (.int .i64), .any, .any, .any, .any, .any, .any, .any, .any, .any, .any, .any, .any, .any, .any, .any, .any, .any, .any, .any, .any, .any, .any, .any, .any, .any, .any, .any, .any, .any, .any, .any, .any, .any, .any, .any, .any, .any, .any, .any, .any, .any, .any, .any, .any, .any, .any, .any, .any, .any, .any, .any, .any, .any, .any, .any, .any], blks := [(2048, .row true .str), (1792, .row true .str), (1152, .row true .str), (128, .box [.v (.int .i64), .v (.int .i64), .v (.int .i64), .v (.int .i64), .v (.int .i64), .v .bool, .v (.int .i64), .v (.int .i64), .v (.int .i64), .v (.int .i64), .v .bool, .v .str, .v (.int .i64), .v .bool, .v (.int .i64), .v (.int .i64), .v (.int .i64), .v (.int .i64), .v (.int .i64), .v .bool, .v (.int .i64), .v (.int .i64), .v (.int .i64), .v (.int .i64), .v .bool, .v .str, .v (.int .i64)])] }
def outs_spec_ParseShort_0 : List (Exit × Pat) := [(.exit 0, { tmps := [.v .str, .any, .ptr 128 0, .any, .own 1152, .v .str, .any, .own 2048, .any, .any, .any, .any, .any, .any, .any, .any, .any, .any, .any, .any, .any, .any, .any, .any, .any, .any, .any, .any, .any, .any, .any, .any, .any, .any, .any, .any, .any, .any, .any, .any, .any, .any, .any, .any, .any, .any, .any, .any, .any, .any, .any, .any, .any, .any, .any, .any, .any, .any, .any, .any, .any, .any, .any, .any, .any, .any, .any, .any, .any, .any, .any, .any, .any, .any, .any, .any, .any, .any, .any, .any, .any, .any, .any, .any, .any, .any, .any, .any, .any, .any, .any, .any, .any, .any, .any, .any, .any, .any, .any, .any, .any], blks := [(2048, .row true .str), (1152, .row true .str), (128, .box [.v (.int .i64), .v (.int .i64), .v (.int .i64), .v (.int .i64), .v (.int .i64), .v .bool, .v (.int .i64), .v (.int .i64), .v (.int .i64), .v (.int .i64), .v .bool, .v .str, .v (.int .i64), .v .bool, .v (.int .i64), .v (.int .i64), .v (.int .i64), .v (.int .i64), .v (.int .i64), .v .bool, .v (.int .i64), .v (.int .i64), .v (.int .i64), .v (.int .i64), .v .bool, .v .str, .v (.int .i64)])] })]
noncomputable def F_spec_ParseShort (x : ByteArray) : Option ((((Int × (Int × (Int × (Int × (Int × Bool))))) × ((Int × Int) × ((Int × (Int × Bool)) × (ByteArray × Int)))) × (Bool × ((Int × (Int × (Int × (Int × (Int × Bool))))) × ((Int × Int) × ((Int × (Int × Bool)) × (ByteArray × Int)))))) × Bool) :=
 match F_spec_paGiven (x) with
 | none => none
 | some y1 =>
  bif (!y1) then
   some (((((0, (0, 0, (0, 0, false))), (0, 0), ((0, 0, false), ByteArray.empty, 0)), false, ((0, (0, 0, (0, 0, false))), (0, 0), ((0, 0, false), ByteArray.empty, 0))), false))
  else
   match F_spec_l1Split ((x, 43)) with
   | none => none
   | some y2 =>
    bif decide (0 ≤ 0) && decide (0 < (y2.length : Int)) then
     bif (((y2.length : Int) == 2)) then
      bif decide (0 ≤ 0) && decide (0 < (y2.length : Int)) then
       bif decide (0 ≤ 1) && decide (1 < (y2.length : Int)) then
        match F_spec_l1Split (((y2.getD (0 : Int).toNat ByteArray.empty), 47)) with
        | none => none
        | some y3 =>
         match F_spec_l1Split (((y2.getD (1 : Int).toNat ByteArray.empty), 47)) with
         | none => none
         | some y4 =>
          bif (((y3.length : Int) != 4)) then
           some (((((0, (0, 0, (0, 0, false))), (0, 0), ((0, 0, false), ByteArray.empty, 0)), false, ((0, (0, 0, (0, 0, false))), (0, 0), ((0, 0, false), ByteArray.empty, 0))), false))
          else
           bif (((y4.length : Int) != 4)) then
            some (((((0, (0, 0, (0, 0, false))), (0, 0), ((0, 0, false), ByteArray.empty, 0)), false, ((0, (0, 0, (0, 0, false))), (0, 0), ((0, 0, false), ByteArray.empty, 0))), false))
           else
            match runL step_spec_ParseShort_0 ((x, ((y2.getD (0 : Int).toNat ByteArray.empty), (y4.length : Int), (0, y4, (y3, y2, (0, 0, (0, 0, (0, false, (0, 0, (0, 0, (false, ByteArray.empty, (0, false, (0, 0, (0, 0, (0, false, (0, 0, (0, 0, (false, ByteArray.empty, 0)))))))))))))))))) with
            | none => none
            | some o11 =>
             bif decide (0 ≤ 0) && decide (0 < (o11.2.2.1.length : Int)) then
              bif decide ((⟨#[43]⟩ : ByteArray).size + (o11.2.2.1.getD (0 : Int).toNat ByteArray.empty).size ≤ 9223372036854775807) then
               bif decide (((⟨#[43]⟩ : ByteArray) ++ (o11.2.2.1.getD (0 : Int).toNat ByteArray.empty)).size + (⟨#[47]⟩ : ByteArray).size ≤ 9223372036854775807) then
                bif decide (0 ≤ 1) && decide (1 < (o11.2.2.1.length : Int)) then
                 bif decide ((((⟨#[43]⟩ : ByteArray) ++ (o11.2.2.1.getD (0 : Int).toNat ByteArray.empty)) ++ (⟨#[47]⟩ : ByteArray)).size + (o11.2.2.1.getD (1 : Int).toNat ByteArray.empty).size ≤ 9223372036854775807) then
                  bif decide (((((⟨#[43]⟩ : ByteArray) ++ (o11.2.2.1.getD (0 : Int).toNat ByteArray.empty)) ++ (⟨#[47]⟩ : ByteArray)) ++ (o11.2.2.1.getD (1 : Int).toNat ByteArray.empty)).size + (⟨#[47]⟩ : ByteArray).size ≤ 9223372036854775807) then
                   bif decide (0 ≤ 2) && decide (2 < (o11.2.2.1.length : Int)) then
                    bif decide ((((((⟨#[43]⟩ : ByteArray) ++ (o11.2.2.1.getD (0 : Int).toNat ByteArray.empty)) ++ (⟨#[47]⟩ : ByteArray)) ++ (o11.2.2.1.getD (1 : Int).toNat ByteArray.empty)) ++ (⟨#[47]⟩ : ByteArray)).size + (o11.2.2.1.getD (2 : Int).toNat ByteArray.empty).size ≤ 9223372036854775807) then
                     bif decide (((((((⟨#[43]⟩ : ByteArray) ++ (o11.2.2.1.getD (0 : Int).toNat ByteArray.empty)) ++ (⟨#[47]⟩ : ByteArray)) ++ (o11.2.2.1.getD (1 : Int).toNat ByteArray.empty)) ++ (⟨#[47]⟩ : ByteArray)) ++ (o11.2.2.1.getD (2 : Int).toNat ByteArray.empty)).size + (⟨#[47]⟩ : ByteArray).size ≤ 9223372036854775807) then
                      bif decide (0 ≤ 3) && decide (3 < (o11.2.2.1.length : Int)) then
                       bif decide ((((((((⟨#[43]⟩ : ByteArray) ++ (o11.2.2.1.getD (0 : Int).toNat ByteArray.empty)) ++ (⟨#[47]⟩ : ByteArray)) ++ (o11.2.2.1.getD (1 : Int).toNat ByteArray.empty)) ++ (⟨#[47]⟩ : ByteArray)) ++ (o11.2.2.1.getD (2 : Int).toNat ByteArray.empty)) ++ (⟨#[47]⟩ : ByteArray)).size + (o11.2.2.1.getD (3 : Int).toNat ByteArray.empty).size ≤ 9223372036854775807) then
                        bif decide (o11.2.1.size + ((((((((⟨#[43]⟩ : ByteArray) ++ (o11.2.2.1.getD (0 : Int).toNat ByteArray.empty)) ++ (⟨#[47]⟩ : ByteArray)) ++ (o11.2.2.1.getD (1 : Int).toNat ByteArray.empty)) ++ (⟨#[47]⟩ : ByteArray)) ++ (o11.2.2.1.getD (2 : Int).toNat ByteArray.empty)) ++ (⟨#[47]⟩ : ByteArray)) ++ (o11.2.2.1.getD (3 : Int).toNat ByteArray.empty)).size ≤ 9223372036854775807) then
                         match F_spec_paParse ((o11.2.1 ++ ((((((((⟨#[43]⟩ : ByteArray) ++ (o11.2.2.1.getD (0 : Int).toNat ByteArray.empty)) ++ (⟨#[47]⟩ : ByteArray)) ++ (o11.2.2.1.getD (1 : Int).toNat ByteArray.empty)) ++ (⟨#[47]⟩ : ByteArray)) ++ (o11.2.2.1.getD (2 : Int).toNat ByteArray.empty)) ++ (⟨#[47]⟩ : ByteArray)) ++ (o11.2.2.1.getD (3 : Int).toNat ByteArray.empty)))) with
                         | none => none
                         | some y12 =>
                          bif (decide ((o11.2.2.2.1.length : Int) > 2)) then
                           some (((((0, (0, 0, (0, 0, false))), (0, 0), ((0, 0, false), ByteArray.empty, 0)), false, ((0, (0, 0, (0, 0, false))), (0, 0), ((0, 0, false), ByteArray.empty, 0))), false))
                          else
                           bif ((y12.2.1 != 0)) then
                            some (((((0, (0, 0, (0, 0, false))), (0, 0), ((0, 0, false), ByteArray.empty, 0)), false, ((0, (0, 0, (0, 0, false))), (0, 0), ((0, 0, false), ByteArray.empty, 0))), false))
                           else
                            match F_spec_paShort (y12.1) with
                            | none => none
                            | some y13 =>
                             bif (!(y13.toList == o11.1.toList)) then
                              some (((((0, (0, 0, (0, 0, false))), (0, 0), ((0, 0, false), ByteArray.empty, 0)), false, ((0, (0, 0, (0, 0, false))), (0, 0), ((0, 0, false), ByteArray.empty, 0))), false))
                             else
                              some ((y12.1, true))
                        else none
                       else none
                      else none
                     else none
                    else none
                   else none
                  else none
                 else none
                else none
               else none
              else none
             else none
       else none
      else none
     else
      match F_spec_paParse ((y2.getD (0 : Int).toNat ByteArray.empty)) with
      | none => none
      | some y14 =>
       bif (decide ((y2.length : Int) > 2)) then
        some (((((0, (0, 0, (0, 0, false))), (0, 0), ((0, 0, false), ByteArray.empty, 0)), false, ((0, (0, 0, (0, 0, false))), (0, 0), ((0, 0, false), ByteArray.empty, 0))), false))
       else
        bif ((y14.2.1 != 0)) then
         some (((((0, (0, 0, (0, 0, false))), (0, 0), ((0, 0, false), ByteArray.empty, 0)), false, ((0, (0, 0, (0, 0, false))), (0, 0), ((0, 0, false), ByteArray.empty, 0))), false))
        else
         match F_spec_paShort (y14.1) with
         | none => none
         | some y15 =>
          bif (!(y15.toList == x.toList)) then
           some (((((0, (0, 0, (0, 0, false))), (0, 0), ((0, 0, false), ByteArray.empty, 0)), false, ((0, (0, 0, (0, 0, false))), (0, 0), ((0, 0, false), ByteArray.empty, 0))), false))
          else
           some ((y14.1, true))
    else none
noncomputable def c_spec_ParseShort : Con := { ps := [(.val, .str)], rs := [(.val, (.st (.pair (.st (.pair (.st (.pair (.int .i64) (.pair (.int .i64) (.pair (.int .i64) (.pair (.int .i64) (.pair (.int .i64) .bool)))))) (.pair (.st (.pair (.int .i64) (.int .i64))) (.pair (.st (.pair (.int .i64) (.pair (.int .i64) .bool))) (.st (.pair .str (.int .i64))))))) (.pair .bool (.st (.pair (.st (.pair (.int .i64) (.pair (.int .i64) (.pair (.int .i64) (.pair (.int .i64) (.pair (.int .i64) .bool)))))) (.pair (.st (.pair (.int .i64) (.int .i64))) (.pair (.st (.pair (.int .i64) (.pair (.int .i64) .bool))) (.st (.pair .str (.int .i64))))))))))), (.val, .bool)], F := F_spec_ParseShort }
noncomputable def env_spec_ParseShort : Env := { par := [], dp := false, settle := [], con := fun f => match f with | 106 => some c_spec_paGiven | 107 => some c_spec_l1Split | 108 => some c_spec_paParse | 109 => some c_spec_paShort | _ => none, clo := fun _ => none, T := tinf Tryz.prog }
noncomputable def loops_spec_ParseShort : Nat → Option Loop := fun n => match n with | 10 => some { pat := pat_spec_ParseShort_0, outs := outs_spec_ParseShort_0, run := runL (step_spec_ParseShort_0) } | _ => none
theorem step_spec_ParseShort_0_eq (s : ByteArray × ByteArray × Int × Int × (List ByteArray) × (List ByteArray) × (List ByteArray) × Int × Int × Int × Int × Int × Bool × Int × Int × Int × Int × Bool × ByteArray × Int × Bool × Int × Int × Int × Int × Int × Bool × Int × Int × Int × Int × Bool × ByteArray × Int) : stepEv env_spec_ParseShort loops_spec_ParseShort pat_spec_ParseShort_0 outs_spec_ParseShort_0 Tryz.f48 10 s = step_spec_ParseShort_0 s := by kernel_rfl
theorem F_spec_ParseShort_eq (x : ByteArray) : Fev env_spec_ParseShort loops_spec_ParseShort c_spec_ParseShort.ps c_spec_ParseShort.rs Tryz.f48 x = F_spec_ParseShort x := by kernel_rfl
theorem env_spec_ParseShort_ok : EnvOK Tryz.prog env_spec_ParseShort := envOK_of (fun f c h => by
  simp only [env_spec_ParseShort] at h
  split at h
  · cases h; exact con_spec_paGiven
  · cases h; exact con_spec_l1Split
  · cases h; exact con_spec_paParse
  · cases h; exact con_spec_paShort
  · cases h) (fun f c h => by cases h) rfl
theorem con_spec_ParseShort : ConOK Tryz.prog 48 c_spec_ParseShort := con_of_ev' (body := Tryz.f48.body.getD .skip) (Λ := loops_spec_ParseShort) mixed Tryz.func48 (by kernel_rfl) (by kernel_rfl) env_spec_ParseShort_ok (by kernel_rfl) (by kernel_rfl) (fun n L h => by
  unfold loops_spec_ParseShort at h
  split at h
  · cases h; exact fun s o ho => loop_ok (stepF := stepEv env_spec_ParseShort loops_spec_ParseShort pat_spec_ParseShort_0 outs_spec_ParseShort_0 Tryz.f48 10) (step_spec_ParseShort_0_eq) ho
  · cases h) F_spec_ParseShort_eq

theorem Cut_ex : ∃ f : ByteArray × ByteArray → Option (ByteArray × ByteArray × Bool), f = fun x => bif decide (x.1.size < 4294967281) then some (⟨(Lib.cut x.1.data.toList x.2.data.toList).1.toArray⟩, ⟨(Lib.cut x.1.data.toList x.2.data.toList).2.1.toArray⟩, (Lib.cut x.1.data.toList x.2.data.toList).2.2) else none := ⟨_, rfl⟩
noncomputable def F_strings_Cut : ByteArray × ByteArray → Option (ByteArray × ByteArray × Bool) := Classical.choose Cut_ex
theorem F_strings_Cut_is (x : ByteArray × ByteArray) : F_strings_Cut x = bif decide (x.1.size < 4294967281) then some (⟨(Lib.cut x.1.data.toList x.2.data.toList).1.toArray⟩, ⟨(Lib.cut x.1.data.toList x.2.data.toList).2.1.toArray⟩, (Lib.cut x.1.data.toList x.2.data.toList).2.2) else none := congrFun (Classical.choose_spec Cut_ex) x
noncomputable def c_strings_Cut : Con := { ps := [(.val, .str), (.val, .str)], rs := [(.val, .str), (.val, .str), (.val, .bool)], F := F_strings_Cut }
theorem cell_of_varC {w : World} {u : Value} (hm : ((some 0 : Option Nat).bind fun g => match w.heap[g]? with | some (.cells cs _ _) => some cs | _ => none) = some #[u]) : w.cell? ⟨0, 0, none⟩ = some u := by
  simp only [Option.bind_some] at hm
  split at hm
  · rename_i cs ety fz h
    obtain rfl := Option.some.inj hm
    rw [cell_of_row w 0 0 _ _ _ h]
    rfl
  · cases hm
theorem fr_drewN (w : World) (n : Nat) : Fr NoB w (w.drewN n) := ⟨rfl, rfl, rfl, Nat.le_refl _, fun _ _ _ => rfl, fun _ _ _ => rfl⟩
theorem calls_F_strings_Cut (w : World) (x : ByteArray × ByteArray) (y : ByteArray × ByteArray × Bool) (hy : F_strings_Cut x = some y) (ht : Tabs Tryz.prog w) :
    Calls Tryz.prog 110 #[.string x.1, .string x.2] w fun e w' => e = .returned (.tuple #[.string y.1, .string y.2.1, .bool y.2.2]) ∧ Fr NoB w w' := by
  rw [F_strings_Cut_is] at hy
  obtain ⟨hg, hy⟩ := bif_none hy
  have h0 := of_decide_eq_true hg
  obtain rfl := (Option.some.inj hy).symm
  obtain ⟨m, hm⟩ := (ht.2.2.1 "internal/bytealg.MaxLen" (List.mem_cons_self ..)).2
  have hcell : w.cell? ⟨0, 0, none⟩ = some (.int .i64 m) := by
    have hg : Tryz.prog.globalNamed "internal/bytealg.MaxLen" = some 0 := by kernel_rfl
    unfold World.var? at hm
    rw [hg] at hm
    exact cell_of_varC hm
  refine (Tryz.strings_Cut x.1 x.2 m w h0 hcell).mono ?_
  rintro e' w' ⟨rfl, k, rfl⟩
  exact ⟨rfl, fr_drewN _ _⟩
theorem con_strings_Cut : ConOK Tryz.prog 110 c_strings_Cut := con_of_pure ⟨Tryz.f110, Tryz.func110, by kernel_rfl, by kernel_rfl⟩ rfl rfl fun w x y hy ht => calls_F_strings_Cut w x y hy ht

theorem Split_ex : ∃ f : ByteArray × ByteArray → Option (List ByteArray), f = fun x => bif decide (x.1.size < 4294967281) && decide (1 ≤ x.2.size) then some (Lib.splitB x.2 0 (Lib.countB x.1 x.2) x.1) else none := ⟨_, rfl⟩
noncomputable def F_strings_Split : ByteArray × ByteArray → Option (List ByteArray) := Classical.choose Split_ex
theorem F_strings_Split_is (x : ByteArray × ByteArray) : F_strings_Split x = bif decide (x.1.size < 4294967281) && decide (1 ≤ x.2.size) then some (Lib.splitB x.2 0 (Lib.countB x.1 x.2) x.1) else none := congrFun (Classical.choose_spec Split_ex) x
noncomputable def c_strings_Split : Con := { ps := [(.val, .str), (.val, .str)], rs := [(.val, .slice .str)], F := F_strings_Split }
theorem cell_of_var {w : World} {u : Value} (hm : ((some 0 : Option Nat).bind fun g => match w.heap[g]? with | some (.cells cs _ _) => some cs | _ => none) = some #[u]) : w.cell? ⟨0, 0, none⟩ = some u := by
  simp only [Option.bind_some] at hm
  split at hm
  · rename_i cs ety fz h
    obtain rfl := Option.some.inj hm
    rw [cell_of_row w 0 0 _ _ _ h]
    rfl
  · cases hm
theorem fr_alloc (w : World) (o : Obj) : Fr NoB w (w.alloc o) := by
  have hs : (w.alloc o).heap.size = w.heap.size + 1 := Array.size_push ..
  have hb : ∀ b, b < w.heap.size → (w.alloc o).heap[b]? = w.heap[b]? := fun b hb => by
    show (w.heap.push o)[b]? = _
    rw [Array.getElem?_push, if_neg (by omega)]
  exact ⟨rfl, rfl, rfl, by omega, fun b h _ => hb b h, fun b _ h => hb b h⟩
theorem calls_F_strings_Split (w : World) (x : ByteArray × ByteArray) (y : List ByteArray) (hy : F_strings_Split x = some y) (ht : Tabs Tryz.prog w) :
    Calls Tryz.prog 111 #[.string x.1, .string x.2] w fun e w' => e = .returned (.slice (some ⟨w.heap.size, 0, none⟩) y.length y.length) ∧ w' = w.alloc (.cells (y.map Value.string).toArray 9) := by
  rw [F_strings_Split_is] at hy
  obtain ⟨hg, hy⟩ := bif_none hy
  obtain ⟨h0, h1⟩ := and_b hg
  have h0 := of_decide_eq_true h0
  have h1 := of_decide_eq_true h1
  have e : y = Lib.splitB x.2 0 (Lib.countB x.1 x.2) x.1 := (Option.some.inj hy).symm
  have hl : y.length = Lib.countB x.1 x.2 + 1 := by rw [e]; exact Lib.splitB_all x.2 h1 0 _ x.1 rfl
  obtain ⟨m, hm⟩ := (ht.2.2.1 "internal/bytealg.MaxLen" (List.mem_cons_self ..)).2
  have hcell : w.cell? ⟨0, 0, none⟩ = some (.int .i64 m) := by
    have hg : Tryz.prog.globalNamed "internal/bytealg.MaxLen" = some 0 := by kernel_rfl
    unfold World.var? at hm
    rw [hg] at hm
    exact cell_of_var hm
  refine (Tryz.strings_Split x.1 x.2 m w h0 hcell h1).mono ?_
  rintro e' w' ⟨rfl, rfl⟩
  rw [hl, ← e]
  exact ⟨rfl, rfl⟩
theorem rd_strs (P : Program) (w : World) (y : List ByteArray) : RdV P (.slice .str) (w.alloc (.cells (y.map Value.string).toArray 9)) (fun b => w.heap.size ≤ b) (.slice (some ⟨w.heap.size, 0, none⟩) y.length y.length) y := by
  have hk : (w.alloc (.cells ((List.map Value.string y).toArray) 9)).heap[w.heap.size]? = some (.cells ((List.map Value.string y).toArray) 9 (0, 0)) := by
    show (w.heap.push _)[w.heap.size]? = _
    rw [Array.getElem?_push, if_pos rfl]
  refine ⟨_, rfl, _, _, rfl, Nat.le_refl _, fun _ => ⟨w.heap.size, 0, rfl, ?_, Nat.le_refl _, fun i hi => ⟨[.string y[i]], rfl, rfl, ?_⟩⟩⟩
  · show w.heap.size < (w.heap.push _).size
    rw [Array.size_push]; exact Nat.lt_succ_self _
  · intro j u hj
    match j, hj with
    | 0, hj =>
      obtain rfl := Option.some.inj hj
      rw [cell_of_row _ _ _ _ _ _ hk]
      show ((List.map Value.string y).toArray)[0 + i * 1 + 0]? = _
      rw [List.getElem?_toArray, List.getElem?_map, show 0 + i * 1 + 0 = i by omega, List.getElem?_eq_getElem hi]
      rfl
    | j + 1, hj => cases hj
theorem con_strings_Split : ConOK Tryz.prog 111 c_strings_Split := by
  refine ⟨⟨Tryz.f111, Tryz.func111, by kernel_rfl, by kernel_rfl⟩, fun w Z X vals x y hy _ _ hold ht _ => ?_⟩
  rw [holds_valsL c_strings_Split.ps X vals x rfl hold]
  refine (calls_F_strings_Split w x y hy ht).mono ?_
  rintro e' w' ⟨rfl, rfl⟩
  exact ⟨_, [.slice (some ⟨w.heap.size, 0, none⟩) (List.length (α := ByteArray) y) (List.length (α := ByteArray) y)], NoB, NoB, rfl, rfl, rfl, (fr_alloc _ _).le, fun _ f => f.elim, fun _ f => f.elim, fun _ f => f.elim, holds_nil rfl _,
    ⟨_, [], rfl, RdV.agree (Agree.refl _ _) (fun b _ h => .inr ⟨h, fun f => f, fun f => f⟩) (rd_strs Tryz.prog w y), rfl⟩⟩
noncomputable def c_strings_SplitO : Con := { ps := [(.val, .str), (.val, .str)], rs := [(.io true, .slice .str)], F := F_strings_Split }
theorem ow_strs (P : Program) (w : World) (Z : Nat → Prop) (y : List ByteArray) : RowOf P false true .str (w.alloc (.cells (y.map Value.string).toArray 9)) Z (fun b => b = w.heap.size) (.slice (some ⟨w.heap.size, 0, none⟩) y.length y.length) y := by
  have hk : (w.alloc (.cells ((List.map Value.string y).toArray) 9)).heap[w.heap.size]? = some (.cells ((List.map Value.string y).toArray) 9 (0, 0)) := by
    show (w.heap.push _)[w.heap.size]? = _
    rw [Array.getElem?_push, if_pos rfl]
  refine ⟨some ⟨w.heap.size, 0, none⟩, y.length, rfl, Nat.le_refl _, .inr ⟨w.heap.size, _, 9, rfl, rfl, hk, ?_, fun _ => NoB, fun _ _ f => f.elim, fun _ _ _ _ f => f.elim, fun i hi => ?_⟩⟩
  · show y.length * 1 ≤ ((List.map Value.string y).toArray).size
    simp
  · show OwC P true .str (w.alloc (.cells (y.map Value.string).toArray 9)) Z NoB (((List.map Value.string y).toArray.toList.drop (i * 1)).take 1) y[i]
    have e : ((List.map Value.string y).toArray.toList.drop (i * 1)).take 1 = [.string y[i]] := by
      rw [Nat.mul_one]
      show ((List.map Value.string y).drop i).take 1 = _
      rw [List.drop_eq_getElem_cons (by simpa using hi)]
      simp
    rw [e]
    rfl
theorem con_strings_SplitO : ConOK Tryz.prog 111 c_strings_SplitO := by
  refine ⟨⟨Tryz.f111, Tryz.func111, by kernel_rfl, by kernel_rfl⟩, fun w Z X vals x y hy _ _ hold ht _ => ?_⟩
  rw [holds_valsL c_strings_SplitO.ps X vals x rfl hold]
  refine (calls_F_strings_Split w x y hy ht).mono ?_
  rintro e' w' ⟨rfl, rfl⟩
  refine ⟨_, [.slice (some ⟨w.heap.size, 0, none⟩) (List.length (α := ByteArray) y) (List.length (α := ByteArray) y)], fun b => b = w.heap.size, NoB, rfl, rfl, rfl, (fr_alloc _ _).le, fun b hb => ⟨.inl (by rw [hb]; exact Nat.le_refl _), ?_⟩, fun _ f => f.elim, fun _ _ f => f, holds_nil rfl _,
    _, [], fun b => b = w.heap.size, NoB, rfl, fun _ h => h, fun _ f => f.elim, fun _ _ f => f, ow_strs Tryz.prog w _ y, rfl⟩
  rw [hb]
  show w.heap.size < (w.heap.push _).size
  rw [Array.size_push]; exact Nat.lt_succ_self _

theorem fr_of_belowJ {w w' : World} (h : Go.RowKit.Below w.heap.size w w') : Fr NoB w w' := ⟨h.os, h.tape, h.output, h.size, fun b hb _ => h.block b hb, fun b _ hb => h.block b hb⟩
theorem Join_ex : ∃ f : List ByteArray × ByteArray → Option ByteArray, f = fun x => bif decide (x.1.length ≤ 140737488355328) && decide ((Lib.join (x.1.map (·.data.toList)) x.2.data.toList).length ≤ 140737488355328) then some ⟨(Lib.join (x.1.map (·.data.toList)) x.2.data.toList).toArray⟩ else none := ⟨_, rfl⟩
noncomputable def F_strings_Join : List ByteArray × ByteArray → Option ByteArray := Classical.choose Join_ex
theorem F_strings_Join_is (x : List ByteArray × ByteArray) : F_strings_Join x = bif decide (x.1.length ≤ 140737488355328) && decide ((Lib.join (x.1.map (·.data.toList)) x.2.data.toList).length ≤ 140737488355328) then some ⟨(Lib.join (x.1.map (·.data.toList)) x.2.data.toList).toArray⟩ else none := congrFun (Classical.choose_spec Join_ex) x
noncomputable def c_strings_Join : Con := { ps := [(.val, .slice .str), (.val, .str)], rs := [(.val, .str)], F := F_strings_Join }
theorem con_strings_Join : ConOK Tryz.prog 112 c_strings_Join := by
  refine ⟨⟨Tryz.f112, Tryz.func112, by kernel_rfl, by kernel_rfl⟩, fun w Z X vals (x : List ByteArray × ByteArray) (y : ByteArray) hy _ _ hold ht _ => ?_⟩
  have hy : F_strings_Join x = some y := hy
  obtain ⟨xs, sep⟩ := x
  rw [F_strings_Join_is] at hy
  obtain ⟨hg, hy⟩ := bif_none hy
  obtain ⟨h0, h1⟩ := and_b hg
  have h0 : xs.length ≤ 140737488355328 := of_decide_eq_true h0
  have h1 := of_decide_eq_true h1
  obtain ⟨v, r, rfl, ⟨cs, hbox, hrd⟩, v2, r2, rfl, ⟨cs2, hbox2, hrd2⟩, hr⟩ := hold
  obtain rfl : r2 = [] := hr
  have hbox : cs = [v] := hbox
  subst hbox
  have hbox2 : cs2 = [v2] := hbox2
  subst hbox2
  obtain rfl : v2 = .string sep := (List.cons.inj (show [v2] = [.string sep] from hrd2)).1
  obtain ⟨A, cap, e, hle, hcs⟩ := (show RdC Tryz.prog (.slice .str) w Z [v] xs from hrd)
  obtain rfl : v = .slice A xs.length cap := (List.cons.inj e).1
  have hy' : y = ⟨(Lib.join (xs.map (·.data.toList)) sep.data.toList).toArray⟩ := (Option.some.inj hy).symm
  subst hy'
  have key : Calls Tryz.prog 112 #[.slice A xs.length cap, .string sep] w fun e w' => e = .returned (.string ⟨(Lib.join (xs.map (·.data.toList)) sep.data.toList).toArray⟩) ∧ Fr NoB w w' := by
    rcases Nat.eq_zero_or_pos xs.length with hz | hz
    · have hx : xs = [] := List.eq_nil_of_length_eq_zero hz
      subst hx
      refine (Tryz.strings_Join_none A cap sep w).mono ?_
      rintro e' w' ⟨rfl, rfl⟩
      exact ⟨rfl, Fr.refl _ _⟩
    · obtain ⟨b, o, rfl, hlt, _, hel⟩ := hcs hz
      refine (Tryz.strings_Join b o cap xs sep w (fun j x hj => ?_) hlt h0 hle h1).mono ?_
      · obtain ⟨hj', hjx⟩ := List.getElem?_eq_some_iff.1 hj
        obtain ⟨us, hu, hr, hat⟩ := hel j hj'
        have hr' : us = [.string xs[j]] := hr
        subst hr'
        have := hat 0 _ rfl
        rw [hjx] at this
        simpa [Ty.cells] using this
      · rintro e' w' ⟨rfl, hb⟩
        exact ⟨rfl, fr_of_belowJ hb⟩
  refine key.mono ?_
  rintro e' w' ⟨rfl, hfr⟩
  exact ⟨_, [.string _], NoB, NoB, rfl, rfl, rfl, hfr.le, fun _ f => f.elim, fun _ f => f.elim, fun _ f => f.elim, holds_nil rfl _,
    ⟨_, [], rfl, ⟨_, rfl, rfl⟩, rfl⟩⟩

theorem Count_ex : ∃ f : ByteArray × ByteArray → Option Int, f = fun x => match x.2.data.toList with | [c] => some ((Lib.countByte x.1.data.toList c : Nat) : Int) | _ => none := ⟨_, rfl⟩
noncomputable def F_strings_Count : ByteArray × ByteArray → Option Int := Classical.choose Count_ex
theorem F_strings_Count_is (x : ByteArray × ByteArray) : F_strings_Count x = match x.2.data.toList with | [c] => some ((Lib.countByte x.1.data.toList c : Nat) : Int) | _ => none := congrFun (Classical.choose_spec Count_ex) x
noncomputable def c_strings_Count : Con := { ps := [(.val, .str), (.val, .str)], rs := [(.val, .int .i64)], F := F_strings_Count }
theorem calls_F_strings_Count (w : World) (s t : ByteArray) (y : Int) (hy : F_strings_Count (s, t) = some y) : Calls Tryz.prog 192 #[.string s, .string t] w fun e w' => e = .returned (.int .i64 y) ∧ Fr NoB w w' := by
  obtain ⟨⟨l⟩⟩ := t
  rw [F_strings_Count_is] at hy
  match l, hy with
  | [c], hy =>
    have e : y = ((Lib.countByte s.data.toList c : Nat) : Int) := (Option.some.inj hy).symm
    subst e
    refine (Tryz.strings_Count_one s c w).mono ?_
    rintro e w' ⟨rfl, rfl⟩
    exact ⟨rfl, Fr.refl _ _⟩
  | [], hy => cases hy
  | _ :: _ :: _, hy => cases hy
theorem con_strings_Count : ConOK Tryz.prog 192 c_strings_Count := con_of_pure ⟨Tryz.f192, Tryz.func192, by kernel_rfl, by kernel_rfl⟩ rfl rfl fun w x y hy _ => calls_F_strings_Count w x.1 x.2 y hy

noncomputable def F_impl_within (x : Int × Int × Int) : Option (Bool) :=
 bif (decide (x.1 ≥ x.2.1)) then
  some ((decide (x.1 ≤ x.2.2)))
 else
  some (false)
noncomputable def c_impl_within : Con := { ps := [(.val, (.int .i64)), (.val, (.int .i64)), (.val, (.int .i64))], rs := [(.val, .bool)], F := F_impl_within }
noncomputable def env_impl_within : Env := { par := [], dp := false, settle := [], con := fun _ => none, clo := fun _ => none, T := tinf Tryz.prog }
noncomputable def loops_impl_within : Nat → Option Loop := fun n => none
theorem F_impl_within_eq (x : Int × Int × Int) : Fev env_impl_within loops_impl_within c_impl_within.ps c_impl_within.rs Tryz.f61 x = F_impl_within x := by kernel_rfl
theorem env_impl_within_ok : EnvOK Tryz.prog env_impl_within := envOK_of (fun f c h => by cases h) (fun f c h => by cases h) rfl
theorem con_impl_within : ConOK Tryz.prog 61 c_impl_within := con_of_ev' (body := Tryz.f61.body.getD .skip) (Λ := loops_impl_within) mixed Tryz.func61 (by kernel_rfl) (by kernel_rfl) env_impl_within_ok (by kernel_rfl) (by kernel_rfl) (fun n L h => by cases h) F_impl_within_eq

noncomputable def F_impl_Shape_maySpread (x : (Int × (Int × (Int × (Int × (Int × Bool)))))) : Option (Bool) :=
 bif ((x.2.2.1 == 0)) then
  bif ((x.2.1 == 0)) then
   some (true)
  else
   bif ((x.2.2.2.1 == 0)) then
    some (true)
   else
    bif ((x.2.2.2.1 == 0)) then
     some (((x.2.2.2.2.1 == 0)))
    else
     some (false)
 else
  bif ((x.2.2.2.1 == 0)) then
   some (((x.2.2.2.2.1 == 0)))
  else
   some (false)
noncomputable def c_impl_Shape_maySpread : Con := { ps := [(.val, (.st (.pair (.int .i64) (.pair (.int .i64) (.pair (.int .i64) (.pair (.int .i64) (.pair (.int .i64) .bool)))))))], rs := [(.val, .bool)], F := F_impl_Shape_maySpread }
noncomputable def env_impl_Shape_maySpread : Env := { par := [], dp := false, settle := [], con := fun _ => none, clo := fun _ => none, T := tinf Tryz.prog }
noncomputable def loops_impl_Shape_maySpread : Nat → Option Loop := fun n => none
theorem F_impl_Shape_maySpread_eq (x : (Int × (Int × (Int × (Int × (Int × Bool)))))) : Fev env_impl_Shape_maySpread loops_impl_Shape_maySpread c_impl_Shape_maySpread.ps c_impl_Shape_maySpread.rs Tryz.f313 x = F_impl_Shape_maySpread x := by kernel_rfl
theorem env_impl_Shape_maySpread_ok : EnvOK Tryz.prog env_impl_Shape_maySpread := envOK_of (fun f c h => by cases h) (fun f c h => by cases h) rfl
theorem con_impl_Shape_maySpread : ConOK Tryz.prog 313 c_impl_Shape_maySpread := con_of_ev' (body := Tryz.f313.body.getD .skip) (Λ := loops_impl_Shape_maySpread) mixed Tryz.func313 (by kernel_rfl) (by kernel_rfl) env_impl_Shape_maySpread_ok (by kernel_rfl) (by kernel_rfl) (fun n L h => by cases h) F_impl_Shape_maySpread_eq

noncomputable def F_impl_Shape_with (x : (Int × (Int × (Int × (Int × (Int × Bool))))) × Int × Int) : Option ((Int × (Int × (Int × (Int × (Int × Bool)))))) :=
 bif ((x.2.1 == 0)) then
  bif x.1.2.2.2.2.2 then
   match F_impl_Shape_maySpread ((x.2.2, x.1.2)) with
   | none => none
   | some y1 =>
    some ((x.2.2, (x.1.2.1, x.1.2.2.1, (x.1.2.2.2.1, x.1.2.2.2.2.1, y1))))
  else
   some ((x.2.2, (x.1.2.1, x.1.2.2.1, (x.1.2.2.2.1, x.1.2.2.2.2.1, false))))
 else
  bif ((x.2.1 == 1)) then
   bif x.1.2.2.2.2.2 then
    match F_impl_Shape_maySpread ((x.1.1, x.2.2, x.1.2.2)) with
    | none => none
    | some y2 =>
     some ((x.1.1, (x.2.2, x.1.2.2.1, (x.1.2.2.2.1, x.1.2.2.2.2.1, y2))))
   else
    some ((x.1.1, (x.2.2, x.1.2.2.1, (x.1.2.2.2.1, x.1.2.2.2.2.1, false))))
  else
   bif ((x.2.1 == 2)) then
    bif x.1.2.2.2.2.2 then
     match F_impl_Shape_maySpread ((x.1.1, (x.1.2.1, x.2.2, x.1.2.2.2))) with
     | none => none
     | some y3 =>
      some ((x.1.1, (x.1.2.1, x.2.2, (x.1.2.2.2.1, x.1.2.2.2.2.1, y3))))
    else
     some ((x.1.1, (x.1.2.1, x.2.2, (x.1.2.2.2.1, x.1.2.2.2.2.1, false))))
   else
    bif ((x.2.1 == 3)) then
     bif x.1.2.2.2.2.2 then
      match F_impl_Shape_maySpread ((x.1.1, x.1.2.1, (x.1.2.2.1, x.2.2, x.1.2.2.2.2))) with
      | none => none
      | some y4 =>
       some ((x.1.1, (x.1.2.1, x.1.2.2.1, (x.2.2, x.1.2.2.2.2.1, y4))))
     else
      some ((x.1.1, (x.1.2.1, x.1.2.2.1, (x.2.2, x.1.2.2.2.2.1, false))))
    else
     bif x.1.2.2.2.2.2 then
      match F_impl_Shape_maySpread ((x.1.1, (x.1.2.1, x.1.2.2.1, (x.1.2.2.2.1, x.2.2, x.1.2.2.2.2.2)))) with
      | none => none
      | some y5 =>
       some ((x.1.1, (x.1.2.1, x.1.2.2.1, (x.1.2.2.2.1, x.2.2, y5))))
     else
      some ((x.1.1, (x.1.2.1, x.1.2.2.1, (x.1.2.2.2.1, x.2.2, false))))
noncomputable def c_impl_Shape_with : Con := { ps := [(.val, (.st (.pair (.int .i64) (.pair (.int .i64) (.pair (.int .i64) (.pair (.int .i64) (.pair (.int .i64) .bool))))))), (.val, (.int .i64)), (.val, (.int .i64))], rs := [(.val, (.st (.pair (.int .i64) (.pair (.int .i64) (.pair (.int .i64) (.pair (.int .i64) (.pair (.int .i64) .bool)))))))], F := F_impl_Shape_with }
noncomputable def env_impl_Shape_with : Env := { par := [], dp := false, settle := [], con := fun f => match f with | 313 => some c_impl_Shape_maySpread | _ => none, clo := fun _ => none, T := tinf Tryz.prog }
noncomputable def loops_impl_Shape_with : Nat → Option Loop := fun n => none
theorem F_impl_Shape_with_eq (x : (Int × (Int × (Int × (Int × (Int × Bool))))) × Int × Int) : Fev env_impl_Shape_with loops_impl_Shape_with c_impl_Shape_with.ps c_impl_Shape_with.rs Tryz.f235 x = F_impl_Shape_with x := by kernel_rfl
theorem env_impl_Shape_with_ok : EnvOK Tryz.prog env_impl_Shape_with := envOK_of (fun f c h => by
  simp only [env_impl_Shape_with] at h
  split at h
  · cases h; exact con_impl_Shape_maySpread
  · cases h) (fun f c h => by cases h) rfl
theorem con_impl_Shape_with : ConOK Tryz.prog 235 c_impl_Shape_with := con_of_ev' (body := Tryz.f235.body.getD .skip) (Λ := loops_impl_Shape_with) mixed Tryz.func235 (by kernel_rfl) (by kernel_rfl) env_impl_Shape_with_ok (by kernel_rfl) (by kernel_rfl) (fun n L h => by cases h) F_impl_Shape_with_eq

noncomputable def F_impl_Shape_bends (x : (Int × (Int × (Int × (Int × (Int × Bool)))))) : Option ((List Int)) :=
 some ([x.2.1, x.2.2.1, x.2.2.2.1, x.2.2.2.2.1])
noncomputable def c_impl_Shape_bends : Con := { ps := [(.val, (.st (.pair (.int .i64) (.pair (.int .i64) (.pair (.int .i64) (.pair (.int .i64) (.pair (.int .i64) .bool)))))))], rs := [(.io true, (.slice (.int .i64)))], F := F_impl_Shape_bends }
noncomputable def env_impl_Shape_bends : Env := { par := [], dp := false, settle := [], con := fun _ => none, clo := fun _ => none, T := tinf Tryz.prog }
noncomputable def loops_impl_Shape_bends : Nat → Option Loop := fun n => none
theorem F_impl_Shape_bends_eq (x : (Int × (Int × (Int × (Int × (Int × Bool)))))) : Fev env_impl_Shape_bends loops_impl_Shape_bends c_impl_Shape_bends.ps c_impl_Shape_bends.rs Tryz.f284 x = F_impl_Shape_bends x := by kernel_rfl
theorem env_impl_Shape_bends_ok : EnvOK Tryz.prog env_impl_Shape_bends := envOK_of (fun f c h => by cases h) (fun f c h => by cases h) rfl
theorem con_impl_Shape_bends : ConOK Tryz.prog 284 c_impl_Shape_bends := con_of_ev' (body := Tryz.f284.body.getD .skip) (Λ := loops_impl_Shape_bends) mixed Tryz.func284 (by kernel_rfl) (by kernel_rfl) env_impl_Shape_bends_ok (by kernel_rfl) (by kernel_rfl) (fun n L h => by cases h) F_impl_Shape_bends_eq

noncomputable def F_impl_allWithin_1 (x : Int × Int × Int) : Option (Bool) :=
 match F_impl_within (x) with
 | none => none
 | some y1 =>
  some ((!y1))
noncomputable def c_impl_allWithin_1 : Con := { ps := [(.val, (.int .i64)), (.val, (.ptr (.int .i64))), (.val, (.ptr (.int .i64)))], rs := [(.val, .bool)], F := F_impl_allWithin_1 }
noncomputable def env_impl_allWithin_1 : Env := { par := [], dp := false, settle := [], con := fun f => match f with | 61 => some c_impl_within | _ => none, clo := fun _ => none, T := tinf Tryz.prog }
noncomputable def loops_impl_allWithin_1 : Nat → Option Loop := fun n => none
theorem F_impl_allWithin_1_eq (x : Int × Int × Int) : Fev env_impl_allWithin_1 loops_impl_allWithin_1 c_impl_allWithin_1.ps c_impl_allWithin_1.rs Tryz.f359 x = F_impl_allWithin_1 x := by kernel_rfl
theorem env_impl_allWithin_1_ok : EnvOK Tryz.prog env_impl_allWithin_1 := envOK_of (fun f c h => by
  simp only [env_impl_allWithin_1] at h
  split at h
  · cases h; exact con_impl_within
  · cases h) (fun f c h => by cases h) rfl
theorem con_impl_allWithin_1 : ConOK Tryz.prog 359 c_impl_allWithin_1 := con_of_ev' (body := Tryz.f359.body.getD .skip) (Λ := loops_impl_allWithin_1) mixed Tryz.func359 (by kernel_rfl) (by kernel_rfl) env_impl_allWithin_1_ok (by kernel_rfl) (by kernel_rfl) (fun n L h => by cases h) F_impl_allWithin_1_eq

noncomputable def step_slices_IndexFunc_int_int_0 (s : (List Int) × (Int → Option Bool) × Int × Int) : Option (((List Int) × (Int → Option Bool) × Int × Int) ⊕ ((Int) ⊕ (Unit))) :=
 bif (decide (s.2.2.2 < s.2.2.1)) then
  bif decide (0 ≤ s.2.2.2) && decide (s.2.2.2 < (s.1.length : Int)) then
   match s.2.1 ((s.1.getD (s.2.2.2).toNat 0)) with
   | none => none
   | some y3 =>
    bif y3 then
     some (.inr (.inl (s.2.2.2)))
    else
     let v4 := IntKind.i64.wrap (s.2.2.2 + 1)
     some (.inl ((s.1, (s.2.1, s.2.2.1, v4))))
  else none
 else
  some (.inr (.inr (())))
def pat_slices_IndexFunc_int_int_0 : Pat := { tmps := [.v (.slice (.int .i64)), .v (.fn (.int .i64) .bool), .any, .any, .any, .any, .any, .v (.int .i64), .v (.int .i64), .any, .any, .any, .any, .any, .any, .any, .any, .any, .any], blks := [] }
def outs_slices_IndexFunc_int_int_0 : List (Exit × Pat) := [(.ret, { tmps := [.any, .any, .any, .any, .v (.int .i64), .any, .any, .any, .any, .any, .any, .any, .any, .any, .any, .any, .any, .any, .any], blks := [] }), (.exit 0, { tmps := [.any, .any, .any, .any, .any, .any, .any, .any, .any, .any, .any, .any, .any, .any, .any, .any, .any, .any, .any], blks := [] })]
noncomputable def F_slices_IndexFunc_int_int (x : (List Int) × (Int → Option Bool)) : Option (Int) :=
 match runL step_slices_IndexFunc_int_int_0 ((x.1, (x.2, (x.1.length : Int), 0))) with
 | none => none
 | some (.inl o5) =>
  some (o5)
 | some (.inr o5) =>
  some ((-1))
noncomputable def c_slices_IndexFunc_int_int : Con := { ps := [(.val, (.slice (.int .i64))), (.val, (.fn (.int .i64) .bool))], rs := [(.val, (.int .i64))], F := F_slices_IndexFunc_int_int }
noncomputable def env_slices_IndexFunc_int_int : Env := { par := [], dp := false, settle := [], con := fun _ => none, clo := fun _ => none, T := tinf Tryz.prog }
noncomputable def loops_slices_IndexFunc_int_int : Nat → Option Loop := fun n => match n with | 2 => some { pat := pat_slices_IndexFunc_int_int_0, outs := outs_slices_IndexFunc_int_int_0, run := runL (step_slices_IndexFunc_int_int_0) } | _ => none
theorem step_slices_IndexFunc_int_int_0_eq (s : (List Int) × (Int → Option Bool) × Int × Int) : stepEv env_slices_IndexFunc_int_int loops_slices_IndexFunc_int_int pat_slices_IndexFunc_int_int_0 outs_slices_IndexFunc_int_int_0 Tryz.f134 2 s = step_slices_IndexFunc_int_int_0 s := by kernel_rfl
theorem F_slices_IndexFunc_int_int_eq (x : (List Int) × (Int → Option Bool)) : Fev env_slices_IndexFunc_int_int loops_slices_IndexFunc_int_int c_slices_IndexFunc_int_int.ps c_slices_IndexFunc_int_int.rs Tryz.f134 x = F_slices_IndexFunc_int_int x := by kernel_rfl
theorem env_slices_IndexFunc_int_int_ok : EnvOK Tryz.prog env_slices_IndexFunc_int_int := envOK_of (fun f c h => by cases h) (fun f c h => by cases h) rfl
theorem con_slices_IndexFunc_int_int : ConOK Tryz.prog 134 c_slices_IndexFunc_int_int := con_of_ev' (body := Tryz.f134.body.getD .skip) (Λ := loops_slices_IndexFunc_int_int) mixed Tryz.func134 (by kernel_rfl) (by kernel_rfl) env_slices_IndexFunc_int_int_ok (by kernel_rfl) (by kernel_rfl) (fun n L h => by
  unfold loops_slices_IndexFunc_int_int at h
  split at h
  · cases h; exact fun s o ho => loop_ok (stepF := stepEv env_slices_IndexFunc_int_int loops_slices_IndexFunc_int_int pat_slices_IndexFunc_int_int_0 outs_slices_IndexFunc_int_int_0 Tryz.f134 2) (step_slices_IndexFunc_int_int_0_eq) ho
  · cases h) F_slices_IndexFunc_int_int_eq

noncomputable def F_slices_ContainsFunc_int_int (x : (List Int) × (Int → Option Bool)) : Option (Bool) :=
 match F_slices_IndexFunc_int_int (x) with
 | none => none
 | some y1 =>
  some ((decide (y1 ≥ 0)))
noncomputable def c_slices_ContainsFunc_int_int : Con := { ps := [(.val, (.slice (.int .i64))), (.val, (.fn (.int .i64) .bool))], rs := [(.val, .bool)], F := F_slices_ContainsFunc_int_int }
noncomputable def env_slices_ContainsFunc_int_int : Env := { par := [], dp := false, settle := [], con := fun f => match f with | 134 => some c_slices_IndexFunc_int_int | _ => none, clo := fun _ => none, T := tinf Tryz.prog }
noncomputable def loops_slices_ContainsFunc_int_int : Nat → Option Loop := fun n => none
theorem F_slices_ContainsFunc_int_int_eq (x : (List Int) × (Int → Option Bool)) : Fev env_slices_ContainsFunc_int_int loops_slices_ContainsFunc_int_int c_slices_ContainsFunc_int_int.ps c_slices_ContainsFunc_int_int.rs Tryz.f358 x = F_slices_ContainsFunc_int_int x := by kernel_rfl
theorem env_slices_ContainsFunc_int_int_ok : EnvOK Tryz.prog env_slices_ContainsFunc_int_int := envOK_of (fun f c h => by
  simp only [env_slices_ContainsFunc_int_int] at h
  split at h
  · cases h; exact con_slices_IndexFunc_int_int
  · cases h) (fun f c h => by cases h) rfl
theorem con_slices_ContainsFunc_int_int : ConOK Tryz.prog 358 c_slices_ContainsFunc_int_int := con_of_ev' (body := Tryz.f358.body.getD .skip) (Λ := loops_slices_ContainsFunc_int_int) mixed Tryz.func358 (by kernel_rfl) (by kernel_rfl) env_slices_ContainsFunc_int_int_ok (by kernel_rfl) (by kernel_rfl) (fun n L h => by cases h) F_slices_ContainsFunc_int_int_eq

noncomputable def K_impl_allWithin_1 (q : Int × Int) (x : Int) : Option (Bool) := F_impl_allWithin_1 (x, q)
noncomputable def k_impl_allWithin_1 : CloCon := { caps := [(.int .i64), (.int .i64)], a := (.int .i64), r := .bool, F := K_impl_allWithin_1 }
theorem clo_impl_allWithin_1 : CloOK Tryz.prog 359 k_impl_allWithin_1 := clo_of_con k_impl_allWithin_1 F_impl_allWithin_1 con_impl_allWithin_1 rfl (fun kx x y h => ⟨y, h, rfl⟩)
noncomputable def F_impl_allWithin (x : (List Int) × Int × Int) : Option (Bool) :=
 match F_slices_ContainsFunc_int_int ((x.1, (K_impl_allWithin_1 x.2))) with
 | none => none
 | some y1 =>
  some ((!y1))
noncomputable def c_impl_allWithin : Con := { ps := [(.val, (.slice (.int .i64))), (.val, (.int .i64)), (.val, (.int .i64))], rs := [(.val, .bool)], F := F_impl_allWithin }
noncomputable def env_impl_allWithin : Env := { par := [], dp := false, settle := [], con := fun f => match f with | 358 => some c_slices_ContainsFunc_int_int | _ => none, clo := fun f => match f with | 359 => some k_impl_allWithin_1 | _ => none, T := tinf Tryz.prog }
noncomputable def loops_impl_allWithin : Nat → Option Loop := fun n => none
theorem F_impl_allWithin_eq (x : (List Int) × Int × Int) : Fev env_impl_allWithin loops_impl_allWithin c_impl_allWithin.ps c_impl_allWithin.rs Tryz.f314 x = F_impl_allWithin x := by kernel_rfl
theorem env_impl_allWithin_ok : EnvOK Tryz.prog env_impl_allWithin := envOK_of (fun f c h => by
  simp only [env_impl_allWithin] at h
  split at h
  · cases h; exact con_slices_ContainsFunc_int_int
  · cases h) (fun f c h => by
  simp only [env_impl_allWithin] at h
  split at h
  · cases h; exact clo_impl_allWithin_1
  · cases h) rfl
theorem con_impl_allWithin : ConOK Tryz.prog 314 c_impl_allWithin := con_of_ev' (body := Tryz.f314.body.getD .skip) (Λ := loops_impl_allWithin) mixed Tryz.func314 (by kernel_rfl) (by kernel_rfl) env_impl_allWithin_ok (by kernel_rfl) (by kernel_rfl) (fun n L h => by cases h) F_impl_allWithin_eq

noncomputable def F_impl_IsShape (x : (Int × (Int × (Int × (Int × (Int × Bool)))))) : Option (Bool) :=
 match F_impl_Shape_bends (x) with
 | none => none
 | some y1 =>
  bif decide (([x.1].length + y1.length) * 8 ≤ 140737488355328) then
   let v2 := [x.1] ++ y1
   match F_impl_allWithin ((v2, 0, 2)) with
   | none => none
   | some y3 =>
    bif (!y3) then
     some (false)
    else
     bif (!x.2.2.2.2.2) then
      some (true)
     else
      match F_impl_Shape_maySpread (x) with
      | none => none
      | some y4 =>
       some (y4)
  else none
noncomputable def c_impl_IsShape : Con := { ps := [(.val, (.st (.pair (.int .i64) (.pair (.int .i64) (.pair (.int .i64) (.pair (.int .i64) (.pair (.int .i64) .bool)))))))], rs := [(.val, .bool)], F := F_impl_IsShape }
noncomputable def env_impl_IsShape : Env := { par := [], dp := false, settle := [], con := fun f => match f with | 284 => some c_impl_Shape_bends | 313 => some c_impl_Shape_maySpread | 314 => some c_impl_allWithin | _ => none, clo := fun _ => none, T := tinf Tryz.prog }
noncomputable def loops_impl_IsShape : Nat → Option Loop := fun n => none
theorem F_impl_IsShape_eq (x : (Int × (Int × (Int × (Int × (Int × Bool)))))) : Fev env_impl_IsShape loops_impl_IsShape c_impl_IsShape.ps c_impl_IsShape.rs Tryz.f236 x = F_impl_IsShape x := by kernel_rfl
theorem env_impl_IsShape_ok : EnvOK Tryz.prog env_impl_IsShape := envOK_of (fun f c h => by
  simp only [env_impl_IsShape] at h
  split at h
  · cases h; exact con_impl_Shape_bends
  · cases h; exact con_impl_Shape_maySpread
  · cases h; exact con_impl_allWithin
  · cases h) (fun f c h => by cases h) rfl
theorem con_impl_IsShape : ConOK Tryz.prog 236 c_impl_IsShape := con_of_ev' (body := Tryz.f236.body.getD .skip) (Λ := loops_impl_IsShape) mixed Tryz.func236 (by kernel_rfl) (by kernel_rfl) env_impl_IsShape_ok (by kernel_rfl) (by kernel_rfl) (fun n L h => by cases h) F_impl_IsShape_eq

theorem Itoa_ex : ∃ f : Int → Option ByteArray, f = fun n => bif decide (-9223372036854775808 ≤ n) && decide (n ≤ 9223372036854775807) then some ⟨(Lib.itoa n).toArray⟩ else none := ⟨_, rfl⟩
noncomputable def F_strconv_Itoa : Int → Option ByteArray := Classical.choose Itoa_ex
theorem F_strconv_Itoa_is (n : Int) : F_strconv_Itoa n = bif decide (-9223372036854775808 ≤ n) && decide (n ≤ 9223372036854775807) then some ⟨(Lib.itoa n).toArray⟩ else none := congrFun (Classical.choose_spec Itoa_ex) n
noncomputable def c_strconv_Itoa : Con := { ps := [(.val, .int .i64)], rs := [(.val, .str)], F := F_strconv_Itoa }
theorem calls_F_strconv_Itoa (w : World) (x : Int) (y : ByteArray) (hy : F_strconv_Itoa x = some y) (ht : Tabs Tryz.prog w) : Calls Tryz.prog 202 #[.int .i64 x] w fun e w' => e = .returned (.string y) ∧ Fr NoB w w' := by
  rw [F_strconv_Itoa_is] at hy
  obtain ⟨hg, hy⟩ := bif_none hy
  obtain ⟨h0, h1⟩ := and_b hg
  have h0 : -9223372036854775808 ≤ x := of_decide_eq_true h0
  have h1 : x ≤ 9223372036854775807 := of_decide_eq_true h1
  have e : y = ⟨(Lib.itoa x).toArray⟩ := (Option.some.inj hy).symm
  subst e
  refine (Tryz.strconv_Itoa x h0 h1 w (ht.1 _ (List.mem_cons_self ..)).2).mono ?_
  rintro e w' ⟨rfl, k, os, rfl⟩
  exact ⟨rfl, fr_of_below (Go.Lib.below_grow _ _ (Nat.le_refl _) k os)⟩
theorem con_strconv_Itoa : ConOK Tryz.prog 202 c_strconv_Itoa := con_of_pure ⟨Tryz.f202, Tryz.func202, by kernel_rfl, by kernel_rfl⟩ rfl rfl fun w x y hy ht => calls_F_strconv_Itoa w x y hy ht

noncomputable def step_impl_Shape_text_0 (s : ByteArray × Int × Int × (List Int) × Int × Int × Int × Int × Int × Bool) : Option ((ByteArray × Int × Int × (List Int) × Int × Int × Int × Int × Int × Bool) ⊕ ((ByteArray × Int × Int × Int × Int × Int × Bool))) :=
 bif (decide (s.2.2.1 < s.2.1)) then
  bif decide (0 ≤ s.2.2.1) && decide (s.2.2.1 < (s.2.2.2.1.length : Int)) then
   match F_strconv_Itoa ((s.2.2.2.1.getD (s.2.2.1).toNat 0)) with
   | none => none
   | some y5 =>
    bif decide (s.1.size + y5.size ≤ 9223372036854775807) then
     let v6 := IntKind.i64.wrap (s.2.2.1 + 1)
     some (.inl (((s.1 ++ y5), (s.2.1, v6, s.2.2.2))))
    else none
  else none
 else
  some (.inr ((s.1, s.2.2.2.2)))
def pat_impl_Shape_text_0 : Pat := { tmps := [.any, .ptr 64 0, .any, .v .str, .any, .any, .any, .any, .any, .any, .own 640, .v (.int .i64), .v (.int .i64), .any, .any, .any, .any, .any, .any, .any, .any, .any, .any, .any, .any, .any], blks := [(640, .row true (.int .i64)), (64, .box [.v (.int .i64), .v (.int .i64), .v (.int .i64), .v (.int .i64), .v (.int .i64), .v .bool])] }
def outs_impl_Shape_text_0 : List (Exit × Pat) := [(.exit 0, { tmps := [.any, .ptr 64 0, .any, .v .str, .any, .any, .any, .any, .any, .any, .any, .any, .any, .any, .any, .any, .any, .any, .any, .any, .any, .any, .any, .any, .any, .any], blks := [(64, .box [.v (.int .i64), .v (.int .i64), .v (.int .i64), .v (.int .i64), .v (.int .i64), .v .bool])] })]
noncomputable def F_impl_Shape_text (x : (Int × (Int × (Int × (Int × (Int × Bool)))))) : Option (ByteArray) :=
 match F_strconv_Itoa (x.1) with
 | none => none
 | some y1 =>
  match F_impl_Shape_bends (x) with
  | none => none
  | some y2 =>
   match runL step_impl_Shape_text_0 ((y1, (y2.length : Int), (0, y2, x))) with
   | none => none
   | some o7 =>
    bif o7.2.2.2.2.2.2 then
     bif decide (o7.1.size + (⟨#[115]⟩ : ByteArray).size ≤ 9223372036854775807) then
      some ((o7.1 ++ (⟨#[115]⟩ : ByteArray)))
     else none
    else
     some (o7.1)
noncomputable def c_impl_Shape_text : Con := { ps := [(.val, (.st (.pair (.int .i64) (.pair (.int .i64) (.pair (.int .i64) (.pair (.int .i64) (.pair (.int .i64) .bool)))))))], rs := [(.val, .str)], F := F_impl_Shape_text }
noncomputable def env_impl_Shape_text : Env := { par := [], dp := false, settle := [], con := fun f => match f with | 202 => some c_strconv_Itoa | 284 => some c_impl_Shape_bends | _ => none, clo := fun _ => none, T := tinf Tryz.prog }
noncomputable def loops_impl_Shape_text : Nat → Option Loop := fun n => match n with | 3 => some { pat := pat_impl_Shape_text_0, outs := outs_impl_Shape_text_0, run := runL (step_impl_Shape_text_0) } | _ => none
theorem step_impl_Shape_text_0_eq (s : ByteArray × Int × Int × (List Int) × Int × Int × Int × Int × Int × Bool) : stepEv env_impl_Shape_text loops_impl_Shape_text pat_impl_Shape_text_0 outs_impl_Shape_text_0 Tryz.f198 3 s = step_impl_Shape_text_0 s := by kernel_rfl
theorem F_impl_Shape_text_eq (x : (Int × (Int × (Int × (Int × (Int × Bool)))))) : Fev env_impl_Shape_text loops_impl_Shape_text c_impl_Shape_text.ps c_impl_Shape_text.rs Tryz.f198 x = F_impl_Shape_text x := by kernel_rfl
theorem env_impl_Shape_text_ok : EnvOK Tryz.prog env_impl_Shape_text := envOK_of (fun f c h => by
  simp only [env_impl_Shape_text] at h
  split at h
  · cases h; exact con_strconv_Itoa
  · cases h; exact con_impl_Shape_bends
  · cases h) (fun f c h => by cases h) rfl
theorem con_impl_Shape_text : ConOK Tryz.prog 198 c_impl_Shape_text := con_of_ev' (body := Tryz.f198.body.getD .skip) (Λ := loops_impl_Shape_text) mixed Tryz.func198 (by kernel_rfl) (by kernel_rfl) env_impl_Shape_text_ok (by kernel_rfl) (by kernel_rfl) (fun n L h => by
  unfold loops_impl_Shape_text at h
  split at h
  · cases h; exact fun s o ho => loop_ok (stepF := stepEv env_impl_Shape_text loops_impl_Shape_text pat_impl_Shape_text_0 outs_impl_Shape_text_0 Tryz.f198 3) (step_impl_Shape_text_0_eq) ho
  · cases h) F_impl_Shape_text_eq

noncomputable def step_impl_ParseShape_0 (s : ByteArray × Int × Int × Int × Int × Int × Int × Bool × Int × Int × Int × Int × Int × Bool) : Option ((ByteArray × Int × Int × Int × Int × Int × Int × Bool × Int × Int × Int × Int × Int × Bool) ⊕ ((ByteArray × Int × Int × Int × Int × Int × Bool × Int × Int × Int × Int × Int × Bool))) :=
 bif (decide (s.2.1 < 5)) then
  bif decide (0 ≤ s.2.1) && decide (s.2.1 < (s.1.size : Int)) then
   let v6 := IntKind.i64.wrap (byteAt s.1 (s.2.1).toNat)
   let v7 := IntKind.i64.wrap (v6 - 48)
   match F_impl_Shape_with (((s.2.2.1, (s.2.2.2.1, s.2.2.2.2.1, (s.2.2.2.2.2.1, s.2.2.2.2.2.2.1, s.2.2.2.2.2.2.2.1))), s.2.1, v7)) with
   | none => none
   | some y8 =>
    let v9 := IntKind.i64.wrap (s.2.1 + 1)
    some (.inl ((s.1, v9, (y8.1, y8.2.1, (y8.2.2.1, y8.2.2.2.1, (y8.2.2.2.2.1, y8.2.2.2.2.2, s.2.2.2.2.2.2.2.2))))))
  else none
 else
  some (.inr ((s.1, s.2.2)))
def pat_impl_ParseShape_0 : Pat := { tmps := [.v .str, .any, .ptr 128 0, .any, .ptr 256 0, .any, .any, .any, .any, .any, .any, .v (.int .i64), .any, .any, .any, .any, .any, .any, .any, .any, .any, .any, .any, .any, .any, .any, .any, .any, .any, .any, .any, .any, .any, .any, .any, .any, .any, .any], blks := [(256, .box [.v (.int .i64), .v (.int .i64), .v (.int .i64), .v (.int .i64), .v (.int .i64), .v .bool]), (128, .box [.v (.int .i64), .v (.int .i64), .v (.int .i64), .v (.int .i64), .v (.int .i64), .v .bool])] }
def outs_impl_ParseShape_0 : List (Exit × Pat) := [(.exit 0, { tmps := [.v .str, .any, .ptr 128 0, .any, .ptr 256 0, .any, .any, .any, .any, .any, .any, .any, .any, .any, .any, .any, .any, .any, .any, .any, .any, .any, .any, .any, .any, .any, .any, .any, .any, .any, .any, .any, .any, .any, .any, .any, .any, .any], blks := [(256, .box [.v (.int .i64), .v (.int .i64), .v (.int .i64), .v (.int .i64), .v (.int .i64), .v .bool]), (128, .box [.v (.int .i64), .v (.int .i64), .v (.int .i64), .v (.int .i64), .v (.int .i64), .v .bool])] })]
noncomputable def F_impl_ParseShape (x : ByteArray) : Option ((Int × (Int × (Int × (Int × (Int × Bool))))) × Bool) :=
 match F_impl_within (((x.size : Int), 5, 6)) with
 | none => none
 | some y1 =>
  bif (!y1) then
   some (((0, (0, 0, (0, 0, false))), false))
  else
   match runL step_impl_ParseShape_0 ((x, (0, 0, (0, 0, (0, 0, (false, 0, (0, 0, (0, 0, false)))))))) with
   | none => none
   | some o10 =>
    match F_impl_IsShape ((o10.2.1, (o10.2.2.1, o10.2.2.2.1, (o10.2.2.2.2.1, o10.2.2.2.2.2.1, (((o10.1.size : Int) == 6)))))) with
    | none => none
    | some y11 =>
     bif (!y11) then
      some (((0, (0, 0, (0, 0, false))), false))
     else
      match F_impl_Shape_text ((o10.2.1, (o10.2.2.1, o10.2.2.2.1, (o10.2.2.2.2.1, o10.2.2.2.2.2.1, (((o10.1.size : Int) == 6)))))) with
      | none => none
      | some y12 =>
       bif (!(y12.toList == o10.1.toList)) then
        some (((0, (0, 0, (0, 0, false))), false))
       else
        some (((o10.2.1, (o10.2.2.1, o10.2.2.2.1, (o10.2.2.2.2.1, o10.2.2.2.2.2.1, (((o10.1.size : Int) == 6))))), true))
noncomputable def c_impl_ParseShape : Con := { ps := [(.val, .str)], rs := [(.val, (.st (.pair (.int .i64) (.pair (.int .i64) (.pair (.int .i64) (.pair (.int .i64) (.pair (.int .i64) .bool))))))), (.val, .bool)], F := F_impl_ParseShape }
noncomputable def env_impl_ParseShape : Env := { par := [], dp := false, settle := [], con := fun f => match f with | 61 => some c_impl_within | 198 => some c_impl_Shape_text | 235 => some c_impl_Shape_with | 236 => some c_impl_IsShape | _ => none, clo := fun _ => none, T := tinf Tryz.prog }
noncomputable def loops_impl_ParseShape : Nat → Option Loop := fun n => match n with | 5 => some { pat := pat_impl_ParseShape_0, outs := outs_impl_ParseShape_0, run := runL (step_impl_ParseShape_0) } | _ => none
theorem step_impl_ParseShape_0_eq (s : ByteArray × Int × Int × Int × Int × Int × Int × Bool × Int × Int × Int × Int × Int × Bool) : stepEv env_impl_ParseShape loops_impl_ParseShape pat_impl_ParseShape_0 outs_impl_ParseShape_0 Tryz.f152 5 s = step_impl_ParseShape_0 s := by kernel_rfl
theorem F_impl_ParseShape_eq (x : ByteArray) : Fev env_impl_ParseShape loops_impl_ParseShape c_impl_ParseShape.ps c_impl_ParseShape.rs Tryz.f152 x = F_impl_ParseShape x := by kernel_rfl
theorem env_impl_ParseShape_ok : EnvOK Tryz.prog env_impl_ParseShape := envOK_of (fun f c h => by
  simp only [env_impl_ParseShape] at h
  split at h
  · cases h; exact con_impl_within
  · cases h; exact con_impl_Shape_text
  · cases h; exact con_impl_Shape_with
  · cases h; exact con_impl_IsShape
  · cases h) (fun f c h => by cases h) rfl
theorem con_impl_ParseShape : ConOK Tryz.prog 152 c_impl_ParseShape := con_of_ev' (body := Tryz.f152.body.getD .skip) (Λ := loops_impl_ParseShape) mixed Tryz.func152 (by kernel_rfl) (by kernel_rfl) env_impl_ParseShape_ok (by kernel_rfl) (by kernel_rfl) (fun n L h => by
  unfold loops_impl_ParseShape at h
  split at h
  · cases h; exact fun s o ho => loop_ok (stepF := stepEv env_impl_ParseShape loops_impl_ParseShape pat_impl_ParseShape_0 outs_impl_ParseShape_0 Tryz.f152 5) (step_impl_ParseShape_0_eq) ho
  · cases h) F_impl_ParseShape_eq

set_option maxHeartbeats 1000000 in
theorem calls_strings_IndexByte (s : ByteArray) (c : Int) (w : World) :
    Calls Tryz.prog 207 #[.string s, .int .u8 c] w fun e w' => e = .returned (.int .i64 (Lib.indexByte s.data.toList c.toNat.toUInt8)) ∧ w' = w := by
  go_enter Tryz.func207, Tryz.ntmps207
  go_wp2
  rw [run_callFunc_extern Tryz.func351 (by kernel_rfl) (by kernel_rfl) (by kernel_rfl) (e := Extern.BytealgIndexByte.indexByte) (by kernel_rfl), Lib.run_indexByteString]
  simp only [Result.andThen]
  rw [Oper.upon_value]
  go_wp2
  go_ret
  exact ⟨rfl, rfl⟩
def F_strings_IndexByte (x : ByteArray × Int) : Option Int := some (Lib.indexByte x.1.data.toList x.2.toNat.toUInt8)
def c_strings_IndexByte : Con := { ps := [(.val, .str), (.val, .int .u8)], rs := [(.val, .int .i64)], F := F_strings_IndexByte }
theorem con_strings_IndexByte : ConOK Tryz.prog 207 c_strings_IndexByte := con_of_pure ⟨Tryz.f207, Tryz.func207, by kernel_rfl, by kernel_rfl⟩ rfl rfl fun w x y hy _ => by
  have e : y = Lib.indexByte x.1.data.toList x.2.toNat.toUInt8 := (Option.some.inj hy).symm
  subst e
  refine (calls_strings_IndexByte x.1 x.2 w).mono ?_
  rintro e w' ⟨rfl, rfl⟩
  exact ⟨rfl, Fr.refl _ _⟩

noncomputable def F_impl_IsOrient (x : (Int × Int)) : Option (Bool) :=
 match F_impl_within ((x.1, 0, 5)) with
 | none => none
 | some y1 =>
  bif y1 then
   match F_impl_within ((x.2, 0, 5)) with
   | none => none
   | some y2 =>
    bif y2 then
     bif !decide (2 = 0) then
      let v3 := IntKind.i64.wrap ((x.1).tdiv 2)
      bif !decide (2 = 0) then
       let v4 := IntKind.i64.wrap ((x.2).tdiv 2)
       some (((v3 != v4)))
      else none
     else none
    else
     some (false)
  else
   some (false)
noncomputable def c_impl_IsOrient : Con := { ps := [(.val, (.st (.pair (.int .i64) (.int .i64))))], rs := [(.val, .bool)], F := F_impl_IsOrient }
noncomputable def env_impl_IsOrient : Env := { par := [], dp := false, settle := [], con := fun f => match f with | 61 => some c_impl_within | _ => none, clo := fun _ => none, T := tinf Tryz.prog }
noncomputable def loops_impl_IsOrient : Nat → Option Loop := fun n => none
theorem F_impl_IsOrient_eq (x : (Int × Int)) : Fev env_impl_IsOrient loops_impl_IsOrient c_impl_IsOrient.ps c_impl_IsOrient.rs Tryz.f237 x = F_impl_IsOrient x := by kernel_rfl
theorem env_impl_IsOrient_ok : EnvOK Tryz.prog env_impl_IsOrient := envOK_of (fun f c h => by
  simp only [env_impl_IsOrient] at h
  split at h
  · cases h; exact con_impl_within
  · cases h) (fun f c h => by cases h) rfl
theorem con_impl_IsOrient : ConOK Tryz.prog 237 c_impl_IsOrient := con_of_ev' (body := Tryz.f237.body.getD .skip) (Λ := loops_impl_IsOrient) mixed Tryz.func237 (by kernel_rfl) (by kernel_rfl) env_impl_IsOrient_ok (by kernel_rfl) (by kernel_rfl) (fun n L h => by cases h) F_impl_IsOrient_eq

noncomputable def F_impl_ParseOrient (x : ByteArray) : Option ((Int × Int) × Bool) :=
 bif (((x.size : Int) != 2)) then
  some (((0, 0), false))
 else
  bif decide (0 ≤ 0) && decide (0 < (x.size : Int)) then
   bif decide (0 ≤ 1) && decide (1 < (x.size : Int)) then
    match F_strings_IndexByte (((⟨#[117, 100, 108, 114, 102, 98]⟩ : ByteArray), (byteAt x (0 : Int).toNat))) with
    | none => none
    | some y1 =>
     match F_strings_IndexByte (((⟨#[117, 100, 108, 114, 102, 98]⟩ : ByteArray), (byteAt x (1 : Int).toNat))) with
     | none => none
     | some y2 =>
      match F_impl_IsOrient ((y1, y2)) with
      | none => none
      | some y3 =>
       bif (!y3) then
        some (((0, 0), false))
       else
        some (((y1, y2), true))
   else none
  else none
noncomputable def c_impl_ParseOrient : Con := { ps := [(.val, .str)], rs := [(.val, (.st (.pair (.int .i64) (.int .i64)))), (.val, .bool)], F := F_impl_ParseOrient }
noncomputable def env_impl_ParseOrient : Env := { par := [], dp := false, settle := [], con := fun f => match f with | 207 => some c_strings_IndexByte | 237 => some c_impl_IsOrient | _ => none, clo := fun _ => none, T := tinf Tryz.prog }
noncomputable def loops_impl_ParseOrient : Nat → Option Loop := fun n => none
theorem F_impl_ParseOrient_eq (x : ByteArray) : Fev env_impl_ParseOrient loops_impl_ParseOrient c_impl_ParseOrient.ps c_impl_ParseOrient.rs Tryz.f153 x = F_impl_ParseOrient x := by kernel_rfl
theorem env_impl_ParseOrient_ok : EnvOK Tryz.prog env_impl_ParseOrient := envOK_of (fun f c h => by
  simp only [env_impl_ParseOrient] at h
  split at h
  · cases h; exact con_strings_IndexByte
  · cases h; exact con_impl_IsOrient
  · cases h) (fun f c h => by cases h) rfl
theorem con_impl_ParseOrient : ConOK Tryz.prog 153 c_impl_ParseOrient := con_of_ev' (body := Tryz.f153.body.getD .skip) (Λ := loops_impl_ParseOrient) mixed Tryz.func153 (by kernel_rfl) (by kernel_rfl) env_impl_ParseOrient_ok (by kernel_rfl) (by kernel_rfl) (fun n L h => by cases h) F_impl_ParseOrient_eq

noncomputable def F_impl_IsPlace (x : (Int × (Int × Bool))) : Option (Bool) :=
 match F_impl_within ((x.1, 0, 9)) with
 | none => none
 | some y1 =>
  bif y1 then
   match F_impl_within ((x.2.1, (-1), 1)) with
   | none => none
   | some y2 =>
    bif y2 then
     bif x.2.2 then
      some ((!((x.1 == 0))))
     else
      some ((!false))
    else
     some (false)
  else
   some (false)
noncomputable def c_impl_IsPlace : Con := { ps := [(.val, (.st (.pair (.int .i64) (.pair (.int .i64) .bool))))], rs := [(.val, .bool)], F := F_impl_IsPlace }
noncomputable def env_impl_IsPlace : Env := { par := [], dp := false, settle := [], con := fun f => match f with | 61 => some c_impl_within | _ => none, clo := fun _ => none, T := tinf Tryz.prog }
noncomputable def loops_impl_IsPlace : Nat → Option Loop := fun n => none
theorem F_impl_IsPlace_eq (x : (Int × (Int × Bool))) : Fev env_impl_IsPlace loops_impl_IsPlace c_impl_IsPlace.ps c_impl_IsPlace.rs Tryz.f243 x = F_impl_IsPlace x := by kernel_rfl
theorem env_impl_IsPlace_ok : EnvOK Tryz.prog env_impl_IsPlace := envOK_of (fun f c h => by
  simp only [env_impl_IsPlace] at h
  split at h
  · cases h; exact con_impl_within
  · cases h) (fun f c h => by cases h) rfl
theorem con_impl_IsPlace : ConOK Tryz.prog 243 c_impl_IsPlace := con_of_ev' (body := Tryz.f243.body.getD .skip) (Λ := loops_impl_IsPlace) mixed Tryz.func243 (by kernel_rfl) (by kernel_rfl) env_impl_IsPlace_ok (by kernel_rfl) (by kernel_rfl) (fun n L h => by cases h) F_impl_IsPlace_eq

noncomputable def F_impl_PlaceOfCode (x : Int) : Option ((Int × (Int × Bool)) × Bool) :=
 match F_impl_within ((x, 0, 59)) with
 | none => none
 | some y1 =>
  bif (!y1) then
   some (((0, 0, false), false))
  else
   bif !decide (6 = 0) then
    let v2 := IntKind.i64.wrap ((x).tdiv 6)
    bif !decide (6 = 0) then
     let v3 := (x).tmod 6
     bif !decide (2 = 0) then
      let v4 := IntKind.i64.wrap ((v3).tdiv 2)
      let v5 := IntKind.i64.wrap (v4 - 1)
      bif !decide (2 = 0) then
       let v6 := (x).tmod 2
       match F_impl_IsPlace ((v2, v5, ((v6 == 1)))) with
       | none => none
       | some y7 =>
        bif (!y7) then
         some (((0, 0, false), false))
        else
         some (((v2, v5, ((v6 == 1))), true))
      else none
     else none
    else none
   else none
noncomputable def c_impl_PlaceOfCode : Con := { ps := [(.val, (.int .i64))], rs := [(.val, (.st (.pair (.int .i64) (.pair (.int .i64) .bool)))), (.val, .bool)], F := F_impl_PlaceOfCode }
noncomputable def env_impl_PlaceOfCode : Env := { par := [], dp := false, settle := [], con := fun f => match f with | 61 => some c_impl_within | 243 => some c_impl_IsPlace | _ => none, clo := fun _ => none, T := tinf Tryz.prog }
noncomputable def loops_impl_PlaceOfCode : Nat → Option Loop := fun n => none
theorem F_impl_PlaceOfCode_eq (x : Int) : Fev env_impl_PlaceOfCode loops_impl_PlaceOfCode c_impl_PlaceOfCode.ps c_impl_PlaceOfCode.rs Tryz.f238 x = F_impl_PlaceOfCode x := by kernel_rfl
theorem env_impl_PlaceOfCode_ok : EnvOK Tryz.prog env_impl_PlaceOfCode := envOK_of (fun f c h => by
  simp only [env_impl_PlaceOfCode] at h
  split at h
  · cases h; exact con_impl_within
  · cases h; exact con_impl_IsPlace
  · cases h) (fun f c h => by cases h) rfl
theorem con_impl_PlaceOfCode : ConOK Tryz.prog 238 c_impl_PlaceOfCode := con_of_ev' (body := Tryz.f238.body.getD .skip) (Λ := loops_impl_PlaceOfCode) mixed Tryz.func238 (by kernel_rfl) (by kernel_rfl) env_impl_PlaceOfCode_ok (by kernel_rfl) (by kernel_rfl) (fun n L h => by cases h) F_impl_PlaceOfCode_eq

noncomputable def F_impl_Place_text (x : (Int × (Int × Bool))) : Option (ByteArray) :=
 bif (x.1 == 0) then
  let v1 := IntKind.i64.wrap (x.2.1 + 1)
  bif decide (0 ≤ v1) && decide (v1 < (3 : Int)) then
   bif decide ((⟨#[115, 112, 97, 99, 101]⟩ : ByteArray).size + ([(⟨#[60]⟩ : ByteArray), (⟨#[]⟩ : ByteArray), (⟨#[62]⟩ : ByteArray)].getD (v1).toNat ByteArray.empty).size ≤ 9223372036854775807) then
    bif x.2.2 then
     bif decide (((⟨#[115, 112, 97, 99, 101]⟩ : ByteArray) ++ ([(⟨#[60]⟩ : ByteArray), (⟨#[]⟩ : ByteArray), (⟨#[62]⟩ : ByteArray)].getD (v1).toNat ByteArray.empty)).size + (⟨#[42]⟩ : ByteArray).size ≤ 9223372036854775807) then
      some ((((⟨#[115, 112, 97, 99, 101]⟩ : ByteArray) ++ ([(⟨#[60]⟩ : ByteArray), (⟨#[]⟩ : ByteArray), (⟨#[62]⟩ : ByteArray)].getD (v1).toNat ByteArray.empty)) ++ (⟨#[42]⟩ : ByteArray)))
     else none
    else
     some (((⟨#[115, 112, 97, 99, 101]⟩ : ByteArray) ++ ([(⟨#[60]⟩ : ByteArray), (⟨#[]⟩ : ByteArray), (⟨#[62]⟩ : ByteArray)].getD (v1).toNat ByteArray.empty)))
   else none
  else none
 else
  bif (x.1 == 1) then
   let v2 := IntKind.i64.wrap (x.2.1 + 1)
   bif decide (0 ≤ v2) && decide (v2 < (3 : Int)) then
    bif decide ((⟨#[104, 101, 97, 100]⟩ : ByteArray).size + ([(⟨#[60]⟩ : ByteArray), (⟨#[]⟩ : ByteArray), (⟨#[62]⟩ : ByteArray)].getD (v2).toNat ByteArray.empty).size ≤ 9223372036854775807) then
     bif x.2.2 then
      bif decide (((⟨#[104, 101, 97, 100]⟩ : ByteArray) ++ ([(⟨#[60]⟩ : ByteArray), (⟨#[]⟩ : ByteArray), (⟨#[62]⟩ : ByteArray)].getD (v2).toNat ByteArray.empty)).size + (⟨#[42]⟩ : ByteArray).size ≤ 9223372036854775807) then
       some ((((⟨#[104, 101, 97, 100]⟩ : ByteArray) ++ ([(⟨#[60]⟩ : ByteArray), (⟨#[]⟩ : ByteArray), (⟨#[62]⟩ : ByteArray)].getD (v2).toNat ByteArray.empty)) ++ (⟨#[42]⟩ : ByteArray)))
      else none
     else
      some (((⟨#[104, 101, 97, 100]⟩ : ByteArray) ++ ([(⟨#[60]⟩ : ByteArray), (⟨#[]⟩ : ByteArray), (⟨#[62]⟩ : ByteArray)].getD (v2).toNat ByteArray.empty)))
    else none
   else none
  else
   bif (x.1 == 2) then
    let v3 := IntKind.i64.wrap (x.2.1 + 1)
    bif decide (0 ≤ v3) && decide (v3 < (3 : Int)) then
     bif decide ((⟨#[101, 121, 101]⟩ : ByteArray).size + ([(⟨#[60]⟩ : ByteArray), (⟨#[]⟩ : ByteArray), (⟨#[62]⟩ : ByteArray)].getD (v3).toNat ByteArray.empty).size ≤ 9223372036854775807) then
      bif x.2.2 then
       bif decide (((⟨#[101, 121, 101]⟩ : ByteArray) ++ ([(⟨#[60]⟩ : ByteArray), (⟨#[]⟩ : ByteArray), (⟨#[62]⟩ : ByteArray)].getD (v3).toNat ByteArray.empty)).size + (⟨#[42]⟩ : ByteArray).size ≤ 9223372036854775807) then
        some ((((⟨#[101, 121, 101]⟩ : ByteArray) ++ ([(⟨#[60]⟩ : ByteArray), (⟨#[]⟩ : ByteArray), (⟨#[62]⟩ : ByteArray)].getD (v3).toNat ByteArray.empty)) ++ (⟨#[42]⟩ : ByteArray)))
       else none
      else
       some (((⟨#[101, 121, 101]⟩ : ByteArray) ++ ([(⟨#[60]⟩ : ByteArray), (⟨#[]⟩ : ByteArray), (⟨#[62]⟩ : ByteArray)].getD (v3).toNat ByteArray.empty)))
     else none
    else none
   else
    bif (x.1 == 3) then
     let v4 := IntKind.i64.wrap (x.2.1 + 1)
     bif decide (0 ≤ v4) && decide (v4 < (3 : Int)) then
      bif decide ((⟨#[99, 104, 101, 101, 107]⟩ : ByteArray).size + ([(⟨#[60]⟩ : ByteArray), (⟨#[]⟩ : ByteArray), (⟨#[62]⟩ : ByteArray)].getD (v4).toNat ByteArray.empty).size ≤ 9223372036854775807) then
       bif x.2.2 then
        bif decide (((⟨#[99, 104, 101, 101, 107]⟩ : ByteArray) ++ ([(⟨#[60]⟩ : ByteArray), (⟨#[]⟩ : ByteArray), (⟨#[62]⟩ : ByteArray)].getD (v4).toNat ByteArray.empty)).size + (⟨#[42]⟩ : ByteArray).size ≤ 9223372036854775807) then
         some ((((⟨#[99, 104, 101, 101, 107]⟩ : ByteArray) ++ ([(⟨#[60]⟩ : ByteArray), (⟨#[]⟩ : ByteArray), (⟨#[62]⟩ : ByteArray)].getD (v4).toNat ByteArray.empty)) ++ (⟨#[42]⟩ : ByteArray)))
        else none
       else
        some (((⟨#[99, 104, 101, 101, 107]⟩ : ByteArray) ++ ([(⟨#[60]⟩ : ByteArray), (⟨#[]⟩ : ByteArray), (⟨#[62]⟩ : ByteArray)].getD (v4).toNat ByteArray.empty)))
      else none
     else none
    else
     bif (x.1 == 4) then
      let v5 := IntKind.i64.wrap (x.2.1 + 1)
      bif decide (0 ≤ v5) && decide (v5 < (3 : Int)) then
       bif decide ((⟨#[109, 111, 117, 116, 104]⟩ : ByteArray).size + ([(⟨#[60]⟩ : ByteArray), (⟨#[]⟩ : ByteArray), (⟨#[62]⟩ : ByteArray)].getD (v5).toNat ByteArray.empty).size ≤ 9223372036854775807) then
        bif x.2.2 then
         bif decide (((⟨#[109, 111, 117, 116, 104]⟩ : ByteArray) ++ ([(⟨#[60]⟩ : ByteArray), (⟨#[]⟩ : ByteArray), (⟨#[62]⟩ : ByteArray)].getD (v5).toNat ByteArray.empty)).size + (⟨#[42]⟩ : ByteArray).size ≤ 9223372036854775807) then
          some ((((⟨#[109, 111, 117, 116, 104]⟩ : ByteArray) ++ ([(⟨#[60]⟩ : ByteArray), (⟨#[]⟩ : ByteArray), (⟨#[62]⟩ : ByteArray)].getD (v5).toNat ByteArray.empty)) ++ (⟨#[42]⟩ : ByteArray)))
         else none
        else
         some (((⟨#[109, 111, 117, 116, 104]⟩ : ByteArray) ++ ([(⟨#[60]⟩ : ByteArray), (⟨#[]⟩ : ByteArray), (⟨#[62]⟩ : ByteArray)].getD (v5).toNat ByteArray.empty)))
       else none
      else none
     else
      bif (x.1 == 5) then
       let v6 := IntKind.i64.wrap (x.2.1 + 1)
       bif decide (0 ≤ v6) && decide (v6 < (3 : Int)) then
        bif decide ((⟨#[99, 104, 105, 110]⟩ : ByteArray).size + ([(⟨#[60]⟩ : ByteArray), (⟨#[]⟩ : ByteArray), (⟨#[62]⟩ : ByteArray)].getD (v6).toNat ByteArray.empty).size ≤ 9223372036854775807) then
         bif x.2.2 then
          bif decide (((⟨#[99, 104, 105, 110]⟩ : ByteArray) ++ ([(⟨#[60]⟩ : ByteArray), (⟨#[]⟩ : ByteArray), (⟨#[62]⟩ : ByteArray)].getD (v6).toNat ByteArray.empty)).size + (⟨#[42]⟩ : ByteArray).size ≤ 9223372036854775807) then
           some ((((⟨#[99, 104, 105, 110]⟩ : ByteArray) ++ ([(⟨#[60]⟩ : ByteArray), (⟨#[]⟩ : ByteArray), (⟨#[62]⟩ : ByteArray)].getD (v6).toNat ByteArray.empty)) ++ (⟨#[42]⟩ : ByteArray)))
          else none
         else
          some (((⟨#[99, 104, 105, 110]⟩ : ByteArray) ++ ([(⟨#[60]⟩ : ByteArray), (⟨#[]⟩ : ByteArray), (⟨#[62]⟩ : ByteArray)].getD (v6).toNat ByteArray.empty)))
        else none
       else none
      else
       bif (x.1 == 6) then
        let v7 := IntKind.i64.wrap (x.2.1 + 1)
        bif decide (0 ≤ v7) && decide (v7 < (3 : Int)) then
         bif decide ((⟨#[110, 101, 99, 107]⟩ : ByteArray).size + ([(⟨#[60]⟩ : ByteArray), (⟨#[]⟩ : ByteArray), (⟨#[62]⟩ : ByteArray)].getD (v7).toNat ByteArray.empty).size ≤ 9223372036854775807) then
          bif x.2.2 then
           bif decide (((⟨#[110, 101, 99, 107]⟩ : ByteArray) ++ ([(⟨#[60]⟩ : ByteArray), (⟨#[]⟩ : ByteArray), (⟨#[62]⟩ : ByteArray)].getD (v7).toNat ByteArray.empty)).size + (⟨#[42]⟩ : ByteArray).size ≤ 9223372036854775807) then
            some ((((⟨#[110, 101, 99, 107]⟩ : ByteArray) ++ ([(⟨#[60]⟩ : ByteArray), (⟨#[]⟩ : ByteArray), (⟨#[62]⟩ : ByteArray)].getD (v7).toNat ByteArray.empty)) ++ (⟨#[42]⟩ : ByteArray)))
           else none
          else
           some (((⟨#[110, 101, 99, 107]⟩ : ByteArray) ++ ([(⟨#[60]⟩ : ByteArray), (⟨#[]⟩ : ByteArray), (⟨#[62]⟩ : ByteArray)].getD (v7).toNat ByteArray.empty)))
         else none
        else none
       else
        bif (x.1 == 7) then
         let v8 := IntKind.i64.wrap (x.2.1 + 1)
         bif decide (0 ≤ v8) && decide (v8 < (3 : Int)) then
          bif decide ((⟨#[99, 104, 101, 115, 116]⟩ : ByteArray).size + ([(⟨#[60]⟩ : ByteArray), (⟨#[]⟩ : ByteArray), (⟨#[62]⟩ : ByteArray)].getD (v8).toNat ByteArray.empty).size ≤ 9223372036854775807) then
           bif x.2.2 then
            bif decide (((⟨#[99, 104, 101, 115, 116]⟩ : ByteArray) ++ ([(⟨#[60]⟩ : ByteArray), (⟨#[]⟩ : ByteArray), (⟨#[62]⟩ : ByteArray)].getD (v8).toNat ByteArray.empty)).size + (⟨#[42]⟩ : ByteArray).size ≤ 9223372036854775807) then
             some ((((⟨#[99, 104, 101, 115, 116]⟩ : ByteArray) ++ ([(⟨#[60]⟩ : ByteArray), (⟨#[]⟩ : ByteArray), (⟨#[62]⟩ : ByteArray)].getD (v8).toNat ByteArray.empty)) ++ (⟨#[42]⟩ : ByteArray)))
            else none
           else
            some (((⟨#[99, 104, 101, 115, 116]⟩ : ByteArray) ++ ([(⟨#[60]⟩ : ByteArray), (⟨#[]⟩ : ByteArray), (⟨#[62]⟩ : ByteArray)].getD (v8).toNat ByteArray.empty)))
          else none
         else none
        else
         bif (x.1 == 8) then
          let v9 := IntKind.i64.wrap (x.2.1 + 1)
          bif decide (0 ≤ v9) && decide (v9 < (3 : Int)) then
           bif decide ((⟨#[119, 97, 105, 115, 116]⟩ : ByteArray).size + ([(⟨#[60]⟩ : ByteArray), (⟨#[]⟩ : ByteArray), (⟨#[62]⟩ : ByteArray)].getD (v9).toNat ByteArray.empty).size ≤ 9223372036854775807) then
            bif x.2.2 then
             bif decide (((⟨#[119, 97, 105, 115, 116]⟩ : ByteArray) ++ ([(⟨#[60]⟩ : ByteArray), (⟨#[]⟩ : ByteArray), (⟨#[62]⟩ : ByteArray)].getD (v9).toNat ByteArray.empty)).size + (⟨#[42]⟩ : ByteArray).size ≤ 9223372036854775807) then
              some ((((⟨#[119, 97, 105, 115, 116]⟩ : ByteArray) ++ ([(⟨#[60]⟩ : ByteArray), (⟨#[]⟩ : ByteArray), (⟨#[62]⟩ : ByteArray)].getD (v9).toNat ByteArray.empty)) ++ (⟨#[42]⟩ : ByteArray)))
             else none
            else
             some (((⟨#[119, 97, 105, 115, 116]⟩ : ByteArray) ++ ([(⟨#[60]⟩ : ByteArray), (⟨#[]⟩ : ByteArray), (⟨#[62]⟩ : ByteArray)].getD (v9).toNat ByteArray.empty)))
           else none
          else none
         else
          bif (x.1 == 9) then
           let v10 := IntKind.i64.wrap (x.2.1 + 1)
           bif decide (0 ≤ v10) && decide (v10 < (3 : Int)) then
            bif decide ((⟨#[104, 105, 112]⟩ : ByteArray).size + ([(⟨#[60]⟩ : ByteArray), (⟨#[]⟩ : ByteArray), (⟨#[62]⟩ : ByteArray)].getD (v10).toNat ByteArray.empty).size ≤ 9223372036854775807) then
             bif x.2.2 then
              bif decide (((⟨#[104, 105, 112]⟩ : ByteArray) ++ ([(⟨#[60]⟩ : ByteArray), (⟨#[]⟩ : ByteArray), (⟨#[62]⟩ : ByteArray)].getD (v10).toNat ByteArray.empty)).size + (⟨#[42]⟩ : ByteArray).size ≤ 9223372036854775807) then
               some ((((⟨#[104, 105, 112]⟩ : ByteArray) ++ ([(⟨#[60]⟩ : ByteArray), (⟨#[]⟩ : ByteArray), (⟨#[62]⟩ : ByteArray)].getD (v10).toNat ByteArray.empty)) ++ (⟨#[42]⟩ : ByteArray)))
              else none
             else
              some (((⟨#[104, 105, 112]⟩ : ByteArray) ++ ([(⟨#[60]⟩ : ByteArray), (⟨#[]⟩ : ByteArray), (⟨#[62]⟩ : ByteArray)].getD (v10).toNat ByteArray.empty)))
            else none
           else none
          else
           none
noncomputable def c_impl_Place_text : Con := { ps := [(.val, (.st (.pair (.int .i64) (.pair (.int .i64) .bool))))], rs := [(.val, .str)], F := F_impl_Place_text }
noncomputable def env_impl_Place_text : Env := { par := [], dp := false, settle := [], con := fun _ => none, clo := fun _ => none, T := tinf Tryz.prog }
noncomputable def loops_impl_Place_text : Nat → Option Loop := fun n => none
theorem F_impl_Place_text_eq (x : (Int × (Int × Bool))) : Fev env_impl_Place_text loops_impl_Place_text c_impl_Place_text.ps c_impl_Place_text.rs Tryz.f239 x = F_impl_Place_text x := by kernel_rfl
theorem env_impl_Place_text_ok : EnvOK Tryz.prog env_impl_Place_text := envOK_of (fun f c h => by cases h) (fun f c h => by cases h) rfl
theorem con_impl_Place_text : ConOK Tryz.prog 239 c_impl_Place_text := con_of_ev' (body := Tryz.f239.body.getD .skip) (Λ := loops_impl_Place_text) mixed Tryz.func239 (by kernel_rfl) (by kernel_rfl) env_impl_Place_text_ok (by kernel_rfl) (by kernel_rfl) (fun n L h => by cases h) F_impl_Place_text_eq

noncomputable def step_impl_ParsePlace_0 (s : ByteArray × Int × Int × Int × Bool) : Option ((ByteArray × Int × Int × Int × Bool) ⊕ ((Bool × Int × Int × Bool) ⊕ (Int × Int × Bool))) :=
 bif (decide (s.2.1 < 60)) then
  match F_impl_PlaceOfCode (s.2.1) with
  | none => none
  | some y5 =>
   bif y5.2 then
    match F_impl_Place_text (y5.1) with
    | none => none
    | some y6 =>
     bif (y6.toList == s.1.toList) then
      some (.inr (.inl ((true, y5.1))))
     else
      let v7 := IntKind.i64.wrap (s.2.1 + 1)
      some (.inl ((s.1, v7, s.2.2)))
   else
    let v8 := IntKind.i64.wrap (s.2.1 + 1)
    some (.inl ((s.1, v8, s.2.2)))
 else
  some (.inr (.inr (s.2.2)))
def pat_impl_ParsePlace_0 : Pat := { tmps := [.v .str, .any, .ptr 128 0, .any, .any, .any, .any, .v (.int .i64), .any, .any, .any, .any, .any, .any, .any, .any, .any, .any, .any, .any, .any, .any, .any, .any, .any], blks := [(128, .box [.v (.int .i64), .v (.int .i64), .v .bool])] }
def outs_impl_ParsePlace_0 : List (Exit × Pat) := [(.ret, { tmps := [.any, .any, .ptr 128 0, .v .bool, .any, .any, .any, .any, .any, .any, .any, .any, .any, .any, .any, .any, .any, .any, .any, .any, .any, .any, .any, .any, .any], blks := [(128, .box [.v (.int .i64), .v (.int .i64), .v .bool])] }), (.exit 0, { tmps := [.any, .any, .ptr 128 0, .any, .any, .any, .any, .any, .any, .any, .any, .any, .any, .any, .any, .any, .any, .any, .any, .any, .any, .any, .any, .any, .any], blks := [(128, .box [.v (.int .i64), .v (.int .i64), .v .bool])] })]
noncomputable def F_impl_ParsePlace (x : ByteArray) : Option ((Int × (Int × Bool)) × Bool) :=
 match runL step_impl_ParsePlace_0 ((x, 0, (0, 0, false))) with
 | none => none
 | some (.inl o9) =>
  some ((o9.2, o9.1))
 | some (.inr o9) =>
  some (((0, 0, false), false))
noncomputable def c_impl_ParsePlace : Con := { ps := [(.val, .str)], rs := [(.val, (.st (.pair (.int .i64) (.pair (.int .i64) .bool)))), (.val, .bool)], F := F_impl_ParsePlace }
noncomputable def env_impl_ParsePlace : Env := { par := [], dp := false, settle := [], con := fun f => match f with | 238 => some c_impl_PlaceOfCode | 239 => some c_impl_Place_text | _ => none, clo := fun _ => none, T := tinf Tryz.prog }
noncomputable def loops_impl_ParsePlace : Nat → Option Loop := fun n => match n with | 2 => some { pat := pat_impl_ParsePlace_0, outs := outs_impl_ParsePlace_0, run := runL (step_impl_ParsePlace_0) } | _ => none
theorem step_impl_ParsePlace_0_eq (s : ByteArray × Int × Int × Int × Bool) : stepEv env_impl_ParsePlace loops_impl_ParsePlace pat_impl_ParsePlace_0 outs_impl_ParsePlace_0 Tryz.f154 2 s = step_impl_ParsePlace_0 s := by kernel_rfl
theorem F_impl_ParsePlace_eq (x : ByteArray) : Fev env_impl_ParsePlace loops_impl_ParsePlace c_impl_ParsePlace.ps c_impl_ParsePlace.rs Tryz.f154 x = F_impl_ParsePlace x := by kernel_rfl
theorem env_impl_ParsePlace_ok : EnvOK Tryz.prog env_impl_ParsePlace := envOK_of (fun f c h => by
  simp only [env_impl_ParsePlace] at h
  split at h
  · cases h; exact con_impl_PlaceOfCode
  · cases h; exact con_impl_Place_text
  · cases h) (fun f c h => by cases h) rfl
theorem con_impl_ParsePlace : ConOK Tryz.prog 154 c_impl_ParsePlace := con_of_ev' (body := Tryz.f154.body.getD .skip) (Λ := loops_impl_ParsePlace) mixed Tryz.func154 (by kernel_rfl) (by kernel_rfl) env_impl_ParsePlace_ok (by kernel_rfl) (by kernel_rfl) (fun n L h => by
  unfold loops_impl_ParsePlace at h
  split at h
  · cases h; exact fun s o ho => loop_ok (stepF := stepEv env_impl_ParsePlace loops_impl_ParsePlace pat_impl_ParsePlace_0 outs_impl_ParsePlace_0 Tryz.f154 2) (step_impl_ParsePlace_0_eq) ho
  · cases h) F_impl_ParsePlace_eq

theorem decimal_ex : ∃ f : ByteArray → Option (Int × Bool), f = fun x => bif decide (x.size ≤ 281474976710656) then some (decOf x) else none := ⟨_, rfl⟩
noncomputable def F_impl_decimal : ByteArray → Option (Int × Bool) := Classical.choose decimal_ex
theorem F_impl_decimal_is (x : ByteArray) : F_impl_decimal x = bif decide (x.size ≤ 281474976710656) then some (decOf x) else none := congrFun (Classical.choose_spec decimal_ex) x
noncomputable def c_impl_decimal : Con := { ps := [(.val, .str)], rs := [(.val, .int .i64), (.val, .bool)], F := F_impl_decimal }
theorem var_of_ifc {w : World} (ht : Tabs Tryz.prog w) {q : String} (hq : q ∈ ifcList) : ∃ tp p, w.var? Tryz.prog q = some #[.iface tp p] := (ht.2.2.2 q hq).2
theorem calls_F_impl_decimal (w : World) (s : ByteArray) (y : Int × Bool) (hy : F_impl_decimal s = some y) (ht : Tabs Tryz.prog w) : Calls Tryz.prog 240 #[.string s] w fun e w' => e = .returned (.tuple #[.int .i64 y.1, .bool y.2]) ∧ Fr NoB w w' := by
  rw [F_impl_decimal_is] at hy
  obtain ⟨hg, hy⟩ := bif_none hy
  have h0 : s.size ≤ 281474976710656 := of_decide_eq_true hg
  have e : y = decOf s := (Option.some.inj hy).symm
  subst e
  refine (calls_decimal s h0 w (var_of_ifc ht (by simp [ifcList])) (var_of_ifc ht (by simp [ifcList])) fun w' hw => (((fr_of_below hw).tabs ht).1 _ (List.mem_cons_self ..)).2).mono ?_
  rintro e w' ⟨rfl, hw⟩
  exact ⟨rfl, fr_of_below hw⟩
theorem con_impl_decimal : ConOK Tryz.prog 240 c_impl_decimal := con_of_pure ⟨Tryz.f240, Tryz.func240, by kernel_rfl, by kernel_rfl⟩ rfl rfl fun w x y hy ht => calls_F_impl_decimal w x y hy ht

noncomputable def step_impl_hasOnly_0 (s : ByteArray × ByteArray × Int × Int) : Option ((ByteArray × ByteArray × Int × Int) ⊕ ((Bool) ⊕ (Unit))) :=
 bif (decide (s.2.2.2 < s.2.2.1)) then
  bif decide (0 ≤ s.2.2.2) && decide (s.2.2.2 < (s.1.size : Int)) then
   match F_strings_IndexByte ((s.2.1, (byteAt s.1 (s.2.2.2).toNat))) with
   | none => none
   | some y3 =>
    bif (decide (y3 < 0)) then
     some (.inr (.inl (false)))
    else
     let v4 := IntKind.i64.wrap (s.2.2.2 + 1)
     some (.inl ((s.1, (s.2.1, s.2.2.1, v4))))
  else none
 else
  some (.inr (.inr (())))
def pat_impl_hasOnly_0 : Pat := { tmps := [.v .str, .v .str, .any, .any, .any, .any, .any, .v (.int .i64), .v (.int .i64), .any, .any, .any, .any, .any, .any, .any, .any, .any], blks := [] }
def outs_impl_hasOnly_0 : List (Exit × Pat) := [(.ret, { tmps := [.any, .any, .any, .any, .v .bool, .any, .any, .any, .any, .any, .any, .any, .any, .any, .any, .any, .any, .any], blks := [] }), (.exit 0, { tmps := [.any, .any, .any, .any, .any, .any, .any, .any, .any, .any, .any, .any, .any, .any, .any, .any, .any, .any], blks := [] })]
noncomputable def F_impl_hasOnly (x : ByteArray × ByteArray) : Option (Bool) :=
 match runL step_impl_hasOnly_0 ((x.1, (x.2, (x.1.size : Int), 0))) with
 | none => none
 | some (.inl o5) =>
  some (o5)
 | some (.inr o5) =>
  some (true)
noncomputable def c_impl_hasOnly : Con := { ps := [(.val, .str), (.val, .str)], rs := [(.val, .bool)], F := F_impl_hasOnly }
noncomputable def env_impl_hasOnly : Env := { par := [], dp := false, settle := [], con := fun f => match f with | 207 => some c_strings_IndexByte | _ => none, clo := fun _ => none, T := tinf Tryz.prog }
noncomputable def loops_impl_hasOnly : Nat → Option Loop := fun n => match n with | 2 => some { pat := pat_impl_hasOnly_0, outs := outs_impl_hasOnly_0, run := runL (step_impl_hasOnly_0) } | _ => none
theorem step_impl_hasOnly_0_eq (s : ByteArray × ByteArray × Int × Int) : stepEv env_impl_hasOnly loops_impl_hasOnly pat_impl_hasOnly_0 outs_impl_hasOnly_0 Tryz.f132 2 s = step_impl_hasOnly_0 s := by kernel_rfl
theorem F_impl_hasOnly_eq (x : ByteArray × ByteArray) : Fev env_impl_hasOnly loops_impl_hasOnly c_impl_hasOnly.ps c_impl_hasOnly.rs Tryz.f132 x = F_impl_hasOnly x := by kernel_rfl
theorem env_impl_hasOnly_ok : EnvOK Tryz.prog env_impl_hasOnly := envOK_of (fun f c h => by
  simp only [env_impl_hasOnly] at h
  split at h
  · cases h; exact con_strings_IndexByte
  · cases h) (fun f c h => by cases h) rfl
theorem con_impl_hasOnly : ConOK Tryz.prog 132 c_impl_hasOnly := con_of_ev' (body := Tryz.f132.body.getD .skip) (Λ := loops_impl_hasOnly) mixed Tryz.func132 (by kernel_rfl) (by kernel_rfl) env_impl_hasOnly_ok (by kernel_rfl) (by kernel_rfl) (fun n L h => by
  unfold loops_impl_hasOnly at h
  split at h
  · cases h; exact fun s o ho => loop_ok (stepF := stepEv env_impl_hasOnly loops_impl_hasOnly pat_impl_hasOnly_0 outs_impl_hasOnly_0 Tryz.f132 2) (step_impl_hasOnly_0_eq) ho
  · cases h) F_impl_hasOnly_eq

noncomputable def F_impl_IsMove (x : (ByteArray × Int)) : Option (Bool) :=
 bif (decide ((x.1.size : Int) ≤ 6)) then
  match F_impl_hasOnly ((x.1, (⟨#[117, 100, 108, 114, 102, 98]⟩ : ByteArray))) with
  | none => none
  | some y1 =>
   bif y1 then
    match F_impl_within ((x.2, 1, 3)) with
    | none => none
    | some y2 =>
     bif y2 then
      bif (!(x.1.toList == (⟨#[]⟩ : ByteArray).toList)) then
       some (true)
      else
       some (((x.2 == 1)))
     else
      some (false)
   else
    some (false)
 else
  some (false)
noncomputable def c_impl_IsMove : Con := { ps := [(.val, (.st (.pair .str (.int .i64))))], rs := [(.val, .bool)], F := F_impl_IsMove }
noncomputable def env_impl_IsMove : Env := { par := [], dp := false, settle := [], con := fun f => match f with | 61 => some c_impl_within | 132 => some c_impl_hasOnly | _ => none, clo := fun _ => none, T := tinf Tryz.prog }
noncomputable def loops_impl_IsMove : Nat → Option Loop := fun n => none
theorem F_impl_IsMove_eq (x : (ByteArray × Int)) : Fev env_impl_IsMove loops_impl_IsMove c_impl_IsMove.ps c_impl_IsMove.rs Tryz.f241 x = F_impl_IsMove x := by kernel_rfl
theorem env_impl_IsMove_ok : EnvOK Tryz.prog env_impl_IsMove := envOK_of (fun f c h => by
  simp only [env_impl_IsMove] at h
  split at h
  · cases h; exact con_impl_within
  · cases h; exact con_impl_hasOnly
  · cases h) (fun f c h => by cases h) rfl
theorem con_impl_IsMove : ConOK Tryz.prog 241 c_impl_IsMove := con_of_ev' (body := Tryz.f241.body.getD .skip) (Λ := loops_impl_IsMove) mixed Tryz.func241 (by kernel_rfl) (by kernel_rfl) env_impl_IsMove_ok (by kernel_rfl) (by kernel_rfl) (fun n L h => by cases h) F_impl_IsMove_eq

noncomputable def F_impl_Move_text (x : (ByteArray × Int)) : Option (ByteArray) :=
 bif (x.1.toList == (⟨#[]⟩ : ByteArray).toList) then
  some ((⟨#[45]⟩ : ByteArray))
 else
  bif ((x.2 == 1)) then
   some (x.1)
  else
   bif decide (x.1.size + (⟨#[42]⟩ : ByteArray).size ≤ 9223372036854775807) then
    match F_strconv_Itoa (x.2) with
    | none => none
    | some y1 =>
     bif decide ((x.1 ++ (⟨#[42]⟩ : ByteArray)).size + y1.size ≤ 9223372036854775807) then
      some (((x.1 ++ (⟨#[42]⟩ : ByteArray)) ++ y1))
     else none
   else none
noncomputable def c_impl_Move_text : Con := { ps := [(.val, (.st (.pair .str (.int .i64))))], rs := [(.val, .str)], F := F_impl_Move_text }
noncomputable def env_impl_Move_text : Env := { par := [], dp := false, settle := [], con := fun f => match f with | 202 => some c_strconv_Itoa | _ => none, clo := fun _ => none, T := tinf Tryz.prog }
noncomputable def loops_impl_Move_text : Nat → Option Loop := fun n => none
theorem F_impl_Move_text_eq (x : (ByteArray × Int)) : Fev env_impl_Move_text loops_impl_Move_text c_impl_Move_text.ps c_impl_Move_text.rs Tryz.f242 x = F_impl_Move_text x := by kernel_rfl
theorem env_impl_Move_text_ok : EnvOK Tryz.prog env_impl_Move_text := envOK_of (fun f c h => by
  simp only [env_impl_Move_text] at h
  split at h
  · cases h; exact con_strconv_Itoa
  · cases h) (fun f c h => by cases h) rfl
theorem con_impl_Move_text : ConOK Tryz.prog 242 c_impl_Move_text := con_of_ev' (body := Tryz.f242.body.getD .skip) (Λ := loops_impl_Move_text) mixed Tryz.func242 (by kernel_rfl) (by kernel_rfl) env_impl_Move_text_ok (by kernel_rfl) (by kernel_rfl) (fun n L h => by cases h) F_impl_Move_text_eq

noncomputable def F_impl_ParseMove (x : ByteArray) : Option ((ByteArray × Int) × Bool) :=
 match F_strings_Cut ((x, (⟨#[42]⟩ : ByteArray))) with
 | none => none
 | some y1 =>
  bif y1.2.2 then
   match F_impl_decimal (y1.2.1) with
   | none => none
   | some y2 =>
    bif (x.toList == (⟨#[45]⟩ : ByteArray).toList) then
     match F_impl_IsMove (((⟨#[]⟩ : ByteArray), y2.1)) with
     | none => none
     | some y3 =>
      bif (!y3) then
       some (((ByteArray.empty, 0), false))
      else
       match F_impl_Move_text (((⟨#[]⟩ : ByteArray), y2.1)) with
       | none => none
       | some y4 =>
        bif (!(y4.toList == x.toList)) then
         some (((ByteArray.empty, 0), false))
        else
         some ((((⟨#[]⟩ : ByteArray), y2.1), true))
    else
     match F_impl_IsMove ((y1.1, y2.1)) with
     | none => none
     | some y5 =>
      bif (!y5) then
       some (((ByteArray.empty, 0), false))
      else
       match F_impl_Move_text ((y1.1, y2.1)) with
       | none => none
       | some y6 =>
        bif (!(y6.toList == x.toList)) then
         some (((ByteArray.empty, 0), false))
        else
         some (((y1.1, y2.1), true))
  else
   bif (x.toList == (⟨#[45]⟩ : ByteArray).toList) then
    match F_impl_IsMove (((⟨#[]⟩ : ByteArray), 1)) with
    | none => none
    | some y7 =>
     bif (!y7) then
      some (((ByteArray.empty, 0), false))
     else
      match F_impl_Move_text (((⟨#[]⟩ : ByteArray), 1)) with
      | none => none
      | some y8 =>
       bif (!(y8.toList == x.toList)) then
        some (((ByteArray.empty, 0), false))
       else
        some ((((⟨#[]⟩ : ByteArray), 1), true))
   else
    match F_impl_IsMove ((y1.1, 1)) with
    | none => none
    | some y9 =>
     bif (!y9) then
      some (((ByteArray.empty, 0), false))
     else
      match F_impl_Move_text ((y1.1, 1)) with
      | none => none
      | some y10 =>
       bif (!(y10.toList == x.toList)) then
        some (((ByteArray.empty, 0), false))
       else
        some (((y1.1, 1), true))
noncomputable def c_impl_ParseMove : Con := { ps := [(.val, .str)], rs := [(.val, (.st (.pair .str (.int .i64)))), (.val, .bool)], F := F_impl_ParseMove }
noncomputable def env_impl_ParseMove : Env := { par := [], dp := false, settle := [], con := fun f => match f with | 110 => some c_strings_Cut | 240 => some c_impl_decimal | 241 => some c_impl_IsMove | 242 => some c_impl_Move_text | _ => none, clo := fun _ => none, T := tinf Tryz.prog }
noncomputable def loops_impl_ParseMove : Nat → Option Loop := fun n => none
theorem F_impl_ParseMove_eq (x : ByteArray) : Fev env_impl_ParseMove loops_impl_ParseMove c_impl_ParseMove.ps c_impl_ParseMove.rs Tryz.f156 x = F_impl_ParseMove x := by kernel_rfl
theorem env_impl_ParseMove_ok : EnvOK Tryz.prog env_impl_ParseMove := envOK_of (fun f c h => by
  simp only [env_impl_ParseMove] at h
  split at h
  · cases h; exact con_strings_Cut
  · cases h; exact con_impl_decimal
  · cases h; exact con_impl_IsMove
  · cases h; exact con_impl_Move_text
  · cases h) (fun f c h => by cases h) rfl
theorem con_impl_ParseMove : ConOK Tryz.prog 156 c_impl_ParseMove := con_of_ev' (body := Tryz.f156.body.getD .skip) (Λ := loops_impl_ParseMove) mixed Tryz.func156 (by kernel_rfl) (by kernel_rfl) env_impl_ParseMove_ok (by kernel_rfl) (by kernel_rfl) (fun n L h => by cases h) F_impl_ParseMove_eq

noncomputable def step_impl_readHand_0 (s : (List ByteArray) × Int × (Bool × (Bool × (Bool × Bool))) × Int × Int × Int × Int × Int × Int × Bool × Int × Int × Int × Int × Bool × ByteArray × Int × Int × Int × Int × Int × Int × Bool × Int × Int × Int × Int × Bool × ByteArray × Int) : Option (((List ByteArray) × Int × (Bool × (Bool × (Bool × Bool))) × Int × Int × Int × Int × Int × Int × Bool × Int × Int × Int × Int × Bool × ByteArray × Int × Int × Int × Int × Int × Int × Bool × Int × Int × Int × Int × Bool × ByteArray × Int) ⊕ ((Int × Int × Int × Int × Int × Int × Int × Bool × Int × Int × Int × Int × Bool × ByteArray × Int) ⊕ (Int × Int × Int × Int × Int × Bool × Int × Int × Int × Int × Bool × ByteArray × Int × Int × Int × Int × Int × Int × Bool × Int × Int × Int × Int × Bool × ByteArray × Int))) :=
 bif (decide (s.2.2.2.1 < 4)) then
  bif decide (0 ≤ s.2.2.2.1) && decide (s.2.2.2.1 < (4 : Int)) then
   bif (!([s.2.2.1.1, s.2.2.1.2.1, s.2.2.1.2.2.1, s.2.2.1.2.2.2].getD (s.2.2.2.1).toNat false)) then
    let v10 := IntKind.i64.wrap (3 + s.2.2.2.1)
    some (.inr (.inl ((v10, s.2.1, (0, 0, (0, 0, (0, false, (0, 0, (0, 0, (false, ByteArray.empty, 0))))))))))
   else
    bif decide (0 ≤ s.2.2.2.1) && decide (s.2.2.2.1 < (s.1.length : Int)) then
     let v11 := IntKind.i64.wrap (((s.1.getD (s.2.2.2.1).toNat ByteArray.empty).size : Int) + 1)
     let v12 := IntKind.i64.wrap (s.2.1 + v11)
     let v13 := IntKind.i64.wrap (s.2.2.2.1 + 1)
     some (.inl ((s.1, v12, (s.2.2.1, v13, s.2.2.2.2))))
    else none
  else none
 else
  some (.inr (.inr (s.2.2.2.2)))
def pat_impl_readHand_0 : Pat := { tmps := [.any, .any, .ptr 128 0, .any, .any, .v (.slice .str), .ptr 384 0, .any, .v (.int .i64), .any, .any, .any, .any, .any, .any, .any, .any, .any, .any, .any, .any, .any, .any, .any, .any, .any, .any, .any, .any, .any, .any, .any, .any, .any, .any, .any, .any, .any, .any, .any, .any, .any, .any, .any, .any, .any, .any, .any, .any, .any, .any, .any, .any, .v (.st (.pair .bool (.pair .bool (.pair .bool .bool)))), .v (.int .i64), .any, .any, .any, .any, .any, .any, .any, .any, .any, .any, .any, .any, .any, .any, .any, .any, .any, .any, .any], blks := [(384, .box [.v (.int .i64), .v (.int .i64), .v (.int .i64), .v (.int .i64), .v (.int .i64), .v .bool, .v (.int .i64), .v (.int .i64), .v (.int .i64), .v (.int .i64), .v .bool, .v .str, .v (.int .i64)]), (128, .box [.v (.int .i64), .v (.int .i64), .v (.int .i64), .v (.int .i64), .v (.int .i64), .v .bool, .v (.int .i64), .v (.int .i64), .v (.int .i64), .v (.int .i64), .v .bool, .v .str, .v (.int .i64)])] }
def outs_impl_readHand_0 : List (Exit × Pat) := [(.ret, { tmps := [.any, .any, .ptr 128 0, .v (.int .i64), .v (.int .i64), .any, .any, .any, .any, .any, .any, .any, .any, .any, .any, .any, .any, .any, .any, .any, .any, .any, .any, .any, .any, .any, .any, .any, .any, .any, .any, .any, .any, .any, .any, .any, .any, .any, .any, .any, .any, .any, .any, .any, .any, .any, .any, .any, .any, .any, .any, .any, .any, .any, .any, .any, .any, .any, .any, .any, .any, .any, .any, .any, .any, .any, .any, .any, .any, .any, .any, .any, .any, .any], blks := [(128, .box [.v (.int .i64), .v (.int .i64), .v (.int .i64), .v (.int .i64), .v (.int .i64), .v .bool, .v (.int .i64), .v (.int .i64), .v (.int .i64), .v (.int .i64), .v .bool, .v .str, .v (.int .i64)])] }), (.exit 0, { tmps := [.any, .any, .ptr 128 0, .any, .any, .any, .ptr 384 0, .any, .any, .any, .any, .any, .any, .any, .any, .any, .any, .any, .any, .any, .any, .any, .any, .any, .any, .any, .any, .any, .any, .any, .any, .any, .any, .any, .any, .any, .any, .any, .any, .any, .any, .any, .any, .any, .any, .any, .any, .any, .any, .any, .any, .any, .any, .any, .any, .any, .any, .any, .any, .any, .any, .any, .any, .any, .any, .any, .any, .any, .any, .any, .any, .any, .any, .any], blks := [(384, .box [.v (.int .i64), .v (.int .i64), .v (.int .i64), .v (.int .i64), .v (.int .i64), .v .bool, .v (.int .i64), .v (.int .i64), .v (.int .i64), .v (.int .i64), .v .bool, .v .str, .v (.int .i64)]), (128, .box [.v (.int .i64), .v (.int .i64), .v (.int .i64), .v (.int .i64), .v (.int .i64), .v .bool, .v (.int .i64), .v (.int .i64), .v (.int .i64), .v (.int .i64), .v .bool, .v .str, .v (.int .i64)])] })]
noncomputable def F_impl_readHand (x : ByteArray) : Option (((Int × (Int × (Int × (Int × (Int × Bool))))) × ((Int × Int) × ((Int × (Int × Bool)) × (ByteArray × Int)))) × Int × Int) :=
 match F_strings_Split ((x, (⟨#[47]⟩ : ByteArray))) with
 | none => none
 | some y1 =>
  bif (((y1.length : Int) != 4)) then
   some ((((0, (0, 0, (0, 0, false))), (0, 0), ((0, 0, false), ByteArray.empty, 0)), 2, 0))
  else
   bif decide (0 ≤ 0) && decide (0 < (y1.length : Int)) then
    match F_impl_ParseShape ((y1.getD (0 : Int).toNat ByteArray.empty)) with
    | none => none
    | some y2 =>
     bif decide (0 ≤ 1) && decide (1 < (y1.length : Int)) then
      match F_impl_ParseOrient ((y1.getD (1 : Int).toNat ByteArray.empty)) with
      | none => none
      | some y3 =>
       bif decide (0 ≤ 2) && decide (2 < (y1.length : Int)) then
        match F_impl_ParsePlace ((y1.getD (2 : Int).toNat ByteArray.empty)) with
        | none => none
        | some y4 =>
         bif decide (0 ≤ 3) && decide (3 < (y1.length : Int)) then
          match F_impl_ParseMove ((y1.getD (3 : Int).toNat ByteArray.empty)) with
          | none => none
          | some y5 =>
           match runL step_impl_readHand_0 ((y1, (0, (y2.2, (y3.2, y4.2, y5.2)), (0, y2.1.1, (y2.1.2.1, y2.1.2.2.1, (y2.1.2.2.2.1, y2.1.2.2.2.2.1, (y2.1.2.2.2.2.2, y3.1.1, (y3.1.2, y4.1.1, (y4.1.2.1, y4.1.2.2, (y5.1.1, y5.1.2, (0, 0, (0, 0, (0, false, (0, 0, (0, 0, (false, ByteArray.empty, 0)))))))))))))))) with
           | none => none
           | some (.inl o14) =>
            some ((((o14.2.2.1, (o14.2.2.2.1, o14.2.2.2.2.1, (o14.2.2.2.2.2.1, o14.2.2.2.2.2.2.1, o14.2.2.2.2.2.2.2.1))), ((o14.2.2.2.2.2.2.2.2.1, o14.2.2.2.2.2.2.2.2.2.1), (o14.2.2.2.2.2.2.2.2.2.2.1, o14.2.2.2.2.2.2.2.2.2.2.2.1, o14.2.2.2.2.2.2.2.2.2.2.2.2.1), o14.2.2.2.2.2.2.2.2.2.2.2.2.2)), o14.1, o14.2.1))
           | some (.inr o14) =>
            some ((((o14.1, (o14.2.1, o14.2.2.1, (o14.2.2.2.1, o14.2.2.2.2.1, o14.2.2.2.2.2.1))), (o14.2.2.2.2.2.2.1, o14.2.2.2.2.2.2.2.1), ((o14.2.2.2.2.2.2.2.2.1, o14.2.2.2.2.2.2.2.2.2.1, o14.2.2.2.2.2.2.2.2.2.2.1), o14.2.2.2.2.2.2.2.2.2.2.2.1, o14.2.2.2.2.2.2.2.2.2.2.2.2.1)), 0, 0))
         else none
       else none
     else none
   else none
noncomputable def c_impl_readHand : Con := { ps := [(.val, .str)], rs := [(.val, (.st (.pair (.st (.pair (.int .i64) (.pair (.int .i64) (.pair (.int .i64) (.pair (.int .i64) (.pair (.int .i64) .bool)))))) (.pair (.st (.pair (.int .i64) (.int .i64))) (.pair (.st (.pair (.int .i64) (.pair (.int .i64) .bool))) (.st (.pair .str (.int .i64)))))))), (.val, (.int .i64)), (.val, (.int .i64))], F := F_impl_readHand }
noncomputable def env_impl_readHand : Env := { par := [], dp := false, settle := [], con := fun f => match f with | 111 => some c_strings_Split | 152 => some c_impl_ParseShape | 153 => some c_impl_ParseOrient | 154 => some c_impl_ParsePlace | 156 => some c_impl_ParseMove | _ => none, clo := fun _ => none, T := tinf Tryz.prog }
noncomputable def loops_impl_readHand : Nat → Option Loop := fun n => match n with | 12 => some { pat := pat_impl_readHand_0, outs := outs_impl_readHand_0, run := runL (step_impl_readHand_0) } | _ => none
theorem step_impl_readHand_0_eq (s : (List ByteArray) × Int × (Bool × (Bool × (Bool × Bool))) × Int × Int × Int × Int × Int × Int × Bool × Int × Int × Int × Int × Bool × ByteArray × Int × Int × Int × Int × Int × Int × Bool × Int × Int × Int × Int × Bool × ByteArray × Int) : stepEv env_impl_readHand loops_impl_readHand pat_impl_readHand_0 outs_impl_readHand_0 Tryz.f150 12 s = step_impl_readHand_0 s := by kernel_rfl
theorem F_impl_readHand_eq (x : ByteArray) : Fev env_impl_readHand loops_impl_readHand c_impl_readHand.ps c_impl_readHand.rs Tryz.f150 x = F_impl_readHand x := by kernel_rfl
theorem env_impl_readHand_ok : EnvOK Tryz.prog env_impl_readHand := envOK_of (fun f c h => by
  simp only [env_impl_readHand] at h
  split at h
  · cases h; exact con_strings_Split
  · cases h; exact con_impl_ParseShape
  · cases h; exact con_impl_ParseOrient
  · cases h; exact con_impl_ParsePlace
  · cases h; exact con_impl_ParseMove
  · cases h) (fun f c h => by cases h) rfl
theorem con_impl_readHand : ConOK Tryz.prog 150 c_impl_readHand := con_of_ev' (body := Tryz.f150.body.getD .skip) (Λ := loops_impl_readHand) mixed Tryz.func150 (by kernel_rfl) (by kernel_rfl) env_impl_readHand_ok (by kernel_rfl) (by kernel_rfl) (fun n L h => by
  unfold loops_impl_readHand at h
  split at h
  · cases h; exact fun s o ho => loop_ok (stepF := stepEv env_impl_readHand loops_impl_readHand pat_impl_readHand_0 outs_impl_readHand_0 Tryz.f150 12) (step_impl_readHand_0_eq) ho
  · cases h) F_impl_readHand_eq

noncomputable def F_impl_Hand_moves (x : ((Int × (Int × (Int × (Int × (Int × Bool))))) × ((Int × Int) × ((Int × (Int × Bool)) × (ByteArray × Int))))) : Option (Bool) :=
 some ((!(x.2.2.2.1.toList == (⟨#[]⟩ : ByteArray).toList)))
noncomputable def c_impl_Hand_moves : Con := { ps := [(.val, (.st (.pair (.st (.pair (.int .i64) (.pair (.int .i64) (.pair (.int .i64) (.pair (.int .i64) (.pair (.int .i64) .bool)))))) (.pair (.st (.pair (.int .i64) (.int .i64))) (.pair (.st (.pair (.int .i64) (.pair (.int .i64) .bool))) (.st (.pair .str (.int .i64))))))))], rs := [(.val, .bool)], F := F_impl_Hand_moves }
noncomputable def env_impl_Hand_moves : Env := { par := [], dp := false, settle := [], con := fun _ => none, clo := fun _ => none, T := tinf Tryz.prog }
noncomputable def loops_impl_Hand_moves : Nat → Option Loop := fun n => none
theorem F_impl_Hand_moves_eq (x : ((Int × (Int × (Int × (Int × (Int × Bool))))) × ((Int × Int) × ((Int × (Int × Bool)) × (ByteArray × Int))))) : Fev env_impl_Hand_moves loops_impl_Hand_moves c_impl_Hand_moves.ps c_impl_Hand_moves.rs Tryz.f172 x = F_impl_Hand_moves x := by kernel_rfl
theorem env_impl_Hand_moves_ok : EnvOK Tryz.prog env_impl_Hand_moves := envOK_of (fun f c h => by cases h) (fun f c h => by cases h) rfl
theorem con_impl_Hand_moves : ConOK Tryz.prog 172 c_impl_Hand_moves := con_of_ev' (body := Tryz.f172.body.getD .skip) (Λ := loops_impl_Hand_moves) mixed Tryz.func172 (by kernel_rfl) (by kernel_rfl) env_impl_Hand_moves_ok (by kernel_rfl) (by kernel_rfl) (fun n L h => by cases h) F_impl_Hand_moves_eq

noncomputable def step_impl_PlainShapes_0 (s : Int × Int × (List ByteArray) × (List (Int × (Int × (Int × (Int × (Int × Bool))))))) : Option ((Int × Int × (List ByteArray) × (List (Int × (Int × (Int × (Int × (Int × Bool))))))) ⊕ (((List (Int × (Int × (Int × (Int × (Int × Bool))))))))) :=
 bif (decide (s.2.1 < s.1)) then
  bif decide (0 ≤ s.2.1) && decide (s.2.1 < (s.2.2.1.length : Int)) then
   match F_impl_ParseShape ((s.2.2.1.getD (s.2.1).toNat ByteArray.empty)) with
   | none => none
   | some y6 =>
    bif decide ((s.2.2.2.length + [y6.1].length) * 48 ≤ 140737488355328) then
     let v7 := s.2.2.2 ++ [y6.1]
     let v8 := IntKind.i64.wrap (s.2.1 + 1)
     some (.inl ((s.1, (v8, s.2.2.1, v7))))
    else none
  else none
 else
  some (.inr (s.2.2.2))
def pat_impl_PlainShapes_0 : Pat := { tmps := [.any, .own 1280, .any, .any, .any, .any, .own 384, .v (.int .i64), .v (.int .i64), .any, .any, .any, .any, .any, .any, .any, .any, .any, .any, .any, .any, .any, .any], blks := [(384, .row true .str), (1280, .row true (.st (.pair (.int .i64) (.pair (.int .i64) (.pair (.int .i64) (.pair (.int .i64) (.pair (.int .i64) .bool)))))))] }
def outs_impl_PlainShapes_0 : List (Exit × Pat) := [(.exit 0, { tmps := [.any, .own 1280, .any, .any, .any, .any, .any, .any, .any, .any, .any, .any, .any, .any, .any, .any, .any, .any, .any, .any, .any, .any, .any], blks := [(1280, .row true (.st (.pair (.int .i64) (.pair (.int .i64) (.pair (.int .i64) (.pair (.int .i64) (.pair (.int .i64) .bool)))))))] })]
noncomputable def F_impl_PlainShapes (x : Unit) : Option ((List (Int × (Int × (Int × (Int × (Int × Bool))))))) :=
 match runL step_impl_PlainShapes_0 ((([(⟨#[48, 48, 48, 48, 48]⟩ : ByteArray), (⟨#[48, 48, 48, 48, 48, 115]⟩ : ByteArray), (⟨#[50, 50, 50, 50, 50]⟩ : ByteArray), (⟨#[49, 48, 48, 48, 48]⟩ : ByteArray), (⟨#[49, 48, 50, 50, 50]⟩ : ByteArray), (⟨#[48, 48, 50, 50, 50]⟩ : ByteArray)].length : Int), (0, [(⟨#[48, 48, 48, 48, 48]⟩ : ByteArray), (⟨#[48, 48, 48, 48, 48, 115]⟩ : ByteArray), (⟨#[50, 50, 50, 50, 50]⟩ : ByteArray), (⟨#[49, 48, 48, 48, 48]⟩ : ByteArray), (⟨#[49, 48, 50, 50, 50]⟩ : ByteArray), (⟨#[48, 48, 50, 50, 50]⟩ : ByteArray)], []))) with
 | none => none
 | some o9 =>
  some (o9)
noncomputable def c_impl_PlainShapes : Con := { ps := [], rs := [(.io true, (.slice (.st (.pair (.int .i64) (.pair (.int .i64) (.pair (.int .i64) (.pair (.int .i64) (.pair (.int .i64) .bool))))))))], F := F_impl_PlainShapes }
noncomputable def env_impl_PlainShapes : Env := { par := [], dp := false, settle := [], con := fun f => match f with | 152 => some c_impl_ParseShape | _ => none, clo := fun _ => none, T := tinf Tryz.prog }
noncomputable def loops_impl_PlainShapes : Nat → Option Loop := fun n => match n with | 3 => some { pat := pat_impl_PlainShapes_0, outs := outs_impl_PlainShapes_0, run := runL (step_impl_PlainShapes_0) } | _ => none
theorem step_impl_PlainShapes_0_eq (s : Int × Int × (List ByteArray) × (List (Int × (Int × (Int × (Int × (Int × Bool))))))) : stepEv env_impl_PlainShapes loops_impl_PlainShapes pat_impl_PlainShapes_0 outs_impl_PlainShapes_0 Tryz.f246 3 s = step_impl_PlainShapes_0 s := by kernel_rfl
theorem F_impl_PlainShapes_eq (x : Unit) : Fev env_impl_PlainShapes loops_impl_PlainShapes c_impl_PlainShapes.ps c_impl_PlainShapes.rs Tryz.f246 x = F_impl_PlainShapes x := by kernel_rfl
theorem env_impl_PlainShapes_ok : EnvOK Tryz.prog env_impl_PlainShapes := envOK_of (fun f c h => by
  simp only [env_impl_PlainShapes] at h
  split at h
  · cases h; exact con_impl_ParseShape
  · cases h) (fun f c h => by cases h) rfl
theorem con_impl_PlainShapes : ConOK Tryz.prog 246 c_impl_PlainShapes := con_of_ev' (body := Tryz.f246.body.getD .skip) (Λ := loops_impl_PlainShapes) mixed Tryz.func246 (by kernel_rfl) (by kernel_rfl) env_impl_PlainShapes_ok (by kernel_rfl) (by kernel_rfl) (fun n L h => by
  unfold loops_impl_PlainShapes at h
  split at h
  · cases h; exact fun s o ho => loop_ok (stepF := stepEv env_impl_PlainShapes loops_impl_PlainShapes pat_impl_PlainShapes_0 outs_impl_PlainShapes_0 Tryz.f246 3) (step_impl_PlainShapes_0_eq) ho
  · cases h) F_impl_PlainShapes_eq

noncomputable def step_slices_Index_impl_Shape_impl_Shape_0 (s : (List (Int × (Int × (Int × (Int × (Int × Bool)))))) × Int × Int × Int × Int × Int × Int × Int × Bool) : Option (((List (Int × (Int × (Int × (Int × (Int × Bool)))))) × Int × Int × Int × Int × Int × Int × Int × Bool) ⊕ ((Int) ⊕ (Unit))) :=
 bif (decide (s.2.2.1 < s.2.1)) then
  bif decide (0 ≤ s.2.2.1) && decide (s.2.2.1 < (s.1.length : Int)) then
   bif ((s.2.2.2.1 == (s.1.getD (s.2.2.1).toNat (0, (0, 0, (0, 0, false)))).1) && ((s.2.2.2.2.1 == (s.1.getD (s.2.2.1).toNat (0, (0, 0, (0, 0, false)))).2.1) && ((s.2.2.2.2.2.1 == (s.1.getD (s.2.2.1).toNat (0, (0, 0, (0, 0, false)))).2.2.1) && ((s.2.2.2.2.2.2.1 == (s.1.getD (s.2.2.1).toNat (0, (0, 0, (0, 0, false)))).2.2.2.1) && ((s.2.2.2.2.2.2.2.1 == (s.1.getD (s.2.2.1).toNat (0, (0, 0, (0, 0, false)))).2.2.2.2.1) && ((s.2.2.2.2.2.2.2.2 == (s.1.getD (s.2.2.1).toNat (0, (0, 0, (0, 0, false)))).2.2.2.2.2) && true)))))) then
    some (.inr (.inl (s.2.2.1)))
   else
    let v2 := IntKind.i64.wrap (s.2.2.1 + 1)
    some (.inl ((s.1, (s.2.1, v2, s.2.2.2))))
  else none
 else
  some (.inr (.inr (())))
def pat_slices_Index_impl_Shape_impl_Shape_0 : Pat := { tmps := [.v (.slice (.st (.pair (.int .i64) (.pair (.int .i64) (.pair (.int .i64) (.pair (.int .i64) (.pair (.int .i64) .bool))))))), .any, .any, .ptr 192 0, .any, .any, .any, .v (.int .i64), .v (.int .i64), .any, .any, .any, .any, .any, .any, .any, .any, .any, .any], blks := [(192, .box [.v (.int .i64), .v (.int .i64), .v (.int .i64), .v (.int .i64), .v (.int .i64), .v .bool])] }
def outs_slices_Index_impl_Shape_impl_Shape_0 : List (Exit × Pat) := [(.ret, { tmps := [.any, .any, .any, .any, .v (.int .i64), .any, .any, .any, .any, .any, .any, .any, .any, .any, .any, .any, .any, .any, .any], blks := [] }), (.exit 0, { tmps := [.any, .any, .any, .any, .any, .any, .any, .any, .any, .any, .any, .any, .any, .any, .any, .any, .any, .any, .any], blks := [] })]
noncomputable def F_slices_Index_impl_Shape_impl_Shape (x : (List (Int × (Int × (Int × (Int × (Int × Bool)))))) × (Int × (Int × (Int × (Int × (Int × Bool)))))) : Option (Int) :=
 match runL step_slices_Index_impl_Shape_impl_Shape_0 ((x.1, ((x.1.length : Int), 0, x.2))) with
 | none => none
 | some (.inl o3) =>
  some (o3)
 | some (.inr o3) =>
  some ((-1))
noncomputable def c_slices_Index_impl_Shape_impl_Shape : Con := { ps := [(.val, (.slice (.st (.pair (.int .i64) (.pair (.int .i64) (.pair (.int .i64) (.pair (.int .i64) (.pair (.int .i64) .bool)))))))), (.val, (.st (.pair (.int .i64) (.pair (.int .i64) (.pair (.int .i64) (.pair (.int .i64) (.pair (.int .i64) .bool)))))))], rs := [(.val, (.int .i64))], F := F_slices_Index_impl_Shape_impl_Shape }
noncomputable def env_slices_Index_impl_Shape_impl_Shape : Env := { par := [], dp := false, settle := [], con := fun _ => none, clo := fun _ => none, T := tinf Tryz.prog }
noncomputable def loops_slices_Index_impl_Shape_impl_Shape : Nat → Option Loop := fun n => match n with | 2 => some { pat := pat_slices_Index_impl_Shape_impl_Shape_0, outs := outs_slices_Index_impl_Shape_impl_Shape_0, run := runL (step_slices_Index_impl_Shape_impl_Shape_0) } | _ => none
theorem step_slices_Index_impl_Shape_impl_Shape_0_eq (s : (List (Int × (Int × (Int × (Int × (Int × Bool)))))) × Int × Int × Int × Int × Int × Int × Int × Bool) : stepEv env_slices_Index_impl_Shape_impl_Shape loops_slices_Index_impl_Shape_impl_Shape pat_slices_Index_impl_Shape_impl_Shape_0 outs_slices_Index_impl_Shape_impl_Shape_0 Tryz.f316 2 s = step_slices_Index_impl_Shape_impl_Shape_0 s := by kernel_rfl
theorem F_slices_Index_impl_Shape_impl_Shape_eq (x : (List (Int × (Int × (Int × (Int × (Int × Bool)))))) × (Int × (Int × (Int × (Int × (Int × Bool)))))) : Fev env_slices_Index_impl_Shape_impl_Shape loops_slices_Index_impl_Shape_impl_Shape c_slices_Index_impl_Shape_impl_Shape.ps c_slices_Index_impl_Shape_impl_Shape.rs Tryz.f316 x = F_slices_Index_impl_Shape_impl_Shape x := by kernel_rfl
theorem env_slices_Index_impl_Shape_impl_Shape_ok : EnvOK Tryz.prog env_slices_Index_impl_Shape_impl_Shape := envOK_of (fun f c h => by cases h) (fun f c h => by cases h) rfl
theorem con_slices_Index_impl_Shape_impl_Shape : ConOK Tryz.prog 316 c_slices_Index_impl_Shape_impl_Shape := con_of_ev' (body := Tryz.f316.body.getD .skip) (Λ := loops_slices_Index_impl_Shape_impl_Shape) mixed Tryz.func316 (by kernel_rfl) (by kernel_rfl) env_slices_Index_impl_Shape_impl_Shape_ok (by kernel_rfl) (by kernel_rfl) (fun n L h => by
  unfold loops_slices_Index_impl_Shape_impl_Shape at h
  split at h
  · cases h; exact fun s o ho => loop_ok (stepF := stepEv env_slices_Index_impl_Shape_impl_Shape loops_slices_Index_impl_Shape_impl_Shape pat_slices_Index_impl_Shape_impl_Shape_0 outs_slices_Index_impl_Shape_impl_Shape_0 Tryz.f316 2) (step_slices_Index_impl_Shape_impl_Shape_0_eq) ho
  · cases h) F_slices_Index_impl_Shape_impl_Shape_eq

noncomputable def F_slices_Contains_impl_Shape_impl_Shape (x : (List (Int × (Int × (Int × (Int × (Int × Bool)))))) × (Int × (Int × (Int × (Int × (Int × Bool)))))) : Option (Bool) :=
 match F_slices_Index_impl_Shape_impl_Shape (x) with
 | none => none
 | some y1 =>
  some ((decide (y1 ≥ 0)))
noncomputable def c_slices_Contains_impl_Shape_impl_Shape : Con := { ps := [(.val, (.slice (.st (.pair (.int .i64) (.pair (.int .i64) (.pair (.int .i64) (.pair (.int .i64) (.pair (.int .i64) .bool)))))))), (.val, (.st (.pair (.int .i64) (.pair (.int .i64) (.pair (.int .i64) (.pair (.int .i64) (.pair (.int .i64) .bool)))))))], rs := [(.val, .bool)], F := F_slices_Contains_impl_Shape_impl_Shape }
noncomputable def env_slices_Contains_impl_Shape_impl_Shape : Env := { par := [], dp := false, settle := [], con := fun f => match f with | 316 => some c_slices_Index_impl_Shape_impl_Shape | _ => none, clo := fun _ => none, T := tinf Tryz.prog }
noncomputable def loops_slices_Contains_impl_Shape_impl_Shape : Nat → Option Loop := fun n => none
theorem F_slices_Contains_impl_Shape_impl_Shape_eq (x : (List (Int × (Int × (Int × (Int × (Int × Bool)))))) × (Int × (Int × (Int × (Int × (Int × Bool)))))) : Fev env_slices_Contains_impl_Shape_impl_Shape loops_slices_Contains_impl_Shape_impl_Shape c_slices_Contains_impl_Shape_impl_Shape.ps c_slices_Contains_impl_Shape_impl_Shape.rs Tryz.f245 x = F_slices_Contains_impl_Shape_impl_Shape x := by kernel_rfl
theorem env_slices_Contains_impl_Shape_impl_Shape_ok : EnvOK Tryz.prog env_slices_Contains_impl_Shape_impl_Shape := envOK_of (fun f c h => by
  simp only [env_slices_Contains_impl_Shape_impl_Shape] at h
  split at h
  · cases h; exact con_slices_Index_impl_Shape_impl_Shape
  · cases h) (fun f c h => by cases h) rfl
theorem con_slices_Contains_impl_Shape_impl_Shape : ConOK Tryz.prog 245 c_slices_Contains_impl_Shape_impl_Shape := con_of_ev' (body := Tryz.f245.body.getD .skip) (Λ := loops_slices_Contains_impl_Shape_impl_Shape) mixed Tryz.func245 (by kernel_rfl) (by kernel_rfl) env_slices_Contains_impl_Shape_impl_Shape_ok (by kernel_rfl) (by kernel_rfl) (fun n L h => by cases h) F_slices_Contains_impl_Shape_impl_Shape_eq

noncomputable def F_impl_Orient_mirrored_1 (x : Int) : Option (Int) :=
 bif ((x == 2)) then
  let v1 := IntKind.i64.wrap ((BitVec.ofInt IntKind.i64.bits (x) ^^^ BitVec.ofInt IntKind.i64.bits (1)).toNat : Nat)
  some (v1)
 else
  bif ((x == 3)) then
   let v2 := IntKind.i64.wrap ((BitVec.ofInt IntKind.i64.bits (x) ^^^ BitVec.ofInt IntKind.i64.bits (1)).toNat : Nat)
   some (v2)
  else
   some (x)
noncomputable def c_impl_Orient_mirrored_1 : Con := { ps := [(.val, (.int .i64))], rs := [(.val, (.int .i64))], F := F_impl_Orient_mirrored_1 }
noncomputable def env_impl_Orient_mirrored_1 : Env := { par := [], dp := false, settle := [], con := fun _ => none, clo := fun _ => none, T := tinf Tryz.prog }
noncomputable def loops_impl_Orient_mirrored_1 : Nat → Option Loop := fun n => none
theorem F_impl_Orient_mirrored_1_eq (x : Int) : Fev env_impl_Orient_mirrored_1 loops_impl_Orient_mirrored_1 c_impl_Orient_mirrored_1.ps c_impl_Orient_mirrored_1.rs Tryz.f317 x = F_impl_Orient_mirrored_1 x := by kernel_rfl
theorem env_impl_Orient_mirrored_1_ok : EnvOK Tryz.prog env_impl_Orient_mirrored_1 := envOK_of (fun f c h => by cases h) (fun f c h => by cases h) rfl
theorem con_impl_Orient_mirrored_1 : ConOK Tryz.prog 317 c_impl_Orient_mirrored_1 := con_of_ev' (body := Tryz.f317.body.getD .skip) (Λ := loops_impl_Orient_mirrored_1) mixed Tryz.func317 (by kernel_rfl) (by kernel_rfl) env_impl_Orient_mirrored_1_ok (by kernel_rfl) (by kernel_rfl) (fun n L h => by cases h) F_impl_Orient_mirrored_1_eq

noncomputable def F_impl_Orient_mirrored (x : (Int × Int)) : Option ((Int × Int)) :=
 match F_impl_Orient_mirrored_1 (x.1) with
 | none => none
 | some y1 =>
  match F_impl_Orient_mirrored_1 (x.2) with
  | none => none
  | some y2 =>
   some ((y1, y2))
noncomputable def c_impl_Orient_mirrored : Con := { ps := [(.val, (.st (.pair (.int .i64) (.int .i64))))], rs := [(.val, (.st (.pair (.int .i64) (.int .i64))))], F := F_impl_Orient_mirrored }
noncomputable def env_impl_Orient_mirrored : Env := { par := [], dp := false, settle := [], con := fun f => match f with | 317 => some c_impl_Orient_mirrored_1 | _ => none, clo := fun _ => none, T := tinf Tryz.prog }
noncomputable def loops_impl_Orient_mirrored : Nat → Option Loop := fun n => none
theorem F_impl_Orient_mirrored_eq (x : (Int × Int)) : Fev env_impl_Orient_mirrored loops_impl_Orient_mirrored c_impl_Orient_mirrored.ps c_impl_Orient_mirrored.rs Tryz.f247 x = F_impl_Orient_mirrored x := by kernel_rfl
theorem env_impl_Orient_mirrored_ok : EnvOK Tryz.prog env_impl_Orient_mirrored := envOK_of (fun f c h => by
  simp only [env_impl_Orient_mirrored] at h
  split at h
  · cases h; exact con_impl_Orient_mirrored_1
  · cases h) (fun f c h => by cases h) rfl
theorem con_impl_Orient_mirrored : ConOK Tryz.prog 247 c_impl_Orient_mirrored := con_of_ev' (body := Tryz.f247.body.getD .skip) (Λ := loops_impl_Orient_mirrored) mixed Tryz.func247 (by kernel_rfl) (by kernel_rfl) env_impl_Orient_mirrored_ok (by kernel_rfl) (by kernel_rfl) (fun n L h => by cases h) F_impl_Orient_mirrored_eq

theorem fr_of_belowR {w w' : World} (h : Go.RowKit.Below w.heap.size w w') : Fr NoB w w' := ⟨h.os, h.tape, h.output, h.size, fun b hb _ => h.block b hb, fun b _ hb => h.block b hb⟩
theorem Repeat_ex : ∃ f : ByteArray × Int → Option ByteArray, f = fun x => bif decide (0 ≤ x.2) && decide (x.2 ≤ 1024) && decide (x.1.size ≤ 1048576) then some ⟨(Lib.repeatL x.1.data.toList x.2.toNat).toArray⟩ else none := ⟨_, rfl⟩
noncomputable def F_strings_Repeat : ByteArray × Int → Option ByteArray := Classical.choose Repeat_ex
theorem F_strings_Repeat_is (x : ByteArray × Int) : F_strings_Repeat x = bif decide (0 ≤ x.2) && decide (x.2 ≤ 1024) && decide (x.1.size ≤ 1048576) then some ⟨(Lib.repeatL x.1.data.toList x.2.toNat).toArray⟩ else none := congrFun (Classical.choose_spec Repeat_ex) x
noncomputable def c_strings_Repeat : Con := { ps := [(.val, .str), (.val, .int .i64)], rs := [(.val, .str)], F := F_strings_Repeat }
theorem calls_F_strings_Repeat (w : World) (x : ByteArray × Int) (y : ByteArray) (hy : F_strings_Repeat x = some y) :
    Calls Tryz.prog 285 #[.string x.1, .int .i64 x.2] w fun e w' => e = .returned (.string y) ∧ Fr NoB w w' := by
  rw [F_strings_Repeat_is] at hy
  obtain ⟨hg, hy⟩ := bif_none hy
  obtain ⟨hg, h2⟩ := and_b hg
  obtain ⟨h0, h1⟩ := and_b hg
  have h0 := of_decide_eq_true h0
  have h1 := of_decide_eq_true h1
  have h2 := of_decide_eq_true h2
  obtain rfl := (Option.some.inj hy).symm
  obtain ⟨s, c⟩ := x
  obtain ⟨k, rfl⟩ : ∃ k : Nat, c = (k : Int) := ⟨c.toNat, (Int.toNat_of_nonneg h0).symm⟩
  have h1 : (k : Int) ≤ 1024 := h1
  have h2 : s.size ≤ 1048576 := h2
  have hm : s.size * k ≤ 140737488355328 := Nat.le_trans (Nat.mul_le_mul h2 (show k ≤ 1024 by omega)) (by decide)
  refine (Tryz.strings_Repeat s k w (by omega) hm).mono ?_
  rintro e' w' ⟨rfl, hb⟩
  exact ⟨rfl, fr_of_belowR hb⟩
theorem con_strings_Repeat : ConOK Tryz.prog 285 c_strings_Repeat := con_of_pure ⟨Tryz.f285, Tryz.func285, by kernel_rfl, by kernel_rfl⟩ rfl rfl fun w x y hy _ => calls_F_strings_Repeat w x y hy

noncomputable def F_impl_Move_all (x : (ByteArray × Int)) : Option (ByteArray) :=
 match F_strings_Repeat (x) with
 | none => none
 | some y1 =>
  some (y1)
noncomputable def c_impl_Move_all : Con := { ps := [(.val, (.st (.pair .str (.int .i64))))], rs := [(.val, .str)], F := F_impl_Move_all }
noncomputable def env_impl_Move_all : Env := { par := [], dp := false, settle := [], con := fun f => match f with | 285 => some c_strings_Repeat | _ => none, clo := fun _ => none, T := tinf Tryz.prog }
noncomputable def loops_impl_Move_all : Nat → Option Loop := fun n => none
theorem F_impl_Move_all_eq (x : (ByteArray × Int)) : Fev env_impl_Move_all loops_impl_Move_all c_impl_Move_all.ps c_impl_Move_all.rs Tryz.f200 x = F_impl_Move_all x := by kernel_rfl
theorem env_impl_Move_all_ok : EnvOK Tryz.prog env_impl_Move_all := envOK_of (fun f c h => by
  simp only [env_impl_Move_all] at h
  split at h
  · cases h; exact con_strings_Repeat
  · cases h) (fun f c h => by cases h) rfl
theorem con_impl_Move_all : ConOK Tryz.prog 200 c_impl_Move_all := con_of_ev' (body := Tryz.f200.body.getD .skip) (Λ := loops_impl_Move_all) mixed Tryz.func200 (by kernel_rfl) (by kernel_rfl) env_impl_Move_all_ok (by kernel_rfl) (by kernel_rfl) (fun n L h => by cases h) F_impl_Move_all_eq

theorem fr_of_belowM {w w' : World} (h : Go.RowKit.Below w.heap.size w w') : Fr NoB w w' := ⟨h.os, h.tape, h.output, h.size, fun b hb _ => h.block b hb, fun b _ hb => h.block b hb⟩
theorem mirrored_ex : ∃ f : ByteArray × Int → Option (ByteArray × Int), f = fun x => bif decide (x.1.size ≤ 9223372036854775806) then some (rpStr x.1, x.2) else none := ⟨_, rfl⟩
noncomputable def F_impl_Move_mirrored : ByteArray × Int → Option (ByteArray × Int) := Classical.choose mirrored_ex
theorem F_impl_Move_mirrored_is (x : ByteArray × Int) : F_impl_Move_mirrored x = bif decide (x.1.size ≤ 9223372036854775806) then some (rpStr x.1, x.2) else none := congrFun (Classical.choose_spec mirrored_ex) x
noncomputable def c_impl_Move_mirrored : Con := { ps := [(.val, .st (.pair .str (.int .i64)))], rs := [(.val, .st (.pair .str (.int .i64)))], F := F_impl_Move_mirrored }
theorem calls_F_impl_Move_mirrored (w : World) (x y : ByteArray × Int) (hy : F_impl_Move_mirrored x = some y) :
    Calls Tryz.prog 248 #[.agg #[.string x.1, .int .i64 x.2]] w fun e w' => e = .returned (.agg #[.string y.1, .int .i64 y.2]) ∧ Fr NoB w w' := by
  rw [F_impl_Move_mirrored_is] at hy
  obtain ⟨hg, hy⟩ := bif_none hy
  have h0 := of_decide_eq_true hg
  obtain rfl := (Option.some.inj hy).symm
  refine (rp_mirrored x.1 x.2 w h0).mono ?_
  rintro e' w' ⟨rfl, hb⟩
  exact ⟨rfl, fr_of_belowM hb⟩
theorem con_impl_Move_mirrored : ConOK Tryz.prog 248 c_impl_Move_mirrored := con_of_pure ⟨Tryz.f248, Tryz.func248, by kernel_rfl, by kernel_rfl⟩ rfl rfl fun w x y hy _ => calls_F_impl_Move_mirrored w x y hy

noncomputable def F_impl_keepRules (x : ((Int × (Int × (Int × (Int × (Int × Bool))))) × ((Int × Int) × ((Int × (Int × Bool)) × (ByteArray × Int)))) × ((Int × (Int × (Int × (Int × (Int × Bool))))) × ((Int × Int) × ((Int × (Int × Bool)) × (ByteArray × Int))))) : Option (Bool) :=
 match F_impl_Hand_moves (x.2) with
 | none => none
 | some y1 =>
  bif (!y1) then
   bif ((x.2.1.1 == x.1.1.1) && ((x.2.1.2.1 == x.1.1.2.1) && ((x.2.1.2.2.1 == x.1.1.2.2.1) && ((x.2.1.2.2.2.1 == x.1.1.2.2.2.1) && ((x.2.1.2.2.2.2.1 == x.1.1.2.2.2.2.1) && ((x.2.1.2.2.2.2.2 == x.1.1.2.2.2.2.2) && true)))))) then
    some (true)
   else
    match F_impl_PlainShapes () with
    | none => none
    | some y2 =>
     match F_slices_Contains_impl_Shape_impl_Shape ((y2, x.2.1)) with
     | none => none
     | some y3 =>
      some (y3)
  else
   bif ((x.2.2.1.1 == x.1.2.1.1) && ((x.2.2.1.2 == x.1.2.1.2) && true)) then
    match F_impl_Move_all (x.2.2.2.2) with
    | none => none
    | some y4 =>
     match F_impl_Move_all (x.1.2.2.2) with
     | none => none
     | some y5 =>
      bif (y4.toList == y5.toList) then
       match F_impl_Hand_moves (x.1) with
       | none => none
       | some y6 =>
        bif y6 then
         bif ((x.1.1.1 == x.2.1.1) && ((x.1.1.2.1 == x.2.1.2.1) && ((x.1.1.2.2.1 == x.2.1.2.2.1) && ((x.1.1.2.2.2.1 == x.2.1.2.2.2.1) && ((x.1.1.2.2.2.2.1 == x.2.1.2.2.2.2.1) && ((x.1.1.2.2.2.2.2 == x.2.1.2.2.2.2.2) && true)))))) then
          some (true)
         else
          some (false)
        else
         some (false)
      else
       match F_impl_Move_all (x.2.2.2.2) with
       | none => none
       | some y7 =>
        match F_impl_Move_mirrored (x.1.2.2.2) with
        | none => none
        | some y8 =>
         match F_impl_Move_all (y8) with
         | none => none
         | some y9 =>
          match F_impl_Hand_moves (x.1) with
          | none => none
          | some y10 =>
           bif y10 then
            bif ((x.1.1.1 == x.2.1.1) && ((x.1.1.2.1 == x.2.1.2.1) && ((x.1.1.2.2.1 == x.2.1.2.2.1) && ((x.1.1.2.2.2.1 == x.2.1.2.2.2.1) && ((x.1.1.2.2.2.2.1 == x.2.1.2.2.2.2.1) && ((x.1.1.2.2.2.2.2 == x.2.1.2.2.2.2.2) && true)))))) then
             some ((y7.toList == y9.toList))
            else
             some (false)
           else
            some (false)
   else
    match F_impl_Orient_mirrored (x.1.2.1) with
    | none => none
    | some y11 =>
     match F_impl_Move_all (x.2.2.2.2) with
     | none => none
     | some y12 =>
      match F_impl_Move_all (x.1.2.2.2) with
      | none => none
      | some y13 =>
       bif (y12.toList == y13.toList) then
        match F_impl_Hand_moves (x.1) with
        | none => none
        | some y14 =>
         bif y14 then
          bif ((x.1.1.1 == x.2.1.1) && ((x.1.1.2.1 == x.2.1.2.1) && ((x.1.1.2.2.1 == x.2.1.2.2.1) && ((x.1.1.2.2.2.1 == x.2.1.2.2.2.1) && ((x.1.1.2.2.2.2.1 == x.2.1.2.2.2.2.1) && ((x.1.1.2.2.2.2.2 == x.2.1.2.2.2.2.2) && true)))))) then
           bif ((x.2.2.1.1 == y11.1) && ((x.2.2.1.2 == y11.2) && true)) then
            some (true)
           else
            some (false)
          else
           some (false)
         else
          some (false)
       else
        match F_impl_Move_all (x.2.2.2.2) with
        | none => none
        | some y15 =>
         match F_impl_Move_mirrored (x.1.2.2.2) with
         | none => none
         | some y16 =>
          match F_impl_Move_all (y16) with
          | none => none
          | some y17 =>
           match F_impl_Hand_moves (x.1) with
           | none => none
           | some y18 =>
            bif y18 then
             bif ((x.1.1.1 == x.2.1.1) && ((x.1.1.2.1 == x.2.1.2.1) && ((x.1.1.2.2.1 == x.2.1.2.2.1) && ((x.1.1.2.2.2.1 == x.2.1.2.2.2.1) && ((x.1.1.2.2.2.2.1 == x.2.1.2.2.2.2.1) && ((x.1.1.2.2.2.2.2 == x.2.1.2.2.2.2.2) && true)))))) then
              bif ((x.2.2.1.1 == y11.1) && ((x.2.2.1.2 == y11.2) && true)) then
               some ((y15.toList == y17.toList))
              else
               some (false)
             else
              some (false)
            else
             some (false)
noncomputable def c_impl_keepRules : Con := { ps := [(.val, (.st (.pair (.st (.pair (.int .i64) (.pair (.int .i64) (.pair (.int .i64) (.pair (.int .i64) (.pair (.int .i64) .bool)))))) (.pair (.st (.pair (.int .i64) (.int .i64))) (.pair (.st (.pair (.int .i64) (.pair (.int .i64) .bool))) (.st (.pair .str (.int .i64)))))))), (.val, (.st (.pair (.st (.pair (.int .i64) (.pair (.int .i64) (.pair (.int .i64) (.pair (.int .i64) (.pair (.int .i64) .bool)))))) (.pair (.st (.pair (.int .i64) (.int .i64))) (.pair (.st (.pair (.int .i64) (.pair (.int .i64) .bool))) (.st (.pair .str (.int .i64))))))))], rs := [(.val, .bool)], F := F_impl_keepRules }
noncomputable def env_impl_keepRules : Env := { par := [], dp := false, settle := [], con := fun f => match f with | 172 => some c_impl_Hand_moves | 200 => some c_impl_Move_all | 245 => some c_slices_Contains_impl_Shape_impl_Shape | 246 => some c_impl_PlainShapes | 247 => some c_impl_Orient_mirrored | 248 => some c_impl_Move_mirrored | _ => none, clo := fun _ => none, T := tinf Tryz.prog }
noncomputable def loops_impl_keepRules : Nat → Option Loop := fun n => none
theorem F_impl_keepRules_eq (x : ((Int × (Int × (Int × (Int × (Int × Bool))))) × ((Int × Int) × ((Int × (Int × Bool)) × (ByteArray × Int)))) × ((Int × (Int × (Int × (Int × (Int × Bool))))) × ((Int × Int) × ((Int × (Int × Bool)) × (ByteArray × Int))))) : Fev env_impl_keepRules loops_impl_keepRules c_impl_keepRules.ps c_impl_keepRules.rs Tryz.f170 x = F_impl_keepRules x := by kernel_rfl
theorem env_impl_keepRules_ok : EnvOK Tryz.prog env_impl_keepRules := envOK_of (fun f c h => by
  simp only [env_impl_keepRules] at h
  split at h
  · cases h; exact con_impl_Hand_moves
  · cases h; exact con_impl_Move_all
  · cases h; exact con_slices_Contains_impl_Shape_impl_Shape
  · cases h; exact con_impl_PlainShapes
  · cases h; exact con_impl_Orient_mirrored
  · cases h; exact con_impl_Move_mirrored
  · cases h) (fun f c h => by cases h) rfl
theorem con_impl_keepRules : ConOK Tryz.prog 170 c_impl_keepRules := con_of_ev' (body := Tryz.f170.body.getD .skip) (Λ := loops_impl_keepRules) mixed Tryz.func170 (by kernel_rfl) (by kernel_rfl) env_impl_keepRules_ok (by kernel_rfl) (by kernel_rfl) (fun n L h => by cases h) F_impl_keepRules_eq

noncomputable def F_impl_readSign (x : ByteArray) : Option ((((Int × (Int × (Int × (Int × (Int × Bool))))) × ((Int × Int) × ((Int × (Int × Bool)) × (ByteArray × Int)))) × (Bool × ((Int × (Int × (Int × (Int × (Int × Bool))))) × ((Int × Int) × ((Int × (Int × Bool)) × (ByteArray × Int)))))) × Int × Int) :=
 match F_strings_Count ((x, (⟨#[43]⟩ : ByteArray))) with
 | none => none
 | some y1 =>
  bif (decide (y1 > 1)) then
   some (((((0, (0, 0, (0, 0, false))), (0, 0), ((0, 0, false), ByteArray.empty, 0)), false, ((0, (0, 0, (0, 0, false))), (0, 0), ((0, 0, false), ByteArray.empty, 0))), 1, 0))
  else
   match F_strings_Cut ((x, (⟨#[43]⟩ : ByteArray))) with
   | none => none
   | some y2 =>
    match F_impl_readHand (y2.1) with
    | none => none
    | some y3 =>
     bif ((y3.2.1 != 0)) then
      some (((((0, (0, 0, (0, 0, false))), (0, 0), ((0, 0, false), ByteArray.empty, 0)), false, ((0, (0, 0, (0, 0, false))), (0, 0), ((0, 0, false), ByteArray.empty, 0))), y3.2))
     else
      bif (!y2.2.2) then
       some (((y3.1, false, ((0, (0, 0, (0, 0, false))), (0, 0), ((0, 0, false), ByteArray.empty, 0))), 0, 0))
      else
       let v4 := IntKind.i64.wrap ((y2.1.size : Int) + 1)
       match F_impl_readHand (y2.2.1) with
       | none => none
       | some y5 =>
        bif ((y5.2.1 != 0)) then
         let v6 := IntKind.i64.wrap (v4 + y5.2.2)
         some (((((0, (0, 0, (0, 0, false))), (0, 0), ((0, 0, false), ByteArray.empty, 0)), false, ((0, (0, 0, (0, 0, false))), (0, 0), ((0, 0, false), ByteArray.empty, 0))), y5.2.1, v6))
        else
         match F_impl_keepRules ((y3.1, y5.1)) with
         | none => none
         | some y7 =>
          bif (!y7) then
           some (((((0, (0, 0, (0, 0, false))), (0, 0), ((0, 0, false), ByteArray.empty, 0)), false, ((0, (0, 0, (0, 0, false))), (0, 0), ((0, 0, false), ByteArray.empty, 0))), 7, v4))
          else
           some (((y3.1, true, y5.1), 0, 0))
noncomputable def c_impl_readSign : Con := { ps := [(.val, .str)], rs := [(.val, (.st (.pair (.st (.pair (.st (.pair (.int .i64) (.pair (.int .i64) (.pair (.int .i64) (.pair (.int .i64) (.pair (.int .i64) .bool)))))) (.pair (.st (.pair (.int .i64) (.int .i64))) (.pair (.st (.pair (.int .i64) (.pair (.int .i64) .bool))) (.st (.pair .str (.int .i64))))))) (.pair .bool (.st (.pair (.st (.pair (.int .i64) (.pair (.int .i64) (.pair (.int .i64) (.pair (.int .i64) (.pair (.int .i64) .bool)))))) (.pair (.st (.pair (.int .i64) (.int .i64))) (.pair (.st (.pair (.int .i64) (.pair (.int .i64) .bool))) (.st (.pair .str (.int .i64))))))))))), (.val, (.int .i64)), (.val, (.int .i64))], F := F_impl_readSign }
noncomputable def env_impl_readSign : Env := { par := [], dp := false, settle := [], con := fun f => match f with | 110 => some c_strings_Cut | 150 => some c_impl_readHand | 170 => some c_impl_keepRules | 192 => some c_strings_Count | _ => none, clo := fun _ => none, T := tinf Tryz.prog }
noncomputable def loops_impl_readSign : Nat → Option Loop := fun n => none
theorem F_impl_readSign_eq (x : ByteArray) : Fev env_impl_readSign loops_impl_readSign c_impl_readSign.ps c_impl_readSign.rs Tryz.f113 x = F_impl_readSign x := by kernel_rfl
theorem env_impl_readSign_ok : EnvOK Tryz.prog env_impl_readSign := envOK_of (fun f c h => by
  simp only [env_impl_readSign] at h
  split at h
  · cases h; exact con_strings_Cut
  · cases h; exact con_impl_readHand
  · cases h; exact con_impl_keepRules
  · cases h; exact con_strings_Count
  · cases h) (fun f c h => by cases h) rfl
theorem con_impl_readSign : ConOK Tryz.prog 113 c_impl_readSign := con_of_ev' (body := Tryz.f113.body.getD .skip) (Λ := loops_impl_readSign) mixed Tryz.func113 (by kernel_rfl) (by kernel_rfl) env_impl_readSign_ok (by kernel_rfl) (by kernel_rfl) (fun n L h => by cases h) F_impl_readSign_eq

noncomputable def F_impl_Orient_text (x : (Int × Int)) : Option (ByteArray) :=
 let v1 := IntKind.i64.wrap (x.1 + 1)
 bif decide (0 ≤ x.1) && decide (x.1 ≤ v1) && decide (v1 ≤ ((⟨#[117, 100, 108, 114, 102, 98]⟩ : ByteArray).size : Int)) then
  let v2 := IntKind.i64.wrap (x.2 + 1)
  bif decide (0 ≤ x.2) && decide (x.2 ≤ v2) && decide (v2 ≤ ((⟨#[117, 100, 108, 114, 102, 98]⟩ : ByteArray).size : Int)) then
   bif decide (((⟨#[117, 100, 108, 114, 102, 98]⟩ : ByteArray).extract (x.1).toNat (v1).toNat).size + ((⟨#[117, 100, 108, 114, 102, 98]⟩ : ByteArray).extract (x.2).toNat (v2).toNat).size ≤ 9223372036854775807) then
    some ((((⟨#[117, 100, 108, 114, 102, 98]⟩ : ByteArray).extract (x.1).toNat (v1).toNat) ++ ((⟨#[117, 100, 108, 114, 102, 98]⟩ : ByteArray).extract (x.2).toNat (v2).toNat)))
   else none
  else none
 else none
noncomputable def c_impl_Orient_text : Con := { ps := [(.val, (.st (.pair (.int .i64) (.int .i64))))], rs := [(.val, .str)], F := F_impl_Orient_text }
noncomputable def env_impl_Orient_text : Env := { par := [], dp := false, settle := [], con := fun _ => none, clo := fun _ => none, T := tinf Tryz.prog }
noncomputable def loops_impl_Orient_text : Nat → Option Loop := fun n => none
theorem F_impl_Orient_text_eq (x : (Int × Int)) : Fev env_impl_Orient_text loops_impl_Orient_text c_impl_Orient_text.ps c_impl_Orient_text.rs Tryz.f199 x = F_impl_Orient_text x := by kernel_rfl
theorem env_impl_Orient_text_ok : EnvOK Tryz.prog env_impl_Orient_text := envOK_of (fun f c h => by cases h) (fun f c h => by cases h) rfl
theorem con_impl_Orient_text : ConOK Tryz.prog 199 c_impl_Orient_text := con_of_ev' (body := Tryz.f199.body.getD .skip) (Λ := loops_impl_Orient_text) mixed Tryz.func199 (by kernel_rfl) (by kernel_rfl) env_impl_Orient_text_ok (by kernel_rfl) (by kernel_rfl) (fun n L h => by cases h) F_impl_Orient_text_eq

noncomputable def F_impl_Hand_text (x : ((Int × (Int × (Int × (Int × (Int × Bool))))) × ((Int × Int) × ((Int × (Int × Bool)) × (ByteArray × Int))))) : Option (ByteArray) :=
 match F_impl_Shape_text (x.1) with
 | none => none
 | some y1 =>
  match F_impl_Orient_text (x.2.1) with
  | none => none
  | some y2 =>
   match F_impl_Place_text (x.2.2.1) with
   | none => none
   | some y3 =>
    match F_impl_Move_text (x.2.2.2) with
    | none => none
    | some y4 =>
     match F_strings_Join (([y1, y2, y3, y4], (⟨#[47]⟩ : ByteArray))) with
     | none => none
     | some y5 =>
      some (y5)
noncomputable def c_impl_Hand_text : Con := { ps := [(.val, (.st (.pair (.st (.pair (.int .i64) (.pair (.int .i64) (.pair (.int .i64) (.pair (.int .i64) (.pair (.int .i64) .bool)))))) (.pair (.st (.pair (.int .i64) (.int .i64))) (.pair (.st (.pair (.int .i64) (.pair (.int .i64) .bool))) (.st (.pair .str (.int .i64))))))))], rs := [(.val, .str)], F := F_impl_Hand_text }
noncomputable def env_impl_Hand_text : Env := { par := [], dp := false, settle := [], con := fun f => match f with | 112 => some c_strings_Join | 198 => some c_impl_Shape_text | 199 => some c_impl_Orient_text | 239 => some c_impl_Place_text | 242 => some c_impl_Move_text | _ => none, clo := fun _ => none, T := tinf Tryz.prog }
noncomputable def loops_impl_Hand_text : Nat → Option Loop := fun n => none
theorem F_impl_Hand_text_eq (x : ((Int × (Int × (Int × (Int × (Int × Bool))))) × ((Int × Int) × ((Int × (Int × Bool)) × (ByteArray × Int))))) : Fev env_impl_Hand_text loops_impl_Hand_text c_impl_Hand_text.ps c_impl_Hand_text.rs Tryz.f176 x = F_impl_Hand_text x := by kernel_rfl
theorem env_impl_Hand_text_ok : EnvOK Tryz.prog env_impl_Hand_text := envOK_of (fun f c h => by
  simp only [env_impl_Hand_text] at h
  split at h
  · cases h; exact con_strings_Join
  · cases h; exact con_impl_Shape_text
  · cases h; exact con_impl_Orient_text
  · cases h; exact con_impl_Place_text
  · cases h; exact con_impl_Move_text
  · cases h) (fun f c h => by cases h) rfl
theorem con_impl_Hand_text : ConOK Tryz.prog 176 c_impl_Hand_text := con_of_ev' (body := Tryz.f176.body.getD .skip) (Λ := loops_impl_Hand_text) mixed Tryz.func176 (by kernel_rfl) (by kernel_rfl) env_impl_Hand_text_ok (by kernel_rfl) (by kernel_rfl) (fun n L h => by cases h) F_impl_Hand_text_eq

noncomputable def F_impl_Hand_same (x : ((Int × (Int × (Int × (Int × (Int × Bool))))) × ((Int × Int) × ((Int × (Int × Bool)) × (ByteArray × Int)))) × ((Int × (Int × (Int × (Int × (Int × Bool))))) × ((Int × Int) × ((Int × (Int × Bool)) × (ByteArray × Int))))) : Option ((List Bool)) :=
 some ([((x.1.1.1 == x.2.1.1) && ((x.1.1.2.1 == x.2.1.2.1) && ((x.1.1.2.2.1 == x.2.1.2.2.1) && ((x.1.1.2.2.2.1 == x.2.1.2.2.2.1) && ((x.1.1.2.2.2.2.1 == x.2.1.2.2.2.2.1) && ((x.1.1.2.2.2.2.2 == x.2.1.2.2.2.2.2) && true)))))), ((x.1.2.1.1 == x.2.2.1.1) && ((x.1.2.1.2 == x.2.2.1.2) && true)), ((x.1.2.2.1.1 == x.2.2.2.1.1) && ((x.1.2.2.1.2.1 == x.2.2.2.1.2.1) && ((x.1.2.2.1.2.2 == x.2.2.2.1.2.2) && true))), ((x.1.2.2.2.1.toList == x.2.2.2.2.1.toList) && ((x.1.2.2.2.2 == x.2.2.2.2.2) && true))])
noncomputable def c_impl_Hand_same : Con := { ps := [(.val, (.st (.pair (.st (.pair (.int .i64) (.pair (.int .i64) (.pair (.int .i64) (.pair (.int .i64) (.pair (.int .i64) .bool)))))) (.pair (.st (.pair (.int .i64) (.int .i64))) (.pair (.st (.pair (.int .i64) (.pair (.int .i64) .bool))) (.st (.pair .str (.int .i64)))))))), (.val, (.st (.pair (.st (.pair (.int .i64) (.pair (.int .i64) (.pair (.int .i64) (.pair (.int .i64) (.pair (.int .i64) .bool)))))) (.pair (.st (.pair (.int .i64) (.int .i64))) (.pair (.st (.pair (.int .i64) (.pair (.int .i64) .bool))) (.st (.pair .str (.int .i64))))))))], rs := [(.io true, (.slice .bool))], F := F_impl_Hand_same }
noncomputable def env_impl_Hand_same : Env := { par := [], dp := false, settle := [], con := fun _ => none, clo := fun _ => none, T := tinf Tryz.prog }
noncomputable def loops_impl_Hand_same : Nat → Option Loop := fun n => none
theorem F_impl_Hand_same_eq (x : ((Int × (Int × (Int × (Int × (Int × Bool))))) × ((Int × Int) × ((Int × (Int × Bool)) × (ByteArray × Int)))) × ((Int × (Int × (Int × (Int × (Int × Bool))))) × ((Int × Int) × ((Int × (Int × Bool)) × (ByteArray × Int))))) : Fev env_impl_Hand_same loops_impl_Hand_same c_impl_Hand_same.ps c_impl_Hand_same.rs Tryz.f193 x = F_impl_Hand_same x := by kernel_rfl
theorem env_impl_Hand_same_ok : EnvOK Tryz.prog env_impl_Hand_same := envOK_of (fun f c h => by cases h) (fun f c h => by cases h) rfl
theorem con_impl_Hand_same : ConOK Tryz.prog 193 c_impl_Hand_same := con_of_ev' (body := Tryz.f193.body.getD .skip) (Λ := loops_impl_Hand_same) mixed Tryz.func193 (by kernel_rfl) (by kernel_rfl) env_impl_Hand_same_ok (by kernel_rfl) (by kernel_rfl) (fun n L h => by cases h) F_impl_Hand_same_eq

noncomputable def step_impl_Sign_short_0 (s : Int × Int × (List Bool) × (List ByteArray) × Int × Int × Int × Int × Int × Bool × Int × Int × Int × Int × Bool × ByteArray × Int × Bool × Int × Int × Int × Int × Int × Bool × Int × Int × Int × Int × Bool × ByteArray × Int) : Option ((Int × Int × (List Bool) × (List ByteArray) × Int × Int × Int × Int × Int × Bool × Int × Int × Int × Int × Bool × ByteArray × Int × Bool × Int × Int × Int × Int × Int × Bool × Int × Int × Int × Int × Bool × ByteArray × Int) ⊕ (((List ByteArray) × Int × Int × Int × Int × Int × Bool × Int × Int × Int × Int × Bool × ByteArray × Int × Bool × Int × Int × Int × Int × Int × Bool × Int × Int × Int × Int × Bool × ByteArray × Int))) :=
 bif (decide (s.2.1 < s.1)) then
  bif decide (0 ≤ s.2.1) && decide (s.2.1 < (s.2.2.1.length : Int)) then
   bif (s.2.2.1.getD (s.2.1).toNat false) then
    bif decide (0 ≤ s.2.1) && decide (s.2.1 < (s.2.2.2.1.length : Int)) then
     let v8 := s.2.2.2.1.set (s.2.1).toNat ((⟨#[61]⟩ : ByteArray))
     let v9 := IntKind.i64.wrap (s.2.1 + 1)
     some (.inl ((s.1, v9, (s.2.2.1, v8, s.2.2.2.2))))
    else none
   else
    let v10 := IntKind.i64.wrap (s.2.1 + 1)
    some (.inl ((s.1, v10, s.2.2)))
  else none
 else
  some (.inr (s.2.2.2))
def pat_impl_Sign_short_0 : Pat := { tmps := [.any, .ptr 64 0, .any, .own 960, .any, .any, .any, .any, .any, .any, .any, .any, .any, .any, .any, .any, .any, .any, .any, .any, .own 1280, .v (.int .i64), .v (.int .i64), .any, .any, .any, .any, .any, .any, .any, .any, .any, .any, .any, .any, .any, .any, .any, .any], blks := [(1280, .row true .bool), (960, .row true .str), (64, .box [.v (.int .i64), .v (.int .i64), .v (.int .i64), .v (.int .i64), .v (.int .i64), .v .bool, .v (.int .i64), .v (.int .i64), .v (.int .i64), .v (.int .i64), .v .bool, .v .str, .v (.int .i64), .v .bool, .v (.int .i64), .v (.int .i64), .v (.int .i64), .v (.int .i64), .v (.int .i64), .v .bool, .v (.int .i64), .v (.int .i64), .v (.int .i64), .v (.int .i64), .v .bool, .v .str, .v (.int .i64)])] }
def outs_impl_Sign_short_0 : List (Exit × Pat) := [(.exit 0, { tmps := [.any, .ptr 64 0, .any, .own 960, .any, .any, .any, .any, .any, .any, .any, .any, .any, .any, .any, .any, .any, .any, .any, .any, .any, .any, .any, .any, .any, .any, .any, .any, .any, .any, .any, .any, .any, .any, .any, .any, .any, .any, .any], blks := [(960, .row true .str), (64, .box [.v (.int .i64), .v (.int .i64), .v (.int .i64), .v (.int .i64), .v (.int .i64), .v .bool, .v (.int .i64), .v (.int .i64), .v (.int .i64), .v (.int .i64), .v .bool, .v .str, .v (.int .i64), .v .bool, .v (.int .i64), .v (.int .i64), .v (.int .i64), .v (.int .i64), .v (.int .i64), .v .bool, .v (.int .i64), .v (.int .i64), .v (.int .i64), .v (.int .i64), .v .bool, .v .str, .v (.int .i64)])] })]
noncomputable def F_impl_Sign_short (x : (((Int × (Int × (Int × (Int × (Int × Bool))))) × ((Int × Int) × ((Int × (Int × Bool)) × (ByteArray × Int)))) × (Bool × ((Int × (Int × (Int × (Int × (Int × Bool))))) × ((Int × Int) × ((Int × (Int × Bool)) × (ByteArray × Int))))))) : Option (ByteArray) :=
 bif (!x.2.1) then
  match F_impl_Hand_text (x.1) with
  | none => none
  | some y1 =>
   some (y1)
 else
  match F_impl_Hand_text (x.2.2) with
  | none => none
  | some y2 =>
   match F_strings_Split ((y2, (⟨#[47]⟩ : ByteArray))) with
   | none => none
   | some y3 =>
    match F_impl_Hand_same ((x.1, x.2.2)) with
    | none => none
    | some y4 =>
     match runL step_impl_Sign_short_0 (((y4.length : Int), (0, y4, (y3, x.1.1.1, (x.1.1.2.1, x.1.1.2.2.1, (x.1.1.2.2.2.1, x.1.1.2.2.2.2.1, (x.1.1.2.2.2.2.2, x.1.2.1.1, (x.1.2.1.2, x.1.2.2.1.1, (x.1.2.2.1.2.1, x.1.2.2.1.2.2, (x.1.2.2.2.1, x.1.2.2.2.2, (x.2.1, x.2.2.1.1, (x.2.2.1.2.1, x.2.2.1.2.2.1, (x.2.2.1.2.2.2.1, x.2.2.1.2.2.2.2.1, (x.2.2.1.2.2.2.2.2, x.2.2.2.1.1, (x.2.2.2.1.2, x.2.2.2.2.1.1, (x.2.2.2.2.1.2.1, x.2.2.2.2.1.2.2, x.2.2.2.2.2)))))))))))))))) with
     | none => none
     | some o11 =>
      match F_impl_Hand_text (((o11.2.1, (o11.2.2.1, o11.2.2.2.1, (o11.2.2.2.2.1, o11.2.2.2.2.2.1, o11.2.2.2.2.2.2.1))), (o11.2.2.2.2.2.2.2.1, o11.2.2.2.2.2.2.2.2.1), ((o11.2.2.2.2.2.2.2.2.2.1, o11.2.2.2.2.2.2.2.2.2.2.1, o11.2.2.2.2.2.2.2.2.2.2.2.1), o11.2.2.2.2.2.2.2.2.2.2.2.2.1, o11.2.2.2.2.2.2.2.2.2.2.2.2.2.1))) with
      | none => none
      | some y12 =>
       bif decide (y12.size + (⟨#[43]⟩ : ByteArray).size ≤ 9223372036854775807) then
        match F_strings_Join ((o11.1, (⟨#[47]⟩ : ByteArray))) with
        | none => none
        | some y13 =>
         bif decide ((y12 ++ (⟨#[43]⟩ : ByteArray)).size + y13.size ≤ 9223372036854775807) then
          some (((y12 ++ (⟨#[43]⟩ : ByteArray)) ++ y13))
         else none
       else none
noncomputable def c_impl_Sign_short : Con := { ps := [(.val, (.st (.pair (.st (.pair (.st (.pair (.int .i64) (.pair (.int .i64) (.pair (.int .i64) (.pair (.int .i64) (.pair (.int .i64) .bool)))))) (.pair (.st (.pair (.int .i64) (.int .i64))) (.pair (.st (.pair (.int .i64) (.pair (.int .i64) .bool))) (.st (.pair .str (.int .i64))))))) (.pair .bool (.st (.pair (.st (.pair (.int .i64) (.pair (.int .i64) (.pair (.int .i64) (.pair (.int .i64) (.pair (.int .i64) .bool)))))) (.pair (.st (.pair (.int .i64) (.int .i64))) (.pair (.st (.pair (.int .i64) (.pair (.int .i64) .bool))) (.st (.pair .str (.int .i64)))))))))))], rs := [(.val, .str)], F := F_impl_Sign_short }
noncomputable def env_impl_Sign_short : Env := { par := [], dp := false, settle := [], con := fun f => match f with | 111 => some c_strings_SplitO | 112 => some c_strings_Join | 176 => some c_impl_Hand_text | 193 => some c_impl_Hand_same | _ => none, clo := fun _ => none, T := tinf Tryz.prog }
noncomputable def loops_impl_Sign_short : Nat → Option Loop := fun n => match n with | 5 => some { pat := pat_impl_Sign_short_0, outs := outs_impl_Sign_short_0, run := runL (step_impl_Sign_short_0) } | _ => none
theorem step_impl_Sign_short_0_eq (s : Int × Int × (List Bool) × (List ByteArray) × Int × Int × Int × Int × Int × Bool × Int × Int × Int × Int × Bool × ByteArray × Int × Bool × Int × Int × Int × Int × Int × Bool × Int × Int × Int × Int × Bool × ByteArray × Int) : stepEv env_impl_Sign_short loops_impl_Sign_short pat_impl_Sign_short_0 outs_impl_Sign_short_0 Tryz.f114 5 s = step_impl_Sign_short_0 s := by kernel_rfl
theorem F_impl_Sign_short_eq (x : (((Int × (Int × (Int × (Int × (Int × Bool))))) × ((Int × Int) × ((Int × (Int × Bool)) × (ByteArray × Int)))) × (Bool × ((Int × (Int × (Int × (Int × (Int × Bool))))) × ((Int × Int) × ((Int × (Int × Bool)) × (ByteArray × Int))))))) : Fev env_impl_Sign_short loops_impl_Sign_short c_impl_Sign_short.ps c_impl_Sign_short.rs Tryz.f114 x = F_impl_Sign_short x := by kernel_rfl
theorem env_impl_Sign_short_ok : EnvOK Tryz.prog env_impl_Sign_short := envOK_of (fun f c h => by
  simp only [env_impl_Sign_short] at h
  split at h
  · cases h; exact con_strings_SplitO
  · cases h; exact con_strings_Join
  · cases h; exact con_impl_Hand_text
  · cases h; exact con_impl_Hand_same
  · cases h) (fun f c h => by cases h) rfl
theorem con_impl_Sign_short : ConOK Tryz.prog 114 c_impl_Sign_short := con_of_ev' (body := Tryz.f114.body.getD .skip) (Λ := loops_impl_Sign_short) mixed Tryz.func114 (by kernel_rfl) (by kernel_rfl) env_impl_Sign_short_ok (by kernel_rfl) (by kernel_rfl) (fun n L h => by
  unfold loops_impl_Sign_short at h
  split at h
  · cases h; exact fun s o ho => loop_ok (stepF := stepEv env_impl_Sign_short loops_impl_Sign_short pat_impl_Sign_short_0 outs_impl_Sign_short_0 Tryz.f114 5) (step_impl_Sign_short_0_eq) ho
  · cases h) F_impl_Sign_short_eq

noncomputable def step_impl_ParseShort_0 (s : ByteArray × ByteArray × Int × Int × (List ByteArray) × (List ByteArray) × Int × Int × Int × Int × Int × Bool × Int × Int × Int × Int × Bool × ByteArray × Int × Bool × Int × Int × Int × Int × Int × Bool × Int × Int × Int × Int × Bool × ByteArray × Int) : Option ((ByteArray × ByteArray × Int × Int × (List ByteArray) × (List ByteArray) × Int × Int × Int × Int × Int × Bool × Int × Int × Int × Int × Bool × ByteArray × Int × Bool × Int × Int × Int × Int × Int × Bool × Int × Int × Int × Int × Bool × ByteArray × Int) ⊕ ((ByteArray × ByteArray × (List ByteArray) × Int × Int × Int × Int × Int × Bool × Int × Int × Int × Int × Bool × ByteArray × Int × Bool × Int × Int × Int × Int × Int × Bool × Int × Int × Int × Int × Bool × ByteArray × Int))) :=
 bif (decide (s.2.2.2.1 < s.2.2.1)) then
  bif decide (0 ≤ s.2.2.2.1) && decide (s.2.2.2.1 < (s.2.2.2.2.1.length : Int)) then
   bif ((s.2.2.2.2.1.getD (s.2.2.2.1).toNat ByteArray.empty).toList == (⟨#[61]⟩ : ByteArray).toList) then
    bif decide (0 ≤ s.2.2.2.1) && decide (s.2.2.2.1 < (s.2.2.2.2.2.1.length : Int)) then
     bif decide (0 ≤ s.2.2.2.1) && decide (s.2.2.2.1 < (s.2.2.2.2.1.length : Int)) then
      let v7 := s.2.2.2.2.1.set (s.2.2.2.1).toNat ((s.2.2.2.2.2.1.getD (s.2.2.2.1).toNat ByteArray.empty))
      let v8 := IntKind.i64.wrap (s.2.2.2.1 + 1)
      some (.inl ((s.1, (s.2.1, s.2.2.1, (v8, v7, s.2.2.2.2.2)))))
     else none
    else none
   else
    let v9 := IntKind.i64.wrap (s.2.2.2.1 + 1)
    some (.inl ((s.1, s.2.1, (s.2.2.1, v9, s.2.2.2.2))))
  else none
 else
  some (.inr ((s.1, (s.2.1, s.2.2.2.2.1, s.2.2.2.2.2.2))))
def pat_impl_ParseShort_0 : Pat := { tmps := [.v .str, .any, .ptr 128 0, .any, .v .str, .any, .any, .own 1664, .own 1792, .any, .any, .any, .any, .any, .any, .any, .any, .any, .any, .any, .any, .any, .any, .any, .any, .any, .any, .any, .any, .any, .any, .any, .any, .any, .any, .any, .any, .any, .own 1664, .v (.int .i64), .v (.int .i64), .any, .any, .any, .any, .any, .any, .any, .any, .any, .any, .any, .any, .any, .any, .any, .any, .any, .any, .any, .any, .any, .any, .any, .any, .any, .any, .any, .any, .any, .any, .any, .any, .any, .any, .any], blks := [(1664, .row true .str), (1792, .row true .str), (128, .box [.v (.int .i64), .v (.int .i64), .v (.int .i64), .v (.int .i64), .v (.int .i64), .v .bool, .v (.int .i64), .v (.int .i64), .v (.int .i64), .v (.int .i64), .v .bool, .v .str, .v (.int .i64), .v .bool, .v (.int .i64), .v (.int .i64), .v (.int .i64), .v (.int .i64), .v (.int .i64), .v .bool, .v (.int .i64), .v (.int .i64), .v (.int .i64), .v (.int .i64), .v .bool, .v .str, .v (.int .i64)])] }
def outs_impl_ParseShort_0 : List (Exit × Pat) := [(.exit 0, { tmps := [.v .str, .any, .ptr 128 0, .any, .v .str, .any, .any, .own 1664, .any, .any, .any, .any, .any, .any, .any, .any, .any, .any, .any, .any, .any, .any, .any, .any, .any, .any, .any, .any, .any, .any, .any, .any, .any, .any, .any, .any, .any, .any, .any, .any, .any, .any, .any, .any, .any, .any, .any, .any, .any, .any, .any, .any, .any, .any, .any, .any, .any, .any, .any, .any, .any, .any, .any, .any, .any, .any, .any, .any, .any, .any, .any, .any, .any, .any, .any, .any], blks := [(1664, .row true .str), (128, .box [.v (.int .i64), .v (.int .i64), .v (.int .i64), .v (.int .i64), .v (.int .i64), .v .bool, .v (.int .i64), .v (.int .i64), .v (.int .i64), .v (.int .i64), .v .bool, .v .str, .v (.int .i64), .v .bool, .v (.int .i64), .v (.int .i64), .v (.int .i64), .v (.int .i64), .v (.int .i64), .v .bool, .v (.int .i64), .v (.int .i64), .v (.int .i64), .v (.int .i64), .v .bool, .v .str, .v (.int .i64)])] })]
noncomputable def F_impl_ParseShort (x : ByteArray) : Option ((((Int × (Int × (Int × (Int × (Int × Bool))))) × ((Int × Int) × ((Int × (Int × Bool)) × (ByteArray × Int)))) × (Bool × ((Int × (Int × (Int × (Int × (Int × Bool))))) × ((Int × Int) × ((Int × (Int × Bool)) × (ByteArray × Int)))))) × Bool) :=
 bif (decide ((x.size : Int) > 200)) then
  some (((((0, (0, 0, (0, 0, false))), (0, 0), ((0, 0, false), ByteArray.empty, 0)), false, ((0, (0, 0, (0, 0, false))), (0, 0), ((0, 0, false), ByteArray.empty, 0))), false))
 else
  match F_strings_Cut ((x, (⟨#[43]⟩ : ByteArray))) with
  | none => none
  | some y1 =>
   bif y1.2.2 then
    match F_strings_Split ((y1.2.1, (⟨#[47]⟩ : ByteArray))) with
    | none => none
    | some y2 =>
     match F_strings_Split ((y1.1, (⟨#[47]⟩ : ByteArray))) with
     | none => none
     | some y3 =>
      bif (((y2.length : Int) != 4)) then
       some (((((0, (0, 0, (0, 0, false))), (0, 0), ((0, 0, false), ByteArray.empty, 0)), false, ((0, (0, 0, (0, 0, false))), (0, 0), ((0, 0, false), ByteArray.empty, 0))), false))
      else
       bif (((y3.length : Int) != 4)) then
        some (((((0, (0, 0, (0, 0, false))), (0, 0), ((0, 0, false), ByteArray.empty, 0)), false, ((0, (0, 0, (0, 0, false))), (0, 0), ((0, 0, false), ByteArray.empty, 0))), false))
       else
        match runL step_impl_ParseShort_0 ((x, y1.1, ((y2.length : Int), 0, (y2, y3, (0, 0, (0, 0, (0, false, (0, 0, (0, 0, (false, ByteArray.empty, (0, false, (0, 0, (0, 0, (0, false, (0, 0, (0, 0, (false, ByteArray.empty, 0))))))))))))))))) with
        | none => none
        | some o10 =>
         match F_strings_Join ((o10.2.2.1, (⟨#[47]⟩ : ByteArray))) with
         | none => none
         | some y11 =>
          bif decide ((⟨#[43]⟩ : ByteArray).size + y11.size ≤ 9223372036854775807) then
           bif decide (o10.2.1.size + ((⟨#[43]⟩ : ByteArray) ++ y11).size ≤ 9223372036854775807) then
            match F_impl_readSign ((o10.2.1 ++ ((⟨#[43]⟩ : ByteArray) ++ y11))) with
            | none => none
            | some y12 =>
             bif ((y12.2.1 != 0)) then
              some (((((0, (0, 0, (0, 0, false))), (0, 0), ((0, 0, false), ByteArray.empty, 0)), false, ((0, (0, 0, (0, 0, false))), (0, 0), ((0, 0, false), ByteArray.empty, 0))), false))
             else
              match F_impl_Sign_short (y12.1) with
              | none => none
              | some y13 =>
               bif (!(y13.toList == o10.1.toList)) then
                some (((((0, (0, 0, (0, 0, false))), (0, 0), ((0, 0, false), ByteArray.empty, 0)), false, ((0, (0, 0, (0, 0, false))), (0, 0), ((0, 0, false), ByteArray.empty, 0))), false))
               else
                some ((y12.1, true))
           else none
          else none
   else
    match F_impl_readSign (y1.1) with
    | none => none
    | some y14 =>
     bif ((y14.2.1 != 0)) then
      some (((((0, (0, 0, (0, 0, false))), (0, 0), ((0, 0, false), ByteArray.empty, 0)), false, ((0, (0, 0, (0, 0, false))), (0, 0), ((0, 0, false), ByteArray.empty, 0))), false))
     else
      match F_impl_Sign_short (y14.1) with
      | none => none
      | some y15 =>
       bif (!(y15.toList == x.toList)) then
        some (((((0, (0, 0, (0, 0, false))), (0, 0), ((0, 0, false), ByteArray.empty, 0)), false, ((0, (0, 0, (0, 0, false))), (0, 0), ((0, 0, false), ByteArray.empty, 0))), false))
       else
        some ((y14.1, true))
noncomputable def c_impl_ParseShort : Con := { ps := [(.val, .str)], rs := [(.val, (.st (.pair (.st (.pair (.st (.pair (.int .i64) (.pair (.int .i64) (.pair (.int .i64) (.pair (.int .i64) (.pair (.int .i64) .bool)))))) (.pair (.st (.pair (.int .i64) (.int .i64))) (.pair (.st (.pair (.int .i64) (.pair (.int .i64) .bool))) (.st (.pair .str (.int .i64))))))) (.pair .bool (.st (.pair (.st (.pair (.int .i64) (.pair (.int .i64) (.pair (.int .i64) (.pair (.int .i64) (.pair (.int .i64) .bool)))))) (.pair (.st (.pair (.int .i64) (.int .i64))) (.pair (.st (.pair (.int .i64) (.pair (.int .i64) .bool))) (.st (.pair .str (.int .i64))))))))))), (.val, .bool)], F := F_impl_ParseShort }
noncomputable def env_impl_ParseShort : Env := { par := [], dp := false, settle := [], con := fun f => match f with | 110 => some c_strings_Cut | 111 => some c_strings_SplitO | 112 => some c_strings_Join | 113 => some c_impl_readSign | 114 => some c_impl_Sign_short | _ => none, clo := fun _ => none, T := tinf Tryz.prog }
noncomputable def loops_impl_ParseShort : Nat → Option Loop := fun n => match n with | 9 => some { pat := pat_impl_ParseShort_0, outs := outs_impl_ParseShort_0, run := runL (step_impl_ParseShort_0) } | _ => none
theorem step_impl_ParseShort_0_eq (s : ByteArray × ByteArray × Int × Int × (List ByteArray) × (List ByteArray) × Int × Int × Int × Int × Int × Bool × Int × Int × Int × Int × Bool × ByteArray × Int × Bool × Int × Int × Int × Int × Int × Bool × Int × Int × Int × Int × Bool × ByteArray × Int) : stepEv env_impl_ParseShort loops_impl_ParseShort pat_impl_ParseShort_0 outs_impl_ParseShort_0 Tryz.f49 9 s = step_impl_ParseShort_0 s := by kernel_rfl
theorem F_impl_ParseShort_eq (x : ByteArray) : Fev env_impl_ParseShort loops_impl_ParseShort c_impl_ParseShort.ps c_impl_ParseShort.rs Tryz.f49 x = F_impl_ParseShort x := by kernel_rfl
theorem env_impl_ParseShort_ok : EnvOK Tryz.prog env_impl_ParseShort := envOK_of (fun f c h => by
  simp only [env_impl_ParseShort] at h
  split at h
  · cases h; exact con_strings_Cut
  · cases h; exact con_strings_SplitO
  · cases h; exact con_strings_Join
  · cases h; exact con_impl_readSign
  · cases h; exact con_impl_Sign_short
  · cases h) (fun f c h => by cases h) rfl
theorem con_impl_ParseShort : ConOK Tryz.prog 49 c_impl_ParseShort := con_of_ev' (body := Tryz.f49.body.getD .skip) (Λ := loops_impl_ParseShort) mixed Tryz.func49 (by kernel_rfl) (by kernel_rfl) env_impl_ParseShort_ok (by kernel_rfl) (by kernel_rfl) (fun n L h => by
  unfold loops_impl_ParseShort at h
  split at h
  · cases h; exact fun s o ho => loop_ok (stepF := stepEv env_impl_ParseShort loops_impl_ParseShort pat_impl_ParseShort_0 outs_impl_ParseShort_0 Tryz.f49 9) (step_impl_ParseShort_0_eq) ho
  · cases h) F_impl_ParseShort_eq

noncomputable def F_laws_eqShape (x : (Int × (Int × (Int × (Int × (Int × Bool))))) × (Int × (Int × (Int × (Int × (Int × Bool)))))) : Option (Bool) :=
 bif ((x.1.1 != x.2.1)) then
  some (false)
 else
  bif ((x.1.2.1 != x.2.2.1)) then
   some (false)
  else
   bif ((x.1.2.2.1 != x.2.2.2.1)) then
    some (false)
   else
    bif ((x.1.2.2.2.1 != x.2.2.2.2.1)) then
     some (false)
    else
     bif ((x.1.2.2.2.2.1 != x.2.2.2.2.2.1)) then
      some (false)
     else
      bif (!(x.1.2.2.2.2.2 == x.2.2.2.2.2.2)) then
       some (false)
      else
       some (true)
noncomputable def c_laws_eqShape : Con := { ps := [(.val, (.st (.pair (.int .i64) (.pair (.int .i64) (.pair (.int .i64) (.pair (.int .i64) (.pair (.int .i64) .bool))))))), (.val, (.st (.pair (.int .i64) (.pair (.int .i64) (.pair (.int .i64) (.pair (.int .i64) (.pair (.int .i64) .bool)))))))], rs := [(.val, .bool)], F := F_laws_eqShape }
noncomputable def env_laws_eqShape : Env := { par := [], dp := false, settle := [], con := fun _ => none, clo := fun _ => none, T := tinf Tryz.prog }
noncomputable def loops_laws_eqShape : Nat → Option Loop := fun n => none
theorem F_laws_eqShape_eq (x : (Int × (Int × (Int × (Int × (Int × Bool))))) × (Int × (Int × (Int × (Int × (Int × Bool)))))) : Fev env_laws_eqShape loops_laws_eqShape c_laws_eqShape.ps c_laws_eqShape.rs Tryz.f158 x = F_laws_eqShape x := by kernel_rfl
theorem env_laws_eqShape_ok : EnvOK Tryz.prog env_laws_eqShape := envOK_of (fun f c h => by cases h) (fun f c h => by cases h) rfl
theorem con_laws_eqShape : ConOK Tryz.prog 158 c_laws_eqShape := con_of_ev' (body := Tryz.f158.body.getD .skip) (Λ := loops_laws_eqShape) mixed Tryz.func158 (by kernel_rfl) (by kernel_rfl) env_laws_eqShape_ok (by kernel_rfl) (by kernel_rfl) (fun n L h => by cases h) F_laws_eqShape_eq

end Go.Proofs.YtbpcjfljgjekmaaGreatDoor
