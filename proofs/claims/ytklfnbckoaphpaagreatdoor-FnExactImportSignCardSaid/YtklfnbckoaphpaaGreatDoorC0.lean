/- Contracts of functions of the program, written by a program of this claim. No conditions. -/
import Derived.Test.YtklfnbckoaphpaaGreatDoorEvZk
import Derived.Test.YtklfnbckoaphpaaGreatDoorRows
import Derived.Shelf.Strings.Search1
import Derived.Lib.SplitLaws
import Derived.Lib.AppendIntMem
import Derived.Lib.CutLaws
import Derived.OwnWalk
import Derived.Lib.RepeatB
import Derived.Test.YtklfnbckoaphpaaGreatDoorNu
import Derived.Test.YtklfnbckoaphpaaGreatDoorShelf
import Derived.Test.YtklfnbckoaphpaaGreatDoorDec
import Derived.Test.YtklfnbckoaphpaaGreatDoorEvZti
import Derived.Test.YtklfnbckoaphpaaGreatDoorSpi
import Derived.Test.YtklfnbckoaphpaaGreatDoorRp
set_option linter.unusedVariables false
set_option maxRecDepth 100000
namespace Go.Proofs.YtklfnbckoaphpaaGreatDoor
open Go
def an (n : Nat) (l : List PatK) : List PatK := List.replicate n .any ++ l
theorem mixed : Tryz.prog.follows .mixedOrders = true := by kernel_rfl
noncomputable def F_spec_imGiven (x : ByteArray) : Option (Bool) :=
 some ((decide ((x.size : Int) ≤ 100)))
noncomputable def c_spec_imGiven : Con := { ps := [(.val, .str)], rs := [(.val, .bool)], F := F_spec_imGiven }
noncomputable def env_spec_imGiven : Env := { par := [], dp := false, settle := [], con := fun _ => none, clo := fun _ => none, T := tinf Tryz.prog }
noncomputable def loops_spec_imGiven : Nat → Option Loop := fun n => none
theorem con_spec_imGiven : ConOK Tryz.prog 63 c_spec_imGiven := con_of_ev' (body := Tryz.f63.body.getD .skip) (Λ := loops_spec_imGiven) mixed Tryz.func63 (by kernel_rfl) (by kernel_rfl) (envOK_of (E := env_spec_imGiven) (fun f c h => by cases h) (fun f c h => by cases h) rfl) (by kernel_rfl) (by kernel_rfl) (fun n L h => by cases h) (fun _ => by kernel_rfl)

noncomputable def F_spec_l1In (x : Int × Int × Int) : Option (Bool) :=
 bif (decide (x.1 ≥ x.2.1)) then
  some ((decide (x.1 ≤ x.2.2)))
 else
  some (false)
noncomputable def c_spec_l1In : Con := { ps := [(.val, (.int .i64)), (.val, (.int .i64)), (.val, (.int .i64))], rs := [(.val, .bool)], F := F_spec_l1In }
noncomputable def env_spec_l1In : Env := { par := [], dp := false, settle := [], con := fun _ => none, clo := fun _ => none, T := tinf Tryz.prog }
noncomputable def loops_spec_l1In : Nat → Option Loop := fun n => none
theorem con_spec_l1In : ConOK Tryz.prog 117 c_spec_l1In := con_of_ev' (body := Tryz.f117.body.getD .skip) (Λ := loops_spec_l1In) mixed Tryz.func117 (by kernel_rfl) (by kernel_rfl) (envOK_of (E := env_spec_l1In) (fun f c h => by cases h) (fun f c h => by cases h) rfl) (by kernel_rfl) (by kernel_rfl) (fun n L h => by cases h) (fun _ => by kernel_rfl)

noncomputable def F_spec_shFingers (x : (Int × (Int × (Int × (Int × (Int × Bool)))))) : Option ((List Int)) :=
 some ([x.2.1, x.2.2.1, x.2.2.2.1, x.2.2.2.2.1])
noncomputable def c_spec_shFingers : Con := { ps := [(.val, (.st (.pair (.int .i64) (.pair (.int .i64) (.pair (.int .i64) (.pair (.int .i64) (.pair (.int .i64) .bool)))))))], rs := [(.io true, (.slice (.int .i64)))], F := F_spec_shFingers }
noncomputable def env_spec_shFingers : Env := { par := [], dp := false, settle := [], con := fun _ => none, clo := fun _ => none, T := tinf Tryz.prog }
noncomputable def loops_spec_shFingers : Nat → Option Loop := fun n => none
theorem con_spec_shFingers : ConOK Tryz.prog 181 c_spec_shFingers := con_of_ev' (body := Tryz.f181.body.getD .skip) (Λ := loops_spec_shFingers) mixed Tryz.func181 (by kernel_rfl) (by kernel_rfl) (envOK_of (E := env_spec_shFingers) (fun f c h => by cases h) (fun f c h => by cases h) rfl) (by kernel_rfl) (by kernel_rfl) (fun n L h => by cases h) (fun _ => by kernel_rfl)

noncomputable def step_spec_l1All_0 (s : Int × Int × (List Int) × Int × Int) : Option ((Int × Int × (List Int) × Int × Int) ⊕ ((Bool) ⊕ (Unit))) :=
 bif (decide (s.2.2.2.2 < s.2.2.2.1)) then
  bif decide (0 ≤ s.2.2.2.2) && decide (s.2.2.2.2 < (s.2.2.1.length : Int)) then
   match F_spec_l1In (((s.2.2.1.getD (s.2.2.2.2).toNat 0), s.1, s.2.1)) with
   | none => none
   | some y3 =>
    bif (!y3) then
     some (.inr (.inl (false)))
    else
     let v4 := IntKind.i64.wrap (s.2.2.2.2 + 1)
     some (.inl ((s.1, s.2.1, (s.2.2.1, s.2.2.2.1, v4))))
  else none
 else
  some (.inr (.inr (())))
def pat_spec_l1All_0 : Pat := { tmps := .any :: .v (.int .i64) :: .v (.int .i64) :: an 6 (.v (.slice (.int .i64)) :: .v (.int .i64) :: .v (.int .i64) :: an 9 []), blks := [] }
def outs_spec_l1All_0 : List (Exit × Pat) := [(.ret, { tmps := an 6 (.v .bool :: an 14 []), blks := [] }), (.exit 0, { tmps := an 21 [], blks := [] })]
noncomputable def F_spec_l1All (x : (List Int) × Int × Int) : Option (Bool) :=
 match runL step_spec_l1All_0 ((x.2.1, x.2.2, (x.1, (x.1.length : Int), 0))) with
 | none => none
 | some (.inl o5) =>
  some (o5)
 | some (.inr o5) =>
  some (true)
noncomputable def c_spec_l1All : Con := { ps := [(.val, (.slice (.int .i64))), (.val, (.int .i64)), (.val, (.int .i64))], rs := [(.val, .bool)], F := F_spec_l1All }
noncomputable def env_spec_l1All : Env := { par := [], dp := false, settle := [], con := fun f => match f with | 117 => some c_spec_l1In | _ => none, clo := fun _ => none, T := tinf Tryz.prog }
noncomputable def loops_spec_l1All : Nat → Option Loop := fun n => match n with | 2 => some { pat := pat_spec_l1All_0, outs := outs_spec_l1All_0, run := runL (step_spec_l1All_0) } | _ => none
theorem con_spec_l1All : ConOK Tryz.prog 180 c_spec_l1All := con_of_ev' (body := Tryz.f180.body.getD .skip) (Λ := loops_spec_l1All) mixed Tryz.func180 (by kernel_rfl) (by kernel_rfl) (envOK_of (E := env_spec_l1All) (fun f c h => by
  simp only [env_spec_l1All] at h
  split at h
  · cases h; exact con_spec_l1In
  · cases h) (fun f c h => by cases h) rfl) (by kernel_rfl) (by kernel_rfl) (fun n L h => by
  unfold loops_spec_l1All at h
  split at h
  · cases h; exact fun s o ho => loop_ok (stepF := stepEv env_spec_l1All loops_spec_l1All pat_spec_l1All_0 outs_spec_l1All_0 Tryz.f180 2) (fun _ => by kernel_rfl) ho
  · cases h) (fun _ => by kernel_rfl)

noncomputable def step_spec_shWide_0 (s : Int × (List Int)) : Option ((Int × (List Int)) ⊕ ((Bool) ⊕ (Unit))) :=
 bif (decide (s.1 < 4)) then
  let v5 := IntKind.i64.wrap (s.1 - 1)
  bif decide (0 ≤ v5) && decide (v5 < (s.2.length : Int)) then
   bif (((s.2.getD (v5).toNat 0) == 0)) then
    bif decide (0 ≤ s.1) && decide (s.1 < (s.2.length : Int)) then
     bif (((s.2.getD (s.1).toNat 0) == 0)) then
      some (.inr (.inl (true)))
     else
      let v6 := IntKind.i64.wrap (s.1 + 1)
      some (.inl ((v6, s.2)))
    else none
   else
    let v7 := IntKind.i64.wrap (s.1 + 1)
    some (.inl ((v7, s.2)))
  else none
 else
  some (.inr (.inr (())))
def pat_spec_shWide_0 : Pat := { tmps := .any :: .any :: .any :: .own 384 :: .v (.int .i64) :: an 19 [], blks := [(384, .row true (.int .i64))] }
def outs_spec_shWide_0 : List (Exit × Pat) := [(.ret, { tmps := .any :: .any :: .v .bool :: an 21 [], blks := [] }), (.exit 0, { tmps := an 24 [], blks := [] })]
noncomputable def F_spec_shWide (x : (Int × (Int × (Int × (Int × (Int × Bool)))))) : Option (Bool) :=
 match F_spec_shFingers (x) with
 | none => none
 | some y1 =>
  match runL step_spec_shWide_0 ((1, y1)) with
  | none => none
  | some (.inl o8) =>
   some (o8)
  | some (.inr o8) =>
   some (false)
noncomputable def c_spec_shWide : Con := { ps := [(.val, (.st (.pair (.int .i64) (.pair (.int .i64) (.pair (.int .i64) (.pair (.int .i64) (.pair (.int .i64) .bool)))))))], rs := [(.val, .bool)], F := F_spec_shWide }
noncomputable def env_spec_shWide : Env := { par := [], dp := false, settle := [], con := fun f => match f with | 181 => some c_spec_shFingers | _ => none, clo := fun _ => none, T := tinf Tryz.prog }
noncomputable def loops_spec_shWide : Nat → Option Loop := fun n => match n with | 3 => some { pat := pat_spec_shWide_0, outs := outs_spec_shWide_0, run := runL (step_spec_shWide_0) } | _ => none
theorem con_spec_shWide : ConOK Tryz.prog 182 c_spec_shWide := con_of_ev' (body := Tryz.f182.body.getD .skip) (Λ := loops_spec_shWide) mixed Tryz.func182 (by kernel_rfl) (by kernel_rfl) (envOK_of (E := env_spec_shWide) (fun f c h => by
  simp only [env_spec_shWide] at h
  split at h
  · cases h; exact con_spec_shFingers
  · cases h) (fun f c h => by cases h) rfl) (by kernel_rfl) (by kernel_rfl) (fun n L h => by
  unfold loops_spec_shWide at h
  split at h
  · cases h; exact fun s o ho => loop_ok (stepF := stepEv env_spec_shWide loops_spec_shWide pat_spec_shWide_0 outs_spec_shWide_0 Tryz.f182 3) (fun _ => by kernel_rfl) ho
  · cases h) (fun _ => by kernel_rfl)

noncomputable def F_spec_shGood (x : (Int × (Int × (Int × (Int × (Int × Bool)))))) : Option (Bool) :=
 match F_spec_l1In ((x.1, 0, 2)) with
 | none => none
 | some y1 =>
  bif y1 then
   match F_spec_shFingers (x) with
   | none => none
   | some y2 =>
    match F_spec_l1All ((y2, 0, 2)) with
    | none => none
    | some y3 =>
     bif y3 then
      bif (!x.2.2.2.2.2) then
       some (true)
      else
       match F_spec_shWide (x) with
       | none => none
       | some y4 =>
        some (y4)
     else
      some (false)
  else
   some (false)
noncomputable def c_spec_shGood : Con := { ps := [(.val, (.st (.pair (.int .i64) (.pair (.int .i64) (.pair (.int .i64) (.pair (.int .i64) (.pair (.int .i64) .bool)))))))], rs := [(.val, .bool)], F := F_spec_shGood }
noncomputable def env_spec_shGood : Env := { par := [], dp := false, settle := [], con := fun f => match f with | 117 => some c_spec_l1In | 180 => some c_spec_l1All | 181 => some c_spec_shFingers | 182 => some c_spec_shWide | _ => none, clo := fun _ => none, T := tinf Tryz.prog }
noncomputable def loops_spec_shGood : Nat → Option Loop := fun n => none
theorem con_spec_shGood : ConOK Tryz.prog 123 c_spec_shGood := con_of_ev' (body := Tryz.f123.body.getD .skip) (Λ := loops_spec_shGood) mixed Tryz.func123 (by kernel_rfl) (by kernel_rfl) (envOK_of (E := env_spec_shGood) (fun f c h => by
  simp only [env_spec_shGood] at h
  split at h
  · cases h; exact con_spec_l1In
  · cases h; exact con_spec_l1All
  · cases h; exact con_spec_shFingers
  · cases h; exact con_spec_shWide
  · cases h) (fun f c h => by cases h) rfl) (by kernel_rfl) (by kernel_rfl) (fun n L h => by cases h) (fun _ => by kernel_rfl)

noncomputable def step_spec_shParse_0 (s : ByteArray × Int × Int × Int × Int × Int × Int × Bool × (List Int)) : Option ((ByteArray × Int × Int × Int × Int × Int × Int × Bool × (List Int)) ⊕ ((ByteArray × (List Int) × Int × Int × Int × Int × Int × Bool))) :=
 bif (decide (s.2.1 < 5)) then
  bif decide (0 ≤ s.2.1) && decide (s.2.1 < (s.1.size : Int)) then
   let v22 := IntKind.i64.wrap (byteAt s.1 (s.2.1).toNat)
   let v23 := IntKind.i64.wrap (v22 - 48)
   bif decide ((s.2.2.2.2.2.2.2.2.length + [v23].length) * 8 ≤ 140737488355328) then
    let v24 := s.2.2.2.2.2.2.2.2 ++ [v23]
    let v25 := IntKind.i64.wrap (s.2.1 + 1)
    some (.inl ((s.1, v25, (s.2.2.1, s.2.2.2.1, (s.2.2.2.2.1, s.2.2.2.2.2.1, (s.2.2.2.2.2.2.1, s.2.2.2.2.2.2.2.1, v24))))))
   else none
  else none
 else
  some (.inr ((s.1, (s.2.2.2.2.2.2.2.2, s.2.2.1, (s.2.2.2.1, s.2.2.2.2.1, (s.2.2.2.2.2.1, s.2.2.2.2.2.2.1, s.2.2.2.2.2.2.2.1))))))
def pat_spec_shParse_0 : Pat := { tmps := .v .str :: .any :: .ptr 128 0 :: .any :: .own 2112 :: .v (.int .i64) :: an 52 [], blks := [(128, .box [.v (.int .i64), .v (.int .i64), .v (.int .i64), .v (.int .i64), .v (.int .i64), .v .bool]), (2112, .row true (.int .i64))] }
def outs_spec_shParse_0 : List (Exit × Pat) := [(.exit 0, { tmps := .v .str :: .any :: .ptr 128 0 :: .any :: .own 2112 :: an 53 [], blks := [(2112, .row true (.int .i64)), (128, .box [.v (.int .i64), .v (.int .i64), .v (.int .i64), .v (.int .i64), .v (.int .i64), .v .bool])] })]
noncomputable def F_spec_shParse (x : ByteArray) : Option ((Int × (Int × (Int × (Int × (Int × Bool))))) × Bool) :=
 match F_spec_l1In (((x.size : Int), 5, 6)) with
 | none => none
 | some y1 =>
  bif (!y1) then
   some (((0, (0, 0, (0, 0, false))), false))
  else
   bif (((x.size : Int) == 6)) then
    bif decide (0 ≤ 5) && decide (5 < (x.size : Int)) then
     bif (((byteAt x (5 : Int).toNat) != 115)) then
      some (((0, (0, 0, (0, 0, false))), false))
     else
      match runL step_spec_shParse_0 ((x, 0, (0, 0, (0, 0, (0, false, []))))) with
      | none => none
      | some o13 =>
       bif decide (0 ≤ 0) && decide (0 < (o13.2.1.length : Int)) then
        bif decide (0 ≤ 1) && decide (1 < (o13.2.1.length : Int)) then
         bif decide (0 ≤ 2) && decide (2 < (o13.2.1.length : Int)) then
          bif decide (0 ≤ 3) && decide (3 < (o13.2.1.length : Int)) then
           bif decide (0 ≤ 4) && decide (4 < (o13.2.1.length : Int)) then
            match F_spec_shGood (((o13.2.1.getD (0 : Int).toNat 0), ((o13.2.1.getD (1 : Int).toNat 0), (o13.2.1.getD (2 : Int).toNat 0), ((o13.2.1.getD (3 : Int).toNat 0), (o13.2.1.getD (4 : Int).toNat 0), (((o13.1.size : Int) == 6)))))) with
            | none => none
            | some y14 =>
             bif (!y14) then
              some (((0, (0, 0, (0, 0, false))), false))
             else
              some ((((o13.2.1.getD (0 : Int).toNat 0), ((o13.2.1.getD (1 : Int).toNat 0), (o13.2.1.getD (2 : Int).toNat 0), ((o13.2.1.getD (3 : Int).toNat 0), (o13.2.1.getD (4 : Int).toNat 0), (((o13.1.size : Int) == 6))))), true))
           else none
          else none
         else none
        else none
       else none
    else none
   else
    match runL step_spec_shParse_0 ((x, 0, (0, 0, (0, 0, (0, false, []))))) with
    | none => none
    | some o26 =>
     bif decide (0 ≤ 0) && decide (0 < (o26.2.1.length : Int)) then
      bif decide (0 ≤ 1) && decide (1 < (o26.2.1.length : Int)) then
       bif decide (0 ≤ 2) && decide (2 < (o26.2.1.length : Int)) then
        bif decide (0 ≤ 3) && decide (3 < (o26.2.1.length : Int)) then
         bif decide (0 ≤ 4) && decide (4 < (o26.2.1.length : Int)) then
          match F_spec_shGood (((o26.2.1.getD (0 : Int).toNat 0), ((o26.2.1.getD (1 : Int).toNat 0), (o26.2.1.getD (2 : Int).toNat 0), ((o26.2.1.getD (3 : Int).toNat 0), (o26.2.1.getD (4 : Int).toNat 0), (((o26.1.size : Int) == 6)))))) with
          | none => none
          | some y27 =>
           bif (!y27) then
            some (((0, (0, 0, (0, 0, false))), false))
           else
            some ((((o26.2.1.getD (0 : Int).toNat 0), ((o26.2.1.getD (1 : Int).toNat 0), (o26.2.1.getD (2 : Int).toNat 0), ((o26.2.1.getD (3 : Int).toNat 0), (o26.2.1.getD (4 : Int).toNat 0), (((o26.1.size : Int) == 6))))), true))
         else none
        else none
       else none
      else none
     else none
noncomputable def c_spec_shParse : Con := { ps := [(.val, .str)], rs := [(.val, (.st (.pair (.int .i64) (.pair (.int .i64) (.pair (.int .i64) (.pair (.int .i64) (.pair (.int .i64) .bool))))))), (.val, .bool)], F := F_spec_shParse }
noncomputable def env_spec_shParse : Env := { par := [], dp := false, settle := [], con := fun f => match f with | 117 => some c_spec_l1In | 123 => some c_spec_shGood | _ => none, clo := fun _ => none, T := tinf Tryz.prog }
noncomputable def loops_spec_shParse : Nat → Option Loop := fun n => match n with | 5 => some { pat := pat_spec_shParse_0, outs := outs_spec_shParse_0, run := runL (step_spec_shParse_0) } | _ => none
theorem con_spec_shParse : ConOK Tryz.prog 100 c_spec_shParse := con_of_ev' (body := Tryz.f100.body.getD .skip) (Λ := loops_spec_shParse) mixed Tryz.func100 (by kernel_rfl) (by kernel_rfl) (envOK_of (E := env_spec_shParse) (fun f c h => by
  simp only [env_spec_shParse] at h
  split at h
  · cases h; exact con_spec_l1In
  · cases h; exact con_spec_shGood
  · cases h) (fun f c h => by cases h) rfl) (by kernel_rfl) (by kernel_rfl) (fun n L h => by
  unfold loops_spec_shParse at h
  split at h
  · cases h; exact fun s o ho => loop_ok (stepF := stepEv env_spec_shParse loops_spec_shParse pat_spec_shParse_0 outs_spec_shParse_0 Tryz.f100 5) (fun _ => by kernel_rfl) ho
  · cases h) (fun _ => by kernel_rfl)

noncomputable def step_spec_orLetter_0 (s : Int × Int) : Option ((Int × Int) ⊕ ((Int) ⊕ (Unit))) :=
 bif (decide (s.2 < 6)) then
  bif decide (0 ≤ s.2) && decide (s.2 < ((⟨#[117, 100, 108, 114, 102, 98]⟩ : ByteArray).size : Int)) then
   bif (((byteAt (⟨#[117, 100, 108, 114, 102, 98]⟩ : ByteArray) (s.2).toNat) == s.1)) then
    some (.inr (.inl (s.2)))
   else
    let v2 := IntKind.i64.wrap (s.2 + 1)
    some (.inl ((s.1, v2)))
  else none
 else
  some (.inr (.inr (())))
def pat_spec_orLetter_0 : Pat := { tmps := .v (.int .u8) :: .any :: .any :: .v (.int .i64) :: an 9 [], blks := [] }
def outs_spec_orLetter_0 : List (Exit × Pat) := [(.ret, { tmps := .any :: .any :: .v (.int .i64) :: an 10 [], blks := [] }), (.exit 0, { tmps := an 13 [], blks := [] })]
noncomputable def F_spec_orLetter (x : Int) : Option (Int) :=
 match runL step_spec_orLetter_0 ((x, 0)) with
 | none => none
 | some (.inl o3) =>
  some (o3)
 | some (.inr o3) =>
  some ((-1))
noncomputable def c_spec_orLetter : Con := { ps := [(.val, (.int .u8))], rs := [(.val, (.int .i64))], F := F_spec_orLetter }
noncomputable def env_spec_orLetter : Env := { par := [], dp := false, settle := [], con := fun _ => none, clo := fun _ => none, T := tinf Tryz.prog }
noncomputable def loops_spec_orLetter : Nat → Option Loop := fun n => match n with | 2 => some { pat := pat_spec_orLetter_0, outs := outs_spec_orLetter_0, run := runL (step_spec_orLetter_0) } | _ => none
theorem con_spec_orLetter : ConOK Tryz.prog 162 c_spec_orLetter := con_of_ev' (body := Tryz.f162.body.getD .skip) (Λ := loops_spec_orLetter) mixed Tryz.func162 (by kernel_rfl) (by kernel_rfl) (envOK_of (E := env_spec_orLetter) (fun f c h => by cases h) (fun f c h => by cases h) rfl) (by kernel_rfl) (by kernel_rfl) (fun n L h => by
  unfold loops_spec_orLetter at h
  split at h
  · cases h; exact fun s o ho => loop_ok (stepF := stepEv env_spec_orLetter loops_spec_orLetter pat_spec_orLetter_0 outs_spec_orLetter_0 Tryz.f162 2) (fun _ => by kernel_rfl) ho
  · cases h) (fun _ => by kernel_rfl)

noncomputable def F_spec_orDir (x : Int) : Option (Bool) :=
 match F_spec_l1In ((x, 0, 5)) with
 | none => none
 | some y1 =>
  some (y1)
noncomputable def c_spec_orDir : Con := { ps := [(.val, (.int .i64))], rs := [(.val, .bool)], F := F_spec_orDir }
noncomputable def env_spec_orDir : Env := { par := [], dp := false, settle := [], con := fun f => match f with | 117 => some c_spec_l1In | _ => none, clo := fun _ => none, T := tinf Tryz.prog }
noncomputable def loops_spec_orDir : Nat → Option Loop := fun n => none
theorem con_spec_orDir : ConOK Tryz.prog 183 c_spec_orDir := con_of_ev' (body := Tryz.f183.body.getD .skip) (Λ := loops_spec_orDir) mixed Tryz.func183 (by kernel_rfl) (by kernel_rfl) (envOK_of (E := env_spec_orDir) (fun f c h => by
  simp only [env_spec_orDir] at h
  split at h
  · cases h; exact con_spec_l1In
  · cases h) (fun f c h => by cases h) rfl) (by kernel_rfl) (by kernel_rfl) (fun n L h => by cases h) (fun _ => by kernel_rfl)

noncomputable def F_spec_orOpposite (x : Int) : Option (Int) :=
 bif !decide (2 = 0) then
  let v1 := (x).tmod 2
  bif ((v1 == 0)) then
   let v2 := IntKind.i64.wrap (x + 1)
   some (v2)
  else
   let v3 := IntKind.i64.wrap (x - 1)
   some (v3)
 else none
noncomputable def c_spec_orOpposite : Con := { ps := [(.val, (.int .i64))], rs := [(.val, (.int .i64))], F := F_spec_orOpposite }
noncomputable def env_spec_orOpposite : Env := { par := [], dp := false, settle := [], con := fun _ => none, clo := fun _ => none, T := tinf Tryz.prog }
noncomputable def loops_spec_orOpposite : Nat → Option Loop := fun n => none
theorem con_spec_orOpposite : ConOK Tryz.prog 184 c_spec_orOpposite := con_of_ev' (body := Tryz.f184.body.getD .skip) (Λ := loops_spec_orOpposite) mixed Tryz.func184 (by kernel_rfl) (by kernel_rfl) (envOK_of (E := env_spec_orOpposite) (fun f c h => by cases h) (fun f c h => by cases h) rfl) (by kernel_rfl) (by kernel_rfl) (fun n L h => by cases h) (fun _ => by kernel_rfl)

noncomputable def F_spec_orGood (x : (Int × Int)) : Option (Bool) :=
 match F_spec_orDir (x.1) with
 | none => none
 | some y1 =>
  bif y1 then
   match F_spec_orDir (x.2) with
   | none => none
   | some y2 =>
    bif y2 then
     bif ((x.1 != x.2)) then
      match F_spec_orOpposite (x.2) with
      | none => none
      | some y3 =>
       some (((x.1 != y3)))
     else
      some (false)
    else
     some (false)
  else
   some (false)
noncomputable def c_spec_orGood : Con := { ps := [(.val, (.st (.pair (.int .i64) (.int .i64))))], rs := [(.val, .bool)], F := F_spec_orGood }
noncomputable def env_spec_orGood : Env := { par := [], dp := false, settle := [], con := fun f => match f with | 183 => some c_spec_orDir | 184 => some c_spec_orOpposite | _ => none, clo := fun _ => none, T := tinf Tryz.prog }
noncomputable def loops_spec_orGood : Nat → Option Loop := fun n => none
theorem con_spec_orGood : ConOK Tryz.prog 124 c_spec_orGood := con_of_ev' (body := Tryz.f124.body.getD .skip) (Λ := loops_spec_orGood) mixed Tryz.func124 (by kernel_rfl) (by kernel_rfl) (envOK_of (E := env_spec_orGood) (fun f c h => by
  simp only [env_spec_orGood] at h
  split at h
  · cases h; exact con_spec_orDir
  · cases h; exact con_spec_orOpposite
  · cases h) (fun f c h => by cases h) rfl) (by kernel_rfl) (by kernel_rfl) (fun n L h => by cases h) (fun _ => by kernel_rfl)

noncomputable def F_spec_orParse (x : ByteArray) : Option ((Int × Int) × Bool) :=
 bif (((x.size : Int) != 2)) then
  some (((0, 0), false))
 else
  bif decide (0 ≤ 0) && decide (0 < (x.size : Int)) then
   bif decide (0 ≤ 1) && decide (1 < (x.size : Int)) then
    match F_spec_orLetter ((byteAt x (0 : Int).toNat)) with
    | none => none
    | some y1 =>
     match F_spec_orLetter ((byteAt x (1 : Int).toNat)) with
     | none => none
     | some y2 =>
      match F_spec_orGood ((y1, y2)) with
      | none => none
      | some y3 =>
       bif (!y3) then
        some (((0, 0), false))
       else
        some (((y1, y2), true))
   else none
  else none
noncomputable def c_spec_orParse : Con := { ps := [(.val, .str)], rs := [(.val, (.st (.pair (.int .i64) (.int .i64)))), (.val, .bool)], F := F_spec_orParse }
noncomputable def env_spec_orParse : Env := { par := [], dp := false, settle := [], con := fun f => match f with | 124 => some c_spec_orGood | 162 => some c_spec_orLetter | _ => none, clo := fun _ => none, T := tinf Tryz.prog }
noncomputable def loops_spec_orParse : Nat → Option Loop := fun n => none
theorem con_spec_orParse : ConOK Tryz.prog 101 c_spec_orParse := con_of_ev' (body := Tryz.f101.body.getD .skip) (Λ := loops_spec_orParse) mixed Tryz.func101 (by kernel_rfl) (by kernel_rfl) (envOK_of (E := env_spec_orParse) (fun f c h => by
  simp only [env_spec_orParse] at h
  split at h
  · cases h; exact con_spec_orGood
  · cases h; exact con_spec_orLetter
  · cases h) (fun f c h => by cases h) rfl) (by kernel_rfl) (by kernel_rfl) (fun n L h => by cases h) (fun _ => by kernel_rfl)

noncomputable def step_spec_l1Split_0 (s : ByteArray × Int × Int × Int × (List ByteArray)) : Option ((ByteArray × Int × Int × Int × (List ByteArray)) ⊕ ((ByteArray × Int × (List ByteArray)))) :=
 bif (decide (s.2.2.2.1 < (s.1.size : Int))) then
  bif decide (0 ≤ s.2.2.2.1) && decide (s.2.2.2.1 < (s.1.size : Int)) then
   bif (((byteAt s.1 (s.2.2.2.1).toNat) == s.2.1)) then
    bif decide (0 ≤ s.2.2.1) && decide (s.2.2.1 ≤ s.2.2.2.1) && decide (s.2.2.2.1 ≤ (s.1.size : Int)) then
     bif decide ((s.2.2.2.2.length + [(s.1.extract (s.2.2.1).toNat (s.2.2.2.1).toNat)].length) * 16 ≤ 140737488355328) then
      let v8 := s.2.2.2.2 ++ [(s.1.extract (s.2.2.1).toNat (s.2.2.2.1).toNat)]
      let v9 := IntKind.i64.wrap (s.2.2.2.1 + 1)
      let v10 := IntKind.i64.wrap (s.2.2.2.1 + 1)
      some (.inl ((s.1, s.2.1, (v9, v10, v8))))
     else none
    else none
   else
    let v11 := IntKind.i64.wrap (s.2.2.2.1 + 1)
    some (.inl ((s.1, s.2.1, (s.2.2.1, v11, s.2.2.2.2))))
  else none
 else
  some (.inr ((s.1, s.2.2.1, s.2.2.2.2)))
def pat_spec_l1Split_0 : Pat := { tmps := .v .str :: .v (.int .u8) :: .any :: .any :: .any :: .own 1600 :: .v (.int .i64) :: .v (.int .i64) :: an 26 [], blks := [(1600, .row true .str)] }
def outs_spec_l1Split_0 : List (Exit × Pat) := [(.exit 0, { tmps := .v .str :: an 4 (.own 1600 :: .v (.int .i64) :: an 27 []), blks := [(1600, .row true .str)] })]
noncomputable def F_spec_l1Split (x : ByteArray × Int) : Option ((List ByteArray)) :=
 match runL step_spec_l1Split_0 ((x.1, x.2, (0, 0, []))) with
 | none => none
 | some o12 =>
  bif decide (0 ≤ o12.2.1) && decide (o12.2.1 ≤ (o12.1.size : Int)) && decide ((o12.1.size : Int) ≤ (o12.1.size : Int)) then
   bif decide ((o12.2.2.length + [(o12.1.extract (o12.2.1).toNat ((o12.1.size : Int)).toNat)].length) * 16 ≤ 140737488355328) then
    let v13 := o12.2.2 ++ [(o12.1.extract (o12.2.1).toNat ((o12.1.size : Int)).toNat)]
    some (v13)
   else none
  else none
noncomputable def c_spec_l1Split : Con := { ps := [(.val, .str), (.val, (.int .u8))], rs := [(.io true, (.slice .str))], F := F_spec_l1Split }
noncomputable def env_spec_l1Split : Env := { par := [], dp := false, settle := [], con := fun _ => none, clo := fun _ => none, T := tinf Tryz.prog }
noncomputable def loops_spec_l1Split : Nat → Option Loop := fun n => match n with | 4 => some { pat := pat_spec_l1Split_0, outs := outs_spec_l1Split_0, run := runL (step_spec_l1Split_0) } | _ => none
theorem con_spec_l1Split : ConOK Tryz.prog 57 c_spec_l1Split := con_of_ev' (body := Tryz.f57.body.getD .skip) (Λ := loops_spec_l1Split) mixed Tryz.func57 (by kernel_rfl) (by kernel_rfl) (envOK_of (E := env_spec_l1Split) (fun f c h => by cases h) (fun f c h => by cases h) rfl) (by kernel_rfl) (by kernel_rfl) (fun n L h => by
  unfold loops_spec_l1Split at h
  split at h
  · cases h; exact fun s o ho => loop_ok (stepF := stepEv env_spec_l1Split loops_spec_l1Split pat_spec_l1Split_0 outs_spec_l1Split_0 Tryz.f57 4) (fun _ => by kernel_rfl) ho
  · cases h) (fun _ => by kernel_rfl)

noncomputable def F_spec_plGood (x : (Int × (Int × Bool))) : Option (Bool) :=
 match F_spec_l1In ((x.1, 0, 9)) with
 | none => none
 | some y1 =>
  bif y1 then
   match F_spec_l1In ((x.2.1, (-1), 1)) with
   | none => none
   | some y2 =>
    bif y2 then
     bif (decide (x.1 > 0)) then
      some (true)
     else
      some ((!x.2.2))
    else
     some (false)
  else
   some (false)
noncomputable def c_spec_plGood : Con := { ps := [(.val, (.st (.pair (.int .i64) (.pair (.int .i64) .bool))))], rs := [(.val, .bool)], F := F_spec_plGood }
noncomputable def env_spec_plGood : Env := { par := [], dp := false, settle := [], con := fun f => match f with | 117 => some c_spec_l1In | _ => none, clo := fun _ => none, T := tinf Tryz.prog }
noncomputable def loops_spec_plGood : Nat → Option Loop := fun n => none
theorem con_spec_plGood : ConOK Tryz.prog 125 c_spec_plGood := con_of_ev' (body := Tryz.f125.body.getD .skip) (Λ := loops_spec_plGood) mixed Tryz.func125 (by kernel_rfl) (by kernel_rfl) (envOK_of (E := env_spec_plGood) (fun f c h => by
  simp only [env_spec_plGood] at h
  split at h
  · cases h; exact con_spec_l1In
  · cases h) (fun f c h => by cases h) rfl) (by kernel_rfl) (by kernel_rfl) (fun n L h => by cases h) (fun _ => by kernel_rfl)

noncomputable def step_spec_plAll_0 (s : Int × Int × Int × Int × (List Bool) × (List (Int × (Int × Bool)))) : Option ((Int × Int × Int × Int × (List Bool) × (List (Int × (Int × Bool)))) ⊕ ((Int × Int × (List (Int × (Int × Bool)))))) :=
 bif (decide (s.2.2.2.1 < s.2.2.1)) then
  bif decide (0 ≤ s.2.2.2.1) && decide (s.2.2.2.1 < (s.2.2.2.2.1.length : Int)) then
   match F_spec_plGood ((s.1, s.2.1, (s.2.2.2.2.1.getD (s.2.2.2.1).toNat false))) with
   | none => none
   | some y72 =>
    bif y72 then
     bif decide ((s.2.2.2.2.2.length + [(s.1, s.2.1, (s.2.2.2.2.1.getD (s.2.2.2.1).toNat false))].length) * 24 ≤ 140737488355328) then
      let v73 := s.2.2.2.2.2 ++ [(s.1, s.2.1, (s.2.2.2.2.1.getD (s.2.2.2.1).toNat false))]
      let v74 := IntKind.i64.wrap (s.2.2.2.1 + 1)
      some (.inl ((s.1, (s.2.1, s.2.2.1, (v74, s.2.2.2.2.1, v73)))))
     else none
    else
     let v75 := IntKind.i64.wrap (s.2.2.2.1 + 1)
     some (.inl ((s.1, s.2.1, (s.2.2.1, v75, s.2.2.2.2))))
  else none
 else
  some (.inr ((s.1, s.2.1, s.2.2.2.2.2)))
def pat_spec_plAll_0 : Pat := { tmps := .any :: .own 1920 :: .v (.int .i64) :: .v (.int .i64) :: an 11 (.own 960 :: .v (.int .i64) :: .v (.int .i64) :: an 15 []), blks := [(960, .row true .bool), (1920, .row true (.st (.pair (.int .i64) (.pair (.int .i64) .bool))))] }
def outs_spec_plAll_0 : List (Exit × Pat) := [(.exit 4, { tmps := .any :: .own 1920 :: .v (.int .i64) :: .v (.int .i64) :: an 29 [], blks := [(1920, .row true (.st (.pair (.int .i64) (.pair (.int .i64) .bool))))] })]
noncomputable def step_spec_plAll_1 (s : Int × Int × (List (Int × (Int × Bool)))) : Option ((Int × Int × (List (Int × (Int × Bool)))) ⊕ ((Int × (List (Int × (Int × Bool)))))) :=
 bif (decide (s.2.1 ≤ 1)) then
  match runL step_spec_plAll_0 ((s.1, (s.2.1, ([false, true].length : Int), (0, [false, true], s.2.2)))) with
  | none => none
  | some o76 =>
   let v77 := IntKind.i64.wrap (o76.2.1 + 1)
   some (.inl ((o76.1, v77, o76.2.2)))
 else
  some (.inr ((s.1, s.2.2)))
def pat_spec_plAll_1 : Pat := { tmps := .any :: .own 1920 :: .v (.int .i64) :: .v (.int .i64) :: an 29 [], blks := [(1920, .row true (.st (.pair (.int .i64) (.pair (.int .i64) .bool))))] }
def outs_spec_plAll_1 : List (Exit × Pat) := [(.exit 2, { tmps := .any :: .own 1920 :: .v (.int .i64) :: an 30 [], blks := [(1920, .row true (.st (.pair (.int .i64) (.pair (.int .i64) .bool))))] })]
noncomputable def step_spec_plAll_2 (s : Int × (List (Int × (Int × Bool)))) : Option ((Int × (List (Int × (Int × Bool)))) ⊕ (((List (Int × (Int × Bool)))))) :=
 bif (decide (s.1 < 10)) then
  match runL step_spec_plAll_1 ((s.1, (-1), s.2)) with
  | none => none
  | some o78 =>
   let v79 := IntKind.i64.wrap (o78.1 + 1)
   some (.inl ((v79, o78.2)))
 else
  some (.inr (s.2))
def pat_spec_plAll_2 : Pat := { tmps := .any :: .own 1920 :: .v (.int .i64) :: an 30 [], blks := [(1920, .row true (.st (.pair (.int .i64) (.pair (.int .i64) .bool))))] }
def outs_spec_plAll_2 : List (Exit × Pat) := [(.exit 0, { tmps := .any :: .own 1920 :: an 31 [], blks := [(1920, .row true (.st (.pair (.int .i64) (.pair (.int .i64) .bool))))] })]
noncomputable def F_spec_plAll (x : Unit) : Option ((List (Int × (Int × Bool)))) :=
 match runL step_spec_plAll_2 ((0, [])) with
 | none => none
 | some o80 =>
  some (o80)
noncomputable def c_spec_plAll : Con := { ps := [], rs := [(.io true, (.slice (.st (.pair (.int .i64) (.pair (.int .i64) .bool)))))], F := F_spec_plAll }
noncomputable def env_spec_plAll : Env := { par := [], dp := false, settle := [], con := fun f => match f with | 125 => some c_spec_plGood | _ => none, clo := fun _ => none, T := tinf Tryz.prog }
noncomputable def loops_spec_plAll : Nat → Option Loop := fun n => match n with | 9 => some { pat := pat_spec_plAll_0, outs := outs_spec_plAll_0, run := runL (step_spec_plAll_0) } | 6 => some { pat := pat_spec_plAll_1, outs := outs_spec_plAll_1, run := runL (step_spec_plAll_1) } | 3 => some { pat := pat_spec_plAll_2, outs := outs_spec_plAll_2, run := runL (step_spec_plAll_2) } | _ => none
theorem con_spec_plAll : ConOK Tryz.prog 211 c_spec_plAll := con_of_ev' (body := Tryz.f211.body.getD .skip) (Λ := loops_spec_plAll) mixed Tryz.func211 (by kernel_rfl) (by kernel_rfl) (envOK_of (E := env_spec_plAll) (fun f c h => by
  simp only [env_spec_plAll] at h
  split at h
  · cases h; exact con_spec_plGood
  · cases h) (fun f c h => by cases h) rfl) (by kernel_rfl) (by kernel_rfl) (fun n L h => by
  unfold loops_spec_plAll at h
  split at h
  · cases h; exact fun s o ho => loop_ok (stepF := stepEv env_spec_plAll loops_spec_plAll pat_spec_plAll_0 outs_spec_plAll_0 Tryz.f211 9) (fun _ => by kernel_rfl) ho
  · cases h; exact fun s o ho => loop_ok (stepF := stepEv env_spec_plAll loops_spec_plAll pat_spec_plAll_1 outs_spec_plAll_1 Tryz.f211 6) (fun _ => by kernel_rfl) ho
  · cases h; exact fun s o ho => loop_ok (stepF := stepEv env_spec_plAll loops_spec_plAll pat_spec_plAll_2 outs_spec_plAll_2 Tryz.f211 3) (fun _ => by kernel_rfl) ho
  · cases h) (fun _ => by kernel_rfl)

noncomputable def F_spec_plNames (x : Unit) : Option ((List ByteArray)) :=
 some ([(⟨#[115, 112, 97, 99, 101]⟩ : ByteArray), (⟨#[104, 101, 97, 100]⟩ : ByteArray), (⟨#[101, 121, 101]⟩ : ByteArray), (⟨#[99, 104, 101, 101, 107]⟩ : ByteArray), (⟨#[109, 111, 117, 116, 104]⟩ : ByteArray), (⟨#[99, 104, 105, 110]⟩ : ByteArray), (⟨#[110, 101, 99, 107]⟩ : ByteArray), (⟨#[99, 104, 101, 115, 116]⟩ : ByteArray), (⟨#[119, 97, 105, 115, 116]⟩ : ByteArray), (⟨#[104, 105, 112]⟩ : ByteArray)])
noncomputable def c_spec_plNames : Con := { ps := [], rs := [(.io true, (.slice .str))], F := F_spec_plNames }
noncomputable def env_spec_plNames : Env := { par := [], dp := false, settle := [], con := fun _ => none, clo := fun _ => none, T := tinf Tryz.prog }
noncomputable def loops_spec_plNames : Nat → Option Loop := fun n => none
theorem con_spec_plNames : ConOK Tryz.prog 227 c_spec_plNames := con_of_ev' (body := Tryz.f227.body.getD .skip) (Λ := loops_spec_plNames) mixed Tryz.func227 (by kernel_rfl) (by kernel_rfl) (envOK_of (E := env_spec_plNames) (fun f c h => by cases h) (fun f c h => by cases h) rfl) (by kernel_rfl) (by kernel_rfl) (fun n L h => by cases h) (fun _ => by kernel_rfl)

noncomputable def F_spec_plText (x : (Int × (Int × Bool))) : Option (ByteArray) :=
 match F_spec_plNames () with
 | none => none
 | some y1 =>
  bif decide (0 ≤ x.1) && decide (x.1 < (y1.length : Int)) then
   bif ((x.2.1 == (-1))) then
    bif decide ((y1.getD (x.1).toNat ByteArray.empty).size + (⟨#[60]⟩ : ByteArray).size ≤ 9223372036854775807) then
     bif x.2.2 then
      bif decide (((y1.getD (x.1).toNat ByteArray.empty) ++ (⟨#[60]⟩ : ByteArray)).size + (⟨#[42]⟩ : ByteArray).size ≤ 9223372036854775807) then
       some ((((y1.getD (x.1).toNat ByteArray.empty) ++ (⟨#[60]⟩ : ByteArray)) ++ (⟨#[42]⟩ : ByteArray)))
      else none
     else
      some (((y1.getD (x.1).toNat ByteArray.empty) ++ (⟨#[60]⟩ : ByteArray)))
    else none
   else
    bif ((x.2.1 == 1)) then
     bif decide ((y1.getD (x.1).toNat ByteArray.empty).size + (⟨#[62]⟩ : ByteArray).size ≤ 9223372036854775807) then
      bif x.2.2 then
       bif decide (((y1.getD (x.1).toNat ByteArray.empty) ++ (⟨#[62]⟩ : ByteArray)).size + (⟨#[42]⟩ : ByteArray).size ≤ 9223372036854775807) then
        some ((((y1.getD (x.1).toNat ByteArray.empty) ++ (⟨#[62]⟩ : ByteArray)) ++ (⟨#[42]⟩ : ByteArray)))
       else none
      else
       some (((y1.getD (x.1).toNat ByteArray.empty) ++ (⟨#[62]⟩ : ByteArray)))
     else none
    else
     bif x.2.2 then
      bif decide ((y1.getD (x.1).toNat ByteArray.empty).size + (⟨#[42]⟩ : ByteArray).size ≤ 9223372036854775807) then
       some (((y1.getD (x.1).toNat ByteArray.empty) ++ (⟨#[42]⟩ : ByteArray)))
      else none
     else
      some ((y1.getD (x.1).toNat ByteArray.empty))
  else none
noncomputable def c_spec_plText : Con := { ps := [(.val, (.st (.pair (.int .i64) (.pair (.int .i64) .bool))))], rs := [(.val, .str)], F := F_spec_plText }
noncomputable def env_spec_plText : Env := { par := [], dp := false, settle := [], con := fun f => match f with | 227 => some c_spec_plNames | _ => none, clo := fun _ => none, T := tinf Tryz.prog }
noncomputable def loops_spec_plText : Nat → Option Loop := fun n => none
theorem con_spec_plText : ConOK Tryz.prog 190 c_spec_plText := con_of_ev' (body := Tryz.f190.body.getD .skip) (Λ := loops_spec_plText) mixed Tryz.func190 (by kernel_rfl) (by kernel_rfl) (envOK_of (E := env_spec_plText) (fun f c h => by
  simp only [env_spec_plText] at h
  split at h
  · cases h; exact con_spec_plNames
  · cases h) (fun f c h => by cases h) rfl) (by kernel_rfl) (by kernel_rfl) (fun n L h => by cases h) (fun _ => by kernel_rfl)

noncomputable def step_spec_plParse_0 (s : ByteArray × Int × Int × (List (Int × (Int × Bool))) × Int × Int × Bool) : Option ((ByteArray × Int × Int × (List (Int × (Int × Bool))) × Int × Int × Bool) ⊕ ((Bool × Int × Int × Bool) ⊕ (Int × Int × Bool))) :=
 bif (decide (s.2.2.1 < s.2.1)) then
  bif decide (0 ≤ s.2.2.1) && decide (s.2.2.1 < (s.2.2.2.1.length : Int)) then
   match F_spec_plText ((s.2.2.2.1.getD (s.2.2.1).toNat (0, 0, false))) with
   | none => none
   | some y4 =>
    bif (y4.toList == s.1.toList) then
     some (.inr (.inl ((true, (s.2.2.2.1.getD (s.2.2.1).toNat (0, 0, false))))))
    else
     let v5 := IntKind.i64.wrap (s.2.2.1 + 1)
     some (.inl ((s.1, (s.2.1, v5, s.2.2.2))))
  else none
 else
  some (.inr (.inr (s.2.2.2.2)))
def pat_spec_plParse_0 : Pat := { tmps := .v .str :: .any :: .ptr 128 0 :: .any :: .any :: .any :: .own 384 :: .v (.int .i64) :: .v (.int .i64) :: an 10 [], blks := [(384, .row true (.st (.pair (.int .i64) (.pair (.int .i64) .bool)))), (128, .box [.v (.int .i64), .v (.int .i64), .v .bool])] }
def outs_spec_plParse_0 : List (Exit × Pat) := [(.ret, { tmps := .any :: .any :: .ptr 128 0 :: .v .bool :: an 15 [], blks := [(128, .box [.v (.int .i64), .v (.int .i64), .v .bool])] }), (.exit 0, { tmps := .any :: .any :: .ptr 128 0 :: an 16 [], blks := [(128, .box [.v (.int .i64), .v (.int .i64), .v .bool])] })]
noncomputable def F_spec_plParse (x : ByteArray) : Option ((Int × (Int × Bool)) × Bool) :=
 match F_spec_plAll () with
 | none => none
 | some y1 =>
  match runL step_spec_plParse_0 ((x, (y1.length : Int), (0, y1, (0, 0, false)))) with
  | none => none
  | some (.inl o6) =>
   some ((o6.2, o6.1))
  | some (.inr o6) =>
   some (((0, 0, false), false))
noncomputable def c_spec_plParse : Con := { ps := [(.val, .str)], rs := [(.val, (.st (.pair (.int .i64) (.pair (.int .i64) .bool)))), (.val, .bool)], F := F_spec_plParse }
noncomputable def env_spec_plParse : Env := { par := [], dp := false, settle := [], con := fun f => match f with | 190 => some c_spec_plText | 211 => some c_spec_plAll | _ => none, clo := fun _ => none, T := tinf Tryz.prog }
noncomputable def loops_spec_plParse : Nat → Option Loop := fun n => match n with | 2 => some { pat := pat_spec_plParse_0, outs := outs_spec_plParse_0, run := runL (step_spec_plParse_0) } | _ => none
theorem con_spec_plParse : ConOK Tryz.prog 158 c_spec_plParse := con_of_ev' (body := Tryz.f158.body.getD .skip) (Λ := loops_spec_plParse) mixed Tryz.func158 (by kernel_rfl) (by kernel_rfl) (envOK_of (E := env_spec_plParse) (fun f c h => by
  simp only [env_spec_plParse] at h
  split at h
  · cases h; exact con_spec_plText
  · cases h; exact con_spec_plAll
  · cases h) (fun f c h => by cases h) rfl) (by kernel_rfl) (by kernel_rfl) (fun n L h => by
  unfold loops_spec_plParse at h
  split at h
  · cases h; exact fun s o ho => loop_ok (stepF := stepEv env_spec_plParse loops_spec_plParse pat_spec_plParse_0 outs_spec_plParse_0 Tryz.f158 2) (fun _ => by kernel_rfl) ho
  · cases h) (fun _ => by kernel_rfl)

noncomputable def step_spec_imPlaces_0 (s : ByteArray × Int × Int × (List ByteArray) × Int × Int × Bool) : Option ((ByteArray × Int × Int × (List ByteArray) × Int × Int × Bool) ⊕ ((Bool × Int × Int × Bool) ⊕ (Int × Int × Bool))) :=
 bif (decide (s.2.2.1 < s.2.1)) then
  bif decide (0 ≤ s.2.2.1) && decide (s.2.2.1 < (s.2.2.2.1.length : Int)) then
   bif ((s.2.2.2.1.getD (s.2.2.1).toNat ByteArray.empty).toList == s.1.toList) then
    bif decide (0 ≤ s.2.2.1) && decide (s.2.2.1 < ([(⟨#[99, 104, 101, 115, 116, 42]⟩ : ByteArray), (⟨#[109, 111, 117, 116, 104]⟩ : ByteArray), (⟨#[101, 121, 101]⟩ : ByteArray), (⟨#[115, 112, 97, 99, 101]⟩ : ByteArray)].length : Int)) then
     match F_spec_plParse (([(⟨#[99, 104, 101, 115, 116, 42]⟩ : ByteArray), (⟨#[109, 111, 117, 116, 104]⟩ : ByteArray), (⟨#[101, 121, 101]⟩ : ByteArray), (⟨#[115, 112, 97, 99, 101]⟩ : ByteArray)].getD (s.2.2.1).toNat ByteArray.empty)) with
     | none => none
     | some y3 =>
      some (.inr (.inl ((y3.2, y3.1))))
    else none
   else
    let v4 := IntKind.i64.wrap (s.2.2.1 + 1)
    some (.inl ((s.1, (s.2.1, v4, s.2.2.2))))
  else none
 else
  some (.inr (.inr (s.2.2.2.2)))
def pat_spec_imPlaces_0 : Pat := { tmps := .v .str :: .any :: .ptr 128 0 :: .any :: .any :: .any :: .own 384 :: .v (.int .i64) :: .v (.int .i64) :: an 16 [], blks := [(384, .row true .str), (128, .box [.v (.int .i64), .v (.int .i64), .v .bool])] }
def outs_spec_imPlaces_0 : List (Exit × Pat) := [(.ret, { tmps := .any :: .any :: .ptr 128 0 :: .v .bool :: an 21 [], blks := [(128, .box [.v (.int .i64), .v (.int .i64), .v .bool])] }), (.exit 0, { tmps := .any :: .any :: .ptr 128 0 :: an 22 [], blks := [(128, .box [.v (.int .i64), .v (.int .i64), .v .bool])] })]
noncomputable def F_spec_imPlaces (x : ByteArray) : Option ((Int × (Int × Bool)) × Bool) :=
 match runL step_spec_imPlaces_0 ((x, ([(⟨#[98, 111, 100, 121]⟩ : ByteArray), (⟨#[102, 97, 99, 101]⟩ : ByteArray), (⟨#[98, 114, 111, 119]⟩ : ByteArray), (⟨#[97, 105, 114]⟩ : ByteArray)].length : Int), (0, [(⟨#[98, 111, 100, 121]⟩ : ByteArray), (⟨#[102, 97, 99, 101]⟩ : ByteArray), (⟨#[98, 114, 111, 119]⟩ : ByteArray), (⟨#[97, 105, 114]⟩ : ByteArray)], (0, 0, false)))) with
 | none => none
 | some (.inl o5) =>
  some ((o5.2, o5.1))
 | some (.inr o5) =>
  some (((0, 0, false), false))
noncomputable def c_spec_imPlaces : Con := { ps := [(.val, .str)], rs := [(.val, (.st (.pair (.int .i64) (.pair (.int .i64) .bool)))), (.val, .bool)], F := F_spec_imPlaces }
noncomputable def env_spec_imPlaces : Env := { par := [], dp := false, settle := [], con := fun f => match f with | 158 => some c_spec_plParse | _ => none, clo := fun _ => none, T := tinf Tryz.prog }
noncomputable def loops_spec_imPlaces : Nat → Option Loop := fun n => match n with | 2 => some { pat := pat_spec_imPlaces_0, outs := outs_spec_imPlaces_0, run := runL (step_spec_imPlaces_0) } | _ => none
theorem con_spec_imPlaces : ConOK Tryz.prog 163 c_spec_imPlaces := con_of_ev' (body := Tryz.f163.body.getD .skip) (Λ := loops_spec_imPlaces) mixed Tryz.func163 (by kernel_rfl) (by kernel_rfl) (envOK_of (E := env_spec_imPlaces) (fun f c h => by
  simp only [env_spec_imPlaces] at h
  split at h
  · cases h; exact con_spec_plParse
  · cases h) (fun f c h => by cases h) rfl) (by kernel_rfl) (by kernel_rfl) (fun n L h => by
  unfold loops_spec_imPlaces at h
  split at h
  · cases h; exact fun s o ho => loop_ok (stepF := stepEv env_spec_imPlaces loops_spec_imPlaces pat_spec_imPlaces_0 outs_spec_imPlaces_0 Tryz.f163 2) (fun _ => by kernel_rfl) ho
  · cases h) (fun _ => by kernel_rfl)

noncomputable def step_spec_l1Read_0 (s : ByteArray × Int × Int) : Option ((ByteArray × Int × Int) ⊕ ((Int) ⊕ (Int))) :=
 bif (decide (s.2.2 < (s.1.size : Int))) then
  bif decide (0 ≤ s.2.2) && decide (s.2.2 < (s.1.size : Int)) then
   bif (decide ((byteAt s.1 (s.2.2).toNat) < 48)) then
    some (.inr (.inl ((-1))))
   else
    bif decide (0 ≤ s.2.2) && decide (s.2.2 < (s.1.size : Int)) then
     bif (decide ((byteAt s.1 (s.2.2).toNat) > 57)) then
      some (.inr (.inl ((-1))))
     else
      let v18 := IntKind.i64.wrap (10 * s.2.1)
      bif decide (0 ≤ s.2.2) && decide (s.2.2 < (s.1.size : Int)) then
       let v19 := IntKind.u8.wrap ((byteAt s.1 (s.2.2).toNat) - 48)
       let v20 := IntKind.i64.wrap v19
       let v21 := IntKind.i64.wrap (v18 + v20)
       let v22 := IntKind.i64.wrap (s.2.2 + 1)
       some (.inl ((s.1, v21, v22)))
      else none
    else none
  else none
 else
  some (.inr (.inr (s.2.1)))
def pat_spec_l1Read_0 : Pat := { tmps := .v .str :: .any :: .any :: .v (.int .i64) :: .v (.int .i64) :: an 39 [], blks := [] }
def outs_spec_l1Read_0 : List (Exit × Pat) := [(.ret, { tmps := .any :: .any :: .v (.int .i64) :: an 41 [], blks := [] }), (.exit 0, { tmps := .any :: .any :: .any :: .v (.int .i64) :: an 40 [], blks := [] })]
noncomputable def F_spec_l1Read (x : ByteArray) : Option (Int) :=
 match F_spec_l1In (((x.size : Int), 1, 6)) with
 | none => none
 | some y1 =>
  bif (!y1) then
   some ((-1))
  else
   bif decide (0 ≤ 0) && decide (0 < (x.size : Int)) then
    bif (((byteAt x (0 : Int).toNat) == 48)) then
     bif (decide ((x.size : Int) > 1)) then
      some ((-1))
     else
      match runL step_spec_l1Read_0 ((x, 0, 0)) with
      | none => none
      | some (.inl o12) =>
       some (o12)
      | some (.inr o12) =>
       some (o12)
    else
     match runL step_spec_l1Read_0 ((x, 0, 0)) with
     | none => none
     | some (.inl o23) =>
      some (o23)
     | some (.inr o23) =>
      some (o23)
   else none
noncomputable def c_spec_l1Read : Con := { ps := [(.val, .str)], rs := [(.val, (.int .i64))], F := F_spec_l1Read }
noncomputable def env_spec_l1Read : Env := { par := [], dp := false, settle := [], con := fun f => match f with | 117 => some c_spec_l1In | _ => none, clo := fun _ => none, T := tinf Tryz.prog }
noncomputable def loops_spec_l1Read : Nat → Option Loop := fun n => match n with | 5 => some { pat := pat_spec_l1Read_0, outs := outs_spec_l1Read_0, run := runL (step_spec_l1Read_0) } | _ => none
theorem con_spec_l1Read : ConOK Tryz.prog 212 c_spec_l1Read := con_of_ev' (body := Tryz.f212.body.getD .skip) (Λ := loops_spec_l1Read) mixed Tryz.func212 (by kernel_rfl) (by kernel_rfl) (envOK_of (E := env_spec_l1Read) (fun f c h => by
  simp only [env_spec_l1Read] at h
  split at h
  · cases h; exact con_spec_l1In
  · cases h) (fun f c h => by cases h) rfl) (by kernel_rfl) (by kernel_rfl) (fun n L h => by
  unfold loops_spec_l1Read at h
  split at h
  · cases h; exact fun s o ho => loop_ok (stepF := stepEv env_spec_l1Read loops_spec_l1Read pat_spec_l1Read_0 outs_spec_l1Read_0 Tryz.f212 5) (fun _ => by kernel_rfl) ho
  · cases h) (fun _ => by kernel_rfl)

noncomputable def F_spec_mvLetters (x : Unit) : Option (ByteArray) :=
 some ((⟨#[117, 100, 108, 114, 102, 98]⟩ : ByteArray))
noncomputable def c_spec_mvLetters : Con := { ps := [], rs := [(.val, .str)], F := F_spec_mvLetters }
noncomputable def env_spec_mvLetters : Env := { par := [], dp := false, settle := [], con := fun _ => none, clo := fun _ => none, T := tinf Tryz.prog }
noncomputable def loops_spec_mvLetters : Nat → Option Loop := fun n => none
theorem con_spec_mvLetters : ConOK Tryz.prog 247 c_spec_mvLetters := con_of_ev' (body := Tryz.f247.body.getD .skip) (Λ := loops_spec_mvLetters) mixed Tryz.func247 (by kernel_rfl) (by kernel_rfl) (envOK_of (E := env_spec_mvLetters) (fun f c h => by cases h) (fun f c h => by cases h) rfl) (by kernel_rfl) (by kernel_rfl) (fun n L h => by cases h) (fun _ => by kernel_rfl)

noncomputable def step_spec_mvIndex_0 (s : Int × Int) : Option ((Int × Int) ⊕ ((Int) ⊕ (Unit))) :=
 match F_spec_mvLetters () with
 | none => none
 | some y4 =>
  bif (decide (s.2 < (y4.size : Int))) then
   match F_spec_mvLetters () with
   | none => none
   | some y5 =>
    bif decide (0 ≤ s.2) && decide (s.2 < (y5.size : Int)) then
     bif (((byteAt y5 (s.2).toNat) == s.1)) then
      some (.inr (.inl (s.2)))
     else
      let v6 := IntKind.i64.wrap (s.2 + 1)
      some (.inl ((s.1, v6)))
    else none
  else
   some (.inr (.inr (())))
def pat_spec_mvIndex_0 : Pat := { tmps := .v (.int .u8) :: .any :: .any :: .v (.int .i64) :: an 12 [], blks := [] }
def outs_spec_mvIndex_0 : List (Exit × Pat) := [(.ret, { tmps := .any :: .any :: .v (.int .i64) :: an 13 [], blks := [] }), (.exit 0, { tmps := an 16 [], blks := [] })]
noncomputable def F_spec_mvIndex (x : Int) : Option (Int) :=
 match runL step_spec_mvIndex_0 ((x, 0)) with
 | none => none
 | some (.inl o7) =>
  some (o7)
 | some (.inr o7) =>
  some ((-1))
noncomputable def c_spec_mvIndex : Con := { ps := [(.val, (.int .u8))], rs := [(.val, (.int .i64))], F := F_spec_mvIndex }
noncomputable def env_spec_mvIndex : Env := { par := [], dp := false, settle := [], con := fun f => match f with | 247 => some c_spec_mvLetters | _ => none, clo := fun _ => none, T := tinf Tryz.prog }
noncomputable def loops_spec_mvIndex : Nat → Option Loop := fun n => match n with | 2 => some { pat := pat_spec_mvIndex_0, outs := outs_spec_mvIndex_0, run := runL (step_spec_mvIndex_0) } | _ => none
theorem con_spec_mvIndex : ConOK Tryz.prog 225 c_spec_mvIndex := con_of_ev' (body := Tryz.f225.body.getD .skip) (Λ := loops_spec_mvIndex) mixed Tryz.func225 (by kernel_rfl) (by kernel_rfl) (envOK_of (E := env_spec_mvIndex) (fun f c h => by
  simp only [env_spec_mvIndex] at h
  split at h
  · cases h; exact con_spec_mvLetters
  · cases h) (fun f c h => by cases h) rfl) (by kernel_rfl) (by kernel_rfl) (fun n L h => by
  unfold loops_spec_mvIndex at h
  split at h
  · cases h; exact fun s o ho => loop_ok (stepF := stepEv env_spec_mvIndex loops_spec_mvIndex pat_spec_mvIndex_0 outs_spec_mvIndex_0 Tryz.f225 2) (fun _ => by kernel_rfl) ho
  · cases h) (fun _ => by kernel_rfl)

noncomputable def step_spec_mvSteps_0 (s : ByteArray × Int) : Option ((ByteArray × Int) ⊕ ((Bool) ⊕ (Unit))) :=
 bif (decide (s.2 < (s.1.size : Int))) then
  bif decide (0 ≤ s.2) && decide (s.2 < (s.1.size : Int)) then
   match F_spec_mvIndex ((byteAt s.1 (s.2).toNat)) with
   | none => none
   | some y3 =>
    bif (decide (y3 < 0)) then
     some (.inr (.inl (false)))
    else
     let v4 := IntKind.i64.wrap (s.2 + 1)
     some (.inl ((s.1, v4)))
  else none
 else
  some (.inr (.inr (())))
def pat_spec_mvSteps_0 : Pat := { tmps := .v .str :: .any :: .any :: .v (.int .i64) :: an 11 [], blks := [] }
def outs_spec_mvSteps_0 : List (Exit × Pat) := [(.ret, { tmps := .any :: .any :: .v .bool :: an 12 [], blks := [] }), (.exit 0, { tmps := an 15 [], blks := [] })]
noncomputable def F_spec_mvSteps (x : ByteArray) : Option (Bool) :=
 match runL step_spec_mvSteps_0 ((x, 0)) with
 | none => none
 | some (.inl o5) =>
  some (o5)
 | some (.inr o5) =>
  some (true)
noncomputable def c_spec_mvSteps : Con := { ps := [(.val, .str)], rs := [(.val, .bool)], F := F_spec_mvSteps }
noncomputable def env_spec_mvSteps : Env := { par := [], dp := false, settle := [], con := fun f => match f with | 225 => some c_spec_mvIndex | _ => none, clo := fun _ => none, T := tinf Tryz.prog }
noncomputable def loops_spec_mvSteps : Nat → Option Loop := fun n => match n with | 2 => some { pat := pat_spec_mvSteps_0, outs := outs_spec_mvSteps_0, run := runL (step_spec_mvSteps_0) } | _ => none
theorem con_spec_mvSteps : ConOK Tryz.prog 185 c_spec_mvSteps := con_of_ev' (body := Tryz.f185.body.getD .skip) (Λ := loops_spec_mvSteps) mixed Tryz.func185 (by kernel_rfl) (by kernel_rfl) (envOK_of (E := env_spec_mvSteps) (fun f c h => by
  simp only [env_spec_mvSteps] at h
  split at h
  · cases h; exact con_spec_mvIndex
  · cases h) (fun f c h => by cases h) rfl) (by kernel_rfl) (by kernel_rfl) (fun n L h => by
  unfold loops_spec_mvSteps at h
  split at h
  · cases h; exact fun s o ho => loop_ok (stepF := stepEv env_spec_mvSteps loops_spec_mvSteps pat_spec_mvSteps_0 outs_spec_mvSteps_0 Tryz.f185 2) (fun _ => by kernel_rfl) ho
  · cases h) (fun _ => by kernel_rfl)

noncomputable def F_spec_mvGood (x : (ByteArray × Int)) : Option (Bool) :=
 bif (decide ((x.1.size : Int) ≤ 6)) then
  match F_spec_mvSteps (x.1) with
  | none => none
  | some y1 =>
   bif y1 then
    match F_spec_l1In ((x.2, 1, 3)) with
    | none => none
    | some y2 =>
     bif y2 then
      bif (!(x.1.toList == (⟨#[]⟩ : ByteArray).toList)) then
       some (true)
      else
       some (((x.2 == 1)))
     else
      some (false)
   else
    some (false)
 else
  some (false)
noncomputable def c_spec_mvGood : Con := { ps := [(.val, (.st (.pair .str (.int .i64))))], rs := [(.val, .bool)], F := F_spec_mvGood }
noncomputable def env_spec_mvGood : Env := { par := [], dp := false, settle := [], con := fun f => match f with | 117 => some c_spec_l1In | 185 => some c_spec_mvSteps | _ => none, clo := fun _ => none, T := tinf Tryz.prog }
noncomputable def loops_spec_mvGood : Nat → Option Loop := fun n => none
theorem con_spec_mvGood : ConOK Tryz.prog 126 c_spec_mvGood := con_of_ev' (body := Tryz.f126.body.getD .skip) (Λ := loops_spec_mvGood) mixed Tryz.func126 (by kernel_rfl) (by kernel_rfl) (envOK_of (E := env_spec_mvGood) (fun f c h => by
  simp only [env_spec_mvGood] at h
  split at h
  · cases h; exact con_spec_l1In
  · cases h; exact con_spec_mvSteps
  · cases h) (fun f c h => by cases h) rfl) (by kernel_rfl) (by kernel_rfl) (fun n L h => by cases h) (fun _ => by kernel_rfl)


noncomputable def F_spec_mvText (x : (ByteArray × Int)) : Option (ByteArray) :=
 bif (x.1.toList == (⟨#[]⟩ : ByteArray).toList) then
  some ((⟨#[45]⟩ : ByteArray))
 else
  bif (decide (x.2 > 1)) then
   bif decide (x.1.size + (⟨#[42]⟩ : ByteArray).size ≤ 9223372036854775807) then
    match F_spec_l1Num (x.2) with
    | none => none
    | some y1 =>
     bif decide ((x.1 ++ (⟨#[42]⟩ : ByteArray)).size + y1.size ≤ 9223372036854775807) then
      some (((x.1 ++ (⟨#[42]⟩ : ByteArray)) ++ y1))
     else none
   else none
  else
   some (x.1)
noncomputable def c_spec_mvText : Con := { ps := [(.val, (.st (.pair .str (.int .i64))))], rs := [(.val, .str)], F := F_spec_mvText }
noncomputable def env_spec_mvText : Env := { par := [], dp := false, settle := [], con := fun f => match f with | 226 => some c_spec_l1Num | _ => none, clo := fun _ => none, T := tinf Tryz.prog }
noncomputable def loops_spec_mvText : Nat → Option Loop := fun n => none
theorem con_spec_mvText : ConOK Tryz.prog 191 c_spec_mvText := con_of_ev' (body := Tryz.f191.body.getD .skip) (Λ := loops_spec_mvText) mixed Tryz.func191 (by kernel_rfl) (by kernel_rfl) (envOK_of (E := env_spec_mvText) (fun f c h => by
  simp only [env_spec_mvText] at h
  split at h
  · cases h; exact con_spec_l1Num
  · cases h) (fun f c h => by cases h) rfl) (by kernel_rfl) (by kernel_rfl) (fun n L h => by cases h) (fun _ => by kernel_rfl)

noncomputable def F_spec_mvParse (x : ByteArray) : Option ((ByteArray × Int) × Bool) :=
 match F_spec_l1Split ((x, 42)) with
 | none => none
 | some y1 =>
  bif decide (0 ≤ 0) && decide (0 < (y1.length : Int)) then
   bif (x.toList == (⟨#[45]⟩ : ByteArray).toList) then
    bif (((y1.length : Int) == 2)) then
     bif decide (0 ≤ 1) && decide (1 < (y1.length : Int)) then
      match F_spec_l1Read ((y1.getD (1 : Int).toNat ByteArray.empty)) with
      | none => none
      | some y2 =>
       bif (decide ((y1.length : Int) > 2)) then
        some (((ByteArray.empty, 0), false))
       else
        match F_spec_mvGood (((⟨#[]⟩ : ByteArray), y2)) with
        | none => none
        | some y3 =>
         bif (!y3) then
          some (((ByteArray.empty, 0), false))
         else
          match F_spec_mvText (((⟨#[]⟩ : ByteArray), y2)) with
          | none => none
          | some y4 =>
           bif (!(y4.toList == x.toList)) then
            some (((ByteArray.empty, 0), false))
           else
            some ((((⟨#[]⟩ : ByteArray), y2), true))
     else none
    else
     bif (decide ((y1.length : Int) > 2)) then
      some (((ByteArray.empty, 0), false))
     else
      match F_spec_mvGood (((⟨#[]⟩ : ByteArray), 1)) with
      | none => none
      | some y5 =>
       bif (!y5) then
        some (((ByteArray.empty, 0), false))
       else
        match F_spec_mvText (((⟨#[]⟩ : ByteArray), 1)) with
        | none => none
        | some y6 =>
         bif (!(y6.toList == x.toList)) then
          some (((ByteArray.empty, 0), false))
         else
          some ((((⟨#[]⟩ : ByteArray), 1), true))
   else
    bif (((y1.length : Int) == 2)) then
     bif decide (0 ≤ 1) && decide (1 < (y1.length : Int)) then
      match F_spec_l1Read ((y1.getD (1 : Int).toNat ByteArray.empty)) with
      | none => none
      | some y7 =>
       bif (decide ((y1.length : Int) > 2)) then
        some (((ByteArray.empty, 0), false))
       else
        match F_spec_mvGood (((y1.getD (0 : Int).toNat ByteArray.empty), y7)) with
        | none => none
        | some y8 =>
         bif (!y8) then
          some (((ByteArray.empty, 0), false))
         else
          match F_spec_mvText (((y1.getD (0 : Int).toNat ByteArray.empty), y7)) with
          | none => none
          | some y9 =>
           bif (!(y9.toList == x.toList)) then
            some (((ByteArray.empty, 0), false))
           else
            some ((((y1.getD (0 : Int).toNat ByteArray.empty), y7), true))
     else none
    else
     bif (decide ((y1.length : Int) > 2)) then
      some (((ByteArray.empty, 0), false))
     else
      match F_spec_mvGood (((y1.getD (0 : Int).toNat ByteArray.empty), 1)) with
      | none => none
      | some y10 =>
       bif (!y10) then
        some (((ByteArray.empty, 0), false))
       else
        match F_spec_mvText (((y1.getD (0 : Int).toNat ByteArray.empty), 1)) with
        | none => none
        | some y11 =>
         bif (!(y11.toList == x.toList)) then
          some (((ByteArray.empty, 0), false))
         else
          some ((((y1.getD (0 : Int).toNat ByteArray.empty), 1), true))
  else none
noncomputable def c_spec_mvParse : Con := { ps := [(.val, .str)], rs := [(.val, (.st (.pair .str (.int .i64)))), (.val, .bool)], F := F_spec_mvParse }
noncomputable def env_spec_mvParse : Env := { par := [], dp := false, settle := [], con := fun f => match f with | 57 => some c_spec_l1Split | 126 => some c_spec_mvGood | 191 => some c_spec_mvText | 212 => some c_spec_l1Read | _ => none, clo := fun _ => none, T := tinf Tryz.prog }
noncomputable def loops_spec_mvParse : Nat → Option Loop := fun n => none
theorem con_spec_mvParse : ConOK Tryz.prog 159 c_spec_mvParse := con_of_ev' (body := Tryz.f159.body.getD .skip) (Λ := loops_spec_mvParse) mixed Tryz.func159 (by kernel_rfl) (by kernel_rfl) (envOK_of (E := env_spec_mvParse) (fun f c h => by
  simp only [env_spec_mvParse] at h
  split at h
  · cases h; exact con_spec_l1Split
  · cases h; exact con_spec_mvGood
  · cases h; exact con_spec_mvText
  · cases h; exact con_spec_l1Read
  · cases h) (fun f c h => by cases h) rfl) (by kernel_rfl) (by kernel_rfl) (fun n L h => by cases h) (fun _ => by kernel_rfl)

noncomputable def F_spec_imPart (x : ((Int × (Int × (Int × (Int × (Int × Bool))))) × ((Int × Int) × ((Int × (Int × Bool)) × (ByteArray × Int)))) × ByteArray) : Option (((Int × (Int × (Int × (Int × (Int × Bool))))) × ((Int × Int) × ((Int × (Int × Bool)) × (ByteArray × Int)))) × Int) :=
 bif (decide ((x.2.size : Int) < 2)) then
  some ((x.1, 16))
 else
  bif decide (0 ≤ 1) && decide (1 < (x.2.size : Int)) then
   bif (((byteAt x.2 (1 : Int).toNat) != 61)) then
    some ((x.1, 16))
   else
    bif decide (0 ≤ 2) && decide (2 ≤ (x.2.size : Int)) && decide ((x.2.size : Int) ≤ (x.2.size : Int)) then
     bif decide (0 ≤ 0) && decide (0 < (x.2.size : Int)) then
      bif (((byteAt x.2 (0 : Int).toNat) == 83)) then
       match F_spec_shParse ((x.2.extract (2 : Int).toNat ((x.2.size : Int)).toNat)) with
       | none => none
       | some y1 =>
        bif y1.2 then
         some (((y1.1, x.1.2), 1))
        else
         some ((x.1, 16))
      else
       bif (((byteAt x.2 (0 : Int).toNat) == 79)) then
        match F_spec_orParse ((x.2.extract (2 : Int).toNat ((x.2.size : Int)).toNat)) with
        | none => none
        | some y2 =>
         bif y2.2 then
          some (((x.1.1, y2.1, x.1.2.2), 2))
         else
          some ((x.1, 16))
       else
        bif (((byteAt x.2 (0 : Int).toNat) == 80)) then
         match F_spec_imPlaces ((x.2.extract (2 : Int).toNat ((x.2.size : Int)).toNat)) with
         | none => none
         | some y3 =>
          bif (!y3.2) then
           match F_spec_plParse ((x.2.extract (2 : Int).toNat ((x.2.size : Int)).toNat)) with
           | none => none
           | some y4 =>
            bif y4.2 then
             some (((x.1.1, (x.1.2.1, y4.1, x.1.2.2.2)), 4))
            else
             some ((x.1, 16))
          else
           bif y3.2 then
            some (((x.1.1, (x.1.2.1, y3.1, x.1.2.2.2)), 4))
           else
            some ((x.1, 16))
        else
         bif (((byteAt x.2 (0 : Int).toNat) == 77)) then
          match F_spec_mvParse ((x.2.extract (2 : Int).toNat ((x.2.size : Int)).toNat)) with
          | none => none
          | some y5 =>
           bif y5.2 then
            some (((x.1.1, (x.1.2.1, x.1.2.2.1, y5.1)), 8))
           else
            some ((x.1, 16))
         else
          some ((x.1, 16))
     else none
    else none
  else none
noncomputable def c_spec_imPart : Con := { ps := [(.io true, (.ptr (.st (.pair (.st (.pair (.int .i64) (.pair (.int .i64) (.pair (.int .i64) (.pair (.int .i64) (.pair (.int .i64) .bool)))))) (.pair (.st (.pair (.int .i64) (.int .i64))) (.pair (.st (.pair (.int .i64) (.pair (.int .i64) .bool))) (.st (.pair .str (.int .i64))))))))), (.val, .str)], rs := [(.val, (.int .i64))], F := F_spec_imPart }
noncomputable def env_spec_imPart : Env := { par := [63], dp := false, settle := [], con := fun f => match f with | 100 => some c_spec_shParse | 101 => some c_spec_orParse | 158 => some c_spec_plParse | 159 => some c_spec_mvParse | 163 => some c_spec_imPlaces | _ => none, clo := fun _ => none, T := tinf Tryz.prog }
noncomputable def loops_spec_imPart : Nat → Option Loop := fun n => none
theorem con_spec_imPart : ConOK Tryz.prog 102 c_spec_imPart := con_of_ev' (body := Tryz.f102.body.getD .skip) (Λ := loops_spec_imPart) mixed Tryz.func102 (by kernel_rfl) (by kernel_rfl) (envOK_of (E := env_spec_imPart) (fun f c h => by
  simp only [env_spec_imPart] at h
  split at h
  · cases h; exact con_spec_shParse
  · cases h; exact con_spec_orParse
  · cases h; exact con_spec_plParse
  · cases h; exact con_spec_mvParse
  · cases h; exact con_spec_imPlaces
  · cases h) (fun f c h => by cases h) rfl) (by kernel_rfl) (by kernel_rfl) (fun n L h => by cases h) (fun _ => by kernel_rfl)

noncomputable def step_spec_imRead_0 (s : Int × Int × Int × (List ByteArray) × Int × Int × Int × Int × Int × Bool × Int × Int × Int × Int × Bool × ByteArray × Int × Int × Int × Int × Int × Int × Bool × Int × Int × Int × Int × Bool × ByteArray × Int) : Option ((Int × Int × Int × (List ByteArray) × Int × Int × Int × Int × Int × Bool × Int × Int × Int × Int × Bool × ByteArray × Int × Int × Int × Int × Int × Int × Bool × Int × Int × Int × Int × Bool × ByteArray × Int) ⊕ ((Int × Int × Int × Int × Int × Int × Bool × Int × Int × Int × Int × Bool × ByteArray × Int × Int × Int × Int × Int × Int × Bool × Int × Int × Int × Int × Bool × ByteArray × Int))) :=
 bif (decide (s.2.2.1 < s.2.1)) then
  bif decide (0 ≤ s.2.2.1) && decide (s.2.2.1 < (s.2.2.2.1.length : Int)) then
   bif ((s.2.2.2.1.getD (s.2.2.1).toNat ByteArray.empty).toList == (⟨#[]⟩ : ByteArray).toList) then
    let v8 := IntKind.i64.wrap (s.2.2.1 + 1)
    some (.inl ((s.1, (s.2.1, v8, s.2.2.2))))
   else
    match F_spec_imPart ((((s.2.2.2.2.1, (s.2.2.2.2.2.1, s.2.2.2.2.2.2.1, (s.2.2.2.2.2.2.2.1, s.2.2.2.2.2.2.2.2.1, s.2.2.2.2.2.2.2.2.2.1))), (s.2.2.2.2.2.2.2.2.2.2.1, s.2.2.2.2.2.2.2.2.2.2.2.1), ((s.2.2.2.2.2.2.2.2.2.2.2.2.1, s.2.2.2.2.2.2.2.2.2.2.2.2.2.1, s.2.2.2.2.2.2.2.2.2.2.2.2.2.2.1), s.2.2.2.2.2.2.2.2.2.2.2.2.2.2.2.1, s.2.2.2.2.2.2.2.2.2.2.2.2.2.2.2.2.1)), (s.2.2.2.1.getD (s.2.2.1).toNat ByteArray.empty))) with
    | none => none
    | some y9 =>
     let v10 := IntKind.i64.wrap ((BitVec.ofInt IntKind.i64.bits (s.1) ||| BitVec.ofInt IntKind.i64.bits (y9.2)).toNat : Nat)
     let v11 := IntKind.i64.wrap (s.2.2.1 + 1)
     some (.inl ((v10, (s.2.1, v11, (s.2.2.2.1, y9.1.1.1, (y9.1.1.2.1, y9.1.1.2.2.1, (y9.1.1.2.2.2.1, y9.1.1.2.2.2.2.1, (y9.1.1.2.2.2.2.2, y9.1.2.1.1, (y9.1.2.1.2, y9.1.2.2.1.1, (y9.1.2.2.1.2.1, y9.1.2.2.1.2.2, (y9.1.2.2.2.1, y9.1.2.2.2.2, s.2.2.2.2.2.2.2.2.2.2.2.2.2.2.2.2.2)))))))))))
  else none
 else
  some (.inr ((s.1, s.2.2.2.2)))
def pat_spec_imRead_0 : Pat := { tmps := .any :: .any :: .ptr 128 0 :: an 5 (.ptr 512 0 :: .v (.int .i64) :: an 15 (.own 1600 :: .v (.int .i64) :: .v (.int .i64) :: an 12 [])), blks := [(1600, .row true .str), (512, .box [.v (.int .i64), .v (.int .i64), .v (.int .i64), .v (.int .i64), .v (.int .i64), .v .bool, .v (.int .i64), .v (.int .i64), .v (.int .i64), .v (.int .i64), .v .bool, .v .str, .v (.int .i64)]), (128, .box [.v (.int .i64), .v (.int .i64), .v (.int .i64), .v (.int .i64), .v (.int .i64), .v .bool, .v (.int .i64), .v (.int .i64), .v (.int .i64), .v (.int .i64), .v .bool, .v .str, .v (.int .i64)])] }
def outs_spec_imRead_0 : List (Exit × Pat) := [(.exit 0, { tmps := .any :: .any :: .ptr 128 0 :: an 5 (.ptr 512 0 :: .v (.int .i64) :: an 30 []), blks := [(512, .box [.v (.int .i64), .v (.int .i64), .v (.int .i64), .v (.int .i64), .v (.int .i64), .v .bool, .v (.int .i64), .v (.int .i64), .v (.int .i64), .v (.int .i64), .v .bool, .v .str, .v (.int .i64)]), (128, .box [.v (.int .i64), .v (.int .i64), .v (.int .i64), .v (.int .i64), .v (.int .i64), .v .bool, .v (.int .i64), .v (.int .i64), .v (.int .i64), .v (.int .i64), .v .bool, .v .str, .v (.int .i64)])] })]
noncomputable def F_spec_imRead (x : ByteArray) : Option (((Int × (Int × (Int × (Int × (Int × Bool))))) × ((Int × Int) × ((Int × (Int × Bool)) × (ByteArray × Int)))) × Int) :=
 match F_spec_shParse ((⟨#[48, 48, 48, 48, 48]⟩ : ByteArray)) with
 | none => none
 | some y1 =>
  match F_spec_orParse ((⟨#[102, 117]⟩ : ByteArray)) with
  | none => none
  | some y2 =>
   match F_spec_l1Split ((x, 59)) with
   | none => none
   | some y3 =>
    match runL step_spec_imRead_0 ((0, ((y3.length : Int), 0, (y3, y1.1.1, (y1.1.2.1, y1.1.2.2.1, (y1.1.2.2.2.1, y1.1.2.2.2.2.1, (y1.1.2.2.2.2.2, y2.1.1, (y2.1.2, 0, (0, false, (ByteArray.empty, 1, (0, 0, (0, 0, (0, false, (0, 0, (0, 0, (false, ByteArray.empty, 0)))))))))))))))) with
    | none => none
    | some o12 =>
     some ((((o12.2.1, (o12.2.2.1, o12.2.2.2.1, (o12.2.2.2.2.1, o12.2.2.2.2.2.1, o12.2.2.2.2.2.2.1))), (o12.2.2.2.2.2.2.2.1, o12.2.2.2.2.2.2.2.2.1), ((o12.2.2.2.2.2.2.2.2.2.1, o12.2.2.2.2.2.2.2.2.2.2.1, o12.2.2.2.2.2.2.2.2.2.2.2.1), o12.2.2.2.2.2.2.2.2.2.2.2.2.1, o12.2.2.2.2.2.2.2.2.2.2.2.2.2.1)), o12.1))
noncomputable def c_spec_imRead : Con := { ps := [(.val, .str)], rs := [(.val, (.st (.pair (.st (.pair (.int .i64) (.pair (.int .i64) (.pair (.int .i64) (.pair (.int .i64) (.pair (.int .i64) .bool)))))) (.pair (.st (.pair (.int .i64) (.int .i64))) (.pair (.st (.pair (.int .i64) (.pair (.int .i64) .bool))) (.st (.pair .str (.int .i64)))))))), (.val, (.int .i64))], F := F_spec_imRead }
noncomputable def env_spec_imRead : Env := { par := [], dp := false, settle := [], con := fun f => match f with | 57 => some c_spec_l1Split | 100 => some c_spec_shParse | 101 => some c_spec_orParse | 102 => some c_spec_imPart | _ => none, clo := fun _ => none, T := tinf Tryz.prog }
noncomputable def loops_spec_imRead : Nat → Option Loop := fun n => match n with | 5 => some { pat := pat_spec_imRead_0, outs := outs_spec_imRead_0, run := runL (step_spec_imRead_0) } | _ => none
theorem con_spec_imRead : ConOK Tryz.prog 64 c_spec_imRead := con_of_ev' (body := Tryz.f64.body.getD .skip) (Λ := loops_spec_imRead) mixed Tryz.func64 (by kernel_rfl) (by kernel_rfl) (envOK_of (E := env_spec_imRead) (fun f c h => by
  simp only [env_spec_imRead] at h
  split at h
  · cases h; exact con_spec_l1Split
  · cases h; exact con_spec_shParse
  · cases h; exact con_spec_orParse
  · cases h; exact con_spec_imPart
  · cases h) (fun f c h => by cases h) rfl) (by kernel_rfl) (by kernel_rfl) (fun n L h => by
  unfold loops_spec_imRead at h
  split at h
  · cases h; exact fun s o ho => loop_ok (stepF := stepEv env_spec_imRead loops_spec_imRead pat_spec_imRead_0 outs_spec_imRead_0 Tryz.f64 5) (fun _ => by kernel_rfl) ho
  · cases h) (fun _ => by kernel_rfl)

noncomputable def F_spec_siHand (x : ((Int × (Int × (Int × (Int × (Int × Bool))))) × ((Int × Int) × ((Int × (Int × Bool)) × (ByteArray × Int))))) : Option (Bool) :=
 match F_spec_shGood (x.1) with
 | none => none
 | some y1 =>
  bif y1 then
   match F_spec_orGood (x.2.1) with
   | none => none
   | some y2 =>
    bif y2 then
     match F_spec_plGood (x.2.2.1) with
     | none => none
     | some y3 =>
      bif y3 then
       match F_spec_mvGood (x.2.2.2) with
       | none => none
       | some y4 =>
        some (y4)
      else
       some (false)
    else
     some (false)
  else
   some (false)
noncomputable def c_spec_siHand : Con := { ps := [(.val, (.st (.pair (.st (.pair (.int .i64) (.pair (.int .i64) (.pair (.int .i64) (.pair (.int .i64) (.pair (.int .i64) .bool)))))) (.pair (.st (.pair (.int .i64) (.int .i64))) (.pair (.st (.pair (.int .i64) (.pair (.int .i64) .bool))) (.st (.pair .str (.int .i64))))))))], rs := [(.val, .bool)], F := F_spec_siHand }
noncomputable def env_spec_siHand : Env := { par := [], dp := false, settle := [], con := fun f => match f with | 123 => some c_spec_shGood | 124 => some c_spec_orGood | 125 => some c_spec_plGood | 126 => some c_spec_mvGood | _ => none, clo := fun _ => none, T := tinf Tryz.prog }
noncomputable def loops_spec_siHand : Nat → Option Loop := fun n => none
theorem con_spec_siHand : ConOK Tryz.prog 78 c_spec_siHand := con_of_ev' (body := Tryz.f78.body.getD .skip) (Λ := loops_spec_siHand) mixed Tryz.func78 (by kernel_rfl) (by kernel_rfl) (envOK_of (E := env_spec_siHand) (fun f c h => by
  simp only [env_spec_siHand] at h
  split at h
  · cases h; exact con_spec_shGood
  · cases h; exact con_spec_orGood
  · cases h; exact con_spec_plGood
  · cases h; exact con_spec_mvGood
  · cases h) (fun f c h => by cases h) rfl) (by kernel_rfl) (by kernel_rfl) (fun n L h => by cases h) (fun _ => by kernel_rfl)

noncomputable def step_spec_siPlain_0 (s : Int × Int × (List ByteArray) × (List (Int × (Int × (Int × (Int × (Int × Bool))))))) : Option ((Int × Int × (List ByteArray) × (List (Int × (Int × (Int × (Int × (Int × Bool))))))) ⊕ (((List (Int × (Int × (Int × (Int × (Int × Bool))))))))) :=
 bif (decide (s.2.1 < s.1)) then
  bif decide (0 ≤ s.2.1) && decide (s.2.1 < (s.2.2.1.length : Int)) then
   match F_spec_shParse ((s.2.2.1.getD (s.2.1).toNat ByteArray.empty)) with
   | none => none
   | some y6 =>
    bif decide ((s.2.2.2.length + [y6.1].length) * 48 ≤ 140737488355328) then
     let v7 := s.2.2.2 ++ [y6.1]
     let v8 := IntKind.i64.wrap (s.2.1 + 1)
     some (.inl ((s.1, (v8, s.2.2.1, v7))))
    else none
  else none
 else
  some (.inr (s.2.2.2))
def pat_spec_siPlain_0 : Pat := { tmps := .any :: .own 1280 :: an 4 (.own 384 :: .v (.int .i64) :: .v (.int .i64) :: an 14 []), blks := [(384, .row true .str), (1280, .row true (.st (.pair (.int .i64) (.pair (.int .i64) (.pair (.int .i64) (.pair (.int .i64) (.pair (.int .i64) .bool)))))))] }
def outs_spec_siPlain_0 : List (Exit × Pat) := [(.exit 0, { tmps := .any :: .own 1280 :: an 21 [], blks := [(1280, .row true (.st (.pair (.int .i64) (.pair (.int .i64) (.pair (.int .i64) (.pair (.int .i64) (.pair (.int .i64) .bool)))))))] })]
noncomputable def F_spec_siPlain (x : Unit) : Option ((List (Int × (Int × (Int × (Int × (Int × Bool))))))) :=
 match runL step_spec_siPlain_0 ((([(⟨#[48, 48, 48, 48, 48]⟩ : ByteArray), (⟨#[48, 48, 48, 48, 48, 115]⟩ : ByteArray), (⟨#[50, 50, 50, 50, 50]⟩ : ByteArray), (⟨#[49, 48, 48, 48, 48]⟩ : ByteArray), (⟨#[49, 48, 50, 50, 50]⟩ : ByteArray), (⟨#[48, 48, 50, 50, 50]⟩ : ByteArray)].length : Int), (0, [(⟨#[48, 48, 48, 48, 48]⟩ : ByteArray), (⟨#[48, 48, 48, 48, 48, 115]⟩ : ByteArray), (⟨#[50, 50, 50, 50, 50]⟩ : ByteArray), (⟨#[49, 48, 48, 48, 48]⟩ : ByteArray), (⟨#[49, 48, 50, 50, 50]⟩ : ByteArray), (⟨#[48, 48, 50, 50, 50]⟩ : ByteArray)], []))) with
 | none => none
 | some o9 =>
  some (o9)
noncomputable def c_spec_siPlain : Con := { ps := [], rs := [(.io true, (.slice (.st (.pair (.int .i64) (.pair (.int .i64) (.pair (.int .i64) (.pair (.int .i64) (.pair (.int .i64) .bool))))))))], F := F_spec_siPlain }
noncomputable def env_spec_siPlain : Env := { par := [], dp := false, settle := [], con := fun f => match f with | 100 => some c_spec_shParse | _ => none, clo := fun _ => none, T := tinf Tryz.prog }
noncomputable def loops_spec_siPlain : Nat → Option Loop := fun n => match n with | 3 => some { pat := pat_spec_siPlain_0, outs := outs_spec_siPlain_0, run := runL (step_spec_siPlain_0) } | _ => none
theorem con_spec_siPlain : ConOK Tryz.prog 127 c_spec_siPlain := con_of_ev' (body := Tryz.f127.body.getD .skip) (Λ := loops_spec_siPlain) mixed Tryz.func127 (by kernel_rfl) (by kernel_rfl) (envOK_of (E := env_spec_siPlain) (fun f c h => by
  simp only [env_spec_siPlain] at h
  split at h
  · cases h; exact con_spec_shParse
  · cases h) (fun f c h => by cases h) rfl) (by kernel_rfl) (by kernel_rfl) (fun n L h => by
  unfold loops_spec_siPlain at h
  split at h
  · cases h; exact fun s o ho => loop_ok (stepF := stepEv env_spec_siPlain loops_spec_siPlain pat_spec_siPlain_0 outs_spec_siPlain_0 Tryz.f127 3) (fun _ => by kernel_rfl) ho
  · cases h) (fun _ => by kernel_rfl)

noncomputable def F_spec_orSwap (x : Int) : Option (Int) :=
 bif ((x == 2)) then
  match F_spec_orOpposite (x) with
  | none => none
  | some y1 =>
   some (y1)
 else
  bif ((x == 3)) then
   match F_spec_orOpposite (x) with
   | none => none
   | some y2 =>
    some (y2)
  else
   some (x)
noncomputable def c_spec_orSwap : Con := { ps := [(.val, (.int .i64))], rs := [(.val, (.int .i64))], F := F_spec_orSwap }
noncomputable def env_spec_orSwap : Env := { par := [], dp := false, settle := [], con := fun f => match f with | 184 => some c_spec_orOpposite | _ => none, clo := fun _ => none, T := tinf Tryz.prog }
noncomputable def loops_spec_orSwap : Nat → Option Loop := fun n => none
theorem con_spec_orSwap : ConOK Tryz.prog 186 c_spec_orSwap := con_of_ev' (body := Tryz.f186.body.getD .skip) (Λ := loops_spec_orSwap) mixed Tryz.func186 (by kernel_rfl) (by kernel_rfl) (envOK_of (E := env_spec_orSwap) (fun f c h => by
  simp only [env_spec_orSwap] at h
  split at h
  · cases h; exact con_spec_orOpposite
  · cases h) (fun f c h => by cases h) rfl) (by kernel_rfl) (by kernel_rfl) (fun n L h => by cases h) (fun _ => by kernel_rfl)

noncomputable def F_spec_orMirror (x : (Int × Int)) : Option ((Int × Int)) :=
 match F_spec_orSwap (x.1) with
 | none => none
 | some y1 =>
  match F_spec_orSwap (x.2) with
  | none => none
  | some y2 =>
   some ((y1, y2))
noncomputable def c_spec_orMirror : Con := { ps := [(.val, (.st (.pair (.int .i64) (.int .i64))))], rs := [(.val, (.st (.pair (.int .i64) (.int .i64))))], F := F_spec_orMirror }
noncomputable def env_spec_orMirror : Env := { par := [], dp := false, settle := [], con := fun f => match f with | 186 => some c_spec_orSwap | _ => none, clo := fun _ => none, T := tinf Tryz.prog }
noncomputable def loops_spec_orMirror : Nat → Option Loop := fun n => none
theorem con_spec_orMirror : ConOK Tryz.prog 128 c_spec_orMirror := con_of_ev' (body := Tryz.f128.body.getD .skip) (Λ := loops_spec_orMirror) mixed Tryz.func128 (by kernel_rfl) (by kernel_rfl) (envOK_of (E := env_spec_orMirror) (fun f c h => by
  simp only [env_spec_orMirror] at h
  split at h
  · cases h; exact con_spec_orSwap
  · cases h) (fun f c h => by cases h) rfl) (by kernel_rfl) (by kernel_rfl) (fun n L h => by cases h) (fun _ => by kernel_rfl)

noncomputable def step_spec_mvTimes_0 (s : ByteArray × Int × ByteArray) : Option ((ByteArray × Int × ByteArray) ⊕ ((ByteArray))) :=
 bif (decide (s.2.1 > 0)) then
  bif decide (s.2.2.size + s.1.size ≤ 9223372036854775807) then
   let v2 := IntKind.i64.wrap (s.2.1 - 1)
   some (.inl ((s.1, v2, (s.2.2 ++ s.1))))
  else none
 else
  some (.inr (s.2.2))
def pat_spec_mvTimes_0 : Pat := { tmps := .v .str :: .v (.int .i64) :: .any :: .any :: .any :: .v .str :: an 8 [], blks := [] }
def outs_spec_mvTimes_0 : List (Exit × Pat) := [(.exit 0, { tmps := an 5 (.v .str :: an 8 []), blks := [] })]
noncomputable def F_spec_mvTimes (x : ByteArray × Int) : Option (ByteArray) :=
 match runL step_spec_mvTimes_0 ((x.1, x.2, (⟨#[]⟩ : ByteArray))) with
 | none => none
 | some o3 =>
  some (o3)
noncomputable def c_spec_mvTimes : Con := { ps := [(.val, .str), (.val, (.int .i64))], rs := [(.val, .str)], F := F_spec_mvTimes }
noncomputable def env_spec_mvTimes : Env := { par := [], dp := false, settle := [], con := fun _ => none, clo := fun _ => none, T := tinf Tryz.prog }
noncomputable def loops_spec_mvTimes : Nat → Option Loop := fun n => match n with | 2 => some { pat := pat_spec_mvTimes_0, outs := outs_spec_mvTimes_0, run := runL (step_spec_mvTimes_0) } | _ => none
theorem con_spec_mvTimes : ConOK Tryz.prog 187 c_spec_mvTimes := con_of_ev' (body := Tryz.f187.body.getD .skip) (Λ := loops_spec_mvTimes) mixed Tryz.func187 (by kernel_rfl) (by kernel_rfl) (envOK_of (E := env_spec_mvTimes) (fun f c h => by cases h) (fun f c h => by cases h) rfl) (by kernel_rfl) (by kernel_rfl) (fun n L h => by
  unfold loops_spec_mvTimes at h
  split at h
  · cases h; exact fun s o ho => loop_ok (stepF := stepEv env_spec_mvTimes loops_spec_mvTimes pat_spec_mvTimes_0 outs_spec_mvTimes_0 Tryz.f187 2) (fun _ => by kernel_rfl) ho
  · cases h) (fun _ => by kernel_rfl)

noncomputable def F_spec_mvAll (x : (ByteArray × Int)) : Option (ByteArray) :=
 match F_spec_mvTimes (x) with
 | none => none
 | some y1 =>
  some (y1)
noncomputable def c_spec_mvAll : Con := { ps := [(.val, (.st (.pair .str (.int .i64))))], rs := [(.val, .str)], F := F_spec_mvAll }
noncomputable def env_spec_mvAll : Env := { par := [], dp := false, settle := [], con := fun f => match f with | 187 => some c_spec_mvTimes | _ => none, clo := fun _ => none, T := tinf Tryz.prog }
noncomputable def loops_spec_mvAll : Nat → Option Loop := fun n => none
theorem con_spec_mvAll : ConOK Tryz.prog 129 c_spec_mvAll := con_of_ev' (body := Tryz.f129.body.getD .skip) (Λ := loops_spec_mvAll) mixed Tryz.func129 (by kernel_rfl) (by kernel_rfl) (envOK_of (E := env_spec_mvAll) (fun f c h => by
  simp only [env_spec_mvAll] at h
  split at h
  · cases h; exact con_spec_mvTimes
  · cases h) (fun f c h => by cases h) rfl) (by kernel_rfl) (by kernel_rfl) (fun n L h => by cases h) (fun _ => by kernel_rfl)

noncomputable def step_spec_mvMirror_0 (s : ByteArray × Int × ByteArray × Int × ByteArray × Int) : Option ((ByteArray × Int × ByteArray × Int × ByteArray × Int) ⊕ ((ByteArray × ByteArray × Int × ByteArray × Int))) :=
 bif (decide (s.2.1 < (s.2.2.2.2.1.size : Int))) then
  bif decide (0 ≤ s.2.1) && decide (s.2.1 < (s.2.2.2.2.1.size : Int)) then
   bif (((byteAt s.2.2.2.2.1 (s.2.1).toNat) == 108)) then
    bif decide (s.1.size + (⟨#[114]⟩ : ByteArray).size ≤ 9223372036854775807) then
     let v5 := IntKind.i64.wrap (s.2.1 + 1)
     some (.inl (((s.1 ++ (⟨#[114]⟩ : ByteArray)), v5, s.2.2)))
    else none
   else
    bif (((byteAt s.2.2.2.2.1 (s.2.1).toNat) == 114)) then
     bif decide (s.1.size + (⟨#[108]⟩ : ByteArray).size ≤ 9223372036854775807) then
      let v6 := IntKind.i64.wrap (s.2.1 + 1)
      some (.inl (((s.1 ++ (⟨#[108]⟩ : ByteArray)), v6, s.2.2)))
     else none
    else
     let v7 := IntKind.i64.wrap (s.2.1 + 1)
     bif decide (0 ≤ s.2.1) && decide (s.2.1 ≤ v7) && decide (v7 ≤ (s.2.2.2.2.1.size : Int)) then
      bif decide (s.1.size + (s.2.2.2.2.1.extract (s.2.1).toNat (v7).toNat).size ≤ 9223372036854775807) then
       let v8 := IntKind.i64.wrap (s.2.1 + 1)
       some (.inl (((s.1 ++ (s.2.2.2.2.1.extract (s.2.1).toNat (v7).toNat)), v8, s.2.2)))
      else none
     else none
  else none
 else
  some (.inr ((s.1, s.2.2)))
def pat_spec_mvMirror_0 : Pat := { tmps := .any :: .ptr 64 0 :: .ptr 128 0 :: .v .str :: .v (.int .i64) :: an 31 [], blks := [(128, .box [.v .str, .v (.int .i64)]), (64, .box [.v .str, .v (.int .i64)])] }
def outs_spec_mvMirror_0 : List (Exit × Pat) := [(.exit 0, { tmps := .any :: .ptr 64 0 :: .ptr 128 0 :: .v .str :: an 32 [], blks := [(128, .box [.v .str, .v (.int .i64)]), (64, .box [.v .str, .v (.int .i64)])] })]
noncomputable def F_spec_mvMirror (x : (ByteArray × Int)) : Option ((ByteArray × Int)) :=
 match runL step_spec_mvMirror_0 (((⟨#[]⟩ : ByteArray), 0, (ByteArray.empty, 0, x))) with
 | none => none
 | some o9 =>
  some ((o9.1, o9.2.2.2.2))
noncomputable def c_spec_mvMirror : Con := { ps := [(.val, (.st (.pair .str (.int .i64))))], rs := [(.val, (.st (.pair .str (.int .i64))))], F := F_spec_mvMirror }
noncomputable def env_spec_mvMirror : Env := { par := [], dp := false, settle := [], con := fun _ => none, clo := fun _ => none, T := tinf Tryz.prog }
noncomputable def loops_spec_mvMirror : Nat → Option Loop := fun n => match n with | 3 => some { pat := pat_spec_mvMirror_0, outs := outs_spec_mvMirror_0, run := runL (step_spec_mvMirror_0) } | _ => none
theorem con_spec_mvMirror : ConOK Tryz.prog 130 c_spec_mvMirror := con_of_ev' (body := Tryz.f130.body.getD .skip) (Λ := loops_spec_mvMirror) mixed Tryz.func130 (by kernel_rfl) (by kernel_rfl) (envOK_of (E := env_spec_mvMirror) (fun f c h => by cases h) (fun f c h => by cases h) rfl) (by kernel_rfl) (by kernel_rfl) (fun n L h => by
  unfold loops_spec_mvMirror at h
  split at h
  · cases h; exact fun s o ho => loop_ok (stepF := stepEv env_spec_mvMirror loops_spec_mvMirror pat_spec_mvMirror_0 outs_spec_mvMirror_0 Tryz.f130 3) (fun _ => by kernel_rfl) ho
  · cases h) (fun _ => by kernel_rfl)

noncomputable def step_spec_siBroken_0 (s : Int × Int × (List (Int × (Int × (Int × (Int × (Int × Bool)))))) × Int × Int × Int × Int × Int × Bool × Int × Int × Int × Int × Bool × ByteArray × Int) : Option ((Int × Int × (List (Int × (Int × (Int × (Int × (Int × Bool)))))) × Int × Int × Int × Int × Int × Bool × Int × Int × Int × Int × Bool × ByteArray × Int) ⊕ ((Int) ⊕ (Unit))) :=
 bif (decide (s.2.1 < s.1)) then
  bif decide (0 ≤ s.2.1) && decide (s.2.1 < (s.2.2.1.length : Int)) then
   bif (((s.2.2.1.getD (s.2.1).toNat (0, (0, 0, (0, 0, false)))).1 == s.2.2.2.1) && (((s.2.2.1.getD (s.2.1).toNat (0, (0, 0, (0, 0, false)))).2.1 == s.2.2.2.2.1) && (((s.2.2.1.getD (s.2.1).toNat (0, (0, 0, (0, 0, false)))).2.2.1 == s.2.2.2.2.2.1) && (((s.2.2.1.getD (s.2.1).toNat (0, (0, 0, (0, 0, false)))).2.2.2.1 == s.2.2.2.2.2.2.1) && (((s.2.2.1.getD (s.2.1).toNat (0, (0, 0, (0, 0, false)))).2.2.2.2.1 == s.2.2.2.2.2.2.2.1) && (((s.2.2.1.getD (s.2.1).toNat (0, (0, 0, (0, 0, false)))).2.2.2.2.2 == s.2.2.2.2.2.2.2.2.1) && true)))))) then
    some (.inr (.inl (0)))
   else
    let v3 := IntKind.i64.wrap (s.2.1 + 1)
    some (.inl ((s.1, v3, s.2.2)))
  else none
 else
  some (.inr (.inr (())))
def pat_spec_siBroken_0 : Pat := { tmps := .any :: .any :: .any :: .ptr 192 0 :: an 12 (.own 1024 :: .v (.int .i64) :: .v (.int .i64) :: an 51 []), blks := [(1024, .row true (.st (.pair (.int .i64) (.pair (.int .i64) (.pair (.int .i64) (.pair (.int .i64) (.pair (.int .i64) .bool))))))), (192, .box [.v (.int .i64), .v (.int .i64), .v (.int .i64), .v (.int .i64), .v (.int .i64), .v .bool, .v (.int .i64), .v (.int .i64), .v (.int .i64), .v (.int .i64), .v .bool, .v .str, .v (.int .i64)])] }
def outs_spec_siBroken_0 : List (Exit × Pat) := [(.ret, { tmps := an 4 (.v (.int .i64) :: an 65 []), blks := [] }), (.exit 0, { tmps := an 70 [], blks := [] })]
noncomputable def F_spec_siBroken (x : ((Int × (Int × (Int × (Int × (Int × Bool))))) × ((Int × Int) × ((Int × (Int × Bool)) × (ByteArray × Int)))) × ((Int × (Int × (Int × (Int × (Int × Bool))))) × ((Int × Int) × ((Int × (Int × Bool)) × (ByteArray × Int))))) : Option (Int) :=
 bif (x.2.2.2.2.1.toList == (⟨#[]⟩ : ByteArray).toList) then
  bif ((x.1.1.1 == x.2.1.1) && ((x.1.1.2.1 == x.2.1.2.1) && ((x.1.1.2.2.1 == x.2.1.2.2.1) && ((x.1.1.2.2.2.1 == x.2.1.2.2.2.1) && ((x.1.1.2.2.2.2.1 == x.2.1.2.2.2.2.1) && ((x.1.1.2.2.2.2.2 == x.2.1.2.2.2.2.2) && true)))))) then
   some (0)
  else
   match F_spec_siPlain () with
   | none => none
   | some y1 =>
    match runL step_spec_siBroken_0 (((y1.length : Int), 0, (y1, x.2.1.1, (x.2.1.2.1, x.2.1.2.2.1, (x.2.1.2.2.2.1, x.2.1.2.2.2.2.1, (x.2.1.2.2.2.2.2, x.2.2.1.1, (x.2.2.1.2, x.2.2.2.1.1, (x.2.2.2.1.2.1, x.2.2.2.1.2.2, x.2.2.2.2)))))))) with
    | none => none
    | some (.inl o4) =>
     some (o4)
    | some (.inr o4) =>
     some (4)
 else
  bif (x.1.2.2.2.1.toList == (⟨#[]⟩ : ByteArray).toList) then
   some (3)
  else
   bif (!((x.1.1.1 == x.2.1.1) && ((x.1.1.2.1 == x.2.1.2.1) && ((x.1.1.2.2.1 == x.2.1.2.2.1) && ((x.1.1.2.2.2.1 == x.2.1.2.2.2.1) && ((x.1.1.2.2.2.2.1 == x.2.1.2.2.2.2.1) && ((x.1.1.2.2.2.2.2 == x.2.1.2.2.2.2.2) && true))))))) then
    some (1)
   else
    bif (!((x.1.2.1.1 == x.2.2.1.1) && ((x.1.2.1.2 == x.2.2.1.2) && true))) then
     match F_spec_orMirror (x.2.2.1) with
     | none => none
     | some y5 =>
      bif (!((x.1.2.1.1 == y5.1) && ((x.1.2.1.2 == y5.2) && true))) then
       some (2)
      else
       match F_spec_mvAll (x.1.2.2.2) with
       | none => none
       | some y6 =>
        match F_spec_mvAll (x.2.2.2.2) with
        | none => none
        | some y7 =>
         bif (!(y6.toList == y7.toList)) then
          match F_spec_mvMirror (x.1.2.2.2) with
          | none => none
          | some y8 =>
           match F_spec_mvAll (y8) with
           | none => none
           | some y9 =>
            match F_spec_mvAll (x.2.2.2.2) with
            | none => none
            | some y10 =>
             bif (!(y9.toList == y10.toList)) then
              some (3)
             else
              some (0)
         else
          some (0)
    else
     match F_spec_mvAll (x.1.2.2.2) with
     | none => none
     | some y11 =>
      match F_spec_mvAll (x.2.2.2.2) with
      | none => none
      | some y12 =>
       bif (!(y11.toList == y12.toList)) then
        match F_spec_mvMirror (x.1.2.2.2) with
        | none => none
        | some y13 =>
         match F_spec_mvAll (y13) with
         | none => none
         | some y14 =>
          match F_spec_mvAll (x.2.2.2.2) with
          | none => none
          | some y15 =>
           bif (!(y14.toList == y15.toList)) then
            some (3)
           else
            some (0)
       else
        some (0)
noncomputable def c_spec_siBroken : Con := { ps := [(.val, (.st (.pair (.st (.pair (.int .i64) (.pair (.int .i64) (.pair (.int .i64) (.pair (.int .i64) (.pair (.int .i64) .bool)))))) (.pair (.st (.pair (.int .i64) (.int .i64))) (.pair (.st (.pair (.int .i64) (.pair (.int .i64) .bool))) (.st (.pair .str (.int .i64)))))))), (.val, (.st (.pair (.st (.pair (.int .i64) (.pair (.int .i64) (.pair (.int .i64) (.pair (.int .i64) (.pair (.int .i64) .bool)))))) (.pair (.st (.pair (.int .i64) (.int .i64))) (.pair (.st (.pair (.int .i64) (.pair (.int .i64) .bool))) (.st (.pair .str (.int .i64))))))))], rs := [(.val, (.int .i64))], F := F_spec_siBroken }
noncomputable def env_spec_siBroken : Env := { par := [], dp := false, settle := [], con := fun f => match f with | 127 => some c_spec_siPlain | 128 => some c_spec_orMirror | 129 => some c_spec_mvAll | 130 => some c_spec_mvMirror | _ => none, clo := fun _ => none, T := tinf Tryz.prog }
noncomputable def loops_spec_siBroken : Nat → Option Loop := fun n => match n with | 5 => some { pat := pat_spec_siBroken_0, outs := outs_spec_siBroken_0, run := runL (step_spec_siBroken_0) } | _ => none
theorem con_spec_siBroken : ConOK Tryz.prog 79 c_spec_siBroken := con_of_ev' (body := Tryz.f79.body.getD .skip) (Λ := loops_spec_siBroken) mixed Tryz.func79 (by kernel_rfl) (by kernel_rfl) (envOK_of (E := env_spec_siBroken) (fun f c h => by
  simp only [env_spec_siBroken] at h
  split at h
  · cases h; exact con_spec_siPlain
  · cases h; exact con_spec_orMirror
  · cases h; exact con_spec_mvAll
  · cases h; exact con_spec_mvMirror
  · cases h) (fun f c h => by cases h) rfl) (by kernel_rfl) (by kernel_rfl) (fun n L h => by
  unfold loops_spec_siBroken at h
  split at h
  · cases h; exact fun s o ho => loop_ok (stepF := stepEv env_spec_siBroken loops_spec_siBroken pat_spec_siBroken_0 outs_spec_siBroken_0 Tryz.f79 5) (fun _ => by kernel_rfl) ho
  · cases h) (fun _ => by kernel_rfl)

noncomputable def F_spec_siGood (x : (((Int × (Int × (Int × (Int × (Int × Bool))))) × ((Int × Int) × ((Int × (Int × Bool)) × (ByteArray × Int)))) × (Bool × ((Int × (Int × (Int × (Int × (Int × Bool))))) × ((Int × Int) × ((Int × (Int × Bool)) × (ByteArray × Int))))))) : Option (Bool) :=
 match F_spec_siHand (x.1) with
 | none => none
 | some y1 =>
  bif (!y1) then
   some (false)
  else
   bif (!x.2.1) then
    some ((((x.2.2.1.1 == 0) && ((x.2.2.1.2.1 == 0) && ((x.2.2.1.2.2.1 == 0) && ((x.2.2.1.2.2.2.1 == 0) && ((x.2.2.1.2.2.2.2.1 == 0) && ((x.2.2.1.2.2.2.2.2 == false) && true)))))) && (((x.2.2.2.1.1 == 0) && ((x.2.2.2.1.2 == 0) && true)) && (((x.2.2.2.2.1.1 == 0) && ((x.2.2.2.2.1.2.1 == 0) && ((x.2.2.2.2.1.2.2 == false) && true))) && (((x.2.2.2.2.2.1.toList == ByteArray.empty.toList) && ((x.2.2.2.2.2.2 == 0) && true)) && true)))))
   else
    match F_spec_siHand (x.2.2) with
    | none => none
    | some y2 =>
     bif y2 then
      match F_spec_siBroken ((x.1, x.2.2)) with
      | none => none
      | some y3 =>
       some (((y3 == 0)))
     else
      some (false)
noncomputable def c_spec_siGood : Con := { ps := [(.val, (.st (.pair (.st (.pair (.st (.pair (.int .i64) (.pair (.int .i64) (.pair (.int .i64) (.pair (.int .i64) (.pair (.int .i64) .bool)))))) (.pair (.st (.pair (.int .i64) (.int .i64))) (.pair (.st (.pair (.int .i64) (.pair (.int .i64) .bool))) (.st (.pair .str (.int .i64))))))) (.pair .bool (.st (.pair (.st (.pair (.int .i64) (.pair (.int .i64) (.pair (.int .i64) (.pair (.int .i64) (.pair (.int .i64) .bool)))))) (.pair (.st (.pair (.int .i64) (.int .i64))) (.pair (.st (.pair (.int .i64) (.pair (.int .i64) .bool))) (.st (.pair .str (.int .i64)))))))))))], rs := [(.val, .bool)], F := F_spec_siGood }
noncomputable def env_spec_siGood : Env := { par := [], dp := false, settle := [], con := fun f => match f with | 78 => some c_spec_siHand | 79 => some c_spec_siBroken | _ => none, clo := fun _ => none, T := tinf Tryz.prog }
noncomputable def loops_spec_siGood : Nat → Option Loop := fun n => none
theorem con_spec_siGood : ConOK Tryz.prog 46 c_spec_siGood := con_of_ev' (body := Tryz.f46.body.getD .skip) (Λ := loops_spec_siGood) mixed Tryz.func46 (by kernel_rfl) (by kernel_rfl) (envOK_of (E := env_spec_siGood) (fun f c h => by
  simp only [env_spec_siGood] at h
  split at h
  · cases h; exact con_spec_siHand
  · cases h; exact con_spec_siBroken
  · cases h) (fun f c h => by cases h) rfl) (by kernel_rfl) (by kernel_rfl) (fun n L h => by cases h) (fun _ => by kernel_rfl)

noncomputable def F_spec_ImportSign (x : ByteArray × ByteArray) : Option ((((Int × (Int × (Int × (Int × (Int × Bool))))) × ((Int × Int) × ((Int × (Int × Bool)) × (ByteArray × Int)))) × (Bool × ((Int × (Int × (Int × (Int × (Int × Bool))))) × ((Int × Int) × ((Int × (Int × Bool)) × (ByteArray × Int)))))) × Bool) :=
 match F_spec_imGiven (x.1) with
 | none => none
 | some y1 =>
  bif (!y1) then
   some (((((0, (0, 0, (0, 0, false))), (0, 0), ((0, 0, false), ByteArray.empty, 0)), false, ((0, (0, 0, (0, 0, false))), (0, 0), ((0, 0, false), ByteArray.empty, 0))), false))
  else
   match F_spec_imGiven (x.2) with
   | none => none
   | some y2 =>
    bif (!y2) then
     some (((((0, (0, 0, (0, 0, false))), (0, 0), ((0, 0, false), ByteArray.empty, 0)), false, ((0, (0, 0, (0, 0, false))), (0, 0), ((0, 0, false), ByteArray.empty, 0))), false))
    else
     match F_spec_imRead (x.1) with
     | none => none
     | some y3 =>
      bif (!(x.2.toList == (⟨#[]⟩ : ByteArray).toList)) then
       match F_spec_imRead (x.2) with
       | none => none
       | some y4 =>
        match F_spec_siGood ((y3.1, true, y4.1)) with
        | none => none
        | some y5 =>
         bif (!y5) then
          some (((((0, (0, 0, (0, 0, false))), (0, 0), ((0, 0, false), ByteArray.empty, 0)), false, ((0, (0, 0, (0, 0, false))), (0, 0), ((0, 0, false), ByteArray.empty, 0))), false))
         else
          some (((y3.1, true, y4.1), true))
      else
       match F_spec_siGood ((y3.1, false, ((0, (0, 0, (0, 0, false))), (0, 0), ((0, 0, false), ByteArray.empty, 0)))) with
       | none => none
       | some y6 =>
        bif (!y6) then
         some (((((0, (0, 0, (0, 0, false))), (0, 0), ((0, 0, false), ByteArray.empty, 0)), false, ((0, (0, 0, (0, 0, false))), (0, 0), ((0, 0, false), ByteArray.empty, 0))), false))
        else
         some (((y3.1, false, ((0, (0, 0, (0, 0, false))), (0, 0), ((0, 0, false), ByteArray.empty, 0))), true))
noncomputable def c_spec_ImportSign : Con := { ps := [(.val, .str), (.val, .str)], rs := [(.val, (.st (.pair (.st (.pair (.st (.pair (.int .i64) (.pair (.int .i64) (.pair (.int .i64) (.pair (.int .i64) (.pair (.int .i64) .bool)))))) (.pair (.st (.pair (.int .i64) (.int .i64))) (.pair (.st (.pair (.int .i64) (.pair (.int .i64) .bool))) (.st (.pair .str (.int .i64))))))) (.pair .bool (.st (.pair (.st (.pair (.int .i64) (.pair (.int .i64) (.pair (.int .i64) (.pair (.int .i64) (.pair (.int .i64) .bool)))))) (.pair (.st (.pair (.int .i64) (.int .i64))) (.pair (.st (.pair (.int .i64) (.pair (.int .i64) .bool))) (.st (.pair .str (.int .i64))))))))))), (.val, .bool)], F := F_spec_ImportSign }
noncomputable def env_spec_ImportSign : Env := { par := [], dp := false, settle := [], con := fun f => match f with | 46 => some c_spec_siGood | 63 => some c_spec_imGiven | 64 => some c_spec_imRead | _ => none, clo := fun _ => none, T := tinf Tryz.prog }
noncomputable def loops_spec_ImportSign : Nat → Option Loop := fun n => none
theorem con_spec_ImportSign : ConOK Tryz.prog 26 c_spec_ImportSign := con_of_ev' (body := Tryz.f26.body.getD .skip) (Λ := loops_spec_ImportSign) mixed Tryz.func26 (by kernel_rfl) (by kernel_rfl) (envOK_of (E := env_spec_ImportSign) (fun f c h => by
  simp only [env_spec_ImportSign] at h
  split at h
  · cases h; exact con_spec_siGood
  · cases h; exact con_spec_imGiven
  · cases h; exact con_spec_imRead
  · cases h) (fun f c h => by cases h) rfl) (by kernel_rfl) (by kernel_rfl) (fun n L h => by cases h) (fun _ => by kernel_rfl)

theorem Split_ex : ∃ f : ByteArray × ByteArray → Option (List ByteArray), f = fun x => bif decide (x.1.size < 4294967281) && decide (1 ≤ x.2.size) then some (Lib.splitB x.2 0 (Lib.countB x.1 x.2) x.1) else none := ⟨_, rfl⟩
noncomputable def F_strings_Split : ByteArray × ByteArray → Option (List ByteArray) := Classical.choose Split_ex
theorem F_strings_Split_is (x : ByteArray × ByteArray) : F_strings_Split x = bif decide (x.1.size < 4294967281) && decide (1 ≤ x.2.size) then some (Lib.splitB x.2 0 (Lib.countB x.1 x.2) x.1) else none := congrFun (Classical.choose_spec Split_ex) x
noncomputable def c_strings_Split : Con := { ps := [(.val, .str), (.val, .str)], rs := [(.val, .slice .str)], F := F_strings_Split }
theorem cell_of_var {w : World} {u : Value} (hm : ((some 0 : Option Nat).bind fun g => match w.heap[g]? with | some (.cells cs _ _) => some cs | _ => none) = some #[u]) : w.cell? ⟨0, 0, none⟩ = some u := by
  simp only [Option.bind_some] at hm
  split at hm
  · rename_i cs ety fz h
    obtain rfl := Option.some.inj hm
    rw [cell_of_row w 0 0 _ _ _ h]
    rfl
  · cases hm
theorem fr_alloc (w : World) (o : Obj) : Fr NoB w (w.alloc o) := by
  have hs : (w.alloc o).heap.size = w.heap.size + 1 := Array.size_push ..
  have hb : ∀ b, b < w.heap.size → (w.alloc o).heap[b]? = w.heap[b]? := fun b hb => by
    show (w.heap.push o)[b]? = _
    rw [Array.getElem?_push, if_neg (by omega)]
  exact ⟨rfl, rfl, rfl, by omega, fun b h _ => hb b h, fun b _ h => hb b h⟩
theorem calls_F_strings_Split (w : World) (x : ByteArray × ByteArray) (y : List ByteArray) (hy : F_strings_Split x = some y) (ht : Tabs Tryz.prog w) :
    Calls Tryz.prog 164 #[.string x.1, .string x.2] w fun e w' => e = .returned (.slice (some ⟨w.heap.size, 0, none⟩) y.length y.length) ∧ w' = w.alloc (.cells (y.map Value.string).toArray 9) := by
  rw [F_strings_Split_is] at hy
  obtain ⟨hg, hy⟩ := bif_none hy
  obtain ⟨h0, h1⟩ := and_b hg
  have h0 := of_decide_eq_true h0
  have h1 := of_decide_eq_true h1
  have e : y = Lib.splitB x.2 0 (Lib.countB x.1 x.2) x.1 := (Option.some.inj hy).symm
  have hl : y.length = Lib.countB x.1 x.2 + 1 := by rw [e]; exact Lib.splitB_all x.2 h1 0 _ x.1 rfl
  obtain ⟨m, hm⟩ := (ht.2.2.1 "internal/bytealg.MaxLen" (List.mem_cons_self ..)).2
  have hcell : w.cell? ⟨0, 0, none⟩ = some (.int .i64 m) := by
    have hg : Tryz.prog.globalNamed "internal/bytealg.MaxLen" = some 0 := by kernel_rfl
    unfold World.var? at hm
    rw [hg] at hm
    exact cell_of_var hm
  refine (Tryz.strings_Split x.1 x.2 m w h0 hcell h1).mono ?_
  rintro e' w' ⟨rfl, rfl⟩
  rw [hl, ← e]
  exact ⟨rfl, rfl⟩
theorem rd_strs (P : Program) (w : World) (y : List ByteArray) : RdV P (.slice .str) (w.alloc (.cells (y.map Value.string).toArray 9)) (fun b => w.heap.size ≤ b) (.slice (some ⟨w.heap.size, 0, none⟩) y.length y.length) y := by
  have hk : (w.alloc (.cells ((List.map Value.string y).toArray) 9)).heap[w.heap.size]? = some (.cells ((List.map Value.string y).toArray) 9 (0, 0)) := by
    show (w.heap.push _)[w.heap.size]? = _
    rw [Array.getElem?_push, if_pos rfl]
  refine ⟨_, rfl, _, _, rfl, Nat.le_refl _, fun _ => ⟨w.heap.size, 0, rfl, ?_, Nat.le_refl _, fun i hi => ⟨[.string y[i]], rfl, rfl, ?_⟩⟩⟩
  · show w.heap.size < (w.heap.push _).size
    rw [Array.size_push]; exact Nat.lt_succ_self _
  · intro j u hj
    match j, hj with
    | 0, hj =>
      obtain rfl := Option.some.inj hj
      rw [cell_of_row _ _ _ _ _ _ hk]
      show ((List.map Value.string y).toArray)[0 + i * 1 + 0]? = _
      rw [List.getElem?_toArray, List.getElem?_map, show 0 + i * 1 + 0 = i by omega, List.getElem?_eq_getElem hi]
      rfl
    | j + 1, hj => cases hj
theorem con_strings_Split : ConOK Tryz.prog 164 c_strings_Split := by
  refine ⟨⟨Tryz.f164, Tryz.func164, by kernel_rfl, by kernel_rfl⟩, fun w Z X vals x y hy _ _ hold ht _ => ?_⟩
  rw [holds_valsL c_strings_Split.ps X vals x rfl hold]
  refine (calls_F_strings_Split w x y hy ht).mono ?_
  rintro e' w' ⟨rfl, rfl⟩
  exact ⟨_, [.slice (some ⟨w.heap.size, 0, none⟩) (List.length (α := ByteArray) y) (List.length (α := ByteArray) y)], NoB, NoB, rfl, rfl, rfl, (fr_alloc _ _).le, fun _ f => f.elim, fun _ f => f.elim, fun _ f => f.elim, holds_nil rfl _,
    ⟨_, [], rfl, RdV.agree (Agree.refl _ _) (fun b _ h => .inr ⟨h, fun f => f, fun f => f⟩) (rd_strs Tryz.prog w y), rfl⟩⟩

noncomputable def F_impl_within (x : Int × Int × Int) : Option (Bool) :=
 bif (decide (x.1 ≥ x.2.1)) then
  some ((decide (x.1 ≤ x.2.2)))
 else
  some (false)
noncomputable def c_impl_within : Con := { ps := [(.val, (.int .i64)), (.val, (.int .i64)), (.val, (.int .i64))], rs := [(.val, .bool)], F := F_impl_within }
noncomputable def env_impl_within : Env := { par := [], dp := false, settle := [], con := fun _ => none, clo := fun _ => none, T := tinf Tryz.prog }
noncomputable def loops_impl_within : Nat → Option Loop := fun n => none
theorem con_impl_within : ConOK Tryz.prog 119 c_impl_within := con_of_ev' (body := Tryz.f119.body.getD .skip) (Λ := loops_impl_within) mixed Tryz.func119 (by kernel_rfl) (by kernel_rfl) (envOK_of (E := env_impl_within) (fun f c h => by cases h) (fun f c h => by cases h) rfl) (by kernel_rfl) (by kernel_rfl) (fun n L h => by cases h) (fun _ => by kernel_rfl)

noncomputable def F_impl_Shape_maySpread (x : (Int × (Int × (Int × (Int × (Int × Bool)))))) : Option (Bool) :=
 bif ((x.2.2.1 == 0)) then
  bif ((x.2.1 == 0)) then
   some (true)
  else
   bif ((x.2.2.2.1 == 0)) then
    some (true)
   else
    bif ((x.2.2.2.1 == 0)) then
     some (((x.2.2.2.2.1 == 0)))
    else
     some (false)
 else
  bif ((x.2.2.2.1 == 0)) then
   some (((x.2.2.2.2.1 == 0)))
  else
   some (false)
noncomputable def c_impl_Shape_maySpread : Con := { ps := [(.val, (.st (.pair (.int .i64) (.pair (.int .i64) (.pair (.int .i64) (.pair (.int .i64) (.pair (.int .i64) .bool)))))))], rs := [(.val, .bool)], F := F_impl_Shape_maySpread }
noncomputable def env_impl_Shape_maySpread : Env := { par := [], dp := false, settle := [], con := fun _ => none, clo := fun _ => none, T := tinf Tryz.prog }
noncomputable def loops_impl_Shape_maySpread : Nat → Option Loop := fun n => none
theorem con_impl_Shape_maySpread : ConOK Tryz.prog 194 c_impl_Shape_maySpread := con_of_ev' (body := Tryz.f194.body.getD .skip) (Λ := loops_impl_Shape_maySpread) mixed Tryz.func194 (by kernel_rfl) (by kernel_rfl) (envOK_of (E := env_impl_Shape_maySpread) (fun f c h => by cases h) (fun f c h => by cases h) rfl) (by kernel_rfl) (by kernel_rfl) (fun n L h => by cases h) (fun _ => by kernel_rfl)

noncomputable def F_impl_Shape_with (x : (Int × (Int × (Int × (Int × (Int × Bool))))) × Int × Int) : Option ((Int × (Int × (Int × (Int × (Int × Bool)))))) :=
 bif ((x.2.1 == 0)) then
  bif x.1.2.2.2.2.2 then
   match F_impl_Shape_maySpread ((x.2.2, x.1.2)) with
   | none => none
   | some y1 =>
    some ((x.2.2, (x.1.2.1, x.1.2.2.1, (x.1.2.2.2.1, x.1.2.2.2.2.1, y1))))
  else
   some ((x.2.2, (x.1.2.1, x.1.2.2.1, (x.1.2.2.2.1, x.1.2.2.2.2.1, false))))
 else
  bif ((x.2.1 == 1)) then
   bif x.1.2.2.2.2.2 then
    match F_impl_Shape_maySpread ((x.1.1, x.2.2, x.1.2.2)) with
    | none => none
    | some y2 =>
     some ((x.1.1, (x.2.2, x.1.2.2.1, (x.1.2.2.2.1, x.1.2.2.2.2.1, y2))))
   else
    some ((x.1.1, (x.2.2, x.1.2.2.1, (x.1.2.2.2.1, x.1.2.2.2.2.1, false))))
  else
   bif ((x.2.1 == 2)) then
    bif x.1.2.2.2.2.2 then
     match F_impl_Shape_maySpread ((x.1.1, (x.1.2.1, x.2.2, x.1.2.2.2))) with
     | none => none
     | some y3 =>
      some ((x.1.1, (x.1.2.1, x.2.2, (x.1.2.2.2.1, x.1.2.2.2.2.1, y3))))
    else
     some ((x.1.1, (x.1.2.1, x.2.2, (x.1.2.2.2.1, x.1.2.2.2.2.1, false))))
   else
    bif ((x.2.1 == 3)) then
     bif x.1.2.2.2.2.2 then
      match F_impl_Shape_maySpread ((x.1.1, x.1.2.1, (x.1.2.2.1, x.2.2, x.1.2.2.2.2))) with
      | none => none
      | some y4 =>
       some ((x.1.1, (x.1.2.1, x.1.2.2.1, (x.2.2, x.1.2.2.2.2.1, y4))))
     else
      some ((x.1.1, (x.1.2.1, x.1.2.2.1, (x.2.2, x.1.2.2.2.2.1, false))))
    else
     bif x.1.2.2.2.2.2 then
      match F_impl_Shape_maySpread ((x.1.1, (x.1.2.1, x.1.2.2.1, (x.1.2.2.2.1, x.2.2, x.1.2.2.2.2.2)))) with
      | none => none
      | some y5 =>
       some ((x.1.1, (x.1.2.1, x.1.2.2.1, (x.1.2.2.2.1, x.2.2, y5))))
     else
      some ((x.1.1, (x.1.2.1, x.1.2.2.1, (x.1.2.2.2.1, x.2.2, false))))
noncomputable def c_impl_Shape_with : Con := { ps := [(.val, (.st (.pair (.int .i64) (.pair (.int .i64) (.pair (.int .i64) (.pair (.int .i64) (.pair (.int .i64) .bool))))))), (.val, (.int .i64)), (.val, (.int .i64))], rs := [(.val, (.st (.pair (.int .i64) (.pair (.int .i64) (.pair (.int .i64) (.pair (.int .i64) (.pair (.int .i64) .bool)))))))], F := F_impl_Shape_with }
noncomputable def env_impl_Shape_with : Env := { par := [], dp := false, settle := [], con := fun f => match f with | 194 => some c_impl_Shape_maySpread | _ => none, clo := fun _ => none, T := tinf Tryz.prog }
noncomputable def loops_impl_Shape_with : Nat → Option Loop := fun n => none
theorem con_impl_Shape_with : ConOK Tryz.prog 167 c_impl_Shape_with := con_of_ev' (body := Tryz.f167.body.getD .skip) (Λ := loops_impl_Shape_with) mixed Tryz.func167 (by kernel_rfl) (by kernel_rfl) (envOK_of (E := env_impl_Shape_with) (fun f c h => by
  simp only [env_impl_Shape_with] at h
  split at h
  · cases h; exact con_impl_Shape_maySpread
  · cases h) (fun f c h => by cases h) rfl) (by kernel_rfl) (by kernel_rfl) (fun n L h => by cases h) (fun _ => by kernel_rfl)

noncomputable def F_impl_Shape_bends (x : (Int × (Int × (Int × (Int × (Int × Bool)))))) : Option ((List Int)) :=
 some ([x.2.1, x.2.2.1, x.2.2.2.1, x.2.2.2.2.1])
noncomputable def c_impl_Shape_bends : Con := { ps := [(.val, (.st (.pair (.int .i64) (.pair (.int .i64) (.pair (.int .i64) (.pair (.int .i64) (.pair (.int .i64) .bool)))))))], rs := [(.io true, (.slice (.int .i64)))], F := F_impl_Shape_bends }
noncomputable def env_impl_Shape_bends : Env := { par := [], dp := false, settle := [], con := fun _ => none, clo := fun _ => none, T := tinf Tryz.prog }
noncomputable def loops_impl_Shape_bends : Nat → Option Loop := fun n => none
theorem con_impl_Shape_bends : ConOK Tryz.prog 193 c_impl_Shape_bends := con_of_ev' (body := Tryz.f193.body.getD .skip) (Λ := loops_impl_Shape_bends) mixed Tryz.func193 (by kernel_rfl) (by kernel_rfl) (envOK_of (E := env_impl_Shape_bends) (fun f c h => by cases h) (fun f c h => by cases h) rfl) (by kernel_rfl) (by kernel_rfl) (fun n L h => by cases h) (fun _ => by kernel_rfl)

noncomputable def F_impl_allWithin_1 (x : Int × Int × Int) : Option (Bool) :=
 match F_impl_within (x) with
 | none => none
 | some y1 =>
  some ((!y1))
noncomputable def c_impl_allWithin_1 : Con := { ps := [(.val, (.int .i64)), (.val, (.ptr (.int .i64))), (.val, (.ptr (.int .i64)))], rs := [(.val, .bool)], F := F_impl_allWithin_1 }
noncomputable def env_impl_allWithin_1 : Env := { par := [], dp := false, settle := [], con := fun f => match f with | 119 => some c_impl_within | _ => none, clo := fun _ => none, T := tinf Tryz.prog }
noncomputable def loops_impl_allWithin_1 : Nat → Option Loop := fun n => none
theorem con_impl_allWithin_1 : ConOK Tryz.prog 229 c_impl_allWithin_1 := con_of_ev' (body := Tryz.f229.body.getD .skip) (Λ := loops_impl_allWithin_1) mixed Tryz.func229 (by kernel_rfl) (by kernel_rfl) (envOK_of (E := env_impl_allWithin_1) (fun f c h => by
  simp only [env_impl_allWithin_1] at h
  split at h
  · cases h; exact con_impl_within
  · cases h) (fun f c h => by cases h) rfl) (by kernel_rfl) (by kernel_rfl) (fun n L h => by cases h) (fun _ => by kernel_rfl)

noncomputable def step_slices_IndexFunc_int_int_0 (s : (List Int) × (Int → Option Bool) × Int × Int) : Option (((List Int) × (Int → Option Bool) × Int × Int) ⊕ ((Int) ⊕ (Unit))) :=
 bif (decide (s.2.2.2 < s.2.2.1)) then
  bif decide (0 ≤ s.2.2.2) && decide (s.2.2.2 < (s.1.length : Int)) then
   match s.2.1 ((s.1.getD (s.2.2.2).toNat 0)) with
   | none => none
   | some y3 =>
    bif y3 then
     some (.inr (.inl (s.2.2.2)))
    else
     let v4 := IntKind.i64.wrap (s.2.2.2 + 1)
     some (.inl ((s.1, (s.2.1, s.2.2.1, v4))))
  else none
 else
  some (.inr (.inr (())))
def pat_slices_IndexFunc_int_int_0 : Pat := { tmps := .v (.slice (.int .i64)) :: .v (.fn (.int .i64) .bool) :: an 5 (.v (.int .i64) :: .v (.int .i64) :: an 10 []), blks := [] }
def outs_slices_IndexFunc_int_int_0 : List (Exit × Pat) := [(.ret, { tmps := an 4 (.v (.int .i64) :: an 14 []), blks := [] }), (.exit 0, { tmps := an 19 [], blks := [] })]
noncomputable def F_slices_IndexFunc_int_int (x : (List Int) × (Int → Option Bool)) : Option (Int) :=
 match runL step_slices_IndexFunc_int_int_0 ((x.1, (x.2, (x.1.length : Int), 0))) with
 | none => none
 | some (.inl o5) =>
  some (o5)
 | some (.inr o5) =>
  some ((-1))
noncomputable def c_slices_IndexFunc_int_int : Con := { ps := [(.val, (.slice (.int .i64))), (.val, (.fn (.int .i64) .bool))], rs := [(.val, (.int .i64))], F := F_slices_IndexFunc_int_int }
noncomputable def env_slices_IndexFunc_int_int : Env := { par := [], dp := false, settle := [], con := fun _ => none, clo := fun _ => none, T := tinf Tryz.prog }
noncomputable def loops_slices_IndexFunc_int_int : Nat → Option Loop := fun n => match n with | 2 => some { pat := pat_slices_IndexFunc_int_int_0, outs := outs_slices_IndexFunc_int_int_0, run := runL (step_slices_IndexFunc_int_int_0) } | _ => none
theorem con_slices_IndexFunc_int_int : ConOK Tryz.prog 248 c_slices_IndexFunc_int_int := con_of_ev' (body := Tryz.f248.body.getD .skip) (Λ := loops_slices_IndexFunc_int_int) mixed Tryz.func248 (by kernel_rfl) (by kernel_rfl) (envOK_of (E := env_slices_IndexFunc_int_int) (fun f c h => by cases h) (fun f c h => by cases h) rfl) (by kernel_rfl) (by kernel_rfl) (fun n L h => by
  unfold loops_slices_IndexFunc_int_int at h
  split at h
  · cases h; exact fun s o ho => loop_ok (stepF := stepEv env_slices_IndexFunc_int_int loops_slices_IndexFunc_int_int pat_slices_IndexFunc_int_int_0 outs_slices_IndexFunc_int_int_0 Tryz.f248 2) (fun _ => by kernel_rfl) ho
  · cases h) (fun _ => by kernel_rfl)

noncomputable def F_slices_ContainsFunc_int_int (x : (List Int) × (Int → Option Bool)) : Option (Bool) :=
 match F_slices_IndexFunc_int_int (x) with
 | none => none
 | some y1 =>
  some ((decide (y1 ≥ 0)))
noncomputable def c_slices_ContainsFunc_int_int : Con := { ps := [(.val, (.slice (.int .i64))), (.val, (.fn (.int .i64) .bool))], rs := [(.val, .bool)], F := F_slices_ContainsFunc_int_int }
noncomputable def env_slices_ContainsFunc_int_int : Env := { par := [], dp := false, settle := [], con := fun f => match f with | 248 => some c_slices_IndexFunc_int_int | _ => none, clo := fun _ => none, T := tinf Tryz.prog }
noncomputable def loops_slices_ContainsFunc_int_int : Nat → Option Loop := fun n => none
theorem con_slices_ContainsFunc_int_int : ConOK Tryz.prog 228 c_slices_ContainsFunc_int_int := con_of_ev' (body := Tryz.f228.body.getD .skip) (Λ := loops_slices_ContainsFunc_int_int) mixed Tryz.func228 (by kernel_rfl) (by kernel_rfl) (envOK_of (E := env_slices_ContainsFunc_int_int) (fun f c h => by
  simp only [env_slices_ContainsFunc_int_int] at h
  split at h
  · cases h; exact con_slices_IndexFunc_int_int
  · cases h) (fun f c h => by cases h) rfl) (by kernel_rfl) (by kernel_rfl) (fun n L h => by cases h) (fun _ => by kernel_rfl)

noncomputable def K_impl_allWithin_1 (q : Int × Int) (x : Int) : Option (Bool) := F_impl_allWithin_1 (x, q)
noncomputable def k_impl_allWithin_1 : CloCon := { caps := [(.int .i64), (.int .i64)], a := (.int .i64), r := .bool, F := K_impl_allWithin_1 }
theorem clo_impl_allWithin_1 : CloOK Tryz.prog 229 k_impl_allWithin_1 := clo_of_con k_impl_allWithin_1 F_impl_allWithin_1 con_impl_allWithin_1 rfl (fun kx x y h => ⟨y, h, rfl⟩)
noncomputable def F_impl_allWithin (x : (List Int) × Int × Int) : Option (Bool) :=
 match F_slices_ContainsFunc_int_int ((x.1, (K_impl_allWithin_1 x.2))) with
 | none => none
 | some y1 =>
  some ((!y1))
noncomputable def c_impl_allWithin : Con := { ps := [(.val, (.slice (.int .i64))), (.val, (.int .i64)), (.val, (.int .i64))], rs := [(.val, .bool)], F := F_impl_allWithin }
noncomputable def env_impl_allWithin : Env := { par := [], dp := false, settle := [], con := fun f => match f with | 228 => some c_slices_ContainsFunc_int_int | _ => none, clo := fun f => match f with | 229 => some k_impl_allWithin_1 | _ => none, T := tinf Tryz.prog }
noncomputable def loops_impl_allWithin : Nat → Option Loop := fun n => none
theorem con_impl_allWithin : ConOK Tryz.prog 192 c_impl_allWithin := con_of_ev' (body := Tryz.f192.body.getD .skip) (Λ := loops_impl_allWithin) mixed Tryz.func192 (by kernel_rfl) (by kernel_rfl) (envOK_of (E := env_impl_allWithin) (fun f c h => by
  simp only [env_impl_allWithin] at h
  split at h
  · cases h; exact con_slices_ContainsFunc_int_int
  · cases h) (fun f c h => by
  simp only [env_impl_allWithin] at h
  split at h
  · cases h; exact clo_impl_allWithin_1
  · cases h) rfl) (by kernel_rfl) (by kernel_rfl) (fun n L h => by cases h) (fun _ => by kernel_rfl)

noncomputable def F_impl_IsShape (x : (Int × (Int × (Int × (Int × (Int × Bool)))))) : Option (Bool) :=
 match F_impl_Shape_bends (x) with
 | none => none
 | some y1 =>
  bif decide (([x.1].length + y1.length) * 8 ≤ 140737488355328) then
   let v2 := [x.1] ++ y1
   match F_impl_allWithin ((v2, 0, 2)) with
   | none => none
   | some y3 =>
    bif (!y3) then
     some (false)
    else
     bif (!x.2.2.2.2.2) then
      some (true)
     else
      match F_impl_Shape_maySpread (x) with
      | none => none
      | some y4 =>
       some (y4)
  else none
noncomputable def c_impl_IsShape : Con := { ps := [(.val, (.st (.pair (.int .i64) (.pair (.int .i64) (.pair (.int .i64) (.pair (.int .i64) (.pair (.int .i64) .bool)))))))], rs := [(.val, .bool)], F := F_impl_IsShape }
noncomputable def env_impl_IsShape : Env := { par := [], dp := false, settle := [], con := fun f => match f with | 192 => some c_impl_allWithin | 193 => some c_impl_Shape_bends | 194 => some c_impl_Shape_maySpread | _ => none, clo := fun _ => none, T := tinf Tryz.prog }
noncomputable def loops_impl_IsShape : Nat → Option Loop := fun n => none
theorem con_impl_IsShape : ConOK Tryz.prog 133 c_impl_IsShape := con_of_ev' (body := Tryz.f133.body.getD .skip) (Λ := loops_impl_IsShape) mixed Tryz.func133 (by kernel_rfl) (by kernel_rfl) (envOK_of (E := env_impl_IsShape) (fun f c h => by
  simp only [env_impl_IsShape] at h
  split at h
  · cases h; exact con_impl_allWithin
  · cases h; exact con_impl_Shape_bends
  · cases h; exact con_impl_Shape_maySpread
  · cases h) (fun f c h => by cases h) rfl) (by kernel_rfl) (by kernel_rfl) (fun n L h => by cases h) (fun _ => by kernel_rfl)

theorem fr_of_belowI {w w' : World} (h : Go.RowKit.Below w.heap.size w w') : Fr NoB w w' := ⟨h.os, h.tape, h.output, h.size, fun b hb _ => h.block b hb, fun b _ hb => h.block b hb⟩
theorem Itoa_ex : ∃ f : Int → Option ByteArray, f = fun n => bif decide (-9223372036854775808 ≤ n) && decide (n ≤ 9223372036854775807) then some ⟨(Lib.itoa n).toArray⟩ else none := ⟨_, rfl⟩
noncomputable def F_strconv_Itoa : Int → Option ByteArray := Classical.choose Itoa_ex
theorem F_strconv_Itoa_is (n : Int) : F_strconv_Itoa n = bif decide (-9223372036854775808 ≤ n) && decide (n ≤ 9223372036854775807) then some ⟨(Lib.itoa n).toArray⟩ else none := congrFun (Classical.choose_spec Itoa_ex) n
noncomputable def c_strconv_Itoa : Con := { ps := [(.val, .int .i64)], rs := [(.val, .str)], F := F_strconv_Itoa }
theorem calls_F_strconv_Itoa (w : World) (x : Int) (y : ByteArray) (hy : F_strconv_Itoa x = some y) (ht : Tabs Tryz.prog w) : Calls Tryz.prog 210 #[.int .i64 x] w fun e w' => e = .returned (.string y) ∧ Fr NoB w w' := by
  rw [F_strconv_Itoa_is] at hy
  obtain ⟨hg, hy⟩ := bif_none hy
  obtain ⟨h0, h1⟩ := and_b hg
  have h0 : -9223372036854775808 ≤ x := of_decide_eq_true h0
  have h1 : x ≤ 9223372036854775807 := of_decide_eq_true h1
  have e : y = ⟨(Lib.itoa x).toArray⟩ := (Option.some.inj hy).symm
  subst e
  refine (Tryz.strconv_Itoa x h0 h1 w (ht.1 _ (List.mem_cons_self ..)).2).mono ?_
  rintro e w' ⟨rfl, k, os, rfl⟩
  exact ⟨rfl, fr_of_belowI (Go.Lib.below_grow _ _ (Nat.le_refl _) k os)⟩
theorem con_strconv_Itoa : ConOK Tryz.prog 210 c_strconv_Itoa := con_of_pure ⟨Tryz.f210, Tryz.func210, by kernel_rfl, by kernel_rfl⟩ rfl rfl fun w x y hy ht => calls_F_strconv_Itoa w x y hy ht

noncomputable def step_impl_Shape_text_0 (s : ByteArray × Int × Int × (List Int) × Int × Int × Int × Int × Int × Bool) : Option ((ByteArray × Int × Int × (List Int) × Int × Int × Int × Int × Int × Bool) ⊕ ((ByteArray × Int × Int × Int × Int × Int × Bool))) :=
 bif (decide (s.2.2.1 < s.2.1)) then
  bif decide (0 ≤ s.2.2.1) && decide (s.2.2.1 < (s.2.2.2.1.length : Int)) then
   match F_strconv_Itoa ((s.2.2.2.1.getD (s.2.2.1).toNat 0)) with
   | none => none
   | some y5 =>
    bif decide (s.1.size + y5.size ≤ 9223372036854775807) then
     let v6 := IntKind.i64.wrap (s.2.2.1 + 1)
     some (.inl (((s.1 ++ y5), (s.2.1, v6, s.2.2.2))))
    else none
  else none
 else
  some (.inr ((s.1, s.2.2.2.2)))
def pat_impl_Shape_text_0 : Pat := { tmps := .any :: .ptr 64 0 :: .any :: .v .str :: an 6 (.own 640 :: .v (.int .i64) :: .v (.int .i64) :: an 13 []), blks := [(640, .row true (.int .i64)), (64, .box [.v (.int .i64), .v (.int .i64), .v (.int .i64), .v (.int .i64), .v (.int .i64), .v .bool])] }
def outs_impl_Shape_text_0 : List (Exit × Pat) := [(.exit 0, { tmps := .any :: .ptr 64 0 :: .any :: .v .str :: an 22 [], blks := [(64, .box [.v (.int .i64), .v (.int .i64), .v (.int .i64), .v (.int .i64), .v (.int .i64), .v .bool])] })]
noncomputable def F_impl_Shape_text (x : (Int × (Int × (Int × (Int × (Int × Bool)))))) : Option (ByteArray) :=
 match F_strconv_Itoa (x.1) with
 | none => none
 | some y1 =>
  match F_impl_Shape_bends (x) with
  | none => none
  | some y2 =>
   match runL step_impl_Shape_text_0 ((y1, (y2.length : Int), (0, y2, x))) with
   | none => none
   | some o7 =>
    bif o7.2.2.2.2.2.2 then
     bif decide (o7.1.size + (⟨#[115]⟩ : ByteArray).size ≤ 9223372036854775807) then
      some ((o7.1 ++ (⟨#[115]⟩ : ByteArray)))
     else none
    else
     some (o7.1)
noncomputable def c_impl_Shape_text : Con := { ps := [(.val, (.st (.pair (.int .i64) (.pair (.int .i64) (.pair (.int .i64) (.pair (.int .i64) (.pair (.int .i64) .bool)))))))], rs := [(.val, .str)], F := F_impl_Shape_text }
noncomputable def env_impl_Shape_text : Env := { par := [], dp := false, settle := [], con := fun f => match f with | 193 => some c_impl_Shape_bends | 210 => some c_strconv_Itoa | _ => none, clo := fun _ => none, T := tinf Tryz.prog }
noncomputable def loops_impl_Shape_text : Nat → Option Loop := fun n => match n with | 3 => some { pat := pat_impl_Shape_text_0, outs := outs_impl_Shape_text_0, run := runL (step_impl_Shape_text_0) } | _ => none
theorem con_impl_Shape_text : ConOK Tryz.prog 154 c_impl_Shape_text := con_of_ev' (body := Tryz.f154.body.getD .skip) (Λ := loops_impl_Shape_text) mixed Tryz.func154 (by kernel_rfl) (by kernel_rfl) (envOK_of (E := env_impl_Shape_text) (fun f c h => by
  simp only [env_impl_Shape_text] at h
  split at h
  · cases h; exact con_impl_Shape_bends
  · cases h; exact con_strconv_Itoa
  · cases h) (fun f c h => by cases h) rfl) (by kernel_rfl) (by kernel_rfl) (fun n L h => by
  unfold loops_impl_Shape_text at h
  split at h
  · cases h; exact fun s o ho => loop_ok (stepF := stepEv env_impl_Shape_text loops_impl_Shape_text pat_impl_Shape_text_0 outs_impl_Shape_text_0 Tryz.f154 3) (fun _ => by kernel_rfl) ho
  · cases h) (fun _ => by kernel_rfl)

noncomputable def step_impl_ParseShape_0 (s : ByteArray × Int × Int × Int × Int × Int × Int × Bool × Int × Int × Int × Int × Int × Bool) : Option ((ByteArray × Int × Int × Int × Int × Int × Int × Bool × Int × Int × Int × Int × Int × Bool) ⊕ ((ByteArray × Int × Int × Int × Int × Int × Bool × Int × Int × Int × Int × Int × Bool))) :=
 bif (decide (s.2.1 < 5)) then
  bif decide (0 ≤ s.2.1) && decide (s.2.1 < (s.1.size : Int)) then
   let v6 := IntKind.i64.wrap (byteAt s.1 (s.2.1).toNat)
   let v7 := IntKind.i64.wrap (v6 - 48)
   match F_impl_Shape_with (((s.2.2.1, (s.2.2.2.1, s.2.2.2.2.1, (s.2.2.2.2.2.1, s.2.2.2.2.2.2.1, s.2.2.2.2.2.2.2.1))), s.2.1, v7)) with
   | none => none
   | some y8 =>
    let v9 := IntKind.i64.wrap (s.2.1 + 1)
    some (.inl ((s.1, v9, (y8.1, y8.2.1, (y8.2.2.1, y8.2.2.2.1, (y8.2.2.2.2.1, y8.2.2.2.2.2, s.2.2.2.2.2.2.2.2))))))
  else none
 else
  some (.inr ((s.1, s.2.2)))
def pat_impl_ParseShape_0 : Pat := { tmps := .v .str :: .any :: .ptr 128 0 :: .any :: .ptr 256 0 :: an 6 (.v (.int .i64) :: an 26 []), blks := [(256, .box [.v (.int .i64), .v (.int .i64), .v (.int .i64), .v (.int .i64), .v (.int .i64), .v .bool]), (128, .box [.v (.int .i64), .v (.int .i64), .v (.int .i64), .v (.int .i64), .v (.int .i64), .v .bool])] }
def outs_impl_ParseShape_0 : List (Exit × Pat) := [(.exit 0, { tmps := .v .str :: .any :: .ptr 128 0 :: .any :: .ptr 256 0 :: an 33 [], blks := [(256, .box [.v (.int .i64), .v (.int .i64), .v (.int .i64), .v (.int .i64), .v (.int .i64), .v .bool]), (128, .box [.v (.int .i64), .v (.int .i64), .v (.int .i64), .v (.int .i64), .v (.int .i64), .v .bool])] })]
noncomputable def F_impl_ParseShape (x : ByteArray) : Option ((Int × (Int × (Int × (Int × (Int × Bool))))) × Bool) :=
 match F_impl_within (((x.size : Int), 5, 6)) with
 | none => none
 | some y1 =>
  bif (!y1) then
   some (((0, (0, 0, (0, 0, false))), false))
  else
   match runL step_impl_ParseShape_0 ((x, (0, 0, (0, 0, (0, 0, (false, 0, (0, 0, (0, 0, false)))))))) with
   | none => none
   | some o10 =>
    match F_impl_IsShape ((o10.2.1, (o10.2.2.1, o10.2.2.2.1, (o10.2.2.2.2.1, o10.2.2.2.2.2.1, (((o10.1.size : Int) == 6)))))) with
    | none => none
    | some y11 =>
     bif (!y11) then
      some (((0, (0, 0, (0, 0, false))), false))
     else
      match F_impl_Shape_text ((o10.2.1, (o10.2.2.1, o10.2.2.2.1, (o10.2.2.2.2.1, o10.2.2.2.2.2.1, (((o10.1.size : Int) == 6)))))) with
      | none => none
      | some y12 =>
       bif (!(y12.toList == o10.1.toList)) then
        some (((0, (0, 0, (0, 0, false))), false))
       else
        some (((o10.2.1, (o10.2.2.1, o10.2.2.2.1, (o10.2.2.2.2.1, o10.2.2.2.2.2.1, (((o10.1.size : Int) == 6))))), true))
noncomputable def c_impl_ParseShape : Con := { ps := [(.val, .str)], rs := [(.val, (.st (.pair (.int .i64) (.pair (.int .i64) (.pair (.int .i64) (.pair (.int .i64) (.pair (.int .i64) .bool))))))), (.val, .bool)], F := F_impl_ParseShape }
noncomputable def env_impl_ParseShape : Env := { par := [], dp := false, settle := [], con := fun f => match f with | 119 => some c_impl_within | 133 => some c_impl_IsShape | 154 => some c_impl_Shape_text | 167 => some c_impl_Shape_with | _ => none, clo := fun _ => none, T := tinf Tryz.prog }
noncomputable def loops_impl_ParseShape : Nat → Option Loop := fun n => match n with | 5 => some { pat := pat_impl_ParseShape_0, outs := outs_impl_ParseShape_0, run := runL (step_impl_ParseShape_0) } | _ => none
theorem con_impl_ParseShape : ConOK Tryz.prog 106 c_impl_ParseShape := con_of_ev' (body := Tryz.f106.body.getD .skip) (Λ := loops_impl_ParseShape) mixed Tryz.func106 (by kernel_rfl) (by kernel_rfl) (envOK_of (E := env_impl_ParseShape) (fun f c h => by
  simp only [env_impl_ParseShape] at h
  split at h
  · cases h; exact con_impl_within
  · cases h; exact con_impl_IsShape
  · cases h; exact con_impl_Shape_text
  · cases h; exact con_impl_Shape_with
  · cases h) (fun f c h => by cases h) rfl) (by kernel_rfl) (by kernel_rfl) (fun n L h => by
  unfold loops_impl_ParseShape at h
  split at h
  · cases h; exact fun s o ho => loop_ok (stepF := stepEv env_impl_ParseShape loops_impl_ParseShape pat_impl_ParseShape_0 outs_impl_ParseShape_0 Tryz.f106 5) (fun _ => by kernel_rfl) ho
  · cases h) (fun _ => by kernel_rfl)

set_option maxHeartbeats 1000000 in
theorem calls_strings_IndexByte (s : ByteArray) (c : Int) (w : World) :
    Calls Tryz.prog 96 #[.string s, .int .u8 c] w fun e w' => e = .returned (.int .i64 (Lib.indexByte s.data.toList c.toNat.toUInt8)) ∧ w' = w := by
  go_enter Tryz.func96, Tryz.ntmps96
  go_wp2
  rw [run_callFunc_extern Tryz.func213 (by kernel_rfl) (by kernel_rfl) (by kernel_rfl) (e := Extern.BytealgIndexByte.indexByte) (by kernel_rfl), Lib.run_indexByteString]
  simp only [Result.andThen]
  rw [Oper.upon_value]
  go_wp2
  go_ret
  exact ⟨rfl, rfl⟩
def F_strings_IndexByte (x : ByteArray × Int) : Option Int := some (Lib.indexByte x.1.data.toList x.2.toNat.toUInt8)
def c_strings_IndexByte : Con := { ps := [(.val, .str), (.val, .int .u8)], rs := [(.val, .int .i64)], F := F_strings_IndexByte }
theorem con_strings_IndexByte : ConOK Tryz.prog 96 c_strings_IndexByte := con_of_pure ⟨Tryz.f96, Tryz.func96, by kernel_rfl, by kernel_rfl⟩ rfl rfl fun w x y hy _ => by
  have e : y = Lib.indexByte x.1.data.toList x.2.toNat.toUInt8 := (Option.some.inj hy).symm
  subst e
  refine (calls_strings_IndexByte x.1 x.2 w).mono ?_
  rintro e w' ⟨rfl, rfl⟩
  exact ⟨rfl, Fr.refl _ _⟩

noncomputable def F_impl_IsOrient (x : (Int × Int)) : Option (Bool) :=
 match F_impl_within ((x.1, 0, 5)) with
 | none => none
 | some y1 =>
  bif y1 then
   match F_impl_within ((x.2, 0, 5)) with
   | none => none
   | some y2 =>
    bif y2 then
     bif !decide (2 = 0) then
      let v3 := IntKind.i64.wrap ((x.1).tdiv 2)
      bif !decide (2 = 0) then
       let v4 := IntKind.i64.wrap ((x.2).tdiv 2)
       some (((v3 != v4)))
      else none
     else none
    else
     some (false)
  else
   some (false)
noncomputable def c_impl_IsOrient : Con := { ps := [(.val, (.st (.pair (.int .i64) (.int .i64))))], rs := [(.val, .bool)], F := F_impl_IsOrient }
noncomputable def env_impl_IsOrient : Env := { par := [], dp := false, settle := [], con := fun f => match f with | 119 => some c_impl_within | _ => none, clo := fun _ => none, T := tinf Tryz.prog }
noncomputable def loops_impl_IsOrient : Nat → Option Loop := fun n => none
theorem con_impl_IsOrient : ConOK Tryz.prog 134 c_impl_IsOrient := con_of_ev' (body := Tryz.f134.body.getD .skip) (Λ := loops_impl_IsOrient) mixed Tryz.func134 (by kernel_rfl) (by kernel_rfl) (envOK_of (E := env_impl_IsOrient) (fun f c h => by
  simp only [env_impl_IsOrient] at h
  split at h
  · cases h; exact con_impl_within
  · cases h) (fun f c h => by cases h) rfl) (by kernel_rfl) (by kernel_rfl) (fun n L h => by cases h) (fun _ => by kernel_rfl)

noncomputable def F_impl_ParseOrient (x : ByteArray) : Option ((Int × Int) × Bool) :=
 bif (((x.size : Int) != 2)) then
  some (((0, 0), false))
 else
  bif decide (0 ≤ 0) && decide (0 < (x.size : Int)) then
   bif decide (0 ≤ 1) && decide (1 < (x.size : Int)) then
    match F_strings_IndexByte (((⟨#[117, 100, 108, 114, 102, 98]⟩ : ByteArray), (byteAt x (0 : Int).toNat))) with
    | none => none
    | some y1 =>
     match F_strings_IndexByte (((⟨#[117, 100, 108, 114, 102, 98]⟩ : ByteArray), (byteAt x (1 : Int).toNat))) with
     | none => none
     | some y2 =>
      match F_impl_IsOrient ((y1, y2)) with
      | none => none
      | some y3 =>
       bif (!y3) then
        some (((0, 0), false))
       else
        some (((y1, y2), true))
   else none
  else none
noncomputable def c_impl_ParseOrient : Con := { ps := [(.val, .str)], rs := [(.val, (.st (.pair (.int .i64) (.int .i64)))), (.val, .bool)], F := F_impl_ParseOrient }
noncomputable def env_impl_ParseOrient : Env := { par := [], dp := false, settle := [], con := fun f => match f with | 96 => some c_strings_IndexByte | 134 => some c_impl_IsOrient | _ => none, clo := fun _ => none, T := tinf Tryz.prog }
noncomputable def loops_impl_ParseOrient : Nat → Option Loop := fun n => none
theorem con_impl_ParseOrient : ConOK Tryz.prog 107 c_impl_ParseOrient := con_of_ev' (body := Tryz.f107.body.getD .skip) (Λ := loops_impl_ParseOrient) mixed Tryz.func107 (by kernel_rfl) (by kernel_rfl) (envOK_of (E := env_impl_ParseOrient) (fun f c h => by
  simp only [env_impl_ParseOrient] at h
  split at h
  · cases h; exact con_strings_IndexByte
  · cases h; exact con_impl_IsOrient
  · cases h) (fun f c h => by cases h) rfl) (by kernel_rfl) (by kernel_rfl) (fun n L h => by cases h) (fun _ => by kernel_rfl)

noncomputable def F_impl_IsPlace (x : (Int × (Int × Bool))) : Option (Bool) :=
 match F_impl_within ((x.1, 0, 9)) with
 | none => none
 | some y1 =>
  bif y1 then
   match F_impl_within ((x.2.1, (-1), 1)) with
   | none => none
   | some y2 =>
    bif y2 then
     bif x.2.2 then
      some ((!((x.1 == 0))))
     else
      some ((!false))
    else
     some (false)
  else
   some (false)
noncomputable def c_impl_IsPlace : Con := { ps := [(.val, (.st (.pair (.int .i64) (.pair (.int .i64) .bool))))], rs := [(.val, .bool)], F := F_impl_IsPlace }
noncomputable def env_impl_IsPlace : Env := { par := [], dp := false, settle := [], con := fun f => match f with | 119 => some c_impl_within | _ => none, clo := fun _ => none, T := tinf Tryz.prog }
noncomputable def loops_impl_IsPlace : Nat → Option Loop := fun n => none
theorem con_impl_IsPlace : ConOK Tryz.prog 135 c_impl_IsPlace := con_of_ev' (body := Tryz.f135.body.getD .skip) (Λ := loops_impl_IsPlace) mixed Tryz.func135 (by kernel_rfl) (by kernel_rfl) (envOK_of (E := env_impl_IsPlace) (fun f c h => by
  simp only [env_impl_IsPlace] at h
  split at h
  · cases h; exact con_impl_within
  · cases h) (fun f c h => by cases h) rfl) (by kernel_rfl) (by kernel_rfl) (fun n L h => by cases h) (fun _ => by kernel_rfl)

noncomputable def F_impl_PlaceOfCode (x : Int) : Option ((Int × (Int × Bool)) × Bool) :=
 match F_impl_within ((x, 0, 59)) with
 | none => none
 | some y1 =>
  bif (!y1) then
   some (((0, 0, false), false))
  else
   bif !decide (6 = 0) then
    let v2 := IntKind.i64.wrap ((x).tdiv 6)
    bif !decide (6 = 0) then
     let v3 := (x).tmod 6
     bif !decide (2 = 0) then
      let v4 := IntKind.i64.wrap ((v3).tdiv 2)
      let v5 := IntKind.i64.wrap (v4 - 1)
      bif !decide (2 = 0) then
       let v6 := (x).tmod 2
       match F_impl_IsPlace ((v2, v5, ((v6 == 1)))) with
       | none => none
       | some y7 =>
        bif (!y7) then
         some (((0, 0, false), false))
        else
         some (((v2, v5, ((v6 == 1))), true))
      else none
     else none
    else none
   else none
noncomputable def c_impl_PlaceOfCode : Con := { ps := [(.val, (.int .i64))], rs := [(.val, (.st (.pair (.int .i64) (.pair (.int .i64) .bool)))), (.val, .bool)], F := F_impl_PlaceOfCode }
noncomputable def env_impl_PlaceOfCode : Env := { par := [], dp := false, settle := [], con := fun f => match f with | 119 => some c_impl_within | 135 => some c_impl_IsPlace | _ => none, clo := fun _ => none, T := tinf Tryz.prog }
noncomputable def loops_impl_PlaceOfCode : Nat → Option Loop := fun n => none
theorem con_impl_PlaceOfCode : ConOK Tryz.prog 168 c_impl_PlaceOfCode := con_of_ev' (body := Tryz.f168.body.getD .skip) (Λ := loops_impl_PlaceOfCode) mixed Tryz.func168 (by kernel_rfl) (by kernel_rfl) (envOK_of (E := env_impl_PlaceOfCode) (fun f c h => by
  simp only [env_impl_PlaceOfCode] at h
  split at h
  · cases h; exact con_impl_within
  · cases h; exact con_impl_IsPlace
  · cases h) (fun f c h => by cases h) rfl) (by kernel_rfl) (by kernel_rfl) (fun n L h => by cases h) (fun _ => by kernel_rfl)

noncomputable def F_impl_Place_text (x : (Int × (Int × Bool))) : Option (ByteArray) :=
 bif (x.1 == 0) then
  let v1 := IntKind.i64.wrap (x.2.1 + 1)
  bif decide (0 ≤ v1) && decide (v1 < (3 : Int)) then
   bif decide ((⟨#[115, 112, 97, 99, 101]⟩ : ByteArray).size + ([(⟨#[60]⟩ : ByteArray), (⟨#[]⟩ : ByteArray), (⟨#[62]⟩ : ByteArray)].getD (v1).toNat ByteArray.empty).size ≤ 9223372036854775807) then
    bif x.2.2 then
     bif decide (((⟨#[115, 112, 97, 99, 101]⟩ : ByteArray) ++ ([(⟨#[60]⟩ : ByteArray), (⟨#[]⟩ : ByteArray), (⟨#[62]⟩ : ByteArray)].getD (v1).toNat ByteArray.empty)).size + (⟨#[42]⟩ : ByteArray).size ≤ 9223372036854775807) then
      some ((((⟨#[115, 112, 97, 99, 101]⟩ : ByteArray) ++ ([(⟨#[60]⟩ : ByteArray), (⟨#[]⟩ : ByteArray), (⟨#[62]⟩ : ByteArray)].getD (v1).toNat ByteArray.empty)) ++ (⟨#[42]⟩ : ByteArray)))
     else none
    else
     some (((⟨#[115, 112, 97, 99, 101]⟩ : ByteArray) ++ ([(⟨#[60]⟩ : ByteArray), (⟨#[]⟩ : ByteArray), (⟨#[62]⟩ : ByteArray)].getD (v1).toNat ByteArray.empty)))
   else none
  else none
 else
  bif (x.1 == 1) then
   let v2 := IntKind.i64.wrap (x.2.1 + 1)
   bif decide (0 ≤ v2) && decide (v2 < (3 : Int)) then
    bif decide ((⟨#[104, 101, 97, 100]⟩ : ByteArray).size + ([(⟨#[60]⟩ : ByteArray), (⟨#[]⟩ : ByteArray), (⟨#[62]⟩ : ByteArray)].getD (v2).toNat ByteArray.empty).size ≤ 9223372036854775807) then
     bif x.2.2 then
      bif decide (((⟨#[104, 101, 97, 100]⟩ : ByteArray) ++ ([(⟨#[60]⟩ : ByteArray), (⟨#[]⟩ : ByteArray), (⟨#[62]⟩ : ByteArray)].getD (v2).toNat ByteArray.empty)).size + (⟨#[42]⟩ : ByteArray).size ≤ 9223372036854775807) then
       some ((((⟨#[104, 101, 97, 100]⟩ : ByteArray) ++ ([(⟨#[60]⟩ : ByteArray), (⟨#[]⟩ : ByteArray), (⟨#[62]⟩ : ByteArray)].getD (v2).toNat ByteArray.empty)) ++ (⟨#[42]⟩ : ByteArray)))
      else none
     else
      some (((⟨#[104, 101, 97, 100]⟩ : ByteArray) ++ ([(⟨#[60]⟩ : ByteArray), (⟨#[]⟩ : ByteArray), (⟨#[62]⟩ : ByteArray)].getD (v2).toNat ByteArray.empty)))
    else none
   else none
  else
   bif (x.1 == 2) then
    let v3 := IntKind.i64.wrap (x.2.1 + 1)
    bif decide (0 ≤ v3) && decide (v3 < (3 : Int)) then
     bif decide ((⟨#[101, 121, 101]⟩ : ByteArray).size + ([(⟨#[60]⟩ : ByteArray), (⟨#[]⟩ : ByteArray), (⟨#[62]⟩ : ByteArray)].getD (v3).toNat ByteArray.empty).size ≤ 9223372036854775807) then
      bif x.2.2 then
       bif decide (((⟨#[101, 121, 101]⟩ : ByteArray) ++ ([(⟨#[60]⟩ : ByteArray), (⟨#[]⟩ : ByteArray), (⟨#[62]⟩ : ByteArray)].getD (v3).toNat ByteArray.empty)).size + (⟨#[42]⟩ : ByteArray).size ≤ 9223372036854775807) then
        some ((((⟨#[101, 121, 101]⟩ : ByteArray) ++ ([(⟨#[60]⟩ : ByteArray), (⟨#[]⟩ : ByteArray), (⟨#[62]⟩ : ByteArray)].getD (v3).toNat ByteArray.empty)) ++ (⟨#[42]⟩ : ByteArray)))
       else none
      else
       some (((⟨#[101, 121, 101]⟩ : ByteArray) ++ ([(⟨#[60]⟩ : ByteArray), (⟨#[]⟩ : ByteArray), (⟨#[62]⟩ : ByteArray)].getD (v3).toNat ByteArray.empty)))
     else none
    else none
   else
    bif (x.1 == 3) then
     let v4 := IntKind.i64.wrap (x.2.1 + 1)
     bif decide (0 ≤ v4) && decide (v4 < (3 : Int)) then
      bif decide ((⟨#[99, 104, 101, 101, 107]⟩ : ByteArray).size + ([(⟨#[60]⟩ : ByteArray), (⟨#[]⟩ : ByteArray), (⟨#[62]⟩ : ByteArray)].getD (v4).toNat ByteArray.empty).size ≤ 9223372036854775807) then
       bif x.2.2 then
        bif decide (((⟨#[99, 104, 101, 101, 107]⟩ : ByteArray) ++ ([(⟨#[60]⟩ : ByteArray), (⟨#[]⟩ : ByteArray), (⟨#[62]⟩ : ByteArray)].getD (v4).toNat ByteArray.empty)).size + (⟨#[42]⟩ : ByteArray).size ≤ 9223372036854775807) then
         some ((((⟨#[99, 104, 101, 101, 107]⟩ : ByteArray) ++ ([(⟨#[60]⟩ : ByteArray), (⟨#[]⟩ : ByteArray), (⟨#[62]⟩ : ByteArray)].getD (v4).toNat ByteArray.empty)) ++ (⟨#[42]⟩ : ByteArray)))
        else none
       else
        some (((⟨#[99, 104, 101, 101, 107]⟩ : ByteArray) ++ ([(⟨#[60]⟩ : ByteArray), (⟨#[]⟩ : ByteArray), (⟨#[62]⟩ : ByteArray)].getD (v4).toNat ByteArray.empty)))
      else none
     else none
    else
     bif (x.1 == 4) then
      let v5 := IntKind.i64.wrap (x.2.1 + 1)
      bif decide (0 ≤ v5) && decide (v5 < (3 : Int)) then
       bif decide ((⟨#[109, 111, 117, 116, 104]⟩ : ByteArray).size + ([(⟨#[60]⟩ : ByteArray), (⟨#[]⟩ : ByteArray), (⟨#[62]⟩ : ByteArray)].getD (v5).toNat ByteArray.empty).size ≤ 9223372036854775807) then
        bif x.2.2 then
         bif decide (((⟨#[109, 111, 117, 116, 104]⟩ : ByteArray) ++ ([(⟨#[60]⟩ : ByteArray), (⟨#[]⟩ : ByteArray), (⟨#[62]⟩ : ByteArray)].getD (v5).toNat ByteArray.empty)).size + (⟨#[42]⟩ : ByteArray).size ≤ 9223372036854775807) then
          some ((((⟨#[109, 111, 117, 116, 104]⟩ : ByteArray) ++ ([(⟨#[60]⟩ : ByteArray), (⟨#[]⟩ : ByteArray), (⟨#[62]⟩ : ByteArray)].getD (v5).toNat ByteArray.empty)) ++ (⟨#[42]⟩ : ByteArray)))
         else none
        else
         some (((⟨#[109, 111, 117, 116, 104]⟩ : ByteArray) ++ ([(⟨#[60]⟩ : ByteArray), (⟨#[]⟩ : ByteArray), (⟨#[62]⟩ : ByteArray)].getD (v5).toNat ByteArray.empty)))
       else none
      else none
     else
      bif (x.1 == 5) then
       let v6 := IntKind.i64.wrap (x.2.1 + 1)
       bif decide (0 ≤ v6) && decide (v6 < (3 : Int)) then
        bif decide ((⟨#[99, 104, 105, 110]⟩ : ByteArray).size + ([(⟨#[60]⟩ : ByteArray), (⟨#[]⟩ : ByteArray), (⟨#[62]⟩ : ByteArray)].getD (v6).toNat ByteArray.empty).size ≤ 9223372036854775807) then
         bif x.2.2 then
          bif decide (((⟨#[99, 104, 105, 110]⟩ : ByteArray) ++ ([(⟨#[60]⟩ : ByteArray), (⟨#[]⟩ : ByteArray), (⟨#[62]⟩ : ByteArray)].getD (v6).toNat ByteArray.empty)).size + (⟨#[42]⟩ : ByteArray).size ≤ 9223372036854775807) then
           some ((((⟨#[99, 104, 105, 110]⟩ : ByteArray) ++ ([(⟨#[60]⟩ : ByteArray), (⟨#[]⟩ : ByteArray), (⟨#[62]⟩ : ByteArray)].getD (v6).toNat ByteArray.empty)) ++ (⟨#[42]⟩ : ByteArray)))
          else none
         else
          some (((⟨#[99, 104, 105, 110]⟩ : ByteArray) ++ ([(⟨#[60]⟩ : ByteArray), (⟨#[]⟩ : ByteArray), (⟨#[62]⟩ : ByteArray)].getD (v6).toNat ByteArray.empty)))
        else none
       else none
      else
       bif (x.1 == 6) then
        let v7 := IntKind.i64.wrap (x.2.1 + 1)
        bif decide (0 ≤ v7) && decide (v7 < (3 : Int)) then
         bif decide ((⟨#[110, 101, 99, 107]⟩ : ByteArray).size + ([(⟨#[60]⟩ : ByteArray), (⟨#[]⟩ : ByteArray), (⟨#[62]⟩ : ByteArray)].getD (v7).toNat ByteArray.empty).size ≤ 9223372036854775807) then
          bif x.2.2 then
           bif decide (((⟨#[110, 101, 99, 107]⟩ : ByteArray) ++ ([(⟨#[60]⟩ : ByteArray), (⟨#[]⟩ : ByteArray), (⟨#[62]⟩ : ByteArray)].getD (v7).toNat ByteArray.empty)).size + (⟨#[42]⟩ : ByteArray).size ≤ 9223372036854775807) then
            some ((((⟨#[110, 101, 99, 107]⟩ : ByteArray) ++ ([(⟨#[60]⟩ : ByteArray), (⟨#[]⟩ : ByteArray), (⟨#[62]⟩ : ByteArray)].getD (v7).toNat ByteArray.empty)) ++ (⟨#[42]⟩ : ByteArray)))
           else none
          else
           some (((⟨#[110, 101, 99, 107]⟩ : ByteArray) ++ ([(⟨#[60]⟩ : ByteArray), (⟨#[]⟩ : ByteArray), (⟨#[62]⟩ : ByteArray)].getD (v7).toNat ByteArray.empty)))
         else none
        else none
       else
        bif (x.1 == 7) then
         let v8 := IntKind.i64.wrap (x.2.1 + 1)
         bif decide (0 ≤ v8) && decide (v8 < (3 : Int)) then
          bif decide ((⟨#[99, 104, 101, 115, 116]⟩ : ByteArray).size + ([(⟨#[60]⟩ : ByteArray), (⟨#[]⟩ : ByteArray), (⟨#[62]⟩ : ByteArray)].getD (v8).toNat ByteArray.empty).size ≤ 9223372036854775807) then
           bif x.2.2 then
            bif decide (((⟨#[99, 104, 101, 115, 116]⟩ : ByteArray) ++ ([(⟨#[60]⟩ : ByteArray), (⟨#[]⟩ : ByteArray), (⟨#[62]⟩ : ByteArray)].getD (v8).toNat ByteArray.empty)).size + (⟨#[42]⟩ : ByteArray).size ≤ 9223372036854775807) then
             some ((((⟨#[99, 104, 101, 115, 116]⟩ : ByteArray) ++ ([(⟨#[60]⟩ : ByteArray), (⟨#[]⟩ : ByteArray), (⟨#[62]⟩ : ByteArray)].getD (v8).toNat ByteArray.empty)) ++ (⟨#[42]⟩ : ByteArray)))
            else none
           else
            some (((⟨#[99, 104, 101, 115, 116]⟩ : ByteArray) ++ ([(⟨#[60]⟩ : ByteArray), (⟨#[]⟩ : ByteArray), (⟨#[62]⟩ : ByteArray)].getD (v8).toNat ByteArray.empty)))
          else none
         else none
        else
         bif (x.1 == 8) then
          let v9 := IntKind.i64.wrap (x.2.1 + 1)
          bif decide (0 ≤ v9) && decide (v9 < (3 : Int)) then
           bif decide ((⟨#[119, 97, 105, 115, 116]⟩ : ByteArray).size + ([(⟨#[60]⟩ : ByteArray), (⟨#[]⟩ : ByteArray), (⟨#[62]⟩ : ByteArray)].getD (v9).toNat ByteArray.empty).size ≤ 9223372036854775807) then
            bif x.2.2 then
             bif decide (((⟨#[119, 97, 105, 115, 116]⟩ : ByteArray) ++ ([(⟨#[60]⟩ : ByteArray), (⟨#[]⟩ : ByteArray), (⟨#[62]⟩ : ByteArray)].getD (v9).toNat ByteArray.empty)).size + (⟨#[42]⟩ : ByteArray).size ≤ 9223372036854775807) then
              some ((((⟨#[119, 97, 105, 115, 116]⟩ : ByteArray) ++ ([(⟨#[60]⟩ : ByteArray), (⟨#[]⟩ : ByteArray), (⟨#[62]⟩ : ByteArray)].getD (v9).toNat ByteArray.empty)) ++ (⟨#[42]⟩ : ByteArray)))
             else none
            else
             some (((⟨#[119, 97, 105, 115, 116]⟩ : ByteArray) ++ ([(⟨#[60]⟩ : ByteArray), (⟨#[]⟩ : ByteArray), (⟨#[62]⟩ : ByteArray)].getD (v9).toNat ByteArray.empty)))
           else none
          else none
         else
          bif (x.1 == 9) then
           let v10 := IntKind.i64.wrap (x.2.1 + 1)
           bif decide (0 ≤ v10) && decide (v10 < (3 : Int)) then
            bif decide ((⟨#[104, 105, 112]⟩ : ByteArray).size + ([(⟨#[60]⟩ : ByteArray), (⟨#[]⟩ : ByteArray), (⟨#[62]⟩ : ByteArray)].getD (v10).toNat ByteArray.empty).size ≤ 9223372036854775807) then
             bif x.2.2 then
              bif decide (((⟨#[104, 105, 112]⟩ : ByteArray) ++ ([(⟨#[60]⟩ : ByteArray), (⟨#[]⟩ : ByteArray), (⟨#[62]⟩ : ByteArray)].getD (v10).toNat ByteArray.empty)).size + (⟨#[42]⟩ : ByteArray).size ≤ 9223372036854775807) then
               some ((((⟨#[104, 105, 112]⟩ : ByteArray) ++ ([(⟨#[60]⟩ : ByteArray), (⟨#[]⟩ : ByteArray), (⟨#[62]⟩ : ByteArray)].getD (v10).toNat ByteArray.empty)) ++ (⟨#[42]⟩ : ByteArray)))
              else none
             else
              some (((⟨#[104, 105, 112]⟩ : ByteArray) ++ ([(⟨#[60]⟩ : ByteArray), (⟨#[]⟩ : ByteArray), (⟨#[62]⟩ : ByteArray)].getD (v10).toNat ByteArray.empty)))
            else none
           else none
          else
           none
noncomputable def c_impl_Place_text : Con := { ps := [(.val, (.st (.pair (.int .i64) (.pair (.int .i64) .bool))))], rs := [(.val, .str)], F := F_impl_Place_text }
noncomputable def env_impl_Place_text : Env := { par := [], dp := false, settle := [], con := fun _ => none, clo := fun _ => none, T := tinf Tryz.prog }
noncomputable def loops_impl_Place_text : Nat → Option Loop := fun n => none
theorem F_impl_Place_text_eq (x : (Int × (Int × Bool))) : Fev env_impl_Place_text loops_impl_Place_text c_impl_Place_text.ps c_impl_Place_text.rs Tryz.f156 x = F_impl_Place_text x := by kernel_rfl
theorem env_impl_Place_text_ok : EnvOK Tryz.prog env_impl_Place_text := envOK_of (fun f c h => by cases h) (fun f c h => by cases h) rfl
theorem con_impl_Place_text : ConOK Tryz.prog 156 c_impl_Place_text := con_of_ev' (body := Tryz.f156.body.getD .skip) (Λ := loops_impl_Place_text) mixed Tryz.func156 (by kernel_rfl) (by kernel_rfl) env_impl_Place_text_ok (by kernel_rfl) (by kernel_rfl) (fun n L h => by cases h) F_impl_Place_text_eq

noncomputable def step_impl_ParsePlace_0 (s : ByteArray × Int × Int × Int × Bool) : Option ((ByteArray × Int × Int × Int × Bool) ⊕ ((Bool × Int × Int × Bool) ⊕ (Int × Int × Bool))) :=
 bif (decide (s.2.1 < 60)) then
  match F_impl_PlaceOfCode (s.2.1) with
  | none => none
  | some y5 =>
   bif y5.2 then
    match F_impl_Place_text (y5.1) with
    | none => none
    | some y6 =>
     bif (y6.toList == s.1.toList) then
      some (.inr (.inl ((true, y5.1))))
     else
      let v7 := IntKind.i64.wrap (s.2.1 + 1)
      some (.inl ((s.1, v7, s.2.2)))
   else
    let v8 := IntKind.i64.wrap (s.2.1 + 1)
    some (.inl ((s.1, v8, s.2.2)))
 else
  some (.inr (.inr (s.2.2)))
def pat_impl_ParsePlace_0 : Pat := { tmps := .v .str :: .any :: .ptr 128 0 :: an 4 (.v (.int .i64) :: an 17 []), blks := [(128, .box [.v (.int .i64), .v (.int .i64), .v .bool])] }
def outs_impl_ParsePlace_0 : List (Exit × Pat) := [(.ret, { tmps := .any :: .any :: .ptr 128 0 :: .v .bool :: an 21 [], blks := [(128, .box [.v (.int .i64), .v (.int .i64), .v .bool])] }), (.exit 0, { tmps := .any :: .any :: .ptr 128 0 :: an 22 [], blks := [(128, .box [.v (.int .i64), .v (.int .i64), .v .bool])] })]
noncomputable def F_impl_ParsePlace (x : ByteArray) : Option ((Int × (Int × Bool)) × Bool) :=
 match runL step_impl_ParsePlace_0 ((x, 0, (0, 0, false))) with
 | none => none
 | some (.inl o9) =>
  some ((o9.2, o9.1))
 | some (.inr o9) =>
  some (((0, 0, false), false))
noncomputable def c_impl_ParsePlace : Con := { ps := [(.val, .str)], rs := [(.val, (.st (.pair (.int .i64) (.pair (.int .i64) .bool)))), (.val, .bool)], F := F_impl_ParsePlace }
noncomputable def env_impl_ParsePlace : Env := { par := [], dp := false, settle := [], con := fun f => match f with | 156 => some c_impl_Place_text | 168 => some c_impl_PlaceOfCode | _ => none, clo := fun _ => none, T := tinf Tryz.prog }
noncomputable def loops_impl_ParsePlace : Nat → Option Loop := fun n => match n with | 2 => some { pat := pat_impl_ParsePlace_0, outs := outs_impl_ParsePlace_0, run := runL (step_impl_ParsePlace_0) } | _ => none
theorem con_impl_ParsePlace : ConOK Tryz.prog 108 c_impl_ParsePlace := con_of_ev' (body := Tryz.f108.body.getD .skip) (Λ := loops_impl_ParsePlace) mixed Tryz.func108 (by kernel_rfl) (by kernel_rfl) (envOK_of (E := env_impl_ParsePlace) (fun f c h => by
  simp only [env_impl_ParsePlace] at h
  split at h
  · cases h; exact con_impl_Place_text
  · cases h; exact con_impl_PlaceOfCode
  · cases h) (fun f c h => by cases h) rfl) (by kernel_rfl) (by kernel_rfl) (fun n L h => by
  unfold loops_impl_ParsePlace at h
  split at h
  · cases h; exact fun s o ho => loop_ok (stepF := stepEv env_impl_ParsePlace loops_impl_ParsePlace pat_impl_ParsePlace_0 outs_impl_ParsePlace_0 Tryz.f108 2) (fun _ => by kernel_rfl) ho
  · cases h) (fun _ => by kernel_rfl)

theorem Cut_ex : ∃ f : ByteArray × ByteArray → Option (ByteArray × ByteArray × Bool), f = fun x => bif decide (x.1.size < 4294967281) then some (⟨(Lib.cut x.1.data.toList x.2.data.toList).1.toArray⟩, ⟨(Lib.cut x.1.data.toList x.2.data.toList).2.1.toArray⟩, (Lib.cut x.1.data.toList x.2.data.toList).2.2) else none := ⟨_, rfl⟩
noncomputable def F_strings_Cut : ByteArray × ByteArray → Option (ByteArray × ByteArray × Bool) := Classical.choose Cut_ex
theorem F_strings_Cut_is (x : ByteArray × ByteArray) : F_strings_Cut x = bif decide (x.1.size < 4294967281) then some (⟨(Lib.cut x.1.data.toList x.2.data.toList).1.toArray⟩, ⟨(Lib.cut x.1.data.toList x.2.data.toList).2.1.toArray⟩, (Lib.cut x.1.data.toList x.2.data.toList).2.2) else none := congrFun (Classical.choose_spec Cut_ex) x
noncomputable def c_strings_Cut : Con := { ps := [(.val, .str), (.val, .str)], rs := [(.val, .str), (.val, .str), (.val, .bool)], F := F_strings_Cut }
theorem cell_of_varC {w : World} {u : Value} (hm : ((some 0 : Option Nat).bind fun g => match w.heap[g]? with | some (.cells cs _ _) => some cs | _ => none) = some #[u]) : w.cell? ⟨0, 0, none⟩ = some u := by
  simp only [Option.bind_some] at hm
  split at hm
  · rename_i cs ety fz h
    obtain rfl := Option.some.inj hm
    rw [cell_of_row w 0 0 _ _ _ h]
    rfl
  · cases hm
theorem fr_drewN (w : World) (n : Nat) : Fr NoB w (w.drewN n) := ⟨rfl, rfl, rfl, Nat.le_refl _, fun _ _ _ => rfl, fun _ _ _ => rfl⟩
theorem calls_F_strings_Cut (w : World) (x : ByteArray × ByteArray) (y : ByteArray × ByteArray × Bool) (hy : F_strings_Cut x = some y) (ht : Tabs Tryz.prog w) :
    Calls Tryz.prog 105 #[.string x.1, .string x.2] w fun e w' => e = .returned (.tuple #[.string y.1, .string y.2.1, .bool y.2.2]) ∧ Fr NoB w w' := by
  rw [F_strings_Cut_is] at hy
  obtain ⟨hg, hy⟩ := bif_none hy
  have h0 := of_decide_eq_true hg
  obtain rfl := (Option.some.inj hy).symm
  obtain ⟨m, hm⟩ := (ht.2.2.1 "internal/bytealg.MaxLen" (List.mem_cons_self ..)).2
  have hcell : w.cell? ⟨0, 0, none⟩ = some (.int .i64 m) := by
    have hg : Tryz.prog.globalNamed "internal/bytealg.MaxLen" = some 0 := by kernel_rfl
    unfold World.var? at hm
    rw [hg] at hm
    exact cell_of_varC hm
  refine (Tryz.strings_Cut x.1 x.2 m w h0 hcell).mono ?_
  rintro e' w' ⟨rfl, k, rfl⟩
  exact ⟨rfl, fr_drewN _ _⟩
theorem con_strings_Cut : ConOK Tryz.prog 105 c_strings_Cut := con_of_pure ⟨Tryz.f105, Tryz.func105, by kernel_rfl, by kernel_rfl⟩ rfl rfl fun w x y hy ht => calls_F_strings_Cut w x y hy ht

theorem decimal_ex : ∃ f : ByteArray → Option (Int × Bool), f = fun x => bif decide (x.size ≤ 281474976710656) then some (decOf x) else none := ⟨_, rfl⟩
noncomputable def F_impl_decimal : ByteArray → Option (Int × Bool) := Classical.choose decimal_ex
theorem F_impl_decimal_is (x : ByteArray) : F_impl_decimal x = bif decide (x.size ≤ 281474976710656) then some (decOf x) else none := congrFun (Classical.choose_spec decimal_ex) x
noncomputable def c_impl_decimal : Con := { ps := [(.val, .str)], rs := [(.val, .int .i64), (.val, .bool)], F := F_impl_decimal }
theorem var_of_ifc {w : World} (ht : Tabs Tryz.prog w) {q : String} (hq : q ∈ ifcList) : ∃ tp p, w.var? Tryz.prog q = some #[.iface tp p] := (ht.2.2.2 q hq).2
theorem calls_F_impl_decimal (w : World) (s : ByteArray) (y : Int × Bool) (hy : F_impl_decimal s = some y) (ht : Tabs Tryz.prog w) : Calls Tryz.prog 169 #[.string s] w fun e w' => e = .returned (.tuple #[.int .i64 y.1, .bool y.2]) ∧ Fr NoB w w' := by
  rw [F_impl_decimal_is] at hy
  obtain ⟨hg, hy⟩ := bif_none hy
  have h0 : s.size ≤ 281474976710656 := of_decide_eq_true hg
  have e : y = decOf s := (Option.some.inj hy).symm
  subst e
  refine (calls_decimal s h0 w (var_of_ifc ht (by simp [ifcList])) (var_of_ifc ht (by simp [ifcList])) fun w' hw => (((fr_of_below hw).tabs ht).1 _ (List.mem_cons_self ..)).2).mono ?_
  rintro e w' ⟨rfl, hw⟩
  exact ⟨rfl, fr_of_below hw⟩
theorem con_impl_decimal : ConOK Tryz.prog 169 c_impl_decimal := con_of_pure ⟨Tryz.f169, Tryz.func169, by kernel_rfl, by kernel_rfl⟩ rfl rfl fun w x y hy ht => calls_F_impl_decimal w x y hy ht

noncomputable def step_impl_hasOnly_0 (s : ByteArray × ByteArray × Int × Int) : Option ((ByteArray × ByteArray × Int × Int) ⊕ ((Bool) ⊕ (Unit))) :=
 bif (decide (s.2.2.2 < s.2.2.1)) then
  bif decide (0 ≤ s.2.2.2) && decide (s.2.2.2 < (s.1.size : Int)) then
   match F_strings_IndexByte ((s.2.1, (byteAt s.1 (s.2.2.2).toNat))) with
   | none => none
   | some y3 =>
    bif (decide (y3 < 0)) then
     some (.inr (.inl (false)))
    else
     let v4 := IntKind.i64.wrap (s.2.2.2 + 1)
     some (.inl ((s.1, (s.2.1, s.2.2.1, v4))))
  else none
 else
  some (.inr (.inr (())))
def pat_impl_hasOnly_0 : Pat := { tmps := .v .str :: .v .str :: an 5 (.v (.int .i64) :: .v (.int .i64) :: an 9 []), blks := [] }
def outs_impl_hasOnly_0 : List (Exit × Pat) := [(.ret, { tmps := an 4 (.v .bool :: an 13 []), blks := [] }), (.exit 0, { tmps := an 18 [], blks := [] })]
noncomputable def F_impl_hasOnly (x : ByteArray × ByteArray) : Option (Bool) :=
 match runL step_impl_hasOnly_0 ((x.1, (x.2, (x.1.size : Int), 0))) with
 | none => none
 | some (.inl o5) =>
  some (o5)
 | some (.inr o5) =>
  some (true)
noncomputable def c_impl_hasOnly : Con := { ps := [(.val, .str), (.val, .str)], rs := [(.val, .bool)], F := F_impl_hasOnly }
noncomputable def env_impl_hasOnly : Env := { par := [], dp := false, settle := [], con := fun f => match f with | 96 => some c_strings_IndexByte | _ => none, clo := fun _ => none, T := tinf Tryz.prog }
noncomputable def loops_impl_hasOnly : Nat → Option Loop := fun n => match n with | 2 => some { pat := pat_impl_hasOnly_0, outs := outs_impl_hasOnly_0, run := runL (step_impl_hasOnly_0) } | _ => none
theorem con_impl_hasOnly : ConOK Tryz.prog 195 c_impl_hasOnly := con_of_ev' (body := Tryz.f195.body.getD .skip) (Λ := loops_impl_hasOnly) mixed Tryz.func195 (by kernel_rfl) (by kernel_rfl) (envOK_of (E := env_impl_hasOnly) (fun f c h => by
  simp only [env_impl_hasOnly] at h
  split at h
  · cases h; exact con_strings_IndexByte
  · cases h) (fun f c h => by cases h) rfl) (by kernel_rfl) (by kernel_rfl) (fun n L h => by
  unfold loops_impl_hasOnly at h
  split at h
  · cases h; exact fun s o ho => loop_ok (stepF := stepEv env_impl_hasOnly loops_impl_hasOnly pat_impl_hasOnly_0 outs_impl_hasOnly_0 Tryz.f195 2) (fun _ => by kernel_rfl) ho
  · cases h) (fun _ => by kernel_rfl)

noncomputable def F_impl_IsMove (x : (ByteArray × Int)) : Option (Bool) :=
 bif (decide ((x.1.size : Int) ≤ 6)) then
  match F_impl_hasOnly ((x.1, (⟨#[117, 100, 108, 114, 102, 98]⟩ : ByteArray))) with
  | none => none
  | some y1 =>
   bif y1 then
    match F_impl_within ((x.2, 1, 3)) with
    | none => none
    | some y2 =>
     bif y2 then
      bif (!(x.1.toList == (⟨#[]⟩ : ByteArray).toList)) then
       some (true)
      else
       some (((x.2 == 1)))
     else
      some (false)
   else
    some (false)
 else
  some (false)
noncomputable def c_impl_IsMove : Con := { ps := [(.val, (.st (.pair .str (.int .i64))))], rs := [(.val, .bool)], F := F_impl_IsMove }
noncomputable def env_impl_IsMove : Env := { par := [], dp := false, settle := [], con := fun f => match f with | 119 => some c_impl_within | 195 => some c_impl_hasOnly | _ => none, clo := fun _ => none, T := tinf Tryz.prog }
noncomputable def loops_impl_IsMove : Nat → Option Loop := fun n => none
theorem con_impl_IsMove : ConOK Tryz.prog 136 c_impl_IsMove := con_of_ev' (body := Tryz.f136.body.getD .skip) (Λ := loops_impl_IsMove) mixed Tryz.func136 (by kernel_rfl) (by kernel_rfl) (envOK_of (E := env_impl_IsMove) (fun f c h => by
  simp only [env_impl_IsMove] at h
  split at h
  · cases h; exact con_impl_within
  · cases h; exact con_impl_hasOnly
  · cases h) (fun f c h => by cases h) rfl) (by kernel_rfl) (by kernel_rfl) (fun n L h => by cases h) (fun _ => by kernel_rfl)

noncomputable def F_impl_Move_text (x : (ByteArray × Int)) : Option (ByteArray) :=
 bif (x.1.toList == (⟨#[]⟩ : ByteArray).toList) then
  some ((⟨#[45]⟩ : ByteArray))
 else
  bif ((x.2 == 1)) then
   some (x.1)
  else
   bif decide (x.1.size + (⟨#[42]⟩ : ByteArray).size ≤ 9223372036854775807) then
    match F_strconv_Itoa (x.2) with
    | none => none
    | some y1 =>
     bif decide ((x.1 ++ (⟨#[42]⟩ : ByteArray)).size + y1.size ≤ 9223372036854775807) then
      some (((x.1 ++ (⟨#[42]⟩ : ByteArray)) ++ y1))
     else none
   else none
noncomputable def c_impl_Move_text : Con := { ps := [(.val, (.st (.pair .str (.int .i64))))], rs := [(.val, .str)], F := F_impl_Move_text }
noncomputable def env_impl_Move_text : Env := { par := [], dp := false, settle := [], con := fun f => match f with | 210 => some c_strconv_Itoa | _ => none, clo := fun _ => none, T := tinf Tryz.prog }
noncomputable def loops_impl_Move_text : Nat → Option Loop := fun n => none
theorem con_impl_Move_text : ConOK Tryz.prog 157 c_impl_Move_text := con_of_ev' (body := Tryz.f157.body.getD .skip) (Λ := loops_impl_Move_text) mixed Tryz.func157 (by kernel_rfl) (by kernel_rfl) (envOK_of (E := env_impl_Move_text) (fun f c h => by
  simp only [env_impl_Move_text] at h
  split at h
  · cases h; exact con_strconv_Itoa
  · cases h) (fun f c h => by cases h) rfl) (by kernel_rfl) (by kernel_rfl) (fun n L h => by cases h) (fun _ => by kernel_rfl)

noncomputable def F_impl_ParseMove (x : ByteArray) : Option ((ByteArray × Int) × Bool) :=
 match F_strings_Cut ((x, (⟨#[42]⟩ : ByteArray))) with
 | none => none
 | some y1 =>
  bif y1.2.2 then
   match F_impl_decimal (y1.2.1) with
   | none => none
   | some y2 =>
    bif (x.toList == (⟨#[45]⟩ : ByteArray).toList) then
     match F_impl_IsMove (((⟨#[]⟩ : ByteArray), y2.1)) with
     | none => none
     | some y3 =>
      bif (!y3) then
       some (((ByteArray.empty, 0), false))
      else
       match F_impl_Move_text (((⟨#[]⟩ : ByteArray), y2.1)) with
       | none => none
       | some y4 =>
        bif (!(y4.toList == x.toList)) then
         some (((ByteArray.empty, 0), false))
        else
         some ((((⟨#[]⟩ : ByteArray), y2.1), true))
    else
     match F_impl_IsMove ((y1.1, y2.1)) with
     | none => none
     | some y5 =>
      bif (!y5) then
       some (((ByteArray.empty, 0), false))
      else
       match F_impl_Move_text ((y1.1, y2.1)) with
       | none => none
       | some y6 =>
        bif (!(y6.toList == x.toList)) then
         some (((ByteArray.empty, 0), false))
        else
         some (((y1.1, y2.1), true))
  else
   bif (x.toList == (⟨#[45]⟩ : ByteArray).toList) then
    match F_impl_IsMove (((⟨#[]⟩ : ByteArray), 1)) with
    | none => none
    | some y7 =>
     bif (!y7) then
      some (((ByteArray.empty, 0), false))
     else
      match F_impl_Move_text (((⟨#[]⟩ : ByteArray), 1)) with
      | none => none
      | some y8 =>
       bif (!(y8.toList == x.toList)) then
        some (((ByteArray.empty, 0), false))
       else
        some ((((⟨#[]⟩ : ByteArray), 1), true))
   else
    match F_impl_IsMove ((y1.1, 1)) with
    | none => none
    | some y9 =>
     bif (!y9) then
      some (((ByteArray.empty, 0), false))
     else
      match F_impl_Move_text ((y1.1, 1)) with
      | none => none
      | some y10 =>
       bif (!(y10.toList == x.toList)) then
        some (((ByteArray.empty, 0), false))
       else
        some (((y1.1, 1), true))
noncomputable def c_impl_ParseMove : Con := { ps := [(.val, .str)], rs := [(.val, (.st (.pair .str (.int .i64)))), (.val, .bool)], F := F_impl_ParseMove }
noncomputable def env_impl_ParseMove : Env := { par := [], dp := false, settle := [], con := fun f => match f with | 105 => some c_strings_Cut | 136 => some c_impl_IsMove | 157 => some c_impl_Move_text | 169 => some c_impl_decimal | _ => none, clo := fun _ => none, T := tinf Tryz.prog }
noncomputable def loops_impl_ParseMove : Nat → Option Loop := fun n => none
theorem con_impl_ParseMove : ConOK Tryz.prog 110 c_impl_ParseMove := con_of_ev' (body := Tryz.f110.body.getD .skip) (Λ := loops_impl_ParseMove) mixed Tryz.func110 (by kernel_rfl) (by kernel_rfl) (envOK_of (E := env_impl_ParseMove) (fun f c h => by
  simp only [env_impl_ParseMove] at h
  split at h
  · cases h; exact con_strings_Cut
  · cases h; exact con_impl_IsMove
  · cases h; exact con_impl_Move_text
  · cases h; exact con_impl_decimal
  · cases h) (fun f c h => by cases h) rfl) (by kernel_rfl) (by kernel_rfl) (fun n L h => by cases h) (fun _ => by kernel_rfl)

noncomputable def step_impl_readHand_0 (s : (List ByteArray) × Int × (Bool × (Bool × (Bool × Bool))) × Int × Int × Int × Int × Int × Int × Bool × Int × Int × Int × Int × Bool × ByteArray × Int × Int × Int × Int × Int × Int × Bool × Int × Int × Int × Int × Bool × ByteArray × Int) : Option (((List ByteArray) × Int × (Bool × (Bool × (Bool × Bool))) × Int × Int × Int × Int × Int × Int × Bool × Int × Int × Int × Int × Bool × ByteArray × Int × Int × Int × Int × Int × Int × Bool × Int × Int × Int × Int × Bool × ByteArray × Int) ⊕ ((Int × Int × Int × Int × Int × Int × Int × Bool × Int × Int × Int × Int × Bool × ByteArray × Int) ⊕ (Int × Int × Int × Int × Int × Bool × Int × Int × Int × Int × Bool × ByteArray × Int × Int × Int × Int × Int × Int × Bool × Int × Int × Int × Int × Bool × ByteArray × Int))) :=
 bif (decide (s.2.2.2.1 < 4)) then
  bif decide (0 ≤ s.2.2.2.1) && decide (s.2.2.2.1 < (4 : Int)) then
   bif (!([s.2.2.1.1, s.2.2.1.2.1, s.2.2.1.2.2.1, s.2.2.1.2.2.2].getD (s.2.2.2.1).toNat false)) then
    let v10 := IntKind.i64.wrap (3 + s.2.2.2.1)
    some (.inr (.inl ((v10, s.2.1, (0, 0, (0, 0, (0, false, (0, 0, (0, 0, (false, ByteArray.empty, 0))))))))))
   else
    bif decide (0 ≤ s.2.2.2.1) && decide (s.2.2.2.1 < (s.1.length : Int)) then
     let v11 := IntKind.i64.wrap (((s.1.getD (s.2.2.2.1).toNat ByteArray.empty).size : Int) + 1)
     let v12 := IntKind.i64.wrap (s.2.1 + v11)
     let v13 := IntKind.i64.wrap (s.2.2.2.1 + 1)
     some (.inl ((s.1, v12, (s.2.2.1, v13, s.2.2.2.2))))
    else none
  else none
 else
  some (.inr (.inr (s.2.2.2.2)))
def pat_impl_readHand_0 : Pat := { tmps := .any :: .any :: .ptr 128 0 :: .any :: .any :: .v (.slice .str) :: .ptr 384 0 :: .any :: .v (.int .i64) :: an 44 (.v (.st (.pair .bool (.pair .bool (.pair .bool .bool)))) :: .v (.int .i64) :: an 19 []), blks := [(384, .box [.v (.int .i64), .v (.int .i64), .v (.int .i64), .v (.int .i64), .v (.int .i64), .v .bool, .v (.int .i64), .v (.int .i64), .v (.int .i64), .v (.int .i64), .v .bool, .v .str, .v (.int .i64)]), (128, .box [.v (.int .i64), .v (.int .i64), .v (.int .i64), .v (.int .i64), .v (.int .i64), .v .bool, .v (.int .i64), .v (.int .i64), .v (.int .i64), .v (.int .i64), .v .bool, .v .str, .v (.int .i64)])] }
def outs_impl_readHand_0 : List (Exit × Pat) := [(.ret, { tmps := .any :: .any :: .ptr 128 0 :: .v (.int .i64) :: .v (.int .i64) :: an 69 [], blks := [(128, .box [.v (.int .i64), .v (.int .i64), .v (.int .i64), .v (.int .i64), .v (.int .i64), .v .bool, .v (.int .i64), .v (.int .i64), .v (.int .i64), .v (.int .i64), .v .bool, .v .str, .v (.int .i64)])] }), (.exit 0, { tmps := .any :: .any :: .ptr 128 0 :: .any :: .any :: .any :: .ptr 384 0 :: an 67 [], blks := [(384, .box [.v (.int .i64), .v (.int .i64), .v (.int .i64), .v (.int .i64), .v (.int .i64), .v .bool, .v (.int .i64), .v (.int .i64), .v (.int .i64), .v (.int .i64), .v .bool, .v .str, .v (.int .i64)]), (128, .box [.v (.int .i64), .v (.int .i64), .v (.int .i64), .v (.int .i64), .v (.int .i64), .v .bool, .v (.int .i64), .v (.int .i64), .v (.int .i64), .v (.int .i64), .v .bool, .v .str, .v (.int .i64)])] })]
noncomputable def F_impl_readHand (x : ByteArray) : Option (((Int × (Int × (Int × (Int × (Int × Bool))))) × ((Int × Int) × ((Int × (Int × Bool)) × (ByteArray × Int)))) × Int × Int) :=
 match F_strings_Split ((x, (⟨#[47]⟩ : ByteArray))) with
 | none => none
 | some y1 =>
  bif (((y1.length : Int) != 4)) then
   some ((((0, (0, 0, (0, 0, false))), (0, 0), ((0, 0, false), ByteArray.empty, 0)), 2, 0))
  else
   bif decide (0 ≤ 0) && decide (0 < (y1.length : Int)) then
    match F_impl_ParseShape ((y1.getD (0 : Int).toNat ByteArray.empty)) with
    | none => none
    | some y2 =>
     bif decide (0 ≤ 1) && decide (1 < (y1.length : Int)) then
      match F_impl_ParseOrient ((y1.getD (1 : Int).toNat ByteArray.empty)) with
      | none => none
      | some y3 =>
       bif decide (0 ≤ 2) && decide (2 < (y1.length : Int)) then
        match F_impl_ParsePlace ((y1.getD (2 : Int).toNat ByteArray.empty)) with
        | none => none
        | some y4 =>
         bif decide (0 ≤ 3) && decide (3 < (y1.length : Int)) then
          match F_impl_ParseMove ((y1.getD (3 : Int).toNat ByteArray.empty)) with
          | none => none
          | some y5 =>
           match runL step_impl_readHand_0 ((y1, (0, (y2.2, (y3.2, y4.2, y5.2)), (0, y2.1.1, (y2.1.2.1, y2.1.2.2.1, (y2.1.2.2.2.1, y2.1.2.2.2.2.1, (y2.1.2.2.2.2.2, y3.1.1, (y3.1.2, y4.1.1, (y4.1.2.1, y4.1.2.2, (y5.1.1, y5.1.2, (0, 0, (0, 0, (0, false, (0, 0, (0, 0, (false, ByteArray.empty, 0)))))))))))))))) with
           | none => none
           | some (.inl o14) =>
            some ((((o14.2.2.1, (o14.2.2.2.1, o14.2.2.2.2.1, (o14.2.2.2.2.2.1, o14.2.2.2.2.2.2.1, o14.2.2.2.2.2.2.2.1))), ((o14.2.2.2.2.2.2.2.2.1, o14.2.2.2.2.2.2.2.2.2.1), (o14.2.2.2.2.2.2.2.2.2.2.1, o14.2.2.2.2.2.2.2.2.2.2.2.1, o14.2.2.2.2.2.2.2.2.2.2.2.2.1), o14.2.2.2.2.2.2.2.2.2.2.2.2.2)), o14.1, o14.2.1))
           | some (.inr o14) =>
            some ((((o14.1, (o14.2.1, o14.2.2.1, (o14.2.2.2.1, o14.2.2.2.2.1, o14.2.2.2.2.2.1))), (o14.2.2.2.2.2.2.1, o14.2.2.2.2.2.2.2.1), ((o14.2.2.2.2.2.2.2.2.1, o14.2.2.2.2.2.2.2.2.2.1, o14.2.2.2.2.2.2.2.2.2.2.1), o14.2.2.2.2.2.2.2.2.2.2.2.1, o14.2.2.2.2.2.2.2.2.2.2.2.2.1)), 0, 0))
         else none
       else none
     else none
   else none
noncomputable def c_impl_readHand : Con := { ps := [(.val, .str)], rs := [(.val, (.st (.pair (.st (.pair (.int .i64) (.pair (.int .i64) (.pair (.int .i64) (.pair (.int .i64) (.pair (.int .i64) .bool)))))) (.pair (.st (.pair (.int .i64) (.int .i64))) (.pair (.st (.pair (.int .i64) (.pair (.int .i64) .bool))) (.st (.pair .str (.int .i64)))))))), (.val, (.int .i64)), (.val, (.int .i64))], F := F_impl_readHand }
noncomputable def env_impl_readHand : Env := { par := [], dp := false, settle := [], con := fun f => match f with | 106 => some c_impl_ParseShape | 107 => some c_impl_ParseOrient | 108 => some c_impl_ParsePlace | 110 => some c_impl_ParseMove | 164 => some c_strings_Split | _ => none, clo := fun _ => none, T := tinf Tryz.prog }
noncomputable def loops_impl_readHand : Nat → Option Loop := fun n => match n with | 12 => some { pat := pat_impl_readHand_0, outs := outs_impl_readHand_0, run := runL (step_impl_readHand_0) } | _ => none
theorem con_impl_readHand : ConOK Tryz.prog 103 c_impl_readHand := con_of_ev' (body := Tryz.f103.body.getD .skip) (Λ := loops_impl_readHand) mixed Tryz.func103 (by kernel_rfl) (by kernel_rfl) (envOK_of (E := env_impl_readHand) (fun f c h => by
  simp only [env_impl_readHand] at h
  split at h
  · cases h; exact con_impl_ParseShape
  · cases h; exact con_impl_ParseOrient
  · cases h; exact con_impl_ParsePlace
  · cases h; exact con_impl_ParseMove
  · cases h; exact con_strings_Split
  · cases h) (fun f c h => by cases h) rfl) (by kernel_rfl) (by kernel_rfl) (fun n L h => by
  unfold loops_impl_readHand at h
  split at h
  · cases h; exact fun s o ho => loop_ok (stepF := stepEv env_impl_readHand loops_impl_readHand pat_impl_readHand_0 outs_impl_readHand_0 Tryz.f103 12) (fun _ => by kernel_rfl) ho
  · cases h) (fun _ => by kernel_rfl)

noncomputable def F_impl_OldPlace (x : ByteArray) : Option ((Int × (Int × Bool)) × Bool) :=
 let v1 := mput (.str) (.str) (⟨#[98, 111, 100, 121]⟩ : ByteArray) (⟨#[99, 104, 101, 115, 116, 42]⟩ : ByteArray) []
 let v2 := mput (.str) (.str) (⟨#[102, 97, 99, 101]⟩ : ByteArray) (⟨#[109, 111, 117, 116, 104]⟩ : ByteArray) v1
 let v3 := mput (.str) (.str) (⟨#[98, 114, 111, 119]⟩ : ByteArray) (⟨#[101, 121, 101]⟩ : ByteArray) v2
 let v4 := mput (.str) (.str) (⟨#[97, 105, 114]⟩ : ByteArray) (⟨#[115, 112, 97, 99, 101]⟩ : ByteArray) v3
 let v5 := mget (.str) (.str) x v4 ((ByteArray.empty) : ByteArray)
 match F_impl_ParsePlace (v5) with
 | none => none
 | some y6 =>
  some (y6)
noncomputable def c_impl_OldPlace : Con := { ps := [(.val, .str)], rs := [(.val, (.st (.pair (.int .i64) (.pair (.int .i64) .bool)))), (.val, .bool)], F := F_impl_OldPlace }
noncomputable def env_impl_OldPlace : Env := { par := [], dp := false, settle := [], con := fun f => match f with | 108 => some c_impl_ParsePlace | _ => none, clo := fun _ => none, T := tinf Tryz.prog }
noncomputable def loops_impl_OldPlace : Nat → Option Loop := fun n => none
theorem con_impl_OldPlace : ConOK Tryz.prog 109 c_impl_OldPlace := con_of_ev' (body := Tryz.f109.body.getD .skip) (Λ := loops_impl_OldPlace) mixed Tryz.func109 (by kernel_rfl) (by kernel_rfl) (envOK_of (E := env_impl_OldPlace) (fun f c h => by
  simp only [env_impl_OldPlace] at h
  split at h
  · cases h; exact con_impl_ParsePlace
  · cases h) (fun f c h => by cases h) rfl) (by kernel_rfl) (by kernel_rfl) (fun n L h => by cases h) (fun _ => by kernel_rfl)

noncomputable def step_impl_imported_L (s : Int × Int × Int × Int × Int × Bool × Int × Int × Int × Int × Bool × ByteArray × Int × Int × Int × Int × Int × Int × Int × Bool × Int × Int × Int × Int × Bool × ByteArray × Int) (x : ByteArray) : Option ((Int × Int × Int × Int × Int × Bool × Int × Int × Int × Int × Bool × ByteArray × Int × Int × Int × Int × Int × Int × Int × Bool × Int × Int × Int × Int × Bool × ByteArray × Int) ⊕ (Int × Int × Int × Int × Int × Bool × Int × Int × Int × Int × Bool × ByteArray × Int × Int × Int × Int × Int × Int × Int × Bool × Int × Int × Int × Int × Bool × ByteArray × Int)) :=
 match F_strings_Cut ((x, (⟨#[61]⟩ : ByteArray))) with
 | none => none
 | some y1 =>
  bif (y1.1.toList == (⟨#[83]⟩ : ByteArray).toList) then
   match F_impl_ParseShape (y1.2.1) with
   | none => none
   | some y2 =>
    bif y2.2 then
     bif ((1 == 0)) then
      bif (!(x.toList == (⟨#[]⟩ : ByteArray).toList)) then
       let v3 := IntKind.i64.wrap ((BitVec.ofInt IntKind.i64.bits (s.2.2.2.2.2.2.2.2.2.2.2.2.2.1) ||| BitVec.ofInt IntKind.i64.bits (16)).toNat : Nat)
       some (.inl ((y2.1.1, y2.1.2.1, (y2.1.2.2.1, y2.1.2.2.2.1, (y2.1.2.2.2.2.1, y2.1.2.2.2.2.2, (s.2.2.2.2.2.2.1, s.2.2.2.2.2.2.2.1, (s.2.2.2.2.2.2.2.2.1, s.2.2.2.2.2.2.2.2.2.1, (s.2.2.2.2.2.2.2.2.2.2.1, s.2.2.2.2.2.2.2.2.2.2.2.1, (s.2.2.2.2.2.2.2.2.2.2.2.2.1, v3, s.2.2.2.2.2.2.2.2.2.2.2.2.2.2)))))))))
      else
       let v4 := IntKind.i64.wrap ((BitVec.ofInt IntKind.i64.bits (s.2.2.2.2.2.2.2.2.2.2.2.2.2.1) ||| BitVec.ofInt IntKind.i64.bits (1)).toNat : Nat)
       some (.inl ((y2.1.1, y2.1.2.1, (y2.1.2.2.1, y2.1.2.2.2.1, (y2.1.2.2.2.2.1, y2.1.2.2.2.2.2, (s.2.2.2.2.2.2.1, s.2.2.2.2.2.2.2.1, (s.2.2.2.2.2.2.2.2.1, s.2.2.2.2.2.2.2.2.2.1, (s.2.2.2.2.2.2.2.2.2.2.1, s.2.2.2.2.2.2.2.2.2.2.2.1, (s.2.2.2.2.2.2.2.2.2.2.2.2.1, v4, s.2.2.2.2.2.2.2.2.2.2.2.2.2.2)))))))))
     else
      let v5 := IntKind.i64.wrap ((BitVec.ofInt IntKind.i64.bits (s.2.2.2.2.2.2.2.2.2.2.2.2.2.1) ||| BitVec.ofInt IntKind.i64.bits (1)).toNat : Nat)
      some (.inl ((y2.1.1, y2.1.2.1, (y2.1.2.2.1, y2.1.2.2.2.1, (y2.1.2.2.2.2.1, y2.1.2.2.2.2.2, (s.2.2.2.2.2.2.1, s.2.2.2.2.2.2.2.1, (s.2.2.2.2.2.2.2.2.1, s.2.2.2.2.2.2.2.2.2.1, (s.2.2.2.2.2.2.2.2.2.2.1, s.2.2.2.2.2.2.2.2.2.2.2.1, (s.2.2.2.2.2.2.2.2.2.2.2.2.1, v5, s.2.2.2.2.2.2.2.2.2.2.2.2.2.2)))))))))
    else
     bif ((0 == 0)) then
      bif (!(x.toList == (⟨#[]⟩ : ByteArray).toList)) then
       let v6 := IntKind.i64.wrap ((BitVec.ofInt IntKind.i64.bits (s.2.2.2.2.2.2.2.2.2.2.2.2.2.1) ||| BitVec.ofInt IntKind.i64.bits (16)).toNat : Nat)
       some (.inl ((s.1, s.2.1, (s.2.2.1, s.2.2.2.1, (s.2.2.2.2.1, s.2.2.2.2.2.1, (s.2.2.2.2.2.2.1, s.2.2.2.2.2.2.2.1, (s.2.2.2.2.2.2.2.2.1, s.2.2.2.2.2.2.2.2.2.1, (s.2.2.2.2.2.2.2.2.2.2.1, s.2.2.2.2.2.2.2.2.2.2.2.1, (s.2.2.2.2.2.2.2.2.2.2.2.2.1, v6, s.2.2.2.2.2.2.2.2.2.2.2.2.2.2)))))))))
      else
       let v7 := IntKind.i64.wrap ((BitVec.ofInt IntKind.i64.bits (s.2.2.2.2.2.2.2.2.2.2.2.2.2.1) ||| BitVec.ofInt IntKind.i64.bits (0)).toNat : Nat)
       some (.inl ((s.1, s.2.1, (s.2.2.1, s.2.2.2.1, (s.2.2.2.2.1, s.2.2.2.2.2.1, (s.2.2.2.2.2.2.1, s.2.2.2.2.2.2.2.1, (s.2.2.2.2.2.2.2.2.1, s.2.2.2.2.2.2.2.2.2.1, (s.2.2.2.2.2.2.2.2.2.2.1, s.2.2.2.2.2.2.2.2.2.2.2.1, (s.2.2.2.2.2.2.2.2.2.2.2.2.1, v7, s.2.2.2.2.2.2.2.2.2.2.2.2.2.2)))))))))
     else
      let v8 := IntKind.i64.wrap ((BitVec.ofInt IntKind.i64.bits (s.2.2.2.2.2.2.2.2.2.2.2.2.2.1) ||| BitVec.ofInt IntKind.i64.bits (0)).toNat : Nat)
      some (.inl ((s.1, s.2.1, (s.2.2.1, s.2.2.2.1, (s.2.2.2.2.1, s.2.2.2.2.2.1, (s.2.2.2.2.2.2.1, s.2.2.2.2.2.2.2.1, (s.2.2.2.2.2.2.2.2.1, s.2.2.2.2.2.2.2.2.2.1, (s.2.2.2.2.2.2.2.2.2.2.1, s.2.2.2.2.2.2.2.2.2.2.2.1, (s.2.2.2.2.2.2.2.2.2.2.2.2.1, v8, s.2.2.2.2.2.2.2.2.2.2.2.2.2.2)))))))))
  else
   bif (y1.1.toList == (⟨#[79]⟩ : ByteArray).toList) then
    match F_impl_ParseOrient (y1.2.1) with
    | none => none
    | some y9 =>
     bif y9.2 then
      bif ((2 == 0)) then
       bif (!(x.toList == (⟨#[]⟩ : ByteArray).toList)) then
        let v10 := IntKind.i64.wrap ((BitVec.ofInt IntKind.i64.bits (s.2.2.2.2.2.2.2.2.2.2.2.2.2.1) ||| BitVec.ofInt IntKind.i64.bits (16)).toNat : Nat)
        some (.inl ((s.1, s.2.1, (s.2.2.1, s.2.2.2.1, (s.2.2.2.2.1, s.2.2.2.2.2.1, (y9.1.1, y9.1.2, (s.2.2.2.2.2.2.2.2.1, s.2.2.2.2.2.2.2.2.2.1, (s.2.2.2.2.2.2.2.2.2.2.1, s.2.2.2.2.2.2.2.2.2.2.2.1, (s.2.2.2.2.2.2.2.2.2.2.2.2.1, v10, s.2.2.2.2.2.2.2.2.2.2.2.2.2.2)))))))))
       else
        let v11 := IntKind.i64.wrap ((BitVec.ofInt IntKind.i64.bits (s.2.2.2.2.2.2.2.2.2.2.2.2.2.1) ||| BitVec.ofInt IntKind.i64.bits (2)).toNat : Nat)
        some (.inl ((s.1, s.2.1, (s.2.2.1, s.2.2.2.1, (s.2.2.2.2.1, s.2.2.2.2.2.1, (y9.1.1, y9.1.2, (s.2.2.2.2.2.2.2.2.1, s.2.2.2.2.2.2.2.2.2.1, (s.2.2.2.2.2.2.2.2.2.2.1, s.2.2.2.2.2.2.2.2.2.2.2.1, (s.2.2.2.2.2.2.2.2.2.2.2.2.1, v11, s.2.2.2.2.2.2.2.2.2.2.2.2.2.2)))))))))
      else
       let v12 := IntKind.i64.wrap ((BitVec.ofInt IntKind.i64.bits (s.2.2.2.2.2.2.2.2.2.2.2.2.2.1) ||| BitVec.ofInt IntKind.i64.bits (2)).toNat : Nat)
       some (.inl ((s.1, s.2.1, (s.2.2.1, s.2.2.2.1, (s.2.2.2.2.1, s.2.2.2.2.2.1, (y9.1.1, y9.1.2, (s.2.2.2.2.2.2.2.2.1, s.2.2.2.2.2.2.2.2.2.1, (s.2.2.2.2.2.2.2.2.2.2.1, s.2.2.2.2.2.2.2.2.2.2.2.1, (s.2.2.2.2.2.2.2.2.2.2.2.2.1, v12, s.2.2.2.2.2.2.2.2.2.2.2.2.2.2)))))))))
     else
      bif ((0 == 0)) then
       bif (!(x.toList == (⟨#[]⟩ : ByteArray).toList)) then
        let v13 := IntKind.i64.wrap ((BitVec.ofInt IntKind.i64.bits (s.2.2.2.2.2.2.2.2.2.2.2.2.2.1) ||| BitVec.ofInt IntKind.i64.bits (16)).toNat : Nat)
        some (.inl ((s.1, s.2.1, (s.2.2.1, s.2.2.2.1, (s.2.2.2.2.1, s.2.2.2.2.2.1, (s.2.2.2.2.2.2.1, s.2.2.2.2.2.2.2.1, (s.2.2.2.2.2.2.2.2.1, s.2.2.2.2.2.2.2.2.2.1, (s.2.2.2.2.2.2.2.2.2.2.1, s.2.2.2.2.2.2.2.2.2.2.2.1, (s.2.2.2.2.2.2.2.2.2.2.2.2.1, v13, s.2.2.2.2.2.2.2.2.2.2.2.2.2.2)))))))))
       else
        let v14 := IntKind.i64.wrap ((BitVec.ofInt IntKind.i64.bits (s.2.2.2.2.2.2.2.2.2.2.2.2.2.1) ||| BitVec.ofInt IntKind.i64.bits (0)).toNat : Nat)
        some (.inl ((s.1, s.2.1, (s.2.2.1, s.2.2.2.1, (s.2.2.2.2.1, s.2.2.2.2.2.1, (s.2.2.2.2.2.2.1, s.2.2.2.2.2.2.2.1, (s.2.2.2.2.2.2.2.2.1, s.2.2.2.2.2.2.2.2.2.1, (s.2.2.2.2.2.2.2.2.2.2.1, s.2.2.2.2.2.2.2.2.2.2.2.1, (s.2.2.2.2.2.2.2.2.2.2.2.2.1, v14, s.2.2.2.2.2.2.2.2.2.2.2.2.2.2)))))))))
      else
       let v15 := IntKind.i64.wrap ((BitVec.ofInt IntKind.i64.bits (s.2.2.2.2.2.2.2.2.2.2.2.2.2.1) ||| BitVec.ofInt IntKind.i64.bits (0)).toNat : Nat)
       some (.inl ((s.1, s.2.1, (s.2.2.1, s.2.2.2.1, (s.2.2.2.2.1, s.2.2.2.2.2.1, (s.2.2.2.2.2.2.1, s.2.2.2.2.2.2.2.1, (s.2.2.2.2.2.2.2.2.1, s.2.2.2.2.2.2.2.2.2.1, (s.2.2.2.2.2.2.2.2.2.2.1, s.2.2.2.2.2.2.2.2.2.2.2.1, (s.2.2.2.2.2.2.2.2.2.2.2.2.1, v15, s.2.2.2.2.2.2.2.2.2.2.2.2.2.2)))))))))
   else
    bif (y1.1.toList == (⟨#[80]⟩ : ByteArray).toList) then
     match F_impl_ParsePlace (y1.2.1) with
     | none => none
     | some y16 =>
      bif (!y16.2) then
       match F_impl_OldPlace (y1.2.1) with
       | none => none
       | some y17 =>
        bif y17.2 then
         bif ((4 == 0)) then
          bif (!(x.toList == (⟨#[]⟩ : ByteArray).toList)) then
           let v18 := IntKind.i64.wrap ((BitVec.ofInt IntKind.i64.bits (s.2.2.2.2.2.2.2.2.2.2.2.2.2.1) ||| BitVec.ofInt IntKind.i64.bits (16)).toNat : Nat)
           some (.inl ((s.1, s.2.1, (s.2.2.1, s.2.2.2.1, (s.2.2.2.2.1, s.2.2.2.2.2.1, (s.2.2.2.2.2.2.1, s.2.2.2.2.2.2.2.1, (y17.1.1, y17.1.2.1, (y17.1.2.2, s.2.2.2.2.2.2.2.2.2.2.2.1, (s.2.2.2.2.2.2.2.2.2.2.2.2.1, v18, s.2.2.2.2.2.2.2.2.2.2.2.2.2.2)))))))))
          else
           let v19 := IntKind.i64.wrap ((BitVec.ofInt IntKind.i64.bits (s.2.2.2.2.2.2.2.2.2.2.2.2.2.1) ||| BitVec.ofInt IntKind.i64.bits (4)).toNat : Nat)
           some (.inl ((s.1, s.2.1, (s.2.2.1, s.2.2.2.1, (s.2.2.2.2.1, s.2.2.2.2.2.1, (s.2.2.2.2.2.2.1, s.2.2.2.2.2.2.2.1, (y17.1.1, y17.1.2.1, (y17.1.2.2, s.2.2.2.2.2.2.2.2.2.2.2.1, (s.2.2.2.2.2.2.2.2.2.2.2.2.1, v19, s.2.2.2.2.2.2.2.2.2.2.2.2.2.2)))))))))
         else
          let v20 := IntKind.i64.wrap ((BitVec.ofInt IntKind.i64.bits (s.2.2.2.2.2.2.2.2.2.2.2.2.2.1) ||| BitVec.ofInt IntKind.i64.bits (4)).toNat : Nat)
          some (.inl ((s.1, s.2.1, (s.2.2.1, s.2.2.2.1, (s.2.2.2.2.1, s.2.2.2.2.2.1, (s.2.2.2.2.2.2.1, s.2.2.2.2.2.2.2.1, (y17.1.1, y17.1.2.1, (y17.1.2.2, s.2.2.2.2.2.2.2.2.2.2.2.1, (s.2.2.2.2.2.2.2.2.2.2.2.2.1, v20, s.2.2.2.2.2.2.2.2.2.2.2.2.2.2)))))))))
        else
         bif ((0 == 0)) then
          bif (!(x.toList == (⟨#[]⟩ : ByteArray).toList)) then
           let v21 := IntKind.i64.wrap ((BitVec.ofInt IntKind.i64.bits (s.2.2.2.2.2.2.2.2.2.2.2.2.2.1) ||| BitVec.ofInt IntKind.i64.bits (16)).toNat : Nat)
           some (.inl ((s.1, s.2.1, (s.2.2.1, s.2.2.2.1, (s.2.2.2.2.1, s.2.2.2.2.2.1, (s.2.2.2.2.2.2.1, s.2.2.2.2.2.2.2.1, (s.2.2.2.2.2.2.2.2.1, s.2.2.2.2.2.2.2.2.2.1, (s.2.2.2.2.2.2.2.2.2.2.1, s.2.2.2.2.2.2.2.2.2.2.2.1, (s.2.2.2.2.2.2.2.2.2.2.2.2.1, v21, s.2.2.2.2.2.2.2.2.2.2.2.2.2.2)))))))))
          else
           let v22 := IntKind.i64.wrap ((BitVec.ofInt IntKind.i64.bits (s.2.2.2.2.2.2.2.2.2.2.2.2.2.1) ||| BitVec.ofInt IntKind.i64.bits (0)).toNat : Nat)
           some (.inl ((s.1, s.2.1, (s.2.2.1, s.2.2.2.1, (s.2.2.2.2.1, s.2.2.2.2.2.1, (s.2.2.2.2.2.2.1, s.2.2.2.2.2.2.2.1, (s.2.2.2.2.2.2.2.2.1, s.2.2.2.2.2.2.2.2.2.1, (s.2.2.2.2.2.2.2.2.2.2.1, s.2.2.2.2.2.2.2.2.2.2.2.1, (s.2.2.2.2.2.2.2.2.2.2.2.2.1, v22, s.2.2.2.2.2.2.2.2.2.2.2.2.2.2)))))))))
         else
          let v23 := IntKind.i64.wrap ((BitVec.ofInt IntKind.i64.bits (s.2.2.2.2.2.2.2.2.2.2.2.2.2.1) ||| BitVec.ofInt IntKind.i64.bits (0)).toNat : Nat)
          some (.inl ((s.1, s.2.1, (s.2.2.1, s.2.2.2.1, (s.2.2.2.2.1, s.2.2.2.2.2.1, (s.2.2.2.2.2.2.1, s.2.2.2.2.2.2.2.1, (s.2.2.2.2.2.2.2.2.1, s.2.2.2.2.2.2.2.2.2.1, (s.2.2.2.2.2.2.2.2.2.2.1, s.2.2.2.2.2.2.2.2.2.2.2.1, (s.2.2.2.2.2.2.2.2.2.2.2.2.1, v23, s.2.2.2.2.2.2.2.2.2.2.2.2.2.2)))))))))
      else
       bif y16.2 then
        bif ((4 == 0)) then
         bif (!(x.toList == (⟨#[]⟩ : ByteArray).toList)) then
          let v24 := IntKind.i64.wrap ((BitVec.ofInt IntKind.i64.bits (s.2.2.2.2.2.2.2.2.2.2.2.2.2.1) ||| BitVec.ofInt IntKind.i64.bits (16)).toNat : Nat)
          some (.inl ((s.1, s.2.1, (s.2.2.1, s.2.2.2.1, (s.2.2.2.2.1, s.2.2.2.2.2.1, (s.2.2.2.2.2.2.1, s.2.2.2.2.2.2.2.1, (y16.1.1, y16.1.2.1, (y16.1.2.2, s.2.2.2.2.2.2.2.2.2.2.2.1, (s.2.2.2.2.2.2.2.2.2.2.2.2.1, v24, s.2.2.2.2.2.2.2.2.2.2.2.2.2.2)))))))))
         else
          let v25 := IntKind.i64.wrap ((BitVec.ofInt IntKind.i64.bits (s.2.2.2.2.2.2.2.2.2.2.2.2.2.1) ||| BitVec.ofInt IntKind.i64.bits (4)).toNat : Nat)
          some (.inl ((s.1, s.2.1, (s.2.2.1, s.2.2.2.1, (s.2.2.2.2.1, s.2.2.2.2.2.1, (s.2.2.2.2.2.2.1, s.2.2.2.2.2.2.2.1, (y16.1.1, y16.1.2.1, (y16.1.2.2, s.2.2.2.2.2.2.2.2.2.2.2.1, (s.2.2.2.2.2.2.2.2.2.2.2.2.1, v25, s.2.2.2.2.2.2.2.2.2.2.2.2.2.2)))))))))
        else
         let v26 := IntKind.i64.wrap ((BitVec.ofInt IntKind.i64.bits (s.2.2.2.2.2.2.2.2.2.2.2.2.2.1) ||| BitVec.ofInt IntKind.i64.bits (4)).toNat : Nat)
         some (.inl ((s.1, s.2.1, (s.2.2.1, s.2.2.2.1, (s.2.2.2.2.1, s.2.2.2.2.2.1, (s.2.2.2.2.2.2.1, s.2.2.2.2.2.2.2.1, (y16.1.1, y16.1.2.1, (y16.1.2.2, s.2.2.2.2.2.2.2.2.2.2.2.1, (s.2.2.2.2.2.2.2.2.2.2.2.2.1, v26, s.2.2.2.2.2.2.2.2.2.2.2.2.2.2)))))))))
       else
        bif ((0 == 0)) then
         bif (!(x.toList == (⟨#[]⟩ : ByteArray).toList)) then
          let v27 := IntKind.i64.wrap ((BitVec.ofInt IntKind.i64.bits (s.2.2.2.2.2.2.2.2.2.2.2.2.2.1) ||| BitVec.ofInt IntKind.i64.bits (16)).toNat : Nat)
          some (.inl ((s.1, s.2.1, (s.2.2.1, s.2.2.2.1, (s.2.2.2.2.1, s.2.2.2.2.2.1, (s.2.2.2.2.2.2.1, s.2.2.2.2.2.2.2.1, (s.2.2.2.2.2.2.2.2.1, s.2.2.2.2.2.2.2.2.2.1, (s.2.2.2.2.2.2.2.2.2.2.1, s.2.2.2.2.2.2.2.2.2.2.2.1, (s.2.2.2.2.2.2.2.2.2.2.2.2.1, v27, s.2.2.2.2.2.2.2.2.2.2.2.2.2.2)))))))))
         else
          let v28 := IntKind.i64.wrap ((BitVec.ofInt IntKind.i64.bits (s.2.2.2.2.2.2.2.2.2.2.2.2.2.1) ||| BitVec.ofInt IntKind.i64.bits (0)).toNat : Nat)
          some (.inl ((s.1, s.2.1, (s.2.2.1, s.2.2.2.1, (s.2.2.2.2.1, s.2.2.2.2.2.1, (s.2.2.2.2.2.2.1, s.2.2.2.2.2.2.2.1, (s.2.2.2.2.2.2.2.2.1, s.2.2.2.2.2.2.2.2.2.1, (s.2.2.2.2.2.2.2.2.2.2.1, s.2.2.2.2.2.2.2.2.2.2.2.1, (s.2.2.2.2.2.2.2.2.2.2.2.2.1, v28, s.2.2.2.2.2.2.2.2.2.2.2.2.2.2)))))))))
        else
         let v29 := IntKind.i64.wrap ((BitVec.ofInt IntKind.i64.bits (s.2.2.2.2.2.2.2.2.2.2.2.2.2.1) ||| BitVec.ofInt IntKind.i64.bits (0)).toNat : Nat)
         some (.inl ((s.1, s.2.1, (s.2.2.1, s.2.2.2.1, (s.2.2.2.2.1, s.2.2.2.2.2.1, (s.2.2.2.2.2.2.1, s.2.2.2.2.2.2.2.1, (s.2.2.2.2.2.2.2.2.1, s.2.2.2.2.2.2.2.2.2.1, (s.2.2.2.2.2.2.2.2.2.2.1, s.2.2.2.2.2.2.2.2.2.2.2.1, (s.2.2.2.2.2.2.2.2.2.2.2.2.1, v29, s.2.2.2.2.2.2.2.2.2.2.2.2.2.2)))))))))
    else
     bif (y1.1.toList == (⟨#[77]⟩ : ByteArray).toList) then
      match F_impl_ParseMove (y1.2.1) with
      | none => none
      | some y30 =>
       bif y30.2 then
        bif ((8 == 0)) then
         bif (!(x.toList == (⟨#[]⟩ : ByteArray).toList)) then
          let v31 := IntKind.i64.wrap ((BitVec.ofInt IntKind.i64.bits (s.2.2.2.2.2.2.2.2.2.2.2.2.2.1) ||| BitVec.ofInt IntKind.i64.bits (16)).toNat : Nat)
          some (.inl ((s.1, s.2.1, (s.2.2.1, s.2.2.2.1, (s.2.2.2.2.1, s.2.2.2.2.2.1, (s.2.2.2.2.2.2.1, s.2.2.2.2.2.2.2.1, (s.2.2.2.2.2.2.2.2.1, s.2.2.2.2.2.2.2.2.2.1, (s.2.2.2.2.2.2.2.2.2.2.1, y30.1.1, (y30.1.2, v31, s.2.2.2.2.2.2.2.2.2.2.2.2.2.2)))))))))
         else
          let v32 := IntKind.i64.wrap ((BitVec.ofInt IntKind.i64.bits (s.2.2.2.2.2.2.2.2.2.2.2.2.2.1) ||| BitVec.ofInt IntKind.i64.bits (8)).toNat : Nat)
          some (.inl ((s.1, s.2.1, (s.2.2.1, s.2.2.2.1, (s.2.2.2.2.1, s.2.2.2.2.2.1, (s.2.2.2.2.2.2.1, s.2.2.2.2.2.2.2.1, (s.2.2.2.2.2.2.2.2.1, s.2.2.2.2.2.2.2.2.2.1, (s.2.2.2.2.2.2.2.2.2.2.1, y30.1.1, (y30.1.2, v32, s.2.2.2.2.2.2.2.2.2.2.2.2.2.2)))))))))
        else
         let v33 := IntKind.i64.wrap ((BitVec.ofInt IntKind.i64.bits (s.2.2.2.2.2.2.2.2.2.2.2.2.2.1) ||| BitVec.ofInt IntKind.i64.bits (8)).toNat : Nat)
         some (.inl ((s.1, s.2.1, (s.2.2.1, s.2.2.2.1, (s.2.2.2.2.1, s.2.2.2.2.2.1, (s.2.2.2.2.2.2.1, s.2.2.2.2.2.2.2.1, (s.2.2.2.2.2.2.2.2.1, s.2.2.2.2.2.2.2.2.2.1, (s.2.2.2.2.2.2.2.2.2.2.1, y30.1.1, (y30.1.2, v33, s.2.2.2.2.2.2.2.2.2.2.2.2.2.2)))))))))
       else
        bif ((0 == 0)) then
         bif (!(x.toList == (⟨#[]⟩ : ByteArray).toList)) then
          let v34 := IntKind.i64.wrap ((BitVec.ofInt IntKind.i64.bits (s.2.2.2.2.2.2.2.2.2.2.2.2.2.1) ||| BitVec.ofInt IntKind.i64.bits (16)).toNat : Nat)
          some (.inl ((s.1, s.2.1, (s.2.2.1, s.2.2.2.1, (s.2.2.2.2.1, s.2.2.2.2.2.1, (s.2.2.2.2.2.2.1, s.2.2.2.2.2.2.2.1, (s.2.2.2.2.2.2.2.2.1, s.2.2.2.2.2.2.2.2.2.1, (s.2.2.2.2.2.2.2.2.2.2.1, s.2.2.2.2.2.2.2.2.2.2.2.1, (s.2.2.2.2.2.2.2.2.2.2.2.2.1, v34, s.2.2.2.2.2.2.2.2.2.2.2.2.2.2)))))))))
         else
          let v35 := IntKind.i64.wrap ((BitVec.ofInt IntKind.i64.bits (s.2.2.2.2.2.2.2.2.2.2.2.2.2.1) ||| BitVec.ofInt IntKind.i64.bits (0)).toNat : Nat)
          some (.inl ((s.1, s.2.1, (s.2.2.1, s.2.2.2.1, (s.2.2.2.2.1, s.2.2.2.2.2.1, (s.2.2.2.2.2.2.1, s.2.2.2.2.2.2.2.1, (s.2.2.2.2.2.2.2.2.1, s.2.2.2.2.2.2.2.2.2.1, (s.2.2.2.2.2.2.2.2.2.2.1, s.2.2.2.2.2.2.2.2.2.2.2.1, (s.2.2.2.2.2.2.2.2.2.2.2.2.1, v35, s.2.2.2.2.2.2.2.2.2.2.2.2.2.2)))))))))
        else
         let v36 := IntKind.i64.wrap ((BitVec.ofInt IntKind.i64.bits (s.2.2.2.2.2.2.2.2.2.2.2.2.2.1) ||| BitVec.ofInt IntKind.i64.bits (0)).toNat : Nat)
         some (.inl ((s.1, s.2.1, (s.2.2.1, s.2.2.2.1, (s.2.2.2.2.1, s.2.2.2.2.2.1, (s.2.2.2.2.2.2.1, s.2.2.2.2.2.2.2.1, (s.2.2.2.2.2.2.2.2.1, s.2.2.2.2.2.2.2.2.2.1, (s.2.2.2.2.2.2.2.2.2.2.1, s.2.2.2.2.2.2.2.2.2.2.2.1, (s.2.2.2.2.2.2.2.2.2.2.2.2.1, v36, s.2.2.2.2.2.2.2.2.2.2.2.2.2.2)))))))))
     else
      bif ((0 == 0)) then
       bif (!(x.toList == (⟨#[]⟩ : ByteArray).toList)) then
        let v37 := IntKind.i64.wrap ((BitVec.ofInt IntKind.i64.bits (s.2.2.2.2.2.2.2.2.2.2.2.2.2.1) ||| BitVec.ofInt IntKind.i64.bits (16)).toNat : Nat)
        some (.inl ((s.1, s.2.1, (s.2.2.1, s.2.2.2.1, (s.2.2.2.2.1, s.2.2.2.2.2.1, (s.2.2.2.2.2.2.1, s.2.2.2.2.2.2.2.1, (s.2.2.2.2.2.2.2.2.1, s.2.2.2.2.2.2.2.2.2.1, (s.2.2.2.2.2.2.2.2.2.2.1, s.2.2.2.2.2.2.2.2.2.2.2.1, (s.2.2.2.2.2.2.2.2.2.2.2.2.1, v37, s.2.2.2.2.2.2.2.2.2.2.2.2.2.2)))))))))
       else
        let v38 := IntKind.i64.wrap ((BitVec.ofInt IntKind.i64.bits (s.2.2.2.2.2.2.2.2.2.2.2.2.2.1) ||| BitVec.ofInt IntKind.i64.bits (0)).toNat : Nat)
        some (.inl ((s.1, s.2.1, (s.2.2.1, s.2.2.2.1, (s.2.2.2.2.1, s.2.2.2.2.2.1, (s.2.2.2.2.2.2.1, s.2.2.2.2.2.2.2.1, (s.2.2.2.2.2.2.2.2.1, s.2.2.2.2.2.2.2.2.2.1, (s.2.2.2.2.2.2.2.2.2.2.1, s.2.2.2.2.2.2.2.2.2.2.2.1, (s.2.2.2.2.2.2.2.2.2.2.2.2.1, v38, s.2.2.2.2.2.2.2.2.2.2.2.2.2.2)))))))))
      else
       let v39 := IntKind.i64.wrap ((BitVec.ofInt IntKind.i64.bits (s.2.2.2.2.2.2.2.2.2.2.2.2.2.1) ||| BitVec.ofInt IntKind.i64.bits (0)).toNat : Nat)
       some (.inl ((s.1, s.2.1, (s.2.2.1, s.2.2.2.1, (s.2.2.2.2.1, s.2.2.2.2.2.1, (s.2.2.2.2.2.2.1, s.2.2.2.2.2.2.2.1, (s.2.2.2.2.2.2.2.2.1, s.2.2.2.2.2.2.2.2.2.1, (s.2.2.2.2.2.2.2.2.2.2.1, s.2.2.2.2.2.2.2.2.2.2.2.1, (s.2.2.2.2.2.2.2.2.2.2.2.2.1, v39, s.2.2.2.2.2.2.2.2.2.2.2.2.2.2)))))))))
def pat_impl_imported_L : Pat := { tmps := .any :: .any :: .ptr 190 0 :: .any :: .ptr 62 0 :: .any :: .any :: .ptr 126 0 :: an 86 [], blks := [(62, .box [.v (.int .i64), .v (.int .i64), .v (.int .i64), .v (.int .i64), .v (.int .i64), .v .bool, .v (.int .i64), .v (.int .i64), .v (.int .i64), .v (.int .i64), .v .bool, .v .str, .v (.int .i64)]), (126, .box [.v (.int .i64)]), (190, .box [.v (.int .i64), .v (.int .i64), .v (.int .i64), .v (.int .i64), .v (.int .i64), .v .bool, .v (.int .i64), .v (.int .i64), .v (.int .i64), .v (.int .i64), .v .bool, .v .str, .v (.int .i64)])] }
noncomputable def env_impl_imported : Env := { par := [62, 126, 190], dp := false, settle := [], con := fun f => match f with | 103 => some c_impl_readHand | 105 => some c_strings_Cut | 106 => some c_impl_ParseShape | 107 => some c_impl_ParseOrient | 108 => some c_impl_ParsePlace | 109 => some c_impl_OldPlace | 110 => some c_impl_ParseMove | _ => none, clo := fun _ => none, T := tinf Tryz.prog }
noncomputable def body_impl_imported : Code := rfBody (Tryz.f65.body.getD .skip)
theorem step_impl_imported_L_eq (s : Int × Int × Int × Int × Int × Bool × Int × Int × Int × Int × Bool × ByteArray × Int × Int × Int × Int × Int × Int × Int × Bool × Int × Int × Int × Int × Bool × ByteArray × Int) (x : ByteArray) : ev env_impl_imported (fun _ => none) body_impl_imported (((pat_impl_imported_L.enc s).set 28 (.c (.str x))).set 8 (.c (.str x))) (kstep pat_impl_imported_L [(.exit 0, pat_impl_imported_L)]) = step_impl_imported_L s x := by kernel_rfl
theorem env_impl_imported_ok : EnvOK Tryz.prog env_impl_imported := envOK_of (fun f c h => by
  simp only [env_impl_imported] at h
  split at h
  · cases h; exact con_impl_readHand
  · cases h; exact con_strings_Cut
  · cases h; exact con_impl_ParseShape
  · cases h; exact con_impl_ParseOrient
  · cases h; exact con_impl_ParsePlace
  · cases h; exact con_impl_OldPlace
  · cases h; exact con_impl_ParseMove
  · cases h) (fun f c h => by cases h) rfl
noncomputable def start_impl_imported (x : ByteArray) : Option (ByteArray × (Int × Int × Int × Int × Int × Bool × Int × Int × Int × Int × Bool × ByteArray × Int × Int × Int × Int × Int × Int × Int × Bool × Int × Int × Int × Int × Bool × ByteArray × Int)) :=
 match F_impl_readHand ((⟨#[48, 48, 48, 48, 48, 47, 102, 117, 47, 115, 112, 97, 99, 101, 47, 45]⟩ : ByteArray)) with
 | none => none
 | some y1 =>
  some ((x, (y1.1.1.1, y1.1.1.2.1, (y1.1.1.2.2.1, y1.1.1.2.2.2.1, (y1.1.1.2.2.2.2.1, y1.1.1.2.2.2.2.2, (y1.1.2.1.1, y1.1.2.1.2, (y1.1.2.2.1.1, y1.1.2.2.1.2.1, (y1.1.2.2.1.2.2, y1.1.2.2.2.1, (y1.1.2.2.2.2, 0, (0, 0, (0, 0, (0, false, (0, 0, (0, 0, (false, ByteArray.empty, 0)))))))))))))))
def pat_impl_imported_S : Pat := { tmps := .v .str :: .any :: .ptr 128 0 :: .any :: .ptr 256 0 :: .any :: .any :: .ptr 448 0 :: an 86 [], blks := [(256, .box [.v (.int .i64), .v (.int .i64), .v (.int .i64), .v (.int .i64), .v (.int .i64), .v .bool, .v (.int .i64), .v (.int .i64), .v (.int .i64), .v (.int .i64), .v .bool, .v .str, .v (.int .i64)]), (448, .box [.v (.int .i64)]), (128, .box [.v (.int .i64), .v (.int .i64), .v (.int .i64), .v (.int .i64), .v (.int .i64), .v .bool, .v (.int .i64), .v (.int .i64), .v (.int .i64), .v (.int .i64), .v .bool, .v .str, .v (.int .i64)])] }
noncomputable def whole_impl_imported : Code := Tryz.f65.body.getD .skip
theorem start_impl_imported_eq (x : ByteArray) : ev env_impl_imported (fun _ => none) (codeAt 0 whole_impl_imported) (initSt [(.val, .str)] 94 x) (kN fun σ => ev env_impl_imported (fun _ => none) (codeAt 1 whole_impl_imported) σ (kN fun σ => ev env_impl_imported (fun _ => none) (codeAt 2 whole_impl_imported) σ (kN fun σ => (pat_impl_imported_S).dec σ))) = start_impl_imported x := by kernel_rfl
noncomputable def end_impl_imported (s : Int × Int × Int × Int × Int × Bool × Int × Int × Int × Int × Bool × ByteArray × Int × Int × Int × Int × Int × Int × Int × Bool × Int × Int × Int × Int × Bool × ByteArray × Int) : Option (Int × Int × Int × Int × Int × Int × Bool × Int × Int × Int × Int × Bool × ByteArray × Int × Int × Int × Int × Int × Int × Int × Bool × Int × Int × Int × Int × Bool × ByteArray × Int) :=
 bif (s.2.2.2.2.2.2.2.2.2.2.2.2.2.1 == s.2.2.2.2.2.2.2.2.2.2.2.2.2.1) then
  some ((s.2.2.2.2.2.2.2.2.2.2.2.2.2.1, (s.1, s.2.1, (s.2.2.1, s.2.2.2.1, (s.2.2.2.2.1, s.2.2.2.2.2.1, (s.2.2.2.2.2.2.1, s.2.2.2.2.2.2.2.1, (s.2.2.2.2.2.2.2.2.1, s.2.2.2.2.2.2.2.2.2.1, (s.2.2.2.2.2.2.2.2.2.2.1, s.2.2.2.2.2.2.2.2.2.2.2.1, (s.2.2.2.2.2.2.2.2.2.2.2.2.1, s.2.2.2.2.2.2.2.2.2.2.2.2.2.1, (s.1, s.2.1, (s.2.2.1, s.2.2.2.1, (s.2.2.2.2.1, s.2.2.2.2.2.1, (s.2.2.2.2.2.2.1, s.2.2.2.2.2.2.2.1, (s.2.2.2.2.2.2.2.2.1, s.2.2.2.2.2.2.2.2.2.1, (s.2.2.2.2.2.2.2.2.2.2.1, s.2.2.2.2.2.2.2.2.2.2.2.1, s.2.2.2.2.2.2.2.2.2.2.2.2.1)))))))))))))))
 else none
def pat_impl_imported_E : Pat := { tmps := .any :: .any :: .ptr 190 0 :: .v (.int .i64) :: .ptr 62 0 :: .any :: .any :: .ptr 126 0 :: an 86 [], blks := [(62, .box [.v (.int .i64), .v (.int .i64), .v (.int .i64), .v (.int .i64), .v (.int .i64), .v .bool, .v (.int .i64), .v (.int .i64), .v (.int .i64), .v (.int .i64), .v .bool, .v .str, .v (.int .i64)]), (126, .box [.v (.int .i64)]), (190, .box [.v (.int .i64), .v (.int .i64), .v (.int .i64), .v (.int .i64), .v (.int .i64), .v .bool, .v (.int .i64), .v (.int .i64), .v (.int .i64), .v (.int .i64), .v .bool, .v .str, .v (.int .i64)])] }
noncomputable def rs_impl_imported : List (PK × Ty) := [(.val, (.st (.pair (.st (.pair (.int .i64) (.pair (.int .i64) (.pair (.int .i64) (.pair (.int .i64) (.pair (.int .i64) .bool)))))) (.pair (.st (.pair (.int .i64) (.int .i64))) (.pair (.st (.pair (.int .i64) (.pair (.int .i64) .bool))) (.st (.pair .str (.int .i64)))))))), (.val, (.int .i64))]
theorem end_impl_imported_eq (s : Int × Int × Int × Int × Int × Bool × Int × Int × Int × Int × Bool × ByteArray × Int × Int × Int × Int × Int × Int × Int × Bool × Int × Int × Int × Int × Bool × ByteArray × Int) : ev env_impl_imported (fun _ => none) (codeAt 4 whole_impl_imported) (pat_impl_imported_L.enc s) (kN fun σ => pat_impl_imported_E.dec σ) = end_impl_imported s := by kernel_rfl
noncomputable def out_impl_imported (s : Int × Int × Int × Int × Int × Int × Bool × Int × Int × Int × Int × Bool × ByteArray × Int × Int × Int × Int × Int × Int × Int × Bool × Int × Int × Int × Int × Bool × ByteArray × Int) : ((Int × (Int × (Int × (Int × (Int × Bool))))) × ((Int × Int) × ((Int × (Int × Bool)) × (ByteArray × Int)))) × Int := (((s.2.2.2.2.2.2.2.2.2.2.2.2.2.2.2.1, (s.2.2.2.2.2.2.2.2.2.2.2.2.2.2.2.2.1, s.2.2.2.2.2.2.2.2.2.2.2.2.2.2.2.2.2.1, (s.2.2.2.2.2.2.2.2.2.2.2.2.2.2.2.2.2.2.1, s.2.2.2.2.2.2.2.2.2.2.2.2.2.2.2.2.2.2.2.1, s.2.2.2.2.2.2.2.2.2.2.2.2.2.2.2.2.2.2.2.2.1))), ((s.2.2.2.2.2.2.2.2.2.2.2.2.2.2.2.2.2.2.2.2.2.1, s.2.2.2.2.2.2.2.2.2.2.2.2.2.2.2.2.2.2.2.2.2.2.1), (s.2.2.2.2.2.2.2.2.2.2.2.2.2.2.2.2.2.2.2.2.2.2.2.1, s.2.2.2.2.2.2.2.2.2.2.2.2.2.2.2.2.2.2.2.2.2.2.2.2.1, s.2.2.2.2.2.2.2.2.2.2.2.2.2.2.2.2.2.2.2.2.2.2.2.2.2.1), s.2.2.2.2.2.2.2.2.2.2.2.2.2.2.2.2.2.2.2.2.2.2.2.2.2.2)), s.1)
theorem out_impl_imported_eq (s : Int × Int × Int × Int × Int × Int × Bool × Int × Int × Int × Int × Bool × ByteArray × Int × Int × Int × Int × Int × Int × Int × Bool × Int × Int × Int × Int × Bool × ByteArray × Int) : plainEnd env_impl_imported Tryz.f65 rs_impl_imported (pat_impl_imported_E.enc s) = some (out_impl_imported s) := by kernel_rfl
open Go.RowKit in
set_option maxHeartbeats 1000000 in
theorem calls_strings_splitSeq (s : ByteArray) (w : World) : Calls Tryz.prog 165 #[.string s, .string ⟨#[59]⟩, .int .i64 0] w fun e w' => e = .returned (.func (.func 218) #[] #[.pointer (some ⟨w.heap.size + 1, 0, none⟩), .pointer (some ⟨w.heap.size, 0, none⟩), .pointer (some ⟨w.heap.size + 2, 0, none⟩)]) ∧
    w' = ((w.alloc (.cells #[.string s] 9)).alloc (.cells #[.string ⟨#[59]⟩] 9)).alloc (.cells #[.int .i64 0] 3) := by
  go_enter Tryz.func165, Tryz.ntmps165
  go_wp2
  go_ret
  exact ⟨rfl, rfl⟩
open Go.RowKit in
set_option maxHeartbeats 1000000 in
theorem calls_strings_SplitSeq (s : ByteArray) (w : World) : Calls Tryz.prog 104 #[.string s, .string ⟨#[59]⟩] w fun e w' => e = .returned (.func (.func 218) #[] #[.pointer (some ⟨w.heap.size + 1, 0, none⟩), .pointer (some ⟨w.heap.size, 0, none⟩), .pointer (some ⟨w.heap.size + 2, 0, none⟩)]) ∧
    w' = ((w.alloc (.cells #[.string s] 9)).alloc (.cells #[.string ⟨#[59]⟩] 9)).alloc (.cells #[.int .i64 0] 3) := by
  refine (callsIn_wide (n := 3)).1 ?_
  refine callsIn_of_wp (F := Fence.wide) Tryz.func104 rfl trivial ?_ rfl
  simp only [Tryz.ntmps104, List.size_toArray, List.length_cons, List.length_nil, Nat.reduceAdd, Nat.reduceSub, Array.replicate_succ, Array.replicate_zero, List.push_toArray, List.append_toArray, List.nil_append, List.cons_append]
  gi_wp2_with (refine ⟨trivial, ?_⟩; refine (callsIn_wide.2 (calls_strings_splitSeq _ _)).mono ?_; rintro e w' ⟨rfl, hw⟩; rw [hw])
  refine bodyPost_ret (results_tmp rfl _ _ _) rfl ?_
  exact ⟨rfl, rfl⟩
noncomputable def F_impl_imported (x : ByteArray) : Option (((Int × (Int × (Int × (Int × (Int × Bool))))) × ((Int × Int) × ((Int × (Int × Bool)) × (ByteArray × Int)))) × Int) :=
  bif decide (x.size ≤ 1048576) then
    match start_impl_imported x with
    | none => none
    | some q => bif decide (q.1.size ≤ 1048576) then
      match foldL step_impl_imported_L q.2 (splOf 59 q.1) with
      | some (.inl s) => match end_impl_imported s with | none => none | some z => some (out_impl_imported z)
      | _ => none
      else none
  else none
def Post_impl_imported (w : World) (y : ((Int × (Int × (Int × (Int × (Int × Bool))))) × ((Int × Int) × ((Int × (Int × Bool)) × (ByteArray × Int)))) × Int) (e : Ending) (w' : World) : Prop := ∃ v vs, e = .returned v ∧ Tupled vs v ∧ vs = valsL rs_impl_imported y ∧ (∀ w' Z F, Holds Tryz.prog w' Z F rs_impl_imported vs y) ∧ Fr NoB w w'
open Go.RowKit in
set_option maxHeartbeats 8000000 in
set_option maxRecDepth 1000000 in
theorem calls_impl_imported (x : ByteArray) (w : World) (y : ((Int × (Int × (Int × (Int × (Int × Bool))))) × ((Int × Int) × ((Int × (Int × Bool)) × (ByteArray × Int)))) × Int) (hF : F_impl_imported x = some y) (ht : Tabs Tryz.prog w) :
    Calls Tryz.prog 65 #[.string x] w fun e w' => Post_impl_imported w y e w' := by
  unfold F_impl_imported at hF
  obtain ⟨hg, hF⟩ := bif_none hF
  cases hs : start_impl_imported x with
  | none => rw [hs] at hF; cases hF
  | some q =>
  rw [hs] at hF
  obtain ⟨hg2, hF⟩ := bif_none hF
  have hq := of_decide_eq_true hg2
  cases hfold : foldL step_impl_imported_L q.2 (splOf 59 q.1) with
  | none => rw [hfold] at hF; cases hF
  | some r =>
  rw [hfold] at hF
  cases r with
  | inr s => cases hF
  | inl s =>
  have hF : (match end_impl_imported s with | none => none | some z => some (out_impl_imported z)) = some y := hF
  cases hend : end_impl_imported s with
  | none => rw [hend] at hF; cases hF
  | some z =>
  rw [hend] at hF
  obtain rfl : out_impl_imported z = y := Option.some.inj hF
  refine (callsIn_wide (n := 3)).1 ?_
  refine callsIn_of_wp_marks (F := Fence.wide) Tryz.func65 rfl trivial ?_ rfl
  obtain ⟨B0, hP, hw0, hR, hio, hpar, hX⟩ : ∃ B : Base, B.P = Tryz.prog ∧ B.w0 = w ∧ B.R = NoB ∧ (∀ n, B.io n = none) ∧ env_impl_imported.par = B.par ∧ ∀ b, ¬ B.X0 b :=
    ⟨{ P := Tryz.prog, Z0 := fun _ => True, X0 := NoB, w0 := w, par := [62, 126, 190], R := NoB, io := fun _ => none, iok := (fun _ _ h => by cases h), parok := (fun n h => by simp at h; omega), tabs := ht, x0 := fun _ h => h.elim }, rfl, rfl, rfl, fun _ => rfl, rfl, fun _ h => h⟩
  have hE : EnvOK B0.P env_impl_imported := hP ▸ env_impl_imported_ok
  have hmx : B0.P.follows .mixedOrders = true := hP ▸ mixed
  have hA0 := relA_str (B := B0) hR hio (94 - 1) x
  rw [hw0] at hA0
  have hP' : Tryz.prog = B0.P := hP.symm
  rw [hP']
  refine wpIn_seq (wpIn_wide.2 (ev_sound (E := env_impl_imported) (Λ := fun _ => none) hmx hE hpar hR _ (by trivial) _ _ _ _ _ _ hA0 ((start_impl_imported_eq x).trans hs) fun e σ1 a1 w1 hk1 hA1 => ?_))
  obtain ⟨rfl, hk1⟩ := kN_some hk1
  refine then_normal (wpIn_seq (wpIn_wide.2 (ev_sound (E := env_impl_imported) (Λ := fun _ => none) hmx hE hpar hR _ (by trivial) _ _ _ _ _ _ hA1 hk1 fun e σ2 a2 w2 hk2 hA2 => ?_)))
  obtain ⟨rfl, hk2⟩ := kN_some hk2
  refine then_normal (wpIn_seq (wpIn_wide.2 (ev_sound (E := env_impl_imported) (Λ := fun _ => none) hmx hE hpar hR _ (by trivial) _ _ _ _ _ _ hA2 hk2 fun e σ3 a3 w3 hk3 hA3 => ?_)))
  obtain ⟨rfl, hk3⟩ := kN_some hk3
  refine then_normal ?_
  rw [hP]
  obtain ⟨hd3, H3, φ3, hr3⟩ := hA3
  obtain ⟨H, φ, hr⟩ := dec_ok hr3 hk3
  have hsz3 : a3.tmps.size = 94 := by
    have h1 : (encT pat_impl_imported_S.tmps (Dn.toL pat_impl_imported_S.tys q)).1.length = a3.tmps.toList.length := hr.tmp.length
    rw [(encT_at _ _).1] at h1
    have h2 : pat_impl_imported_S.tmps.length = 94 := by kernel_rfl
    rw [h2] at h1
    simpa using h1.symm
  have hfr3 : Fr NoB w w3 := by
    have := hr.mem.fr
    rw [hw0] at this
    exact ⟨this.os, this.tape, this.output, this.size, fun b hb _ => this.block b hb (hX b), this.glob⟩
  have ht3 := hfr3.tabs ht
  have hbel3 : Below w.heap.size w w3 := ⟨hfr3.os, hfr3.tape, hfr3.output, hfr3.size, fun k hk => hfr3.block k hk (fun f => f)⟩
  obtain ⟨v0, hv0, hx0⟩ := All2.get hr.tmp 0 (.c (.str q.1)) rfl
  obtain rfl : v0 = .string q.1 := hx0
  have hx0 : a3.tmps[0]? = some (.string q.1) := by simpa using hv0
  obtain ⟨b4, u4, e4, p4, m4, f4, r4⟩ := hr.boxAt (t := 4) rfl rfl
  obtain ⟨b7, u7, e7, p7, m7, f7, r7⟩ := hr.boxAt (t := 7) rfl rfl
  obtain ⟨b2, u2, e2, p2, m2, f2, r2⟩ := hr.boxAt (t := 2) rfl rfl
  have lo : ∀ n b, φ n b → w.heap.size ≤ b := fun n b hb => by
    rcases (hr.mem.fsub n b hb).1 with ⟨_, hx⟩ | h
    · exact absurd hx (hX b)
    · rw [hw0] at h; exact h
  have n47 : b4 ≠ b7 := fun e => by subst e; exact hr.mem.fdis _ _ (by decide) _ f4 f7
  have n42 : b4 ≠ b2 := fun e => by subst e; exact hr.mem.fdis _ _ (by decide) _ f4 f2
  have n72 : b7 ≠ b2 := fun e => by subst e; exact hr.mem.fdis _ _ (by decide) _ f7 f2
  have lt4 := (hr.mem.fsub _ _ f4).2
  have lt7 := (hr.mem.fsub _ _ f7).2
  have lt2 := (hr.mem.fsub _ _ f2).2
  refine wpIn_seq (wpIn_seq (wpIn_wide.2 (wp_region_list ?_)))
  show wpList _ _ _ [_, _] _ _
  unfold wpList
  rw [if_pos (show Region.wanted _ _ = true from rfl)]
  refine .inl (wp_val (v := a3.tmps.getD 0 undef) (w' := w3) rfl ?_)
  have hg0 : a3.tmps.getD 0 undef = .string q.1 := by rw [Array.getD_eq_getD_getElem?, hx0]; rfl
  rw [hg0]
  unfold wpList
  rw [if_pos (show Region.wanted _ _ = true from rfl)]
  refine .inl (wp_enter (run_call_value (g := 104) (vs := #[]) rfl rfl ⟨Tryz.f104, Tryz.func104, by kernel_rfl, by kernel_rfl⟩) ?_)
  have hargs : (Array.map (a3.put (some 26) (Value.string q.1)).eval #[Operand.tmp 26, Operand.const (Value.string { data := #[59] })] ++ #[]) = #[.string q.1, .string ⟨#[59]⟩] := by
    have hg2 : (a3.put (some 26) (Value.string q.1)).eval (.tmp 26) = .string q.1 := by
      show (a3.tmps.setIfInBounds 26 (.string q.1)).getD 26 undef = _
      rw [Array.getD_eq_getD_getElem?, Array.getElem?_setIfInBounds_self_of_lt (by omega)]; rfl
    simp only [List.map_toArray, List.map_cons, List.map_nil, Array.append_empty, hg2]
    rfl
  refine ((congrArg (fun z => Calls Tryz.prog 104 z w3 _) hargs).mpr (Calls.mono (calls_strings_SplitSeq q.1 w3) ?_))
  rintro e W1 ⟨rfl, hW1⟩
  refine ⟨_, rfl, ?_⟩
  show Exit.then _ _ .normal _ _
  refine then_normal ?_
  obtain ⟨a5, ha5⟩ : ∃ a5, ((a3.put (some 26) (Value.string q.1)).put (some 27) (.func (.func 218) #[] #[.pointer (some ⟨w3.heap.size + 1, 0, none⟩), .pointer (some ⟨w3.heap.size, 0, none⟩), .pointer (some ⟨w3.heap.size + 2, 0, none⟩)])) = a5 := ⟨_, rfl⟩
  show Code.wpIn _ _ _ _ _ ((a3.put (some 26) (Value.string q.1)).put (some 27) (.func (.func 218) #[] #[.pointer (some ⟨w3.heap.size + 1, 0, none⟩), .pointer (some ⟨w3.heap.size, 0, none⟩), .pointer (some ⟨w3.heap.size + 2, 0, none⟩)])) W1
  rw [ha5]
  have hd5 : a5.defers = [] := by rw [← ha5]; exact hd3
  have hs5 : a5.tmps.size = 94 := by rw [← ha5]; show ((a3.tmps.setIfInBounds _ _).setIfInBounds _ _).size = _; simp [hsz3]
  have hk5 : ∀ t, t ≠ 26 → t ≠ 27 → a5.tmps[t]? = a3.tmps[t]? := fun t h1 h2 => by
    rw [← ha5]
    show ((a3.tmps.setIfInBounds 26 _).setIfInBounds 27 _)[t]? = _
    rw [Array.getElem?_setIfInBounds_ne (Ne.symm h2), Array.getElem?_setIfInBounds_ne (Ne.symm h1)]
  have hg5 : a5.eval (.tmp 27) = .func (.func 218) #[] #[.pointer (some ⟨w3.heap.size + 1, 0, none⟩), .pointer (some ⟨w3.heap.size, 0, none⟩), .pointer (some ⟨w3.heap.size + 2, 0, none⟩)] := by
    rw [← ha5]
    show ((a3.tmps.setIfInBounds 26 _).setIfInBounds 27 _).getD 27 undef = _
    rw [Array.getD_eq_getD_getElem?, Array.getElem?_setIfInBounds_self_of_lt (by simp [hsz3])]; rfl
  have old : ∀ k, k < w3.heap.size → W1.heap[k]? = w3.heap[k]? := fun k hk => by
    rw [hW1]; exact (Below.heap_alloc _ _ _ (by simp; omega)).trans ((Below.heap_alloc _ _ _ (by simp; omega)).trans (Below.heap_alloc _ _ _ hk))
  have hs1 : W1.heap.size = w3.heap.size + 3 := by rw [hW1]; simp
  have hbs : W1.heap[w3.heap.size]? = some (.cells #[.string q.1] 9 (0, 0)) := by
    rw [hW1]; exact (Below.heap_alloc _ _ _ (by simp; omega)).trans ((Below.heap_alloc _ _ _ (by simp)).trans (World.alloc_heap_new w3 _))
  have hbp : W1.heap[w3.heap.size + 1]? = some (.cells #[.string ⟨#[59]⟩] 9 (0, 0)) := by
    rw [hW1]
    refine (Below.heap_alloc _ _ _ (by simp)).trans ?_
    have := World.alloc_heap_new (w3.alloc (.cells #[.string q.1] 9)) (.cells #[.string ⟨#[59]⟩] 9); rwa [World.size_alloc] at this
  have hbq : W1.heap[w3.heap.size + 2]? = some (.cells #[.int .i64 0] 3 (0, 0)) := by
    rw [hW1]
    have := World.alloc_heap_new ((w3.alloc (.cells #[.string q.1] 9)).alloc (.cells #[.string ⟨#[59]⟩] 9)) (.cells #[.int .i64 0] 3); rwa [World.size_alloc, World.size_alloc] at this
  have hb1 : Below w.heap.size w3 W1 := ⟨by rw [hW1]; rfl, by rw [hW1]; rfl, by rw [hW1]; rfl, by omega, fun k hk => old k (by have := hbel3.size; omega)⟩
  have hb13 : Below w.heap.size w W1 := hbel3.trans hb1
  have ht1 : Tabs Tryz.prog W1 := (fr_of_below hb13).tabs ht
  have hszw : w.heap.size ≤ w3.heap.size := hbel3.size
  obtain ⟨Sp, hSp⟩ : ∃ Sp : Nat → Prop, ∀ b, Sp b ↔ ((b = w3.heap.size ∨ b = w3.heap.size + 1 ∨ b = w3.heap.size + 2) ∨ b = W1.heap.size ∨ b = W1.heap.size + 1) := ⟨_, fun _ => Iff.rfl⟩
  have nSp : ∀ b, b < w3.heap.size → ¬ Sp b := fun b hb h => by have := (hSp b).1 h; omega
  have hLM : LM Tryz.prog [62, 126, 190] Sp w.heap.size (pat_impl_imported_L.enc q.2) a5.tmps W1 :=
    lm_box3 (k := 94) ht1 ht.2.1 ((old _ lt4).trans m4) (fun C => cells_free (by rfl) r4) ⟨lo _ _ f4, nSp _ lt4⟩ ((hk5 4 (by decide) (by decide)).trans p4)
      ((old _ lt7).trans m7) (fun C => cells_free (by rfl) r7) ⟨lo _ _ f7, nSp _ lt7⟩ ((hk5 7 (by decide) (by decide)).trans p7)
      ((old _ lt2).trans m2) (fun C => cells_free (by rfl) r2) ⟨lo _ _ f2, nSp _ lt2⟩ ((hk5 2 (by decide) (by decide)).trans p2) n47 n42 n72 hs5 rfl rfl
  refine wpIn_block ?_
  refine wp_iter (E := env_impl_imported) (Λ := fun _ => none) (par := [62, 126, 190]) (T := [30, 31, 29, 32, 33, 34, 9, 10, 11, 12, 35, 37, 36, 39, 40, 38, 41, 42, 13, 14, 43, 44, 45, 47, 46, 49, 50, 48, 51, 52, 15, 16, 53, 54, 55, 57, 56, 59, 60, 58, 61, 62, 17, 18, 63, 64, 66, 67, 65, 68, 69, 70, 71, 72, 74, 73, 76, 77, 75, 78, 79, 19, 20, 80, 81, 82, 83, 84, 85, 86, 87, 88, 89, 90, 91]) (pat := pat_impl_imported_L) (body := body_impl_imported) (n₀ := w.heap.size) (stp := step_impl_imported_L) (S := fun b => b = w3.heap.size ∨ b = w3.heap.size + 1 ∨ b = w3.heap.size + 2)
    mixed env_impl_imported_ok rfl (by kernel_rfl) (by kernel_rfl) (by kernel_rfl) (fun l n a W K h => assign_ok h)
    (split_ok (bs := w3.heap.size) (bp := w3.heap.size + 1) (bq := w3.heap.size + 2) (by omega) (by omega) (text := q.1) (by omega)) (fun A C hsm hI => ⟨(hsm _ (.inl rfl)).trans hI.1, (hsm _ (.inr (.inl rfl))).trans hI.2.1, (hsm _ (.inr (.inr rfl))).trans hI.2.2⟩)
    (enters_of Tryz.func218 (by kernel_rfl) rfl) hd5 hs5 (by rw [hs5]; decide) hg5 (fun b hb => by omega) ⟨hbs, hbp, hbq⟩ ht.2.1 (fun b hb => by omega) (by omega)
    (fun s x r h => (step_impl_imported_L_eq s x).trans h) hSp hLM hfold ?_
  intro s' W' hbel hLM' hD hlt1
  refine ⟨fun hr' => ?_, fun hr' => by cases hr'⟩
  obtain rfl : s = s' := Sum.inl.inj hr'
  refine then_normal (Q := fun _ _ _ => True) ?_
  obtain ⟨B, H', φ', hP1, hpr1, hR1, hio1, hw1, hZ1, hX1, hr1⟩ := hLM'.ex
  have hE1 : EnvOK B.P env_impl_imported := hP1 ▸ env_impl_imported_ok
  have hm1 : B.P.follows .mixedOrders = true := hP1 ▸ mixed
  refine wpIn_seq (wpIn_wide.2 ?_)
  have hA1 : RelA B (pat_impl_imported_L.enc s) { a5 with defers := [] } W' := ⟨rfl, H', φ', hr1⟩
  have fin : ∀ (σ' : St) (a0 : Act) (W6 : World), (kN fun σ => (pat_impl_imported_E).dec σ) .normal σ' = some z → RelA B σ' a0 W6 →
      bodyPostM Fence.wide 3 Tryz.prog Tryz.f65 (fun e w' => Post_impl_imported w (out_impl_imported z) e w') .ret (wd [{ target := .collected W1.heap.size, args := #[] }] a0) W6 := by
    rintro σ' a0 W6 hk6 ⟨hd6, H6, φ6, hr6⟩
    obtain ⟨_, hk6⟩ := kN_some hk6
    obtain ⟨H7, φ7, hr7⟩ := dec_ok hr6 hk6
    have hfr : Fr B.X0 W' W6 := hw1 ▸ hr7.mem.fr
    have nX : ∀ b, Sp b → ¬ B.X0 b := fun b hb hx => (hX1 b hx).2 hb
    have hspk : Sp W1.heap.size := (hSp _).2 (.inr (.inl rfl))
    have hlt : W1.heap.size < W'.heap.size := (Array.getElem?_eq_some_iff.1 hD).1
    have hD6 : W6.heap[W1.heap.size]? = some (.deferred (some [])) := (hfr.block _ hlt (nX _ hspk)).trans hD
    show LeavesInM Fence.wide 3 Tryz.prog Tryz.f65 a0.tmps _ (a0.defers ++ [{ target := .collected W1.heap.size, args := #[] }]) .returning W6
    rw [hd6]
    refine ⟨by simp, .inl ⟨_, _, rfl, run_takeDeferred hD6, ?_⟩⟩
    have ho : ∀ k, k ≠ W1.heap.size → (W6.putObj (W1.heap.size) (.deferred none)).heap[k]? = W6.heap[k]? := fun k hk => World.putObj_heap_other hk
    have hb6 : Below w.heap.size W' W6 := ⟨hfr.os, hfr.tape, hfr.output, hfr.size, fun k hk => hfr.block k (by omega) fun hx => by have := (hX1 k hx).1; omega⟩
    have hLM7 : LM Tryz.prog [62, 126, 190] Sp w.heap.size (pat_impl_imported_E.enc z) a0.tmps (W6.putObj (W1.heap.size) (.deferred none)) :=
      LM.next hP1 hpr1 hR1 hw1 hZ1 hX1 hr7 (fun b hb => by
        have h := (hSp b).1 hb
        exact ⟨by omega, by omega⟩) ht.2.1 (by have := hbel.size; omega) (fun n hn => enc_par (pat := pat_impl_imported_E) (by kernel_rfl) z hn) (by simp) (fun b _ hb => ho b fun e => hb (e ▸ hspk))
    obtain ⟨B7, H8, φ8, hP8, _, _, _, _, _, _, hr8⟩ := hLM7.ex
    have hE8 : EnvOK B7.P env_impl_imported := hP8 ▸ env_impl_imported_ok
    obtain ⟨v, vs, hv, htup, hvs, hh⟩ := plainEnd_ok (a := a0) hE8 hr8 (rs := rs_impl_imported) (by kernel_rfl) (out_impl_imported_eq z)
    rw [hP8] at hv hh
    refine ⟨v, hv, ?_⟩
    show Post_impl_imported _ _ _ _
    exact ⟨v, vs, rfl, htup, hvs, hh, fr_of_below ((hb13.trans (hbel.trans hb6)).trans ⟨rfl, rfl, rfl, by simp, fun k hk => ho k (by omega)⟩)⟩
  have key := ev_region_wd (B := B) (E := env_impl_imported) (Λ := fun _ => none) (Q := Exit.then (Code.wpIn Fence.wide 3 Tryz.prog Code.ret (bodyPostM Fence.wide 3 Tryz.prog Tryz.f65 fun e w' => Post_impl_imported w (out_impl_imported z) e w')) (bodyPostM Fence.wide 3 Tryz.prog Tryz.f65 fun e w' => Post_impl_imported w (out_impl_imported z) e w')) hm1 hE1 (hpr1 ▸ rfl) hR1 [{ target := .collected W1.heap.size, args := #[] }] hA1 ((end_impl_imported_eq s).trans hend)
    (fun σ' a0 W6 hk6 hA6 => then_normal (wpIn_ret (fin σ' a0 W6 hk6 hA6)))
  rw [hP1] at key
  have e5 : wd [{ target := .collected W1.heap.size, args := #[] }] { a5 with defers := [] } = { a5 with defers := [{ target := .collected W1.heap.size, args := #[] }] } := rfl
  exact key
noncomputable def c_impl_imported : Con := { ps := [(.val, .str)], rs := rs_impl_imported, F := F_impl_imported }
theorem con_impl_imported : ConOK Tryz.prog 65 c_impl_imported := by
  refine ⟨⟨Tryz.f65, Tryz.func65, by kernel_rfl, by kernel_rfl⟩, fun w Z X vals x y hy _ _ hold ht _ => ?_⟩
  rw [holds_valsL [(.val, .str)] X vals x rfl hold]
  refine (calls_impl_imported x w y hy ht).mono ?_
  rintro e' w' ⟨v, vs, rfl, htup, hvs, hh, hfr⟩
  refine ⟨_, vs, NoB, NoB, rfl, htup, (by rw [hvs]; exact valsL_length _ _), hfr.le, fun _ f => f.elim, fun _ f => f.elim, fun _ f => f.elim, holds_nil rfl _, hh _ _ _⟩

noncomputable def F_impl_IsHand (x : ((Int × (Int × (Int × (Int × (Int × Bool))))) × ((Int × Int) × ((Int × (Int × Bool)) × (ByteArray × Int))))) : Option (Bool) :=
 match F_impl_IsShape (x.1) with
 | none => none
 | some y1 =>
  bif y1 then
   match F_impl_IsOrient (x.2.1) with
   | none => none
   | some y2 =>
    bif y2 then
     match F_impl_IsPlace (x.2.2.1) with
     | none => none
     | some y3 =>
      bif y3 then
       match F_impl_IsMove (x.2.2.2) with
       | none => none
       | some y4 =>
        some (y4)
      else
       some (false)
    else
     some (false)
  else
   some (false)
noncomputable def c_impl_IsHand : Con := { ps := [(.val, (.st (.pair (.st (.pair (.int .i64) (.pair (.int .i64) (.pair (.int .i64) (.pair (.int .i64) (.pair (.int .i64) .bool)))))) (.pair (.st (.pair (.int .i64) (.int .i64))) (.pair (.st (.pair (.int .i64) (.pair (.int .i64) .bool))) (.st (.pair .str (.int .i64))))))))], rs := [(.val, .bool)], F := F_impl_IsHand }
noncomputable def env_impl_IsHand : Env := { par := [], dp := false, settle := [], con := fun f => match f with | 133 => some c_impl_IsShape | 134 => some c_impl_IsOrient | 135 => some c_impl_IsPlace | 136 => some c_impl_IsMove | _ => none, clo := fun _ => none, T := tinf Tryz.prog }
noncomputable def loops_impl_IsHand : Nat → Option Loop := fun n => none
theorem con_impl_IsHand : ConOK Tryz.prog 87 c_impl_IsHand := con_of_ev' (body := Tryz.f87.body.getD .skip) (Λ := loops_impl_IsHand) mixed Tryz.func87 (by kernel_rfl) (by kernel_rfl) (envOK_of (E := env_impl_IsHand) (fun f c h => by
  simp only [env_impl_IsHand] at h
  split at h
  · cases h; exact con_impl_IsShape
  · cases h; exact con_impl_IsOrient
  · cases h; exact con_impl_IsPlace
  · cases h; exact con_impl_IsMove
  · cases h) (fun f c h => by cases h) rfl) (by kernel_rfl) (by kernel_rfl) (fun n L h => by cases h) (fun _ => by kernel_rfl)

noncomputable def F_impl_OneHand (x : ((Int × (Int × (Int × (Int × (Int × Bool))))) × ((Int × Int) × ((Int × (Int × Bool)) × (ByteArray × Int))))) : Option ((((Int × (Int × (Int × (Int × (Int × Bool))))) × ((Int × Int) × ((Int × (Int × Bool)) × (ByteArray × Int)))) × (Bool × ((Int × (Int × (Int × (Int × (Int × Bool))))) × ((Int × Int) × ((Int × (Int × Bool)) × (ByteArray × Int)))))) × Bool) :=
 match F_impl_IsHand (x) with
 | none => none
 | some y1 =>
  bif (!y1) then
   some (((((0, (0, 0, (0, 0, false))), (0, 0), ((0, 0, false), ByteArray.empty, 0)), false, ((0, (0, 0, (0, 0, false))), (0, 0), ((0, 0, false), ByteArray.empty, 0))), false))
  else
   some (((x, false, ((0, (0, 0, (0, 0, false))), (0, 0), ((0, 0, false), ByteArray.empty, 0))), true))
noncomputable def c_impl_OneHand : Con := { ps := [(.val, (.st (.pair (.st (.pair (.int .i64) (.pair (.int .i64) (.pair (.int .i64) (.pair (.int .i64) (.pair (.int .i64) .bool)))))) (.pair (.st (.pair (.int .i64) (.int .i64))) (.pair (.st (.pair (.int .i64) (.pair (.int .i64) .bool))) (.st (.pair .str (.int .i64))))))))], rs := [(.val, (.st (.pair (.st (.pair (.st (.pair (.int .i64) (.pair (.int .i64) (.pair (.int .i64) (.pair (.int .i64) (.pair (.int .i64) .bool)))))) (.pair (.st (.pair (.int .i64) (.int .i64))) (.pair (.st (.pair (.int .i64) (.pair (.int .i64) .bool))) (.st (.pair .str (.int .i64))))))) (.pair .bool (.st (.pair (.st (.pair (.int .i64) (.pair (.int .i64) (.pair (.int .i64) (.pair (.int .i64) (.pair (.int .i64) .bool)))))) (.pair (.st (.pair (.int .i64) (.int .i64))) (.pair (.st (.pair (.int .i64) (.pair (.int .i64) .bool))) (.st (.pair .str (.int .i64))))))))))), (.val, .bool)], F := F_impl_OneHand }
noncomputable def env_impl_OneHand : Env := { par := [], dp := false, settle := [], con := fun f => match f with | 87 => some c_impl_IsHand | _ => none, clo := fun _ => none, T := tinf Tryz.prog }
noncomputable def loops_impl_OneHand : Nat → Option Loop := fun n => none
theorem con_impl_OneHand : ConOK Tryz.prog 66 c_impl_OneHand := con_of_ev' (body := Tryz.f66.body.getD .skip) (Λ := loops_impl_OneHand) mixed Tryz.func66 (by kernel_rfl) (by kernel_rfl) (envOK_of (E := env_impl_OneHand) (fun f c h => by
  simp only [env_impl_OneHand] at h
  split at h
  · cases h; exact con_impl_IsHand
  · cases h) (fun f c h => by cases h) rfl) (by kernel_rfl) (by kernel_rfl) (fun n L h => by cases h) (fun _ => by kernel_rfl)

noncomputable def F_impl_Hand_moves (x : ((Int × (Int × (Int × (Int × (Int × Bool))))) × ((Int × Int) × ((Int × (Int × Bool)) × (ByteArray × Int))))) : Option (Bool) :=
 some ((!(x.2.2.2.1.toList == (⟨#[]⟩ : ByteArray).toList)))
noncomputable def c_impl_Hand_moves : Con := { ps := [(.val, (.st (.pair (.st (.pair (.int .i64) (.pair (.int .i64) (.pair (.int .i64) (.pair (.int .i64) (.pair (.int .i64) .bool)))))) (.pair (.st (.pair (.int .i64) (.int .i64))) (.pair (.st (.pair (.int .i64) (.pair (.int .i64) .bool))) (.st (.pair .str (.int .i64))))))))], rs := [(.val, .bool)], F := F_impl_Hand_moves }
noncomputable def env_impl_Hand_moves : Env := { par := [], dp := false, settle := [], con := fun _ => none, clo := fun _ => none, T := tinf Tryz.prog }
noncomputable def loops_impl_Hand_moves : Nat → Option Loop := fun n => none
theorem con_impl_Hand_moves : ConOK Tryz.prog 90 c_impl_Hand_moves := con_of_ev' (body := Tryz.f90.body.getD .skip) (Λ := loops_impl_Hand_moves) mixed Tryz.func90 (by kernel_rfl) (by kernel_rfl) (envOK_of (E := env_impl_Hand_moves) (fun f c h => by cases h) (fun f c h => by cases h) rfl) (by kernel_rfl) (by kernel_rfl) (fun n L h => by cases h) (fun _ => by kernel_rfl)

noncomputable def step_impl_PlainShapes_0 (s : Int × Int × (List ByteArray) × (List (Int × (Int × (Int × (Int × (Int × Bool))))))) : Option ((Int × Int × (List ByteArray) × (List (Int × (Int × (Int × (Int × (Int × Bool))))))) ⊕ (((List (Int × (Int × (Int × (Int × (Int × Bool))))))))) :=
 bif (decide (s.2.1 < s.1)) then
  bif decide (0 ≤ s.2.1) && decide (s.2.1 < (s.2.2.1.length : Int)) then
   match F_impl_ParseShape ((s.2.2.1.getD (s.2.1).toNat ByteArray.empty)) with
   | none => none
   | some y6 =>
    bif decide ((s.2.2.2.length + [y6.1].length) * 48 ≤ 140737488355328) then
     let v7 := s.2.2.2 ++ [y6.1]
     let v8 := IntKind.i64.wrap (s.2.1 + 1)
     some (.inl ((s.1, (v8, s.2.2.1, v7))))
    else none
  else none
 else
  some (.inr (s.2.2.2))
def pat_impl_PlainShapes_0 : Pat := { tmps := .any :: .own 1280 :: an 4 (.own 384 :: .v (.int .i64) :: .v (.int .i64) :: an 14 []), blks := [(384, .row true .str), (1280, .row true (.st (.pair (.int .i64) (.pair (.int .i64) (.pair (.int .i64) (.pair (.int .i64) (.pair (.int .i64) .bool)))))))] }
def outs_impl_PlainShapes_0 : List (Exit × Pat) := [(.exit 0, { tmps := .any :: .own 1280 :: an 21 [], blks := [(1280, .row true (.st (.pair (.int .i64) (.pair (.int .i64) (.pair (.int .i64) (.pair (.int .i64) (.pair (.int .i64) .bool)))))))] })]
noncomputable def F_impl_PlainShapes (x : Unit) : Option ((List (Int × (Int × (Int × (Int × (Int × Bool))))))) :=
 match runL step_impl_PlainShapes_0 ((([(⟨#[48, 48, 48, 48, 48]⟩ : ByteArray), (⟨#[48, 48, 48, 48, 48, 115]⟩ : ByteArray), (⟨#[50, 50, 50, 50, 50]⟩ : ByteArray), (⟨#[49, 48, 48, 48, 48]⟩ : ByteArray), (⟨#[49, 48, 50, 50, 50]⟩ : ByteArray), (⟨#[48, 48, 50, 50, 50]⟩ : ByteArray)].length : Int), (0, [(⟨#[48, 48, 48, 48, 48]⟩ : ByteArray), (⟨#[48, 48, 48, 48, 48, 115]⟩ : ByteArray), (⟨#[50, 50, 50, 50, 50]⟩ : ByteArray), (⟨#[49, 48, 48, 48, 48]⟩ : ByteArray), (⟨#[49, 48, 50, 50, 50]⟩ : ByteArray), (⟨#[48, 48, 50, 50, 50]⟩ : ByteArray)], []))) with
 | none => none
 | some o9 =>
  some (o9)
noncomputable def c_impl_PlainShapes : Con := { ps := [], rs := [(.io true, (.slice (.st (.pair (.int .i64) (.pair (.int .i64) (.pair (.int .i64) (.pair (.int .i64) (.pair (.int .i64) .bool))))))))], F := F_impl_PlainShapes }
noncomputable def env_impl_PlainShapes : Env := { par := [], dp := false, settle := [], con := fun f => match f with | 106 => some c_impl_ParseShape | _ => none, clo := fun _ => none, T := tinf Tryz.prog }
noncomputable def loops_impl_PlainShapes : Nat → Option Loop := fun n => match n with | 3 => some { pat := pat_impl_PlainShapes_0, outs := outs_impl_PlainShapes_0, run := runL (step_impl_PlainShapes_0) } | _ => none
theorem con_impl_PlainShapes : ConOK Tryz.prog 138 c_impl_PlainShapes := con_of_ev' (body := Tryz.f138.body.getD .skip) (Λ := loops_impl_PlainShapes) mixed Tryz.func138 (by kernel_rfl) (by kernel_rfl) (envOK_of (E := env_impl_PlainShapes) (fun f c h => by
  simp only [env_impl_PlainShapes] at h
  split at h
  · cases h; exact con_impl_ParseShape
  · cases h) (fun f c h => by cases h) rfl) (by kernel_rfl) (by kernel_rfl) (fun n L h => by
  unfold loops_impl_PlainShapes at h
  split at h
  · cases h; exact fun s o ho => loop_ok (stepF := stepEv env_impl_PlainShapes loops_impl_PlainShapes pat_impl_PlainShapes_0 outs_impl_PlainShapes_0 Tryz.f138 3) (fun _ => by kernel_rfl) ho
  · cases h) (fun _ => by kernel_rfl)

noncomputable def step_slices_Index_impl_Shape_impl_Shape_0 (s : (List (Int × (Int × (Int × (Int × (Int × Bool)))))) × Int × Int × Int × Int × Int × Int × Int × Bool) : Option (((List (Int × (Int × (Int × (Int × (Int × Bool)))))) × Int × Int × Int × Int × Int × Int × Int × Bool) ⊕ ((Int) ⊕ (Unit))) :=
 bif (decide (s.2.2.1 < s.2.1)) then
  bif decide (0 ≤ s.2.2.1) && decide (s.2.2.1 < (s.1.length : Int)) then
   bif ((s.2.2.2.1 == (s.1.getD (s.2.2.1).toNat (0, (0, 0, (0, 0, false)))).1) && ((s.2.2.2.2.1 == (s.1.getD (s.2.2.1).toNat (0, (0, 0, (0, 0, false)))).2.1) && ((s.2.2.2.2.2.1 == (s.1.getD (s.2.2.1).toNat (0, (0, 0, (0, 0, false)))).2.2.1) && ((s.2.2.2.2.2.2.1 == (s.1.getD (s.2.2.1).toNat (0, (0, 0, (0, 0, false)))).2.2.2.1) && ((s.2.2.2.2.2.2.2.1 == (s.1.getD (s.2.2.1).toNat (0, (0, 0, (0, 0, false)))).2.2.2.2.1) && ((s.2.2.2.2.2.2.2.2 == (s.1.getD (s.2.2.1).toNat (0, (0, 0, (0, 0, false)))).2.2.2.2.2) && true)))))) then
    some (.inr (.inl (s.2.2.1)))
   else
    let v2 := IntKind.i64.wrap (s.2.2.1 + 1)
    some (.inl ((s.1, (s.2.1, v2, s.2.2.2))))
  else none
 else
  some (.inr (.inr (())))
def pat_slices_Index_impl_Shape_impl_Shape_0 : Pat := { tmps := .v (.slice (.st (.pair (.int .i64) (.pair (.int .i64) (.pair (.int .i64) (.pair (.int .i64) (.pair (.int .i64) .bool))))))) :: .any :: .any :: .ptr 192 0 :: .any :: .any :: .any :: .v (.int .i64) :: .v (.int .i64) :: an 10 [], blks := [(192, .box [.v (.int .i64), .v (.int .i64), .v (.int .i64), .v (.int .i64), .v (.int .i64), .v .bool])] }
def outs_slices_Index_impl_Shape_impl_Shape_0 : List (Exit × Pat) := [(.ret, { tmps := an 4 (.v (.int .i64) :: an 14 []), blks := [] }), (.exit 0, { tmps := an 19 [], blks := [] })]
noncomputable def F_slices_Index_impl_Shape_impl_Shape (x : (List (Int × (Int × (Int × (Int × (Int × Bool)))))) × (Int × (Int × (Int × (Int × (Int × Bool)))))) : Option (Int) :=
 match runL step_slices_Index_impl_Shape_impl_Shape_0 ((x.1, ((x.1.length : Int), 0, x.2))) with
 | none => none
 | some (.inl o3) =>
  some (o3)
 | some (.inr o3) =>
  some ((-1))
noncomputable def c_slices_Index_impl_Shape_impl_Shape : Con := { ps := [(.val, (.slice (.st (.pair (.int .i64) (.pair (.int .i64) (.pair (.int .i64) (.pair (.int .i64) (.pair (.int .i64) .bool)))))))), (.val, (.st (.pair (.int .i64) (.pair (.int .i64) (.pair (.int .i64) (.pair (.int .i64) (.pair (.int .i64) .bool)))))))], rs := [(.val, (.int .i64))], F := F_slices_Index_impl_Shape_impl_Shape }
noncomputable def env_slices_Index_impl_Shape_impl_Shape : Env := { par := [], dp := false, settle := [], con := fun _ => none, clo := fun _ => none, T := tinf Tryz.prog }
noncomputable def loops_slices_Index_impl_Shape_impl_Shape : Nat → Option Loop := fun n => match n with | 2 => some { pat := pat_slices_Index_impl_Shape_impl_Shape_0, outs := outs_slices_Index_impl_Shape_impl_Shape_0, run := runL (step_slices_Index_impl_Shape_impl_Shape_0) } | _ => none
theorem con_slices_Index_impl_Shape_impl_Shape : ConOK Tryz.prog 196 c_slices_Index_impl_Shape_impl_Shape := con_of_ev' (body := Tryz.f196.body.getD .skip) (Λ := loops_slices_Index_impl_Shape_impl_Shape) mixed Tryz.func196 (by kernel_rfl) (by kernel_rfl) (envOK_of (E := env_slices_Index_impl_Shape_impl_Shape) (fun f c h => by cases h) (fun f c h => by cases h) rfl) (by kernel_rfl) (by kernel_rfl) (fun n L h => by
  unfold loops_slices_Index_impl_Shape_impl_Shape at h
  split at h
  · cases h; exact fun s o ho => loop_ok (stepF := stepEv env_slices_Index_impl_Shape_impl_Shape loops_slices_Index_impl_Shape_impl_Shape pat_slices_Index_impl_Shape_impl_Shape_0 outs_slices_Index_impl_Shape_impl_Shape_0 Tryz.f196 2) (fun _ => by kernel_rfl) ho
  · cases h) (fun _ => by kernel_rfl)

noncomputable def F_slices_Contains_impl_Shape_impl_Shape (x : (List (Int × (Int × (Int × (Int × (Int × Bool)))))) × (Int × (Int × (Int × (Int × (Int × Bool)))))) : Option (Bool) :=
 match F_slices_Index_impl_Shape_impl_Shape (x) with
 | none => none
 | some y1 =>
  some ((decide (y1 ≥ 0)))
noncomputable def c_slices_Contains_impl_Shape_impl_Shape : Con := { ps := [(.val, (.slice (.st (.pair (.int .i64) (.pair (.int .i64) (.pair (.int .i64) (.pair (.int .i64) (.pair (.int .i64) .bool)))))))), (.val, (.st (.pair (.int .i64) (.pair (.int .i64) (.pair (.int .i64) (.pair (.int .i64) (.pair (.int .i64) .bool)))))))], rs := [(.val, .bool)], F := F_slices_Contains_impl_Shape_impl_Shape }
noncomputable def env_slices_Contains_impl_Shape_impl_Shape : Env := { par := [], dp := false, settle := [], con := fun f => match f with | 196 => some c_slices_Index_impl_Shape_impl_Shape | _ => none, clo := fun _ => none, T := tinf Tryz.prog }
noncomputable def loops_slices_Contains_impl_Shape_impl_Shape : Nat → Option Loop := fun n => none
theorem con_slices_Contains_impl_Shape_impl_Shape : ConOK Tryz.prog 137 c_slices_Contains_impl_Shape_impl_Shape := con_of_ev' (body := Tryz.f137.body.getD .skip) (Λ := loops_slices_Contains_impl_Shape_impl_Shape) mixed Tryz.func137 (by kernel_rfl) (by kernel_rfl) (envOK_of (E := env_slices_Contains_impl_Shape_impl_Shape) (fun f c h => by
  simp only [env_slices_Contains_impl_Shape_impl_Shape] at h
  split at h
  · cases h; exact con_slices_Index_impl_Shape_impl_Shape
  · cases h) (fun f c h => by cases h) rfl) (by kernel_rfl) (by kernel_rfl) (fun n L h => by cases h) (fun _ => by kernel_rfl)

noncomputable def F_impl_Orient_mirrored_1 (x : Int) : Option (Int) :=
 bif ((x == 2)) then
  let v1 := IntKind.i64.wrap ((BitVec.ofInt IntKind.i64.bits (x) ^^^ BitVec.ofInt IntKind.i64.bits (1)).toNat : Nat)
  some (v1)
 else
  bif ((x == 3)) then
   let v2 := IntKind.i64.wrap ((BitVec.ofInt IntKind.i64.bits (x) ^^^ BitVec.ofInt IntKind.i64.bits (1)).toNat : Nat)
   some (v2)
  else
   some (x)
noncomputable def c_impl_Orient_mirrored_1 : Con := { ps := [(.val, (.int .i64))], rs := [(.val, (.int .i64))], F := F_impl_Orient_mirrored_1 }
noncomputable def env_impl_Orient_mirrored_1 : Env := { par := [], dp := false, settle := [], con := fun _ => none, clo := fun _ => none, T := tinf Tryz.prog }
noncomputable def loops_impl_Orient_mirrored_1 : Nat → Option Loop := fun n => none
theorem con_impl_Orient_mirrored_1 : ConOK Tryz.prog 197 c_impl_Orient_mirrored_1 := con_of_ev' (body := Tryz.f197.body.getD .skip) (Λ := loops_impl_Orient_mirrored_1) mixed Tryz.func197 (by kernel_rfl) (by kernel_rfl) (envOK_of (E := env_impl_Orient_mirrored_1) (fun f c h => by cases h) (fun f c h => by cases h) rfl) (by kernel_rfl) (by kernel_rfl) (fun n L h => by cases h) (fun _ => by kernel_rfl)

noncomputable def F_impl_Orient_mirrored (x : (Int × Int)) : Option ((Int × Int)) :=
 match F_impl_Orient_mirrored_1 (x.1) with
 | none => none
 | some y1 =>
  match F_impl_Orient_mirrored_1 (x.2) with
  | none => none
  | some y2 =>
   some ((y1, y2))
noncomputable def c_impl_Orient_mirrored : Con := { ps := [(.val, (.st (.pair (.int .i64) (.int .i64))))], rs := [(.val, (.st (.pair (.int .i64) (.int .i64))))], F := F_impl_Orient_mirrored }
noncomputable def env_impl_Orient_mirrored : Env := { par := [], dp := false, settle := [], con := fun f => match f with | 197 => some c_impl_Orient_mirrored_1 | _ => none, clo := fun _ => none, T := tinf Tryz.prog }
noncomputable def loops_impl_Orient_mirrored : Nat → Option Loop := fun n => none
theorem con_impl_Orient_mirrored : ConOK Tryz.prog 139 c_impl_Orient_mirrored := con_of_ev' (body := Tryz.f139.body.getD .skip) (Λ := loops_impl_Orient_mirrored) mixed Tryz.func139 (by kernel_rfl) (by kernel_rfl) (envOK_of (E := env_impl_Orient_mirrored) (fun f c h => by
  simp only [env_impl_Orient_mirrored] at h
  split at h
  · cases h; exact con_impl_Orient_mirrored_1
  · cases h) (fun f c h => by cases h) rfl) (by kernel_rfl) (by kernel_rfl) (fun n L h => by cases h) (fun _ => by kernel_rfl)

theorem fr_of_belowR {w w' : World} (h : Go.RowKit.Below w.heap.size w w') : Fr NoB w w' := ⟨h.os, h.tape, h.output, h.size, fun b hb _ => h.block b hb, fun b _ hb => h.block b hb⟩
theorem Repeat_ex : ∃ f : ByteArray × Int → Option ByteArray, f = fun x => bif decide (0 ≤ x.2) && decide (x.2 ≤ 1024) && decide (x.1.size ≤ 1048576) then some ⟨(Lib.repeatL x.1.data.toList x.2.toNat).toArray⟩ else none := ⟨_, rfl⟩
noncomputable def F_strings_Repeat : ByteArray × Int → Option ByteArray := Classical.choose Repeat_ex
theorem F_strings_Repeat_is (x : ByteArray × Int) : F_strings_Repeat x = bif decide (0 ≤ x.2) && decide (x.2 ≤ 1024) && decide (x.1.size ≤ 1048576) then some ⟨(Lib.repeatL x.1.data.toList x.2.toNat).toArray⟩ else none := congrFun (Classical.choose_spec Repeat_ex) x
noncomputable def c_strings_Repeat : Con := { ps := [(.val, .str), (.val, .int .i64)], rs := [(.val, .str)], F := F_strings_Repeat }
theorem calls_F_strings_Repeat (w : World) (x : ByteArray × Int) (y : ByteArray) (hy : F_strings_Repeat x = some y) :
    Calls Tryz.prog 198 #[.string x.1, .int .i64 x.2] w fun e w' => e = .returned (.string y) ∧ Fr NoB w w' := by
  rw [F_strings_Repeat_is] at hy
  obtain ⟨hg, hy⟩ := bif_none hy
  obtain ⟨hg, h2⟩ := and_b hg
  obtain ⟨h0, h1⟩ := and_b hg
  have h0 := of_decide_eq_true h0
  have h1 := of_decide_eq_true h1
  have h2 := of_decide_eq_true h2
  obtain rfl := (Option.some.inj hy).symm
  obtain ⟨s, c⟩ := x
  obtain ⟨k, rfl⟩ : ∃ k : Nat, c = (k : Int) := ⟨c.toNat, (Int.toNat_of_nonneg h0).symm⟩
  have h1 : (k : Int) ≤ 1024 := h1
  have h2 : s.size ≤ 1048576 := h2
  have hm : s.size * k ≤ 140737488355328 := Nat.le_trans (Nat.mul_le_mul h2 (show k ≤ 1024 by omega)) (by decide)
  refine (Tryz.strings_Repeat s k w (by omega) hm).mono ?_
  rintro e' w' ⟨rfl, hb⟩
  exact ⟨rfl, fr_of_belowR hb⟩
theorem con_strings_Repeat : ConOK Tryz.prog 198 c_strings_Repeat := con_of_pure ⟨Tryz.f198, Tryz.func198, by kernel_rfl, by kernel_rfl⟩ rfl rfl fun w x y hy _ => calls_F_strings_Repeat w x y hy

noncomputable def F_impl_Move_all (x : (ByteArray × Int)) : Option (ByteArray) :=
 match F_strings_Repeat (x) with
 | none => none
 | some y1 =>
  some (y1)
noncomputable def c_impl_Move_all : Con := { ps := [(.val, (.st (.pair .str (.int .i64))))], rs := [(.val, .str)], F := F_impl_Move_all }
noncomputable def env_impl_Move_all : Env := { par := [], dp := false, settle := [], con := fun f => match f with | 198 => some c_strings_Repeat | _ => none, clo := fun _ => none, T := tinf Tryz.prog }
noncomputable def loops_impl_Move_all : Nat → Option Loop := fun n => none
theorem con_impl_Move_all : ConOK Tryz.prog 140 c_impl_Move_all := con_of_ev' (body := Tryz.f140.body.getD .skip) (Λ := loops_impl_Move_all) mixed Tryz.func140 (by kernel_rfl) (by kernel_rfl) (envOK_of (E := env_impl_Move_all) (fun f c h => by
  simp only [env_impl_Move_all] at h
  split at h
  · cases h; exact con_strings_Repeat
  · cases h) (fun f c h => by cases h) rfl) (by kernel_rfl) (by kernel_rfl) (fun n L h => by cases h) (fun _ => by kernel_rfl)

theorem fr_of_belowM {w w' : World} (h : Go.RowKit.Below w.heap.size w w') : Fr NoB w w' := ⟨h.os, h.tape, h.output, h.size, fun b hb _ => h.block b hb, fun b _ hb => h.block b hb⟩
theorem mirrored_ex : ∃ f : ByteArray × Int → Option (ByteArray × Int), f = fun x => bif decide (x.1.size ≤ 9223372036854775806) then some (rpStr x.1, x.2) else none := ⟨_, rfl⟩
noncomputable def F_impl_Move_mirrored : ByteArray × Int → Option (ByteArray × Int) := Classical.choose mirrored_ex
theorem F_impl_Move_mirrored_is (x : ByteArray × Int) : F_impl_Move_mirrored x = bif decide (x.1.size ≤ 9223372036854775806) then some (rpStr x.1, x.2) else none := congrFun (Classical.choose_spec mirrored_ex) x
noncomputable def c_impl_Move_mirrored : Con := { ps := [(.val, .st (.pair .str (.int .i64)))], rs := [(.val, .st (.pair .str (.int .i64)))], F := F_impl_Move_mirrored }
theorem calls_F_impl_Move_mirrored (w : World) (x y : ByteArray × Int) (hy : F_impl_Move_mirrored x = some y) :
    Calls Tryz.prog 141 #[.agg #[.string x.1, .int .i64 x.2]] w fun e w' => e = .returned (.agg #[.string y.1, .int .i64 y.2]) ∧ Fr NoB w w' := by
  rw [F_impl_Move_mirrored_is] at hy
  obtain ⟨hg, hy⟩ := bif_none hy
  have h0 := of_decide_eq_true hg
  obtain rfl := (Option.some.inj hy).symm
  refine (rp_mirrored x.1 x.2 w h0).mono ?_
  rintro e' w' ⟨rfl, hb⟩
  exact ⟨rfl, fr_of_belowM hb⟩
theorem con_impl_Move_mirrored : ConOK Tryz.prog 141 c_impl_Move_mirrored := con_of_pure ⟨Tryz.f141, Tryz.func141, by kernel_rfl, by kernel_rfl⟩ rfl rfl fun w x y hy _ => calls_F_impl_Move_mirrored w x y hy

noncomputable def F_impl_keepRules (x : ((Int × (Int × (Int × (Int × (Int × Bool))))) × ((Int × Int) × ((Int × (Int × Bool)) × (ByteArray × Int)))) × ((Int × (Int × (Int × (Int × (Int × Bool))))) × ((Int × Int) × ((Int × (Int × Bool)) × (ByteArray × Int))))) : Option (Bool) :=
 match F_impl_Hand_moves (x.2) with
 | none => none
 | some y1 =>
  bif (!y1) then
   bif ((x.2.1.1 == x.1.1.1) && ((x.2.1.2.1 == x.1.1.2.1) && ((x.2.1.2.2.1 == x.1.1.2.2.1) && ((x.2.1.2.2.2.1 == x.1.1.2.2.2.1) && ((x.2.1.2.2.2.2.1 == x.1.1.2.2.2.2.1) && ((x.2.1.2.2.2.2.2 == x.1.1.2.2.2.2.2) && true)))))) then
    some (true)
   else
    match F_impl_PlainShapes () with
    | none => none
    | some y2 =>
     match F_slices_Contains_impl_Shape_impl_Shape ((y2, x.2.1)) with
     | none => none
     | some y3 =>
      some (y3)
  else
   bif ((x.2.2.1.1 == x.1.2.1.1) && ((x.2.2.1.2 == x.1.2.1.2) && true)) then
    match F_impl_Move_all (x.2.2.2.2) with
    | none => none
    | some y4 =>
     match F_impl_Move_all (x.1.2.2.2) with
     | none => none
     | some y5 =>
      bif (y4.toList == y5.toList) then
       match F_impl_Hand_moves (x.1) with
       | none => none
       | some y6 =>
        bif y6 then
         bif ((x.1.1.1 == x.2.1.1) && ((x.1.1.2.1 == x.2.1.2.1) && ((x.1.1.2.2.1 == x.2.1.2.2.1) && ((x.1.1.2.2.2.1 == x.2.1.2.2.2.1) && ((x.1.1.2.2.2.2.1 == x.2.1.2.2.2.2.1) && ((x.1.1.2.2.2.2.2 == x.2.1.2.2.2.2.2) && true)))))) then
          some (true)
         else
          some (false)
        else
         some (false)
      else
       match F_impl_Move_all (x.2.2.2.2) with
       | none => none
       | some y7 =>
        match F_impl_Move_mirrored (x.1.2.2.2) with
        | none => none
        | some y8 =>
         match F_impl_Move_all (y8) with
         | none => none
         | some y9 =>
          match F_impl_Hand_moves (x.1) with
          | none => none
          | some y10 =>
           bif y10 then
            bif ((x.1.1.1 == x.2.1.1) && ((x.1.1.2.1 == x.2.1.2.1) && ((x.1.1.2.2.1 == x.2.1.2.2.1) && ((x.1.1.2.2.2.1 == x.2.1.2.2.2.1) && ((x.1.1.2.2.2.2.1 == x.2.1.2.2.2.2.1) && ((x.1.1.2.2.2.2.2 == x.2.1.2.2.2.2.2) && true)))))) then
             some ((y7.toList == y9.toList))
            else
             some (false)
           else
            some (false)
   else
    match F_impl_Orient_mirrored (x.1.2.1) with
    | none => none
    | some y11 =>
     match F_impl_Move_all (x.2.2.2.2) with
     | none => none
     | some y12 =>
      match F_impl_Move_all (x.1.2.2.2) with
      | none => none
      | some y13 =>
       bif (y12.toList == y13.toList) then
        match F_impl_Hand_moves (x.1) with
        | none => none
        | some y14 =>
         bif y14 then
          bif ((x.1.1.1 == x.2.1.1) && ((x.1.1.2.1 == x.2.1.2.1) && ((x.1.1.2.2.1 == x.2.1.2.2.1) && ((x.1.1.2.2.2.1 == x.2.1.2.2.2.1) && ((x.1.1.2.2.2.2.1 == x.2.1.2.2.2.2.1) && ((x.1.1.2.2.2.2.2 == x.2.1.2.2.2.2.2) && true)))))) then
           bif ((x.2.2.1.1 == y11.1) && ((x.2.2.1.2 == y11.2) && true)) then
            some (true)
           else
            some (false)
          else
           some (false)
         else
          some (false)
       else
        match F_impl_Move_all (x.2.2.2.2) with
        | none => none
        | some y15 =>
         match F_impl_Move_mirrored (x.1.2.2.2) with
         | none => none
         | some y16 =>
          match F_impl_Move_all (y16) with
          | none => none
          | some y17 =>
           match F_impl_Hand_moves (x.1) with
           | none => none
           | some y18 =>
            bif y18 then
             bif ((x.1.1.1 == x.2.1.1) && ((x.1.1.2.1 == x.2.1.2.1) && ((x.1.1.2.2.1 == x.2.1.2.2.1) && ((x.1.1.2.2.2.1 == x.2.1.2.2.2.1) && ((x.1.1.2.2.2.2.1 == x.2.1.2.2.2.2.1) && ((x.1.1.2.2.2.2.2 == x.2.1.2.2.2.2.2) && true)))))) then
              bif ((x.2.2.1.1 == y11.1) && ((x.2.2.1.2 == y11.2) && true)) then
               some ((y15.toList == y17.toList))
              else
               some (false)
             else
              some (false)
            else
             some (false)
noncomputable def c_impl_keepRules : Con := { ps := [(.val, (.st (.pair (.st (.pair (.int .i64) (.pair (.int .i64) (.pair (.int .i64) (.pair (.int .i64) (.pair (.int .i64) .bool)))))) (.pair (.st (.pair (.int .i64) (.int .i64))) (.pair (.st (.pair (.int .i64) (.pair (.int .i64) .bool))) (.st (.pair .str (.int .i64)))))))), (.val, (.st (.pair (.st (.pair (.int .i64) (.pair (.int .i64) (.pair (.int .i64) (.pair (.int .i64) (.pair (.int .i64) .bool)))))) (.pair (.st (.pair (.int .i64) (.int .i64))) (.pair (.st (.pair (.int .i64) (.pair (.int .i64) .bool))) (.st (.pair .str (.int .i64))))))))], rs := [(.val, .bool)], F := F_impl_keepRules }
noncomputable def env_impl_keepRules : Env := { par := [], dp := false, settle := [], con := fun f => match f with | 90 => some c_impl_Hand_moves | 137 => some c_slices_Contains_impl_Shape_impl_Shape | 138 => some c_impl_PlainShapes | 139 => some c_impl_Orient_mirrored | 140 => some c_impl_Move_all | 141 => some c_impl_Move_mirrored | _ => none, clo := fun _ => none, T := tinf Tryz.prog }
noncomputable def loops_impl_keepRules : Nat → Option Loop := fun n => none
theorem con_impl_keepRules : ConOK Tryz.prog 88 c_impl_keepRules := con_of_ev' (body := Tryz.f88.body.getD .skip) (Λ := loops_impl_keepRules) mixed Tryz.func88 (by kernel_rfl) (by kernel_rfl) (envOK_of (E := env_impl_keepRules) (fun f c h => by
  simp only [env_impl_keepRules] at h
  split at h
  · cases h; exact con_impl_Hand_moves
  · cases h; exact con_slices_Contains_impl_Shape_impl_Shape
  · cases h; exact con_impl_PlainShapes
  · cases h; exact con_impl_Orient_mirrored
  · cases h; exact con_impl_Move_all
  · cases h; exact con_impl_Move_mirrored
  · cases h) (fun f c h => by cases h) rfl) (by kernel_rfl) (by kernel_rfl) (fun n L h => by cases h) (fun _ => by kernel_rfl)

noncomputable def F_impl_IsSign (x : (((Int × (Int × (Int × (Int × (Int × Bool))))) × ((Int × Int) × ((Int × (Int × Bool)) × (ByteArray × Int)))) × (Bool × ((Int × (Int × (Int × (Int × (Int × Bool))))) × ((Int × Int) × ((Int × (Int × Bool)) × (ByteArray × Int))))))) : Option (Bool) :=
 match F_impl_IsHand (x.1) with
 | none => none
 | some y1 =>
  bif (!y1) then
   some (false)
  else
   bif (!x.2.1) then
    some ((((x.2.2.1.1 == 0) && ((x.2.2.1.2.1 == 0) && ((x.2.2.1.2.2.1 == 0) && ((x.2.2.1.2.2.2.1 == 0) && ((x.2.2.1.2.2.2.2.1 == 0) && ((x.2.2.1.2.2.2.2.2 == false) && true)))))) && (((x.2.2.2.1.1 == 0) && ((x.2.2.2.1.2 == 0) && true)) && (((x.2.2.2.2.1.1 == 0) && ((x.2.2.2.2.1.2.1 == 0) && ((x.2.2.2.2.1.2.2 == false) && true))) && (((x.2.2.2.2.2.1.toList == ByteArray.empty.toList) && ((x.2.2.2.2.2.2 == 0) && true)) && true)))))
   else
    match F_impl_IsHand (x.2.2) with
    | none => none
    | some y2 =>
     bif y2 then
      match F_impl_keepRules ((x.1, x.2.2)) with
      | none => none
      | some y3 =>
       some (y3)
     else
      some (false)
noncomputable def c_impl_IsSign : Con := { ps := [(.val, (.st (.pair (.st (.pair (.st (.pair (.int .i64) (.pair (.int .i64) (.pair (.int .i64) (.pair (.int .i64) (.pair (.int .i64) .bool)))))) (.pair (.st (.pair (.int .i64) (.int .i64))) (.pair (.st (.pair (.int .i64) (.pair (.int .i64) .bool))) (.st (.pair .str (.int .i64))))))) (.pair .bool (.st (.pair (.st (.pair (.int .i64) (.pair (.int .i64) (.pair (.int .i64) (.pair (.int .i64) (.pair (.int .i64) .bool)))))) (.pair (.st (.pair (.int .i64) (.int .i64))) (.pair (.st (.pair (.int .i64) (.pair (.int .i64) .bool))) (.st (.pair .str (.int .i64)))))))))))], rs := [(.val, .bool)], F := F_impl_IsSign }
noncomputable def env_impl_IsSign : Env := { par := [], dp := false, settle := [], con := fun f => match f with | 87 => some c_impl_IsHand | 88 => some c_impl_keepRules | _ => none, clo := fun _ => none, T := tinf Tryz.prog }
noncomputable def loops_impl_IsSign : Nat → Option Loop := fun n => none
theorem con_impl_IsSign : ConOK Tryz.prog 51 c_impl_IsSign := con_of_ev' (body := Tryz.f51.body.getD .skip) (Λ := loops_impl_IsSign) mixed Tryz.func51 (by kernel_rfl) (by kernel_rfl) (envOK_of (E := env_impl_IsSign) (fun f c h => by
  simp only [env_impl_IsSign] at h
  split at h
  · cases h; exact con_impl_IsHand
  · cases h; exact con_impl_keepRules
  · cases h) (fun f c h => by cases h) rfl) (by kernel_rfl) (by kernel_rfl) (fun n L h => by cases h) (fun _ => by kernel_rfl)

noncomputable def F_impl_TwoHands (x : ((Int × (Int × (Int × (Int × (Int × Bool))))) × ((Int × Int) × ((Int × (Int × Bool)) × (ByteArray × Int)))) × ((Int × (Int × (Int × (Int × (Int × Bool))))) × ((Int × Int) × ((Int × (Int × Bool)) × (ByteArray × Int))))) : Option ((((Int × (Int × (Int × (Int × (Int × Bool))))) × ((Int × Int) × ((Int × (Int × Bool)) × (ByteArray × Int)))) × (Bool × ((Int × (Int × (Int × (Int × (Int × Bool))))) × ((Int × Int) × ((Int × (Int × Bool)) × (ByteArray × Int)))))) × Bool) :=
 match F_impl_IsSign ((x.1, true, x.2)) with
 | none => none
 | some y1 =>
  bif (!y1) then
   some (((((0, (0, 0, (0, 0, false))), (0, 0), ((0, 0, false), ByteArray.empty, 0)), false, ((0, (0, 0, (0, 0, false))), (0, 0), ((0, 0, false), ByteArray.empty, 0))), false))
  else
   some (((x.1, true, x.2), true))
noncomputable def c_impl_TwoHands : Con := { ps := [(.val, (.st (.pair (.st (.pair (.int .i64) (.pair (.int .i64) (.pair (.int .i64) (.pair (.int .i64) (.pair (.int .i64) .bool)))))) (.pair (.st (.pair (.int .i64) (.int .i64))) (.pair (.st (.pair (.int .i64) (.pair (.int .i64) .bool))) (.st (.pair .str (.int .i64)))))))), (.val, (.st (.pair (.st (.pair (.int .i64) (.pair (.int .i64) (.pair (.int .i64) (.pair (.int .i64) (.pair (.int .i64) .bool)))))) (.pair (.st (.pair (.int .i64) (.int .i64))) (.pair (.st (.pair (.int .i64) (.pair (.int .i64) .bool))) (.st (.pair .str (.int .i64))))))))], rs := [(.val, (.st (.pair (.st (.pair (.st (.pair (.int .i64) (.pair (.int .i64) (.pair (.int .i64) (.pair (.int .i64) (.pair (.int .i64) .bool)))))) (.pair (.st (.pair (.int .i64) (.int .i64))) (.pair (.st (.pair (.int .i64) (.pair (.int .i64) .bool))) (.st (.pair .str (.int .i64))))))) (.pair .bool (.st (.pair (.st (.pair (.int .i64) (.pair (.int .i64) (.pair (.int .i64) (.pair (.int .i64) (.pair (.int .i64) .bool)))))) (.pair (.st (.pair (.int .i64) (.int .i64))) (.pair (.st (.pair (.int .i64) (.pair (.int .i64) .bool))) (.st (.pair .str (.int .i64))))))))))), (.val, .bool)], F := F_impl_TwoHands }
noncomputable def env_impl_TwoHands : Env := { par := [], dp := false, settle := [], con := fun f => match f with | 51 => some c_impl_IsSign | _ => none, clo := fun _ => none, T := tinf Tryz.prog }
noncomputable def loops_impl_TwoHands : Nat → Option Loop := fun n => none
theorem con_impl_TwoHands : ConOK Tryz.prog 67 c_impl_TwoHands := con_of_ev' (body := Tryz.f67.body.getD .skip) (Λ := loops_impl_TwoHands) mixed Tryz.func67 (by kernel_rfl) (by kernel_rfl) (envOK_of (E := env_impl_TwoHands) (fun f c h => by
  simp only [env_impl_TwoHands] at h
  split at h
  · cases h; exact con_impl_IsSign
  · cases h) (fun f c h => by cases h) rfl) (by kernel_rfl) (by kernel_rfl) (fun n L h => by cases h) (fun _ => by kernel_rfl)

noncomputable def F_impl_ImportSign (x : ByteArray × ByteArray) : Option ((((Int × (Int × (Int × (Int × (Int × Bool))))) × ((Int × Int) × ((Int × (Int × Bool)) × (ByteArray × Int)))) × (Bool × ((Int × (Int × (Int × (Int × (Int × Bool))))) × ((Int × Int) × ((Int × (Int × Bool)) × (ByteArray × Int)))))) × Bool) :=
 bif (decide ((x.1.size : Int) > 100)) then
  some (((((0, (0, 0, (0, 0, false))), (0, 0), ((0, 0, false), ByteArray.empty, 0)), false, ((0, (0, 0, (0, 0, false))), (0, 0), ((0, 0, false), ByteArray.empty, 0))), false))
 else
  bif (decide ((x.2.size : Int) > 100)) then
   some (((((0, (0, 0, (0, 0, false))), (0, 0), ((0, 0, false), ByteArray.empty, 0)), false, ((0, (0, 0, (0, 0, false))), (0, 0), ((0, 0, false), ByteArray.empty, 0))), false))
  else
   match F_impl_imported (x.1) with
   | none => none
   | some y1 =>
    bif (x.2.toList == (⟨#[]⟩ : ByteArray).toList) then
     match F_impl_OneHand (y1.1) with
     | none => none
     | some y2 =>
      some (y2)
    else
     match F_impl_imported (x.2) with
     | none => none
     | some y3 =>
      match F_impl_TwoHands ((y1.1, y3.1)) with
      | none => none
      | some y4 =>
       some (y4)
noncomputable def c_impl_ImportSign : Con := { ps := [(.val, .str), (.val, .str)], rs := [(.val, (.st (.pair (.st (.pair (.st (.pair (.int .i64) (.pair (.int .i64) (.pair (.int .i64) (.pair (.int .i64) (.pair (.int .i64) .bool)))))) (.pair (.st (.pair (.int .i64) (.int .i64))) (.pair (.st (.pair (.int .i64) (.pair (.int .i64) .bool))) (.st (.pair .str (.int .i64))))))) (.pair .bool (.st (.pair (.st (.pair (.int .i64) (.pair (.int .i64) (.pair (.int .i64) (.pair (.int .i64) (.pair (.int .i64) .bool)))))) (.pair (.st (.pair (.int .i64) (.int .i64))) (.pair (.st (.pair (.int .i64) (.pair (.int .i64) .bool))) (.st (.pair .str (.int .i64))))))))))), (.val, .bool)], F := F_impl_ImportSign }
noncomputable def env_impl_ImportSign : Env := { par := [], dp := false, settle := [], con := fun f => match f with | 65 => some c_impl_imported | 66 => some c_impl_OneHand | 67 => some c_impl_TwoHands | _ => none, clo := fun _ => none, T := tinf Tryz.prog }
noncomputable def loops_impl_ImportSign : Nat → Option Loop := fun n => none
theorem con_impl_ImportSign : ConOK Tryz.prog 27 c_impl_ImportSign := con_of_ev' (body := Tryz.f27.body.getD .skip) (Λ := loops_impl_ImportSign) mixed Tryz.func27 (by kernel_rfl) (by kernel_rfl) (envOK_of (E := env_impl_ImportSign) (fun f c h => by
  simp only [env_impl_ImportSign] at h
  split at h
  · cases h; exact con_impl_imported
  · cases h; exact con_impl_OneHand
  · cases h; exact con_impl_TwoHands
  · cases h) (fun f c h => by cases h) rfl) (by kernel_rfl) (by kernel_rfl) (fun n L h => by cases h) (fun _ => by kernel_rfl)

noncomputable def F_laws_eqShape (x : (Int × (Int × (Int × (Int × (Int × Bool))))) × (Int × (Int × (Int × (Int × (Int × Bool)))))) : Option (Bool) :=
 bif ((x.1.1 != x.2.1)) then
  some (false)
 else
  bif ((x.1.2.1 != x.2.2.1)) then
   some (false)
  else
   bif ((x.1.2.2.1 != x.2.2.2.1)) then
    some (false)
   else
    bif ((x.1.2.2.2.1 != x.2.2.2.2.1)) then
     some (false)
    else
     bif ((x.1.2.2.2.2.1 != x.2.2.2.2.2.1)) then
      some (false)
     else
      bif (!(x.1.2.2.2.2.2 == x.2.2.2.2.2.2)) then
       some (false)
      else
       some (true)
noncomputable def c_laws_eqShape : Con := { ps := [(.val, (.st (.pair (.int .i64) (.pair (.int .i64) (.pair (.int .i64) (.pair (.int .i64) (.pair (.int .i64) .bool))))))), (.val, (.st (.pair (.int .i64) (.pair (.int .i64) (.pair (.int .i64) (.pair (.int .i64) (.pair (.int .i64) .bool)))))))], rs := [(.val, .bool)], F := F_laws_eqShape }
noncomputable def env_laws_eqShape : Env := { par := [], dp := false, settle := [], con := fun _ => none, clo := fun _ => none, T := tinf Tryz.prog }
noncomputable def loops_laws_eqShape : Nat → Option Loop := fun n => none
theorem con_laws_eqShape : ConOK Tryz.prog 111 c_laws_eqShape := con_of_ev' (body := Tryz.f111.body.getD .skip) (Λ := loops_laws_eqShape) mixed Tryz.func111 (by kernel_rfl) (by kernel_rfl) (envOK_of (E := env_laws_eqShape) (fun f c h => by cases h) (fun f c h => by cases h) rfl) (by kernel_rfl) (by kernel_rfl) (fun n L h => by cases h) (fun _ => by kernel_rfl)

noncomputable def F_laws_eqOrient (x : (Int × Int) × (Int × Int)) : Option (Bool) :=
 bif ((x.1.1 != x.2.1)) then
  some (false)
 else
  bif ((x.1.2 != x.2.2)) then
   some (false)
  else
   some (true)
noncomputable def c_laws_eqOrient : Con := { ps := [(.val, (.st (.pair (.int .i64) (.int .i64)))), (.val, (.st (.pair (.int .i64) (.int .i64))))], rs := [(.val, .bool)], F := F_laws_eqOrient }
noncomputable def env_laws_eqOrient : Env := { par := [], dp := false, settle := [], con := fun _ => none, clo := fun _ => none, T := tinf Tryz.prog }
noncomputable def loops_laws_eqOrient : Nat → Option Loop := fun n => none
theorem con_laws_eqOrient : ConOK Tryz.prog 112 c_laws_eqOrient := con_of_ev' (body := Tryz.f112.body.getD .skip) (Λ := loops_laws_eqOrient) mixed Tryz.func112 (by kernel_rfl) (by kernel_rfl) (envOK_of (E := env_laws_eqOrient) (fun f c h => by cases h) (fun f c h => by cases h) rfl) (by kernel_rfl) (by kernel_rfl) (fun n L h => by cases h) (fun _ => by kernel_rfl)

noncomputable def F_laws_eqPlace (x : (Int × (Int × Bool)) × (Int × (Int × Bool))) : Option (Bool) :=
 bif ((x.1.1 != x.2.1)) then
  some (false)
 else
  bif ((x.1.2.1 != x.2.2.1)) then
   some (false)
  else
   bif (!(x.1.2.2 == x.2.2.2)) then
    some (false)
   else
    some (true)
noncomputable def c_laws_eqPlace : Con := { ps := [(.val, (.st (.pair (.int .i64) (.pair (.int .i64) .bool)))), (.val, (.st (.pair (.int .i64) (.pair (.int .i64) .bool))))], rs := [(.val, .bool)], F := F_laws_eqPlace }
noncomputable def env_laws_eqPlace : Env := { par := [], dp := false, settle := [], con := fun _ => none, clo := fun _ => none, T := tinf Tryz.prog }
noncomputable def loops_laws_eqPlace : Nat → Option Loop := fun n => none
theorem con_laws_eqPlace : ConOK Tryz.prog 113 c_laws_eqPlace := con_of_ev' (body := Tryz.f113.body.getD .skip) (Λ := loops_laws_eqPlace) mixed Tryz.func113 (by kernel_rfl) (by kernel_rfl) (envOK_of (E := env_laws_eqPlace) (fun f c h => by cases h) (fun f c h => by cases h) rfl) (by kernel_rfl) (by kernel_rfl) (fun n L h => by cases h) (fun _ => by kernel_rfl)

noncomputable def F_laws_eqMove (x : (ByteArray × Int) × (ByteArray × Int)) : Option (Bool) :=
 bif (!(x.1.1.toList == x.2.1.toList)) then
  some (false)
 else
  bif ((x.1.2 != x.2.2)) then
   some (false)
  else
   some (true)
noncomputable def c_laws_eqMove : Con := { ps := [(.val, (.st (.pair .str (.int .i64)))), (.val, (.st (.pair .str (.int .i64))))], rs := [(.val, .bool)], F := F_laws_eqMove }
noncomputable def env_laws_eqMove : Env := { par := [], dp := false, settle := [], con := fun _ => none, clo := fun _ => none, T := tinf Tryz.prog }
noncomputable def loops_laws_eqMove : Nat → Option Loop := fun n => none
theorem con_laws_eqMove : ConOK Tryz.prog 114 c_laws_eqMove := con_of_ev' (body := Tryz.f114.body.getD .skip) (Λ := loops_laws_eqMove) mixed Tryz.func114 (by kernel_rfl) (by kernel_rfl) (envOK_of (E := env_laws_eqMove) (fun f c h => by cases h) (fun f c h => by cases h) rfl) (by kernel_rfl) (by kernel_rfl) (fun n L h => by cases h) (fun _ => by kernel_rfl)

noncomputable def F_laws_eqHand (x : ((Int × (Int × (Int × (Int × (Int × Bool))))) × ((Int × Int) × ((Int × (Int × Bool)) × (ByteArray × Int)))) × ((Int × (Int × (Int × (Int × (Int × Bool))))) × ((Int × Int) × ((Int × (Int × Bool)) × (ByteArray × Int))))) : Option (Bool) :=
 match F_laws_eqShape ((x.1.1, x.2.1)) with
 | none => none
 | some y1 =>
  bif (!y1) then
   some (false)
  else
   match F_laws_eqOrient ((x.1.2.1, x.2.2.1)) with
   | none => none
   | some y2 =>
    bif (!y2) then
     some (false)
    else
     match F_laws_eqPlace ((x.1.2.2.1, x.2.2.2.1)) with
     | none => none
     | some y3 =>
      bif (!y3) then
       some (false)
      else
       match F_laws_eqMove ((x.1.2.2.2, x.2.2.2.2)) with
       | none => none
       | some y4 =>
        bif (!y4) then
         some (false)
        else
         some (true)
noncomputable def c_laws_eqHand : Con := { ps := [(.val, (.st (.pair (.st (.pair (.int .i64) (.pair (.int .i64) (.pair (.int .i64) (.pair (.int .i64) (.pair (.int .i64) .bool)))))) (.pair (.st (.pair (.int .i64) (.int .i64))) (.pair (.st (.pair (.int .i64) (.pair (.int .i64) .bool))) (.st (.pair .str (.int .i64)))))))), (.val, (.st (.pair (.st (.pair (.int .i64) (.pair (.int .i64) (.pair (.int .i64) (.pair (.int .i64) (.pair (.int .i64) .bool)))))) (.pair (.st (.pair (.int .i64) (.int .i64))) (.pair (.st (.pair (.int .i64) (.pair (.int .i64) .bool))) (.st (.pair .str (.int .i64))))))))], rs := [(.val, .bool)], F := F_laws_eqHand }
noncomputable def env_laws_eqHand : Env := { par := [], dp := false, settle := [], con := fun f => match f with | 111 => some c_laws_eqShape | 112 => some c_laws_eqOrient | 113 => some c_laws_eqPlace | 114 => some c_laws_eqMove | _ => none, clo := fun _ => none, T := tinf Tryz.prog }
noncomputable def loops_laws_eqHand : Nat → Option Loop := fun n => none
theorem con_laws_eqHand : ConOK Tryz.prog 68 c_laws_eqHand := con_of_ev' (body := Tryz.f68.body.getD .skip) (Λ := loops_laws_eqHand) mixed Tryz.func68 (by kernel_rfl) (by kernel_rfl) (envOK_of (E := env_laws_eqHand) (fun f c h => by
  simp only [env_laws_eqHand] at h
  split at h
  · cases h; exact con_laws_eqShape
  · cases h; exact con_laws_eqOrient
  · cases h; exact con_laws_eqPlace
  · cases h; exact con_laws_eqMove
  · cases h) (fun f c h => by cases h) rfl) (by kernel_rfl) (by kernel_rfl) (fun n L h => by cases h) (fun _ => by kernel_rfl)

noncomputable def F_laws_eqSign (x : (((Int × (Int × (Int × (Int × (Int × Bool))))) × ((Int × Int) × ((Int × (Int × Bool)) × (ByteArray × Int)))) × (Bool × ((Int × (Int × (Int × (Int × (Int × Bool))))) × ((Int × Int) × ((Int × (Int × Bool)) × (ByteArray × Int)))))) × (((Int × (Int × (Int × (Int × (Int × Bool))))) × ((Int × Int) × ((Int × (Int × Bool)) × (ByteArray × Int)))) × (Bool × ((Int × (Int × (Int × (Int × (Int × Bool))))) × ((Int × Int) × ((Int × (Int × Bool)) × (ByteArray × Int))))))) : Option (Bool) :=
 match F_laws_eqHand ((x.1.1, x.2.1)) with
 | none => none
 | some y1 =>
  bif (!y1) then
   some (false)
  else
   bif (!(x.1.2.1 == x.2.2.1)) then
    some (false)
   else
    match F_laws_eqHand ((x.1.2.2, x.2.2.2)) with
    | none => none
    | some y2 =>
     bif (!y2) then
      some (false)
     else
      some (true)
noncomputable def c_laws_eqSign : Con := { ps := [(.val, (.st (.pair (.st (.pair (.st (.pair (.int .i64) (.pair (.int .i64) (.pair (.int .i64) (.pair (.int .i64) (.pair (.int .i64) .bool)))))) (.pair (.st (.pair (.int .i64) (.int .i64))) (.pair (.st (.pair (.int .i64) (.pair (.int .i64) .bool))) (.st (.pair .str (.int .i64))))))) (.pair .bool (.st (.pair (.st (.pair (.int .i64) (.pair (.int .i64) (.pair (.int .i64) (.pair (.int .i64) (.pair (.int .i64) .bool)))))) (.pair (.st (.pair (.int .i64) (.int .i64))) (.pair (.st (.pair (.int .i64) (.pair (.int .i64) .bool))) (.st (.pair .str (.int .i64))))))))))), (.val, (.st (.pair (.st (.pair (.st (.pair (.int .i64) (.pair (.int .i64) (.pair (.int .i64) (.pair (.int .i64) (.pair (.int .i64) .bool)))))) (.pair (.st (.pair (.int .i64) (.int .i64))) (.pair (.st (.pair (.int .i64) (.pair (.int .i64) .bool))) (.st (.pair .str (.int .i64))))))) (.pair .bool (.st (.pair (.st (.pair (.int .i64) (.pair (.int .i64) (.pair (.int .i64) (.pair (.int .i64) (.pair (.int .i64) .bool)))))) (.pair (.st (.pair (.int .i64) (.int .i64))) (.pair (.st (.pair (.int .i64) (.pair (.int .i64) .bool))) (.st (.pair .str (.int .i64)))))))))))], rs := [(.val, .bool)], F := F_laws_eqSign }
noncomputable def env_laws_eqSign : Env := { par := [], dp := false, settle := [], con := fun f => match f with | 68 => some c_laws_eqHand | _ => none, clo := fun _ => none, T := tinf Tryz.prog }
noncomputable def loops_laws_eqSign : Nat → Option Loop := fun n => none
theorem con_laws_eqSign : ConOK Tryz.prog 28 c_laws_eqSign := con_of_ev' (body := Tryz.f28.body.getD .skip) (Λ := loops_laws_eqSign) mixed Tryz.func28 (by kernel_rfl) (by kernel_rfl) (envOK_of (E := env_laws_eqSign) (fun f c h => by
  simp only [env_laws_eqSign] at h
  split at h
  · cases h; exact con_laws_eqHand
  · cases h) (fun f c h => by cases h) rfl) (by kernel_rfl) (by kernel_rfl) (fun n L h => by cases h) (fun _ => by kernel_rfl)

noncomputable def F_laws_FnExactImportSign (x : ByteArray × ByteArray) : Option (Bool) :=
 bif (decide ((x.1.size : Int) > 1048576)) then
  some (true)
 else
  bif (decide ((x.2.size : Int) > 1048576)) then
   some (true)
  else
   match F_spec_ImportSign (x) with
   | none => none
   | some y1 =>
    match F_impl_ImportSign (x) with
    | none => none
    | some y2 =>
     match F_laws_eqSign ((y2.1, y1.1)) with
     | none => none
     | some y3 =>
      bif (!y3) then
       some (false)
      else
       bif (!(y2.2 == y1.2)) then
        some (false)
       else
        some (true)
noncomputable def c_laws_FnExactImportSign : Con := { ps := [(.val, .str), (.val, .str)], rs := [(.val, .bool)], F := F_laws_FnExactImportSign }
noncomputable def env_laws_FnExactImportSign : Env := { par := [], dp := false, settle := [], con := fun f => match f with | 26 => some c_spec_ImportSign | 27 => some c_impl_ImportSign | 28 => some c_laws_eqSign | _ => none, clo := fun _ => none, T := tinf Tryz.prog }
noncomputable def loops_laws_FnExactImportSign : Nat → Option Loop := fun n => none
theorem F_laws_FnExactImportSign_eq (x : ByteArray × ByteArray) : Fev env_laws_FnExactImportSign loops_laws_FnExactImportSign c_laws_FnExactImportSign.ps c_laws_FnExactImportSign.rs Tryz.f6 x = F_laws_FnExactImportSign x := by kernel_rfl
theorem env_laws_FnExactImportSign_ok : EnvOK Tryz.prog env_laws_FnExactImportSign := envOK_of (fun f c h => by
  simp only [env_laws_FnExactImportSign] at h
  split at h
  · cases h; exact con_spec_ImportSign
  · cases h; exact con_impl_ImportSign
  · cases h; exact con_laws_eqSign
  · cases h) (fun f c h => by cases h) rfl
theorem con_laws_FnExactImportSign : ConOK Tryz.prog 6 c_laws_FnExactImportSign := con_of_ev' (body := Tryz.f6.body.getD .skip) (Λ := loops_laws_FnExactImportSign) mixed Tryz.func6 (by kernel_rfl) (by kernel_rfl) env_laws_FnExactImportSign_ok (by kernel_rfl) (by kernel_rfl) (fun n L h => by cases h) F_laws_FnExactImportSign_eq

end Go.Proofs.YtklfnbckoaphpaaGreatDoor
