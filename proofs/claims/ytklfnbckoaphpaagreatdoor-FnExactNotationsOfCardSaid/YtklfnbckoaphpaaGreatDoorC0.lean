/- Contracts of functions of the program, written by a program of this claim. No conditions. -/
import Derived.Test.YtklfnbckoaphpaaGreatDoorEvZk
import Derived.Test.YtklfnbckoaphpaaGreatDoorRows
import Derived.Shelf.Strings.Search1
import Derived.Lib.AppendIntMem
import Derived.Lib.RepeatB
import Derived.Lib.Join
import Derived.Test.YtklfnbckoaphpaaGreatDoorNu
import Derived.Test.YtklfnbckoaphpaaGreatDoorShelf
import Derived.Test.YtklfnbckoaphpaaGreatDoorRp
set_option linter.unusedVariables false
set_option maxRecDepth 100000
namespace Go.Proofs.YtklfnbckoaphpaaGreatDoor
open Go
abbrev DT13 := ((Int × (Int × (Int × (Int × (Int × Bool))))) × ((Int × Int) × ((Int × (Int × Bool)) × (ByteArray × Int))))
abbrev TY13 : Ty := (.st (.pair (.st (.pair (.int .i64) (.pair (.int .i64) (.pair (.int .i64) (.pair (.int .i64) (.pair (.int .i64) .bool)))))) (.pair (.st (.pair (.int .i64) (.int .i64))) (.pair (.st (.pair (.int .i64) (.pair (.int .i64) .bool))) (.st (.pair .str (.int .i64)))))))
def dz13 : DT13 := ((0, (0, 0, (0, 0, false))), (0, 0), ((0, 0, false), ByteArray.empty, 0))
abbrev DT27 := (((Int × (Int × (Int × (Int × (Int × Bool))))) × ((Int × Int) × ((Int × (Int × Bool)) × (ByteArray × Int)))) × (Bool × ((Int × (Int × (Int × (Int × (Int × Bool))))) × ((Int × Int) × ((Int × (Int × Bool)) × (ByteArray × Int))))))
abbrev TY27 : Ty := (.st (.pair (.st (.pair (.st (.pair (.int .i64) (.pair (.int .i64) (.pair (.int .i64) (.pair (.int .i64) (.pair (.int .i64) .bool)))))) (.pair (.st (.pair (.int .i64) (.int .i64))) (.pair (.st (.pair (.int .i64) (.pair (.int .i64) .bool))) (.st (.pair .str (.int .i64))))))) (.pair .bool (.st (.pair (.st (.pair (.int .i64) (.pair (.int .i64) (.pair (.int .i64) (.pair (.int .i64) (.pair (.int .i64) .bool)))))) (.pair (.st (.pair (.int .i64) (.int .i64))) (.pair (.st (.pair (.int .i64) (.pair (.int .i64) .bool))) (.st (.pair .str (.int .i64))))))))))
def dz27 : DT27 := (((0, (0, 0, (0, 0, false))), (0, 0), ((0, 0, false), ByteArray.empty, 0)), false, ((0, (0, 0, (0, 0, false))), (0, 0), ((0, 0, false), ByteArray.empty, 0)))
def an (n : Nat) (l : List PatK) : List PatK := List.replicate n .any ++ l
theorem mixed : Tryz.prog.follows .mixedOrders = true := by kernel_rfl
noncomputable def F_laws_szMove (x : (ByteArray × Int) × Int) : Option (Int) :=
 let v1 := IntKind.i64.wrap (x.2 - (x.1.1.size : Int))
 bif (decide (v1 < 0)) then
  some ((-1))
 else
  some (v1)
noncomputable def c_laws_szMove : Con := { ps := [(.val, (.st (.pair .str (.int .i64)))), (.val, (.int .i64))], rs := [(.val, (.int .i64))], F := F_laws_szMove }
noncomputable def env_laws_szMove : Env := { par := [], dp := false, settle := [], con := fun _ => none, clo := fun _ => none, T := tinf Tryz.prog }
noncomputable def loops_laws_szMove : Nat → Option Loop := fun n => none
theorem con_laws_szMove : ConOK Tryz.prog 77 c_laws_szMove := con_of_ev' (body := Tryz.f77.body.getD .skip) (Λ := loops_laws_szMove) mixed Tryz.func77 (by kernel_rfl) (by kernel_rfl) (envOK_of (E := env_laws_szMove) (fun f c h => by cases h) (fun f c h => by cases h) rfl) (by kernel_rfl) (by kernel_rfl) (fun n L h => by cases h) (fun _ => by kernel_rfl)

noncomputable def F_laws_szHand (x : DT13 × Int) : Option (Int) :=
 match F_laws_szMove ((x.1.2.2.2, x.2)) with
 | none => none
 | some y1 =>
  bif (decide (y1 < 0)) then
   some ((-1))
  else
   some (y1)
noncomputable def c_laws_szHand : Con := { ps := [(.val, TY13), (.val, (.int .i64))], rs := [(.val, (.int .i64))], F := F_laws_szHand }
noncomputable def env_laws_szHand : Env := { par := [], dp := false, settle := [], con := fun f => match f with | 77 => some c_laws_szMove | _ => none, clo := fun _ => none, T := tinf Tryz.prog }
noncomputable def loops_laws_szHand : Nat → Option Loop := fun n => none
theorem con_laws_szHand : ConOK Tryz.prog 45 c_laws_szHand := con_of_ev' (body := Tryz.f45.body.getD .skip) (Λ := loops_laws_szHand) mixed Tryz.func45 (by kernel_rfl) (by kernel_rfl) (envOK_of (E := env_laws_szHand) (fun f c h => by
  simp only [env_laws_szHand] at h
  split at h
  · cases h; exact con_laws_szMove
  · cases h) (fun f c h => by cases h) rfl) (by kernel_rfl) (by kernel_rfl) (fun n L h => by cases h) (fun _ => by kernel_rfl)

noncomputable def F_laws_szSign (x : DT27 × Int) : Option (Int) :=
 match F_laws_szHand ((x.1.1, x.2)) with
 | none => none
 | some y1 =>
  bif (decide (y1 < 0)) then
   some ((-1))
  else
   match F_laws_szHand ((x.1.2.2, y1)) with
   | none => none
   | some y2 =>
    bif (decide (y2 < 0)) then
     some ((-1))
    else
     some (y2)
noncomputable def c_laws_szSign : Con := { ps := [(.val, TY27), (.val, (.int .i64))], rs := [(.val, (.int .i64))], F := F_laws_szSign }
noncomputable def env_laws_szSign : Env := { par := [], dp := false, settle := [], con := fun f => match f with | 45 => some c_laws_szHand | _ => none, clo := fun _ => none, T := tinf Tryz.prog }
noncomputable def loops_laws_szSign : Nat → Option Loop := fun n => none
theorem con_laws_szSign : ConOK Tryz.prog 17 c_laws_szSign := con_of_ev' (body := Tryz.f17.body.getD .skip) (Λ := loops_laws_szSign) mixed Tryz.func17 (by kernel_rfl) (by kernel_rfl) (envOK_of (E := env_laws_szSign) (fun f c h => by
  simp only [env_laws_szSign] at h
  split at h
  · cases h; exact con_laws_szHand
  · cases h) (fun f c h => by cases h) rfl) (by kernel_rfl) (by kernel_rfl) (fun n L h => by cases h) (fun _ => by kernel_rfl)

noncomputable def F_laws_toShape (x : (Int × (Int × (Int × (Int × (Int × Bool)))))) : Option ((Int × (Int × (Int × (Int × (Int × Bool)))))) :=
 some (x)
noncomputable def c_laws_toShape : Con := { ps := [(.val, (.st (.pair (.int .i64) (.pair (.int .i64) (.pair (.int .i64) (.pair (.int .i64) (.pair (.int .i64) .bool)))))))], rs := [(.val, (.st (.pair (.int .i64) (.pair (.int .i64) (.pair (.int .i64) (.pair (.int .i64) (.pair (.int .i64) .bool)))))))], F := F_laws_toShape }
noncomputable def env_laws_toShape : Env := { par := [], dp := false, settle := [], con := fun _ => none, clo := fun _ => none, T := tinf Tryz.prog }
noncomputable def loops_laws_toShape : Nat → Option Loop := fun n => none
theorem con_laws_toShape : ConOK Tryz.prog 83 c_laws_toShape := con_of_ev' (body := Tryz.f83.body.getD .skip) (Λ := loops_laws_toShape) mixed Tryz.func83 (by kernel_rfl) (by kernel_rfl) (envOK_of (E := env_laws_toShape) (fun f c h => by cases h) (fun f c h => by cases h) rfl) (by kernel_rfl) (by kernel_rfl) (fun n L h => by cases h) (fun _ => by kernel_rfl)

noncomputable def F_laws_toOrient (x : (Int × Int)) : Option ((Int × Int)) :=
 some (x)
noncomputable def c_laws_toOrient : Con := { ps := [(.val, (.st (.pair (.int .i64) (.int .i64))))], rs := [(.val, (.st (.pair (.int .i64) (.int .i64))))], F := F_laws_toOrient }
noncomputable def env_laws_toOrient : Env := { par := [], dp := false, settle := [], con := fun _ => none, clo := fun _ => none, T := tinf Tryz.prog }
noncomputable def loops_laws_toOrient : Nat → Option Loop := fun n => none
theorem con_laws_toOrient : ConOK Tryz.prog 84 c_laws_toOrient := con_of_ev' (body := Tryz.f84.body.getD .skip) (Λ := loops_laws_toOrient) mixed Tryz.func84 (by kernel_rfl) (by kernel_rfl) (envOK_of (E := env_laws_toOrient) (fun f c h => by cases h) (fun f c h => by cases h) rfl) (by kernel_rfl) (by kernel_rfl) (fun n L h => by cases h) (fun _ => by kernel_rfl)

noncomputable def F_laws_toPlace (x : (Int × (Int × Bool))) : Option ((Int × (Int × Bool))) :=
 some (x)
noncomputable def c_laws_toPlace : Con := { ps := [(.val, (.st (.pair (.int .i64) (.pair (.int .i64) .bool))))], rs := [(.val, (.st (.pair (.int .i64) (.pair (.int .i64) .bool))))], F := F_laws_toPlace }
noncomputable def env_laws_toPlace : Env := { par := [], dp := false, settle := [], con := fun _ => none, clo := fun _ => none, T := tinf Tryz.prog }
noncomputable def loops_laws_toPlace : Nat → Option Loop := fun n => none
theorem con_laws_toPlace : ConOK Tryz.prog 85 c_laws_toPlace := con_of_ev' (body := Tryz.f85.body.getD .skip) (Λ := loops_laws_toPlace) mixed Tryz.func85 (by kernel_rfl) (by kernel_rfl) (envOK_of (E := env_laws_toPlace) (fun f c h => by cases h) (fun f c h => by cases h) rfl) (by kernel_rfl) (by kernel_rfl) (fun n L h => by cases h) (fun _ => by kernel_rfl)

noncomputable def F_laws_toMove (x : (ByteArray × Int)) : Option ((ByteArray × Int)) :=
 some (x)
noncomputable def c_laws_toMove : Con := { ps := [(.val, (.st (.pair .str (.int .i64))))], rs := [(.val, (.st (.pair .str (.int .i64))))], F := F_laws_toMove }
noncomputable def env_laws_toMove : Env := { par := [], dp := false, settle := [], con := fun _ => none, clo := fun _ => none, T := tinf Tryz.prog }
noncomputable def loops_laws_toMove : Nat → Option Loop := fun n => none
theorem con_laws_toMove : ConOK Tryz.prog 86 c_laws_toMove := con_of_ev' (body := Tryz.f86.body.getD .skip) (Λ := loops_laws_toMove) mixed Tryz.func86 (by kernel_rfl) (by kernel_rfl) (envOK_of (E := env_laws_toMove) (fun f c h => by cases h) (fun f c h => by cases h) rfl) (by kernel_rfl) (by kernel_rfl) (fun n L h => by cases h) (fun _ => by kernel_rfl)

noncomputable def F_laws_toHand (x : DT13) : Option (DT13) :=
 match F_laws_toShape (x.1) with
 | none => none
 | some y1 =>
  match F_laws_toOrient (x.2.1) with
  | none => none
  | some y2 =>
   match F_laws_toPlace (x.2.2.1) with
   | none => none
   | some y3 =>
    match F_laws_toMove (x.2.2.2) with
    | none => none
    | some y4 =>
     some ((y1, (y2, y3, y4)))
noncomputable def c_laws_toHand : Con := { ps := [(.val, TY13)], rs := [(.val, TY13)], F := F_laws_toHand }
noncomputable def env_laws_toHand : Env := { par := [], dp := false, settle := [], con := fun f => match f with | 83 => some c_laws_toShape | 84 => some c_laws_toOrient | 85 => some c_laws_toPlace | 86 => some c_laws_toMove | _ => none, clo := fun _ => none, T := tinf Tryz.prog }
noncomputable def loops_laws_toHand : Nat → Option Loop := fun n => none
theorem con_laws_toHand : ConOK Tryz.prog 50 c_laws_toHand := con_of_ev' (body := Tryz.f50.body.getD .skip) (Λ := loops_laws_toHand) mixed Tryz.func50 (by kernel_rfl) (by kernel_rfl) (envOK_of (E := env_laws_toHand) (fun f c h => by
  simp only [env_laws_toHand] at h
  split at h
  · cases h; exact con_laws_toShape
  · cases h; exact con_laws_toOrient
  · cases h; exact con_laws_toPlace
  · cases h; exact con_laws_toMove
  · cases h) (fun f c h => by cases h) rfl) (by kernel_rfl) (by kernel_rfl) (fun n L h => by cases h) (fun _ => by kernel_rfl)

noncomputable def F_laws_toSign (x : DT27) : Option (DT27) :=
 match F_laws_toHand (x.1) with
 | none => none
 | some y1 =>
  match F_laws_toHand (x.2.2) with
  | none => none
  | some y2 =>
   some ((y1, x.2.1, y2))
noncomputable def c_laws_toSign : Con := { ps := [(.val, TY27)], rs := [(.val, TY27)], F := F_laws_toSign }
noncomputable def env_laws_toSign : Env := { par := [], dp := false, settle := [], con := fun f => match f with | 50 => some c_laws_toHand | _ => none, clo := fun _ => none, T := tinf Tryz.prog }
noncomputable def loops_laws_toSign : Nat → Option Loop := fun n => none
theorem con_laws_toSign : ConOK Tryz.prog 19 c_laws_toSign := con_of_ev' (body := Tryz.f19.body.getD .skip) (Λ := loops_laws_toSign) mixed Tryz.func19 (by kernel_rfl) (by kernel_rfl) (envOK_of (E := env_laws_toSign) (fun f c h => by
  simp only [env_laws_toSign] at h
  split at h
  · cases h; exact con_laws_toHand
  · cases h) (fun f c h => by cases h) rfl) (by kernel_rfl) (by kernel_rfl) (fun n L h => by cases h) (fun _ => by kernel_rfl)

noncomputable def F_spec_l1In (x : Int × Int × Int) : Option (Bool) :=
 bif (decide (x.1 ≥ x.2.1)) then
  some ((decide (x.1 ≤ x.2.2)))
 else
  some (false)
noncomputable def c_spec_l1In : Con := { ps := [(.val, (.int .i64)), (.val, (.int .i64)), (.val, (.int .i64))], rs := [(.val, .bool)], F := F_spec_l1In }
noncomputable def env_spec_l1In : Env := { par := [], dp := false, settle := [], con := fun _ => none, clo := fun _ => none, T := tinf Tryz.prog }
noncomputable def loops_spec_l1In : Nat → Option Loop := fun n => none
theorem con_spec_l1In : ConOK Tryz.prog 117 c_spec_l1In := con_of_ev' (body := Tryz.f117.body.getD .skip) (Λ := loops_spec_l1In) mixed Tryz.func117 (by kernel_rfl) (by kernel_rfl) (envOK_of (E := env_spec_l1In) (fun f c h => by cases h) (fun f c h => by cases h) rfl) (by kernel_rfl) (by kernel_rfl) (fun n L h => by cases h) (fun _ => by kernel_rfl)

noncomputable def F_spec_shFingers (x : (Int × (Int × (Int × (Int × (Int × Bool)))))) : Option ((List Int)) :=
 some ([x.2.1, x.2.2.1, x.2.2.2.1, x.2.2.2.2.1])
noncomputable def c_spec_shFingers : Con := { ps := [(.val, (.st (.pair (.int .i64) (.pair (.int .i64) (.pair (.int .i64) (.pair (.int .i64) (.pair (.int .i64) .bool)))))))], rs := [(.io true, (.slice (.int .i64)))], F := F_spec_shFingers }
noncomputable def env_spec_shFingers : Env := { par := [], dp := false, settle := [], con := fun _ => none, clo := fun _ => none, T := tinf Tryz.prog }
noncomputable def loops_spec_shFingers : Nat → Option Loop := fun n => none
theorem con_spec_shFingers : ConOK Tryz.prog 181 c_spec_shFingers := con_of_ev' (body := Tryz.f181.body.getD .skip) (Λ := loops_spec_shFingers) mixed Tryz.func181 (by kernel_rfl) (by kernel_rfl) (envOK_of (E := env_spec_shFingers) (fun f c h => by cases h) (fun f c h => by cases h) rfl) (by kernel_rfl) (by kernel_rfl) (fun n L h => by cases h) (fun _ => by kernel_rfl)

noncomputable def step_spec_l1All_0 (s : Int × Int × (List Int) × Int × Int) : Option ((Int × Int × (List Int) × Int × Int) ⊕ ((Bool) ⊕ (Unit))) :=
 bif (decide (s.2.2.2.2 < s.2.2.2.1)) then
  bif decide (0 ≤ s.2.2.2.2) && decide (s.2.2.2.2 < (s.2.2.1.length : Int)) then
   match F_spec_l1In (((s.2.2.1.getD (s.2.2.2.2).toNat 0), s.1, s.2.1)) with
   | none => none
   | some y3 =>
    bif (!y3) then
     some (.inr (.inl (false)))
    else
     let v4 := IntKind.i64.wrap (s.2.2.2.2 + 1)
     some (.inl ((s.1, s.2.1, (s.2.2.1, s.2.2.2.1, v4))))
  else none
 else
  some (.inr (.inr (())))
def pat_spec_l1All_0 : Pat := { tmps := .any :: .v (.int .i64) :: .v (.int .i64) :: an 6 (.v (.slice (.int .i64)) :: .v (.int .i64) :: .v (.int .i64) :: an 9 []), blks := [] }
def outs_spec_l1All_0 : List (Exit × Pat) := [(.ret, { tmps := an 6 (.v .bool :: an 14 []), blks := [] }), (.exit 0, { tmps := an 21 [], blks := [] })]
noncomputable def F_spec_l1All (x : (List Int) × Int × Int) : Option (Bool) :=
 match runL step_spec_l1All_0 ((x.2.1, x.2.2, (x.1, (x.1.length : Int), 0))) with
 | none => none
 | some (.inl o5) =>
  some (o5)
 | some (.inr o5) =>
  some (true)
noncomputable def c_spec_l1All : Con := { ps := [(.val, (.slice (.int .i64))), (.val, (.int .i64)), (.val, (.int .i64))], rs := [(.val, .bool)], F := F_spec_l1All }
noncomputable def env_spec_l1All : Env := { par := [], dp := false, settle := [], con := fun f => match f with | 117 => some c_spec_l1In | _ => none, clo := fun _ => none, T := tinf Tryz.prog }
noncomputable def loops_spec_l1All : Nat → Option Loop := fun n => match n with | 2 => some { pat := pat_spec_l1All_0, outs := outs_spec_l1All_0, run := runL (step_spec_l1All_0) } | _ => none
theorem con_spec_l1All : ConOK Tryz.prog 180 c_spec_l1All := con_of_ev' (body := Tryz.f180.body.getD .skip) (Λ := loops_spec_l1All) mixed Tryz.func180 (by kernel_rfl) (by kernel_rfl) (envOK_of (E := env_spec_l1All) (fun f c h => by
  simp only [env_spec_l1All] at h
  split at h
  · cases h; exact con_spec_l1In
  · cases h) (fun f c h => by cases h) rfl) (by kernel_rfl) (by kernel_rfl) (fun n L h => by
  unfold loops_spec_l1All at h
  split at h
  · cases h; exact fun s o ho => loop_ok (stepF := stepEv env_spec_l1All loops_spec_l1All pat_spec_l1All_0 outs_spec_l1All_0 Tryz.f180 2) (fun _ => by kernel_rfl) ho
  · cases h) (fun _ => by kernel_rfl)

noncomputable def step_spec_shWide_0 (s : Int × (List Int)) : Option ((Int × (List Int)) ⊕ ((Bool) ⊕ (Unit))) :=
 bif (decide (s.1 < 4)) then
  let v5 := IntKind.i64.wrap (s.1 - 1)
  bif decide (0 ≤ v5) && decide (v5 < (s.2.length : Int)) then
   bif (((s.2.getD (v5).toNat 0) == 0)) then
    bif decide (0 ≤ s.1) && decide (s.1 < (s.2.length : Int)) then
     bif (((s.2.getD (s.1).toNat 0) == 0)) then
      some (.inr (.inl (true)))
     else
      let v6 := IntKind.i64.wrap (s.1 + 1)
      some (.inl ((v6, s.2)))
    else none
   else
    let v7 := IntKind.i64.wrap (s.1 + 1)
    some (.inl ((v7, s.2)))
  else none
 else
  some (.inr (.inr (())))
def pat_spec_shWide_0 : Pat := { tmps := .any :: .any :: .any :: .own 384 :: .v (.int .i64) :: an 19 [], blks := [(384, .row true (.int .i64))] }
def outs_spec_shWide_0 : List (Exit × Pat) := [(.ret, { tmps := .any :: .any :: .v .bool :: an 21 [], blks := [] }), (.exit 0, { tmps := an 24 [], blks := [] })]
noncomputable def F_spec_shWide (x : (Int × (Int × (Int × (Int × (Int × Bool)))))) : Option (Bool) :=
 match F_spec_shFingers (x) with
 | none => none
 | some y1 =>
  match runL step_spec_shWide_0 ((1, y1)) with
  | none => none
  | some (.inl o8) =>
   some (o8)
  | some (.inr o8) =>
   some (false)
noncomputable def c_spec_shWide : Con := { ps := [(.val, (.st (.pair (.int .i64) (.pair (.int .i64) (.pair (.int .i64) (.pair (.int .i64) (.pair (.int .i64) .bool)))))))], rs := [(.val, .bool)], F := F_spec_shWide }
noncomputable def env_spec_shWide : Env := { par := [], dp := false, settle := [], con := fun f => match f with | 181 => some c_spec_shFingers | _ => none, clo := fun _ => none, T := tinf Tryz.prog }
noncomputable def loops_spec_shWide : Nat → Option Loop := fun n => match n with | 3 => some { pat := pat_spec_shWide_0, outs := outs_spec_shWide_0, run := runL (step_spec_shWide_0) } | _ => none
theorem con_spec_shWide : ConOK Tryz.prog 182 c_spec_shWide := con_of_ev' (body := Tryz.f182.body.getD .skip) (Λ := loops_spec_shWide) mixed Tryz.func182 (by kernel_rfl) (by kernel_rfl) (envOK_of (E := env_spec_shWide) (fun f c h => by
  simp only [env_spec_shWide] at h
  split at h
  · cases h; exact con_spec_shFingers
  · cases h) (fun f c h => by cases h) rfl) (by kernel_rfl) (by kernel_rfl) (fun n L h => by
  unfold loops_spec_shWide at h
  split at h
  · cases h; exact fun s o ho => loop_ok (stepF := stepEv env_spec_shWide loops_spec_shWide pat_spec_shWide_0 outs_spec_shWide_0 Tryz.f182 3) (fun _ => by kernel_rfl) ho
  · cases h) (fun _ => by kernel_rfl)

noncomputable def F_spec_shGood (x : (Int × (Int × (Int × (Int × (Int × Bool)))))) : Option (Bool) :=
 match F_spec_l1In ((x.1, 0, 2)) with
 | none => none
 | some y1 =>
  bif y1 then
   match F_spec_shFingers (x) with
   | none => none
   | some y2 =>
    match F_spec_l1All ((y2, 0, 2)) with
    | none => none
    | some y3 =>
     bif y3 then
      bif (!x.2.2.2.2.2) then
       some (true)
      else
       match F_spec_shWide (x) with
       | none => none
       | some y4 =>
        some (y4)
     else
      some (false)
  else
   some (false)
noncomputable def c_spec_shGood : Con := { ps := [(.val, (.st (.pair (.int .i64) (.pair (.int .i64) (.pair (.int .i64) (.pair (.int .i64) (.pair (.int .i64) .bool)))))))], rs := [(.val, .bool)], F := F_spec_shGood }
noncomputable def env_spec_shGood : Env := { par := [], dp := false, settle := [], con := fun f => match f with | 117 => some c_spec_l1In | 180 => some c_spec_l1All | 181 => some c_spec_shFingers | 182 => some c_spec_shWide | _ => none, clo := fun _ => none, T := tinf Tryz.prog }
noncomputable def loops_spec_shGood : Nat → Option Loop := fun n => none
theorem con_spec_shGood : ConOK Tryz.prog 123 c_spec_shGood := con_of_ev' (body := Tryz.f123.body.getD .skip) (Λ := loops_spec_shGood) mixed Tryz.func123 (by kernel_rfl) (by kernel_rfl) (envOK_of (E := env_spec_shGood) (fun f c h => by
  simp only [env_spec_shGood] at h
  split at h
  · cases h; exact con_spec_l1In
  · cases h; exact con_spec_l1All
  · cases h; exact con_spec_shFingers
  · cases h; exact con_spec_shWide
  · cases h) (fun f c h => by cases h) rfl) (by kernel_rfl) (by kernel_rfl) (fun n L h => by cases h) (fun _ => by kernel_rfl)

noncomputable def F_spec_orDir (x : Int) : Option (Bool) :=
 match F_spec_l1In ((x, 0, 5)) with
 | none => none
 | some y1 =>
  some (y1)
noncomputable def c_spec_orDir : Con := { ps := [(.val, (.int .i64))], rs := [(.val, .bool)], F := F_spec_orDir }
noncomputable def env_spec_orDir : Env := { par := [], dp := false, settle := [], con := fun f => match f with | 117 => some c_spec_l1In | _ => none, clo := fun _ => none, T := tinf Tryz.prog }
noncomputable def loops_spec_orDir : Nat → Option Loop := fun n => none
theorem con_spec_orDir : ConOK Tryz.prog 183 c_spec_orDir := con_of_ev' (body := Tryz.f183.body.getD .skip) (Λ := loops_spec_orDir) mixed Tryz.func183 (by kernel_rfl) (by kernel_rfl) (envOK_of (E := env_spec_orDir) (fun f c h => by
  simp only [env_spec_orDir] at h
  split at h
  · cases h; exact con_spec_l1In
  · cases h) (fun f c h => by cases h) rfl) (by kernel_rfl) (by kernel_rfl) (fun n L h => by cases h) (fun _ => by kernel_rfl)

noncomputable def F_spec_orOpposite (x : Int) : Option (Int) :=
 bif !decide (2 = 0) then
  let v1 := (x).tmod 2
  bif ((v1 == 0)) then
   let v2 := IntKind.i64.wrap (x + 1)
   some (v2)
  else
   let v3 := IntKind.i64.wrap (x - 1)
   some (v3)
 else none
noncomputable def c_spec_orOpposite : Con := { ps := [(.val, (.int .i64))], rs := [(.val, (.int .i64))], F := F_spec_orOpposite }
noncomputable def env_spec_orOpposite : Env := { par := [], dp := false, settle := [], con := fun _ => none, clo := fun _ => none, T := tinf Tryz.prog }
noncomputable def loops_spec_orOpposite : Nat → Option Loop := fun n => none
theorem con_spec_orOpposite : ConOK Tryz.prog 184 c_spec_orOpposite := con_of_ev' (body := Tryz.f184.body.getD .skip) (Λ := loops_spec_orOpposite) mixed Tryz.func184 (by kernel_rfl) (by kernel_rfl) (envOK_of (E := env_spec_orOpposite) (fun f c h => by cases h) (fun f c h => by cases h) rfl) (by kernel_rfl) (by kernel_rfl) (fun n L h => by cases h) (fun _ => by kernel_rfl)

noncomputable def F_spec_orGood (x : (Int × Int)) : Option (Bool) :=
 match F_spec_orDir (x.1) with
 | none => none
 | some y1 =>
  bif y1 then
   match F_spec_orDir (x.2) with
   | none => none
   | some y2 =>
    bif y2 then
     bif ((x.1 != x.2)) then
      match F_spec_orOpposite (x.2) with
      | none => none
      | some y3 =>
       some (((x.1 != y3)))
     else
      some (false)
    else
     some (false)
  else
   some (false)
noncomputable def c_spec_orGood : Con := { ps := [(.val, (.st (.pair (.int .i64) (.int .i64))))], rs := [(.val, .bool)], F := F_spec_orGood }
noncomputable def env_spec_orGood : Env := { par := [], dp := false, settle := [], con := fun f => match f with | 183 => some c_spec_orDir | 184 => some c_spec_orOpposite | _ => none, clo := fun _ => none, T := tinf Tryz.prog }
noncomputable def loops_spec_orGood : Nat → Option Loop := fun n => none
theorem con_spec_orGood : ConOK Tryz.prog 124 c_spec_orGood := con_of_ev' (body := Tryz.f124.body.getD .skip) (Λ := loops_spec_orGood) mixed Tryz.func124 (by kernel_rfl) (by kernel_rfl) (envOK_of (E := env_spec_orGood) (fun f c h => by
  simp only [env_spec_orGood] at h
  split at h
  · cases h; exact con_spec_orDir
  · cases h; exact con_spec_orOpposite
  · cases h) (fun f c h => by cases h) rfl) (by kernel_rfl) (by kernel_rfl) (fun n L h => by cases h) (fun _ => by kernel_rfl)

noncomputable def F_spec_plGood (x : (Int × (Int × Bool))) : Option (Bool) :=
 match F_spec_l1In ((x.1, 0, 9)) with
 | none => none
 | some y1 =>
  bif y1 then
   match F_spec_l1In ((x.2.1, (-1), 1)) with
   | none => none
   | some y2 =>
    bif y2 then
     bif (decide (x.1 > 0)) then
      some (true)
     else
      some ((!x.2.2))
    else
     some (false)
  else
   some (false)
noncomputable def c_spec_plGood : Con := { ps := [(.val, (.st (.pair (.int .i64) (.pair (.int .i64) .bool))))], rs := [(.val, .bool)], F := F_spec_plGood }
noncomputable def env_spec_plGood : Env := { par := [], dp := false, settle := [], con := fun f => match f with | 117 => some c_spec_l1In | _ => none, clo := fun _ => none, T := tinf Tryz.prog }
noncomputable def loops_spec_plGood : Nat → Option Loop := fun n => none
theorem con_spec_plGood : ConOK Tryz.prog 125 c_spec_plGood := con_of_ev' (body := Tryz.f125.body.getD .skip) (Λ := loops_spec_plGood) mixed Tryz.func125 (by kernel_rfl) (by kernel_rfl) (envOK_of (E := env_spec_plGood) (fun f c h => by
  simp only [env_spec_plGood] at h
  split at h
  · cases h; exact con_spec_l1In
  · cases h) (fun f c h => by cases h) rfl) (by kernel_rfl) (by kernel_rfl) (fun n L h => by cases h) (fun _ => by kernel_rfl)

noncomputable def F_spec_mvLetters (x : Unit) : Option (ByteArray) :=
 some ((⟨#[117, 100, 108, 114, 102, 98]⟩ : ByteArray))
noncomputable def c_spec_mvLetters : Con := { ps := [], rs := [(.val, .str)], F := F_spec_mvLetters }
noncomputable def env_spec_mvLetters : Env := { par := [], dp := false, settle := [], con := fun _ => none, clo := fun _ => none, T := tinf Tryz.prog }
noncomputable def loops_spec_mvLetters : Nat → Option Loop := fun n => none
theorem con_spec_mvLetters : ConOK Tryz.prog 247 c_spec_mvLetters := con_of_ev' (body := Tryz.f247.body.getD .skip) (Λ := loops_spec_mvLetters) mixed Tryz.func247 (by kernel_rfl) (by kernel_rfl) (envOK_of (E := env_spec_mvLetters) (fun f c h => by cases h) (fun f c h => by cases h) rfl) (by kernel_rfl) (by kernel_rfl) (fun n L h => by cases h) (fun _ => by kernel_rfl)

noncomputable def step_spec_mvIndex_0 (s : Int × Int) : Option ((Int × Int) ⊕ ((Int) ⊕ (Unit))) :=
 match F_spec_mvLetters () with
 | none => none
 | some y4 =>
  bif (decide (s.2 < (y4.size : Int))) then
   match F_spec_mvLetters () with
   | none => none
   | some y5 =>
    bif decide (0 ≤ s.2) && decide (s.2 < (y5.size : Int)) then
     bif (((byteAt y5 (s.2).toNat) == s.1)) then
      some (.inr (.inl (s.2)))
     else
      let v6 := IntKind.i64.wrap (s.2 + 1)
      some (.inl ((s.1, v6)))
    else none
  else
   some (.inr (.inr (())))
def pat_spec_mvIndex_0 : Pat := { tmps := .v (.int .u8) :: .any :: .any :: .v (.int .i64) :: an 12 [], blks := [] }
def outs_spec_mvIndex_0 : List (Exit × Pat) := [(.ret, { tmps := .any :: .any :: .v (.int .i64) :: an 13 [], blks := [] }), (.exit 0, { tmps := an 16 [], blks := [] })]
noncomputable def F_spec_mvIndex (x : Int) : Option (Int) :=
 match runL step_spec_mvIndex_0 ((x, 0)) with
 | none => none
 | some (.inl o7) =>
  some (o7)
 | some (.inr o7) =>
  some ((-1))
noncomputable def c_spec_mvIndex : Con := { ps := [(.val, (.int .u8))], rs := [(.val, (.int .i64))], F := F_spec_mvIndex }
noncomputable def env_spec_mvIndex : Env := { par := [], dp := false, settle := [], con := fun f => match f with | 247 => some c_spec_mvLetters | _ => none, clo := fun _ => none, T := tinf Tryz.prog }
noncomputable def loops_spec_mvIndex : Nat → Option Loop := fun n => match n with | 2 => some { pat := pat_spec_mvIndex_0, outs := outs_spec_mvIndex_0, run := runL (step_spec_mvIndex_0) } | _ => none
theorem con_spec_mvIndex : ConOK Tryz.prog 225 c_spec_mvIndex := con_of_ev' (body := Tryz.f225.body.getD .skip) (Λ := loops_spec_mvIndex) mixed Tryz.func225 (by kernel_rfl) (by kernel_rfl) (envOK_of (E := env_spec_mvIndex) (fun f c h => by
  simp only [env_spec_mvIndex] at h
  split at h
  · cases h; exact con_spec_mvLetters
  · cases h) (fun f c h => by cases h) rfl) (by kernel_rfl) (by kernel_rfl) (fun n L h => by
  unfold loops_spec_mvIndex at h
  split at h
  · cases h; exact fun s o ho => loop_ok (stepF := stepEv env_spec_mvIndex loops_spec_mvIndex pat_spec_mvIndex_0 outs_spec_mvIndex_0 Tryz.f225 2) (fun _ => by kernel_rfl) ho
  · cases h) (fun _ => by kernel_rfl)

noncomputable def step_spec_mvSteps_0 (s : ByteArray × Int) : Option ((ByteArray × Int) ⊕ ((Bool) ⊕ (Unit))) :=
 bif (decide (s.2 < (s.1.size : Int))) then
  bif decide (0 ≤ s.2) && decide (s.2 < (s.1.size : Int)) then
   match F_spec_mvIndex ((byteAt s.1 (s.2).toNat)) with
   | none => none
   | some y3 =>
    bif (decide (y3 < 0)) then
     some (.inr (.inl (false)))
    else
     let v4 := IntKind.i64.wrap (s.2 + 1)
     some (.inl ((s.1, v4)))
  else none
 else
  some (.inr (.inr (())))
def pat_spec_mvSteps_0 : Pat := { tmps := .v .str :: .any :: .any :: .v (.int .i64) :: an 11 [], blks := [] }
def outs_spec_mvSteps_0 : List (Exit × Pat) := [(.ret, { tmps := .any :: .any :: .v .bool :: an 12 [], blks := [] }), (.exit 0, { tmps := an 15 [], blks := [] })]
noncomputable def F_spec_mvSteps (x : ByteArray) : Option (Bool) :=
 match runL step_spec_mvSteps_0 ((x, 0)) with
 | none => none
 | some (.inl o5) =>
  some (o5)
 | some (.inr o5) =>
  some (true)
noncomputable def c_spec_mvSteps : Con := { ps := [(.val, .str)], rs := [(.val, .bool)], F := F_spec_mvSteps }
noncomputable def env_spec_mvSteps : Env := { par := [], dp := false, settle := [], con := fun f => match f with | 225 => some c_spec_mvIndex | _ => none, clo := fun _ => none, T := tinf Tryz.prog }
noncomputable def loops_spec_mvSteps : Nat → Option Loop := fun n => match n with | 2 => some { pat := pat_spec_mvSteps_0, outs := outs_spec_mvSteps_0, run := runL (step_spec_mvSteps_0) } | _ => none
theorem con_spec_mvSteps : ConOK Tryz.prog 185 c_spec_mvSteps := con_of_ev' (body := Tryz.f185.body.getD .skip) (Λ := loops_spec_mvSteps) mixed Tryz.func185 (by kernel_rfl) (by kernel_rfl) (envOK_of (E := env_spec_mvSteps) (fun f c h => by
  simp only [env_spec_mvSteps] at h
  split at h
  · cases h; exact con_spec_mvIndex
  · cases h) (fun f c h => by cases h) rfl) (by kernel_rfl) (by kernel_rfl) (fun n L h => by
  unfold loops_spec_mvSteps at h
  split at h
  · cases h; exact fun s o ho => loop_ok (stepF := stepEv env_spec_mvSteps loops_spec_mvSteps pat_spec_mvSteps_0 outs_spec_mvSteps_0 Tryz.f185 2) (fun _ => by kernel_rfl) ho
  · cases h) (fun _ => by kernel_rfl)

noncomputable def F_spec_mvGood (x : (ByteArray × Int)) : Option (Bool) :=
 bif (decide ((x.1.size : Int) ≤ 6)) then
  match F_spec_mvSteps (x.1) with
  | none => none
  | some y1 =>
   bif y1 then
    match F_spec_l1In ((x.2, 1, 3)) with
    | none => none
    | some y2 =>
     bif y2 then
      bif (!(x.1.toList == (⟨#[]⟩ : ByteArray).toList)) then
       some (true)
      else
       some (((x.2 == 1)))
     else
      some (false)
   else
    some (false)
 else
  some (false)
noncomputable def c_spec_mvGood : Con := { ps := [(.val, (.st (.pair .str (.int .i64))))], rs := [(.val, .bool)], F := F_spec_mvGood }
noncomputable def env_spec_mvGood : Env := { par := [], dp := false, settle := [], con := fun f => match f with | 117 => some c_spec_l1In | 185 => some c_spec_mvSteps | _ => none, clo := fun _ => none, T := tinf Tryz.prog }
noncomputable def loops_spec_mvGood : Nat → Option Loop := fun n => none
theorem con_spec_mvGood : ConOK Tryz.prog 126 c_spec_mvGood := con_of_ev' (body := Tryz.f126.body.getD .skip) (Λ := loops_spec_mvGood) mixed Tryz.func126 (by kernel_rfl) (by kernel_rfl) (envOK_of (E := env_spec_mvGood) (fun f c h => by
  simp only [env_spec_mvGood] at h
  split at h
  · cases h; exact con_spec_l1In
  · cases h; exact con_spec_mvSteps
  · cases h) (fun f c h => by cases h) rfl) (by kernel_rfl) (by kernel_rfl) (fun n L h => by cases h) (fun _ => by kernel_rfl)

noncomputable def F_spec_siHand (x : DT13) : Option (Bool) :=
 match F_spec_shGood (x.1) with
 | none => none
 | some y1 =>
  bif y1 then
   match F_spec_orGood (x.2.1) with
   | none => none
   | some y2 =>
    bif y2 then
     match F_spec_plGood (x.2.2.1) with
     | none => none
     | some y3 =>
      bif y3 then
       match F_spec_mvGood (x.2.2.2) with
       | none => none
       | some y4 =>
        some (y4)
      else
       some (false)
    else
     some (false)
  else
   some (false)
noncomputable def c_spec_siHand : Con := { ps := [(.val, TY13)], rs := [(.val, .bool)], F := F_spec_siHand }
noncomputable def env_spec_siHand : Env := { par := [], dp := false, settle := [], con := fun f => match f with | 123 => some c_spec_shGood | 124 => some c_spec_orGood | 125 => some c_spec_plGood | 126 => some c_spec_mvGood | _ => none, clo := fun _ => none, T := tinf Tryz.prog }
noncomputable def loops_spec_siHand : Nat → Option Loop := fun n => none
theorem con_spec_siHand : ConOK Tryz.prog 78 c_spec_siHand := con_of_ev' (body := Tryz.f78.body.getD .skip) (Λ := loops_spec_siHand) mixed Tryz.func78 (by kernel_rfl) (by kernel_rfl) (envOK_of (E := env_spec_siHand) (fun f c h => by
  simp only [env_spec_siHand] at h
  split at h
  · cases h; exact con_spec_shGood
  · cases h; exact con_spec_orGood
  · cases h; exact con_spec_plGood
  · cases h; exact con_spec_mvGood
  · cases h) (fun f c h => by cases h) rfl) (by kernel_rfl) (by kernel_rfl) (fun n L h => by cases h) (fun _ => by kernel_rfl)

noncomputable def step_spec_shParse_0 (s : ByteArray × Int × Int × Int × Int × Int × Int × Bool × (List Int)) : Option ((ByteArray × Int × Int × Int × Int × Int × Int × Bool × (List Int)) ⊕ ((ByteArray × (List Int) × Int × Int × Int × Int × Int × Bool))) :=
 bif (decide (s.2.1 < 5)) then
  bif decide (0 ≤ s.2.1) && decide (s.2.1 < (s.1.size : Int)) then
   let v22 := IntKind.i64.wrap (byteAt s.1 (s.2.1).toNat)
   let v23 := IntKind.i64.wrap (v22 - 48)
   bif decide ((s.2.2.2.2.2.2.2.2.length + [v23].length) * 8 ≤ 140737488355328) then
    let v24 := s.2.2.2.2.2.2.2.2 ++ [v23]
    let v25 := IntKind.i64.wrap (s.2.1 + 1)
    some (.inl ((s.1, v25, (s.2.2.1, s.2.2.2.1, (s.2.2.2.2.1, s.2.2.2.2.2.1, (s.2.2.2.2.2.2.1, s.2.2.2.2.2.2.2.1, v24))))))
   else none
  else none
 else
  some (.inr ((s.1, (s.2.2.2.2.2.2.2.2, s.2.2.1, (s.2.2.2.1, s.2.2.2.2.1, (s.2.2.2.2.2.1, s.2.2.2.2.2.2.1, s.2.2.2.2.2.2.2.1))))))
def pat_spec_shParse_0 : Pat := { tmps := .v .str :: .any :: .ptr 128 0 :: .any :: .own 2112 :: .v (.int .i64) :: an 52 [], blks := [(128, .box [.v (.int .i64), .v (.int .i64), .v (.int .i64), .v (.int .i64), .v (.int .i64), .v .bool]), (2112, .row true (.int .i64))] }
def outs_spec_shParse_0 : List (Exit × Pat) := [(.exit 0, { tmps := .v .str :: .any :: .ptr 128 0 :: .any :: .own 2112 :: an 53 [], blks := [(2112, .row true (.int .i64)), (128, .box [.v (.int .i64), .v (.int .i64), .v (.int .i64), .v (.int .i64), .v (.int .i64), .v .bool])] })]
noncomputable def F_spec_shParse (x : ByteArray) : Option ((Int × (Int × (Int × (Int × (Int × Bool))))) × Bool) :=
 match F_spec_l1In (((x.size : Int), 5, 6)) with
 | none => none
 | some y1 =>
  bif (!y1) then
   some (((0, (0, 0, (0, 0, false))), false))
  else
   bif (((x.size : Int) == 6)) then
    bif decide (0 ≤ 5) && decide (5 < (x.size : Int)) then
     bif (((byteAt x (5 : Int).toNat) != 115)) then
      some (((0, (0, 0, (0, 0, false))), false))
     else
      match runL step_spec_shParse_0 ((x, 0, (0, 0, (0, 0, (0, false, []))))) with
      | none => none
      | some o13 =>
       bif decide (0 ≤ 0) && decide (0 < (o13.2.1.length : Int)) then
        bif decide (0 ≤ 1) && decide (1 < (o13.2.1.length : Int)) then
         bif decide (0 ≤ 2) && decide (2 < (o13.2.1.length : Int)) then
          bif decide (0 ≤ 3) && decide (3 < (o13.2.1.length : Int)) then
           bif decide (0 ≤ 4) && decide (4 < (o13.2.1.length : Int)) then
            match F_spec_shGood (((o13.2.1.getD (0 : Int).toNat 0), ((o13.2.1.getD (1 : Int).toNat 0), (o13.2.1.getD (2 : Int).toNat 0), ((o13.2.1.getD (3 : Int).toNat 0), (o13.2.1.getD (4 : Int).toNat 0), (((o13.1.size : Int) == 6)))))) with
            | none => none
            | some y14 =>
             bif (!y14) then
              some (((0, (0, 0, (0, 0, false))), false))
             else
              some ((((o13.2.1.getD (0 : Int).toNat 0), ((o13.2.1.getD (1 : Int).toNat 0), (o13.2.1.getD (2 : Int).toNat 0), ((o13.2.1.getD (3 : Int).toNat 0), (o13.2.1.getD (4 : Int).toNat 0), (((o13.1.size : Int) == 6))))), true))
           else none
          else none
         else none
        else none
       else none
    else none
   else
    match runL step_spec_shParse_0 ((x, 0, (0, 0, (0, 0, (0, false, []))))) with
    | none => none
    | some o26 =>
     bif decide (0 ≤ 0) && decide (0 < (o26.2.1.length : Int)) then
      bif decide (0 ≤ 1) && decide (1 < (o26.2.1.length : Int)) then
       bif decide (0 ≤ 2) && decide (2 < (o26.2.1.length : Int)) then
        bif decide (0 ≤ 3) && decide (3 < (o26.2.1.length : Int)) then
         bif decide (0 ≤ 4) && decide (4 < (o26.2.1.length : Int)) then
          match F_spec_shGood (((o26.2.1.getD (0 : Int).toNat 0), ((o26.2.1.getD (1 : Int).toNat 0), (o26.2.1.getD (2 : Int).toNat 0), ((o26.2.1.getD (3 : Int).toNat 0), (o26.2.1.getD (4 : Int).toNat 0), (((o26.1.size : Int) == 6)))))) with
          | none => none
          | some y27 =>
           bif (!y27) then
            some (((0, (0, 0, (0, 0, false))), false))
           else
            some ((((o26.2.1.getD (0 : Int).toNat 0), ((o26.2.1.getD (1 : Int).toNat 0), (o26.2.1.getD (2 : Int).toNat 0), ((o26.2.1.getD (3 : Int).toNat 0), (o26.2.1.getD (4 : Int).toNat 0), (((o26.1.size : Int) == 6))))), true))
         else none
        else none
       else none
      else none
     else none
noncomputable def c_spec_shParse : Con := { ps := [(.val, .str)], rs := [(.val, (.st (.pair (.int .i64) (.pair (.int .i64) (.pair (.int .i64) (.pair (.int .i64) (.pair (.int .i64) .bool))))))), (.val, .bool)], F := F_spec_shParse }
noncomputable def env_spec_shParse : Env := { par := [], dp := false, settle := [], con := fun f => match f with | 117 => some c_spec_l1In | 123 => some c_spec_shGood | _ => none, clo := fun _ => none, T := tinf Tryz.prog }
noncomputable def loops_spec_shParse : Nat → Option Loop := fun n => match n with | 5 => some { pat := pat_spec_shParse_0, outs := outs_spec_shParse_0, run := runL (step_spec_shParse_0) } | _ => none
theorem con_spec_shParse : ConOK Tryz.prog 100 c_spec_shParse := con_of_ev' (body := Tryz.f100.body.getD .skip) (Λ := loops_spec_shParse) mixed Tryz.func100 (by kernel_rfl) (by kernel_rfl) (envOK_of (E := env_spec_shParse) (fun f c h => by
  simp only [env_spec_shParse] at h
  split at h
  · cases h; exact con_spec_l1In
  · cases h; exact con_spec_shGood
  · cases h) (fun f c h => by cases h) rfl) (by kernel_rfl) (by kernel_rfl) (fun n L h => by
  unfold loops_spec_shParse at h
  split at h
  · cases h; exact fun s o ho => loop_ok (stepF := stepEv env_spec_shParse loops_spec_shParse pat_spec_shParse_0 outs_spec_shParse_0 Tryz.f100 5) (fun _ => by kernel_rfl) ho
  · cases h) (fun _ => by kernel_rfl)

noncomputable def step_spec_siPlain_0 (s : Int × Int × (List ByteArray) × (List (Int × (Int × (Int × (Int × (Int × Bool))))))) : Option ((Int × Int × (List ByteArray) × (List (Int × (Int × (Int × (Int × (Int × Bool))))))) ⊕ (((List (Int × (Int × (Int × (Int × (Int × Bool))))))))) :=
 bif (decide (s.2.1 < s.1)) then
  bif decide (0 ≤ s.2.1) && decide (s.2.1 < (s.2.2.1.length : Int)) then
   match F_spec_shParse ((s.2.2.1.getD (s.2.1).toNat ByteArray.empty)) with
   | none => none
   | some y6 =>
    bif decide ((s.2.2.2.length + [y6.1].length) * 48 ≤ 140737488355328) then
     let v7 := s.2.2.2 ++ [y6.1]
     let v8 := IntKind.i64.wrap (s.2.1 + 1)
     some (.inl ((s.1, (v8, s.2.2.1, v7))))
    else none
  else none
 else
  some (.inr (s.2.2.2))
def pat_spec_siPlain_0 : Pat := { tmps := .any :: .own 1280 :: an 4 (.own 384 :: .v (.int .i64) :: .v (.int .i64) :: an 14 []), blks := [(384, .row true .str), (1280, .row true (.st (.pair (.int .i64) (.pair (.int .i64) (.pair (.int .i64) (.pair (.int .i64) (.pair (.int .i64) .bool)))))))] }
def outs_spec_siPlain_0 : List (Exit × Pat) := [(.exit 0, { tmps := .any :: .own 1280 :: an 21 [], blks := [(1280, .row true (.st (.pair (.int .i64) (.pair (.int .i64) (.pair (.int .i64) (.pair (.int .i64) (.pair (.int .i64) .bool)))))))] })]
noncomputable def F_spec_siPlain (x : Unit) : Option ((List (Int × (Int × (Int × (Int × (Int × Bool))))))) :=
 match runL step_spec_siPlain_0 ((([(⟨#[48, 48, 48, 48, 48]⟩ : ByteArray), (⟨#[48, 48, 48, 48, 48, 115]⟩ : ByteArray), (⟨#[50, 50, 50, 50, 50]⟩ : ByteArray), (⟨#[49, 48, 48, 48, 48]⟩ : ByteArray), (⟨#[49, 48, 50, 50, 50]⟩ : ByteArray), (⟨#[48, 48, 50, 50, 50]⟩ : ByteArray)].length : Int), (0, [(⟨#[48, 48, 48, 48, 48]⟩ : ByteArray), (⟨#[48, 48, 48, 48, 48, 115]⟩ : ByteArray), (⟨#[50, 50, 50, 50, 50]⟩ : ByteArray), (⟨#[49, 48, 48, 48, 48]⟩ : ByteArray), (⟨#[49, 48, 50, 50, 50]⟩ : ByteArray), (⟨#[48, 48, 50, 50, 50]⟩ : ByteArray)], []))) with
 | none => none
 | some o9 =>
  some (o9)
noncomputable def c_spec_siPlain : Con := { ps := [], rs := [(.io true, (.slice (.st (.pair (.int .i64) (.pair (.int .i64) (.pair (.int .i64) (.pair (.int .i64) (.pair (.int .i64) .bool))))))))], F := F_spec_siPlain }
noncomputable def env_spec_siPlain : Env := { par := [], dp := false, settle := [], con := fun f => match f with | 100 => some c_spec_shParse | _ => none, clo := fun _ => none, T := tinf Tryz.prog }
noncomputable def loops_spec_siPlain : Nat → Option Loop := fun n => match n with | 3 => some { pat := pat_spec_siPlain_0, outs := outs_spec_siPlain_0, run := runL (step_spec_siPlain_0) } | _ => none
theorem con_spec_siPlain : ConOK Tryz.prog 127 c_spec_siPlain := con_of_ev' (body := Tryz.f127.body.getD .skip) (Λ := loops_spec_siPlain) mixed Tryz.func127 (by kernel_rfl) (by kernel_rfl) (envOK_of (E := env_spec_siPlain) (fun f c h => by
  simp only [env_spec_siPlain] at h
  split at h
  · cases h; exact con_spec_shParse
  · cases h) (fun f c h => by cases h) rfl) (by kernel_rfl) (by kernel_rfl) (fun n L h => by
  unfold loops_spec_siPlain at h
  split at h
  · cases h; exact fun s o ho => loop_ok (stepF := stepEv env_spec_siPlain loops_spec_siPlain pat_spec_siPlain_0 outs_spec_siPlain_0 Tryz.f127 3) (fun _ => by kernel_rfl) ho
  · cases h) (fun _ => by kernel_rfl)

noncomputable def F_spec_orSwap (x : Int) : Option (Int) :=
 bif ((x == 2)) then
  match F_spec_orOpposite (x) with
  | none => none
  | some y1 =>
   some (y1)
 else
  bif ((x == 3)) then
   match F_spec_orOpposite (x) with
   | none => none
   | some y2 =>
    some (y2)
  else
   some (x)
noncomputable def c_spec_orSwap : Con := { ps := [(.val, (.int .i64))], rs := [(.val, (.int .i64))], F := F_spec_orSwap }
noncomputable def env_spec_orSwap : Env := { par := [], dp := false, settle := [], con := fun f => match f with | 184 => some c_spec_orOpposite | _ => none, clo := fun _ => none, T := tinf Tryz.prog }
noncomputable def loops_spec_orSwap : Nat → Option Loop := fun n => none
theorem con_spec_orSwap : ConOK Tryz.prog 186 c_spec_orSwap := con_of_ev' (body := Tryz.f186.body.getD .skip) (Λ := loops_spec_orSwap) mixed Tryz.func186 (by kernel_rfl) (by kernel_rfl) (envOK_of (E := env_spec_orSwap) (fun f c h => by
  simp only [env_spec_orSwap] at h
  split at h
  · cases h; exact con_spec_orOpposite
  · cases h) (fun f c h => by cases h) rfl) (by kernel_rfl) (by kernel_rfl) (fun n L h => by cases h) (fun _ => by kernel_rfl)

noncomputable def F_spec_orMirror (x : (Int × Int)) : Option ((Int × Int)) :=
 match F_spec_orSwap (x.1) with
 | none => none
 | some y1 =>
  match F_spec_orSwap (x.2) with
  | none => none
  | some y2 =>
   some ((y1, y2))
noncomputable def c_spec_orMirror : Con := { ps := [(.val, (.st (.pair (.int .i64) (.int .i64))))], rs := [(.val, (.st (.pair (.int .i64) (.int .i64))))], F := F_spec_orMirror }
noncomputable def env_spec_orMirror : Env := { par := [], dp := false, settle := [], con := fun f => match f with | 186 => some c_spec_orSwap | _ => none, clo := fun _ => none, T := tinf Tryz.prog }
noncomputable def loops_spec_orMirror : Nat → Option Loop := fun n => none
theorem con_spec_orMirror : ConOK Tryz.prog 128 c_spec_orMirror := con_of_ev' (body := Tryz.f128.body.getD .skip) (Λ := loops_spec_orMirror) mixed Tryz.func128 (by kernel_rfl) (by kernel_rfl) (envOK_of (E := env_spec_orMirror) (fun f c h => by
  simp only [env_spec_orMirror] at h
  split at h
  · cases h; exact con_spec_orSwap
  · cases h) (fun f c h => by cases h) rfl) (by kernel_rfl) (by kernel_rfl) (fun n L h => by cases h) (fun _ => by kernel_rfl)

noncomputable def step_spec_mvTimes_0 (s : ByteArray × Int × ByteArray) : Option ((ByteArray × Int × ByteArray) ⊕ ((ByteArray))) :=
 bif (decide (s.2.1 > 0)) then
  bif decide (s.2.2.size + s.1.size ≤ 9223372036854775807) then
   let v2 := IntKind.i64.wrap (s.2.1 - 1)
   some (.inl ((s.1, v2, (s.2.2 ++ s.1))))
  else none
 else
  some (.inr (s.2.2))
def pat_spec_mvTimes_0 : Pat := { tmps := .v .str :: .v (.int .i64) :: .any :: .any :: .any :: .v .str :: an 8 [], blks := [] }
def outs_spec_mvTimes_0 : List (Exit × Pat) := [(.exit 0, { tmps := an 5 (.v .str :: an 8 []), blks := [] })]
noncomputable def F_spec_mvTimes (x : ByteArray × Int) : Option (ByteArray) :=
 match runL step_spec_mvTimes_0 ((x.1, x.2, (⟨#[]⟩ : ByteArray))) with
 | none => none
 | some o3 =>
  some (o3)
noncomputable def c_spec_mvTimes : Con := { ps := [(.val, .str), (.val, (.int .i64))], rs := [(.val, .str)], F := F_spec_mvTimes }
noncomputable def env_spec_mvTimes : Env := { par := [], dp := false, settle := [], con := fun _ => none, clo := fun _ => none, T := tinf Tryz.prog }
noncomputable def loops_spec_mvTimes : Nat → Option Loop := fun n => match n with | 2 => some { pat := pat_spec_mvTimes_0, outs := outs_spec_mvTimes_0, run := runL (step_spec_mvTimes_0) } | _ => none
theorem con_spec_mvTimes : ConOK Tryz.prog 187 c_spec_mvTimes := con_of_ev' (body := Tryz.f187.body.getD .skip) (Λ := loops_spec_mvTimes) mixed Tryz.func187 (by kernel_rfl) (by kernel_rfl) (envOK_of (E := env_spec_mvTimes) (fun f c h => by cases h) (fun f c h => by cases h) rfl) (by kernel_rfl) (by kernel_rfl) (fun n L h => by
  unfold loops_spec_mvTimes at h
  split at h
  · cases h; exact fun s o ho => loop_ok (stepF := stepEv env_spec_mvTimes loops_spec_mvTimes pat_spec_mvTimes_0 outs_spec_mvTimes_0 Tryz.f187 2) (fun _ => by kernel_rfl) ho
  · cases h) (fun _ => by kernel_rfl)

noncomputable def F_spec_mvAll (x : (ByteArray × Int)) : Option (ByteArray) :=
 match F_spec_mvTimes (x) with
 | none => none
 | some y1 =>
  some (y1)
noncomputable def c_spec_mvAll : Con := { ps := [(.val, (.st (.pair .str (.int .i64))))], rs := [(.val, .str)], F := F_spec_mvAll }
noncomputable def env_spec_mvAll : Env := { par := [], dp := false, settle := [], con := fun f => match f with | 187 => some c_spec_mvTimes | _ => none, clo := fun _ => none, T := tinf Tryz.prog }
noncomputable def loops_spec_mvAll : Nat → Option Loop := fun n => none
theorem con_spec_mvAll : ConOK Tryz.prog 129 c_spec_mvAll := con_of_ev' (body := Tryz.f129.body.getD .skip) (Λ := loops_spec_mvAll) mixed Tryz.func129 (by kernel_rfl) (by kernel_rfl) (envOK_of (E := env_spec_mvAll) (fun f c h => by
  simp only [env_spec_mvAll] at h
  split at h
  · cases h; exact con_spec_mvTimes
  · cases h) (fun f c h => by cases h) rfl) (by kernel_rfl) (by kernel_rfl) (fun n L h => by cases h) (fun _ => by kernel_rfl)

noncomputable def step_spec_mvMirror_0 (s : ByteArray × Int × ByteArray × Int × ByteArray × Int) : Option ((ByteArray × Int × ByteArray × Int × ByteArray × Int) ⊕ ((ByteArray × ByteArray × Int × ByteArray × Int))) :=
 bif (decide (s.2.1 < (s.2.2.2.2.1.size : Int))) then
  bif decide (0 ≤ s.2.1) && decide (s.2.1 < (s.2.2.2.2.1.size : Int)) then
   bif (((byteAt s.2.2.2.2.1 (s.2.1).toNat) == 108)) then
    bif decide (s.1.size + (⟨#[114]⟩ : ByteArray).size ≤ 9223372036854775807) then
     let v5 := IntKind.i64.wrap (s.2.1 + 1)
     some (.inl (((s.1 ++ (⟨#[114]⟩ : ByteArray)), v5, s.2.2)))
    else none
   else
    bif (((byteAt s.2.2.2.2.1 (s.2.1).toNat) == 114)) then
     bif decide (s.1.size + (⟨#[108]⟩ : ByteArray).size ≤ 9223372036854775807) then
      let v6 := IntKind.i64.wrap (s.2.1 + 1)
      some (.inl (((s.1 ++ (⟨#[108]⟩ : ByteArray)), v6, s.2.2)))
     else none
    else
     let v7 := IntKind.i64.wrap (s.2.1 + 1)
     bif decide (0 ≤ s.2.1) && decide (s.2.1 ≤ v7) && decide (v7 ≤ (s.2.2.2.2.1.size : Int)) then
      bif decide (s.1.size + (s.2.2.2.2.1.extract (s.2.1).toNat (v7).toNat).size ≤ 9223372036854775807) then
       let v8 := IntKind.i64.wrap (s.2.1 + 1)
       some (.inl (((s.1 ++ (s.2.2.2.2.1.extract (s.2.1).toNat (v7).toNat)), v8, s.2.2)))
      else none
     else none
  else none
 else
  some (.inr ((s.1, s.2.2)))
def pat_spec_mvMirror_0 : Pat := { tmps := .any :: .ptr 64 0 :: .ptr 128 0 :: .v .str :: .v (.int .i64) :: an 31 [], blks := [(128, .box [.v .str, .v (.int .i64)]), (64, .box [.v .str, .v (.int .i64)])] }
def outs_spec_mvMirror_0 : List (Exit × Pat) := [(.exit 0, { tmps := .any :: .ptr 64 0 :: .ptr 128 0 :: .v .str :: an 32 [], blks := [(128, .box [.v .str, .v (.int .i64)]), (64, .box [.v .str, .v (.int .i64)])] })]
noncomputable def F_spec_mvMirror (x : (ByteArray × Int)) : Option ((ByteArray × Int)) :=
 match runL step_spec_mvMirror_0 (((⟨#[]⟩ : ByteArray), 0, (ByteArray.empty, 0, x))) with
 | none => none
 | some o9 =>
  some ((o9.1, o9.2.2.2.2))
noncomputable def c_spec_mvMirror : Con := { ps := [(.val, (.st (.pair .str (.int .i64))))], rs := [(.val, (.st (.pair .str (.int .i64))))], F := F_spec_mvMirror }
noncomputable def env_spec_mvMirror : Env := { par := [], dp := false, settle := [], con := fun _ => none, clo := fun _ => none, T := tinf Tryz.prog }
noncomputable def loops_spec_mvMirror : Nat → Option Loop := fun n => match n with | 3 => some { pat := pat_spec_mvMirror_0, outs := outs_spec_mvMirror_0, run := runL (step_spec_mvMirror_0) } | _ => none
theorem con_spec_mvMirror : ConOK Tryz.prog 130 c_spec_mvMirror := con_of_ev' (body := Tryz.f130.body.getD .skip) (Λ := loops_spec_mvMirror) mixed Tryz.func130 (by kernel_rfl) (by kernel_rfl) (envOK_of (E := env_spec_mvMirror) (fun f c h => by cases h) (fun f c h => by cases h) rfl) (by kernel_rfl) (by kernel_rfl) (fun n L h => by
  unfold loops_spec_mvMirror at h
  split at h
  · cases h; exact fun s o ho => loop_ok (stepF := stepEv env_spec_mvMirror loops_spec_mvMirror pat_spec_mvMirror_0 outs_spec_mvMirror_0 Tryz.f130 3) (fun _ => by kernel_rfl) ho
  · cases h) (fun _ => by kernel_rfl)

noncomputable def step_spec_siBroken_0 (s : Int × Int × (List (Int × (Int × (Int × (Int × (Int × Bool)))))) × Int × Int × Int × Int × Int × Bool × Int × Int × Int × Int × Bool × ByteArray × Int) : Option ((Int × Int × (List (Int × (Int × (Int × (Int × (Int × Bool)))))) × Int × Int × Int × Int × Int × Bool × Int × Int × Int × Int × Bool × ByteArray × Int) ⊕ ((Int) ⊕ (Unit))) :=
 bif (decide (s.2.1 < s.1)) then
  bif decide (0 ≤ s.2.1) && decide (s.2.1 < (s.2.2.1.length : Int)) then
   bif (((s.2.2.1.getD (s.2.1).toNat (0, (0, 0, (0, 0, false)))).1 == s.2.2.2.1) && (((s.2.2.1.getD (s.2.1).toNat (0, (0, 0, (0, 0, false)))).2.1 == s.2.2.2.2.1) && (((s.2.2.1.getD (s.2.1).toNat (0, (0, 0, (0, 0, false)))).2.2.1 == s.2.2.2.2.2.1) && (((s.2.2.1.getD (s.2.1).toNat (0, (0, 0, (0, 0, false)))).2.2.2.1 == s.2.2.2.2.2.2.1) && (((s.2.2.1.getD (s.2.1).toNat (0, (0, 0, (0, 0, false)))).2.2.2.2.1 == s.2.2.2.2.2.2.2.1) && (((s.2.2.1.getD (s.2.1).toNat (0, (0, 0, (0, 0, false)))).2.2.2.2.2 == s.2.2.2.2.2.2.2.2.1) && true)))))) then
    some (.inr (.inl (0)))
   else
    let v3 := IntKind.i64.wrap (s.2.1 + 1)
    some (.inl ((s.1, v3, s.2.2)))
  else none
 else
  some (.inr (.inr (())))
def pat_spec_siBroken_0 : Pat := { tmps := .any :: .any :: .any :: .ptr 192 0 :: an 12 (.own 1024 :: .v (.int .i64) :: .v (.int .i64) :: an 51 []), blks := [(1024, .row true (.st (.pair (.int .i64) (.pair (.int .i64) (.pair (.int .i64) (.pair (.int .i64) (.pair (.int .i64) .bool))))))), (192, .box [.v (.int .i64), .v (.int .i64), .v (.int .i64), .v (.int .i64), .v (.int .i64), .v .bool, .v (.int .i64), .v (.int .i64), .v (.int .i64), .v (.int .i64), .v .bool, .v .str, .v (.int .i64)])] }
def outs_spec_siBroken_0 : List (Exit × Pat) := [(.ret, { tmps := an 4 (.v (.int .i64) :: an 65 []), blks := [] }), (.exit 0, { tmps := an 70 [], blks := [] })]
noncomputable def F_spec_siBroken (x : DT13 × DT13) : Option (Int) :=
 bif (x.2.2.2.2.1.toList == (⟨#[]⟩ : ByteArray).toList) then
  bif ((x.1.1.1 == x.2.1.1) && ((x.1.1.2.1 == x.2.1.2.1) && ((x.1.1.2.2.1 == x.2.1.2.2.1) && ((x.1.1.2.2.2.1 == x.2.1.2.2.2.1) && ((x.1.1.2.2.2.2.1 == x.2.1.2.2.2.2.1) && ((x.1.1.2.2.2.2.2 == x.2.1.2.2.2.2.2) && true)))))) then
   some (0)
  else
   match F_spec_siPlain () with
   | none => none
   | some y1 =>
    match runL step_spec_siBroken_0 (((y1.length : Int), 0, (y1, x.2.1.1, (x.2.1.2.1, x.2.1.2.2.1, (x.2.1.2.2.2.1, x.2.1.2.2.2.2.1, (x.2.1.2.2.2.2.2, x.2.2.1.1, (x.2.2.1.2, x.2.2.2.1.1, (x.2.2.2.1.2.1, x.2.2.2.1.2.2, x.2.2.2.2)))))))) with
    | none => none
    | some (.inl o4) =>
     some (o4)
    | some (.inr o4) =>
     some (4)
 else
  bif (x.1.2.2.2.1.toList == (⟨#[]⟩ : ByteArray).toList) then
   some (3)
  else
   bif (!((x.1.1.1 == x.2.1.1) && ((x.1.1.2.1 == x.2.1.2.1) && ((x.1.1.2.2.1 == x.2.1.2.2.1) && ((x.1.1.2.2.2.1 == x.2.1.2.2.2.1) && ((x.1.1.2.2.2.2.1 == x.2.1.2.2.2.2.1) && ((x.1.1.2.2.2.2.2 == x.2.1.2.2.2.2.2) && true))))))) then
    some (1)
   else
    bif (!((x.1.2.1.1 == x.2.2.1.1) && ((x.1.2.1.2 == x.2.2.1.2) && true))) then
     match F_spec_orMirror (x.2.2.1) with
     | none => none
     | some y5 =>
      bif (!((x.1.2.1.1 == y5.1) && ((x.1.2.1.2 == y5.2) && true))) then
       some (2)
      else
       match F_spec_mvAll (x.1.2.2.2) with
       | none => none
       | some y6 =>
        match F_spec_mvAll (x.2.2.2.2) with
        | none => none
        | some y7 =>
         bif (!(y6.toList == y7.toList)) then
          match F_spec_mvMirror (x.1.2.2.2) with
          | none => none
          | some y8 =>
           match F_spec_mvAll (y8) with
           | none => none
           | some y9 =>
            match F_spec_mvAll (x.2.2.2.2) with
            | none => none
            | some y10 =>
             bif (!(y9.toList == y10.toList)) then
              some (3)
             else
              some (0)
         else
          some (0)
    else
     match F_spec_mvAll (x.1.2.2.2) with
     | none => none
     | some y11 =>
      match F_spec_mvAll (x.2.2.2.2) with
      | none => none
      | some y12 =>
       bif (!(y11.toList == y12.toList)) then
        match F_spec_mvMirror (x.1.2.2.2) with
        | none => none
        | some y13 =>
         match F_spec_mvAll (y13) with
         | none => none
         | some y14 =>
          match F_spec_mvAll (x.2.2.2.2) with
          | none => none
          | some y15 =>
           bif (!(y14.toList == y15.toList)) then
            some (3)
           else
            some (0)
       else
        some (0)
noncomputable def c_spec_siBroken : Con := { ps := [(.val, TY13), (.val, TY13)], rs := [(.val, (.int .i64))], F := F_spec_siBroken }
noncomputable def env_spec_siBroken : Env := { par := [], dp := false, settle := [], con := fun f => match f with | 127 => some c_spec_siPlain | 128 => some c_spec_orMirror | 129 => some c_spec_mvAll | 130 => some c_spec_mvMirror | _ => none, clo := fun _ => none, T := tinf Tryz.prog }
noncomputable def loops_spec_siBroken : Nat → Option Loop := fun n => match n with | 5 => some { pat := pat_spec_siBroken_0, outs := outs_spec_siBroken_0, run := runL (step_spec_siBroken_0) } | _ => none
theorem con_spec_siBroken : ConOK Tryz.prog 79 c_spec_siBroken := con_of_ev' (body := Tryz.f79.body.getD .skip) (Λ := loops_spec_siBroken) mixed Tryz.func79 (by kernel_rfl) (by kernel_rfl) (envOK_of (E := env_spec_siBroken) (fun f c h => by
  simp only [env_spec_siBroken] at h
  split at h
  · cases h; exact con_spec_siPlain
  · cases h; exact con_spec_orMirror
  · cases h; exact con_spec_mvAll
  · cases h; exact con_spec_mvMirror
  · cases h) (fun f c h => by cases h) rfl) (by kernel_rfl) (by kernel_rfl) (fun n L h => by
  unfold loops_spec_siBroken at h
  split at h
  · cases h; exact fun s o ho => loop_ok (stepF := stepEv env_spec_siBroken loops_spec_siBroken pat_spec_siBroken_0 outs_spec_siBroken_0 Tryz.f79 5) (fun _ => by kernel_rfl) ho
  · cases h) (fun _ => by kernel_rfl)

noncomputable def F_spec_siGood (x : DT27) : Option (Bool) :=
 match F_spec_siHand (x.1) with
 | none => none
 | some y1 =>
  bif (!y1) then
   some (false)
  else
   bif (!x.2.1) then
    some ((((x.2.2.1.1 == 0) && ((x.2.2.1.2.1 == 0) && ((x.2.2.1.2.2.1 == 0) && ((x.2.2.1.2.2.2.1 == 0) && ((x.2.2.1.2.2.2.2.1 == 0) && ((x.2.2.1.2.2.2.2.2 == false) && true)))))) && (((x.2.2.2.1.1 == 0) && ((x.2.2.2.1.2 == 0) && true)) && (((x.2.2.2.2.1.1 == 0) && ((x.2.2.2.2.1.2.1 == 0) && ((x.2.2.2.2.1.2.2 == false) && true))) && (((x.2.2.2.2.2.1.toList == ByteArray.empty.toList) && ((x.2.2.2.2.2.2 == 0) && true)) && true)))))
   else
    match F_spec_siHand (x.2.2) with
    | none => none
    | some y2 =>
     bif y2 then
      match F_spec_siBroken ((x.1, x.2.2)) with
      | none => none
      | some y3 =>
       some (((y3 == 0)))
     else
      some (false)
noncomputable def c_spec_siGood : Con := { ps := [(.val, TY27)], rs := [(.val, .bool)], F := F_spec_siGood }
noncomputable def env_spec_siGood : Env := { par := [], dp := false, settle := [], con := fun f => match f with | 78 => some c_spec_siHand | 79 => some c_spec_siBroken | _ => none, clo := fun _ => none, T := tinf Tryz.prog }
noncomputable def loops_spec_siGood : Nat → Option Loop := fun n => none
theorem con_spec_siGood : ConOK Tryz.prog 46 c_spec_siGood := con_of_ev' (body := Tryz.f46.body.getD .skip) (Λ := loops_spec_siGood) mixed Tryz.func46 (by kernel_rfl) (by kernel_rfl) (envOK_of (E := env_spec_siGood) (fun f c h => by
  simp only [env_spec_siGood] at h
  split at h
  · cases h; exact con_spec_siHand
  · cases h; exact con_spec_siBroken
  · cases h) (fun f c h => by cases h) rfl) (by kernel_rfl) (by kernel_rfl) (fun n L h => by cases h) (fun _ => by kernel_rfl)

noncomputable def step_spec_mvOf_0 (s : ByteArray × Int × Int × Int × ByteArray × Int × Bool × ByteArray × Int) : Option ((ByteArray × Int × Int × Int × ByteArray × Int × Bool × ByteArray × Int) ⊕ ((Bool × ByteArray × Int) ⊕ (ByteArray × Int × Int × ByteArray × Int × Bool × ByteArray × Int))) :=
 bif (decide (s.2.2.1 ≤ 3)) then
  bif decide (0 ≤ (0 : Int)) && decide ((0 : Int) ≤ s.2.1) && decide (s.2.1 ≤ (s.1.size : Int)) then
   match F_spec_mvTimes (((s.1.extract ((0 : Int)).toNat (s.2.1).toNat), s.2.2.1)) with
   | none => none
   | some y9 =>
    bif (y9.toList == s.1.toList) then
     bif decide (0 ≤ (0 : Int)) && decide ((0 : Int) ≤ s.2.1) && decide (s.2.1 ≤ (s.1.size : Int)) then
      some (.inr (.inl ((true, (s.1.extract ((0 : Int)).toNat (s.2.1).toNat), s.2.2.1))))
     else none
    else
     let v10 := IntKind.i64.wrap (s.2.2.1 + 1)
     some (.inl ((s.1, (s.2.1, v10, s.2.2.2))))
  else none
 else
  some (.inr (.inr ((s.1, s.2.1, s.2.2.2))))
def pat_spec_mvOf_0 : Pat := { tmps := .v .str :: .any :: .ptr 128 0 :: .any :: .v (.int .i64) :: .v (.int .i64) :: an 6 (.v (.int .i64) :: .v .str :: .v (.int .i64) :: .v .bool :: an 20 []), blks := [(128, .box [.v .str, .v (.int .i64)])] }
def outs_spec_mvOf_0 : List (Exit × Pat) := [(.ret, { tmps := .any :: .any :: .ptr 128 0 :: .v .bool :: an 32 [], blks := [(128, .box [.v .str, .v (.int .i64)])] }), (.exit 2, { tmps := .v .str :: .any :: .ptr 128 0 :: .any :: .v (.int .i64) :: an 7 (.v (.int .i64) :: .v .str :: .v (.int .i64) :: .v .bool :: an 20 []), blks := [(128, .box [.v .str, .v (.int .i64)])] })]
noncomputable def step_spec_mvOf_1 (s : ByteArray × Int × ByteArray × Int) : Option ((ByteArray × Int × ByteArray × Int) ⊕ ((Bool × ByteArray × Int) ⊕ (ByteArray × Int))) :=
 bif (decide (s.2.1 ≤ 6)) then
  bif (decide (s.2.1 ≤ (s.1.size : Int))) then
   match runL step_spec_mvOf_0 ((s.1, (s.2.1, 1, (s.2.1, s.1, ((s.1.size : Int), (decide (s.2.1 ≤ (s.1.size : Int))), s.2.2))))) with
   | none => none
   | some (.inl o11) =>
    some (.inr (.inl (o11)))
   | some (.inr o11) =>
    let v12 := IntKind.i64.wrap (o11.2.1 + 1)
    some (.inl ((o11.1, v12, o11.2.2.2.2.2.2)))
  else
   some (.inr (.inr (s.2.2)))
 else
  some (.inr (.inr (s.2.2)))
def pat_spec_mvOf_1 : Pat := { tmps := .v .str :: .any :: .ptr 128 0 :: .any :: .v (.int .i64) :: an 31 [], blks := [(128, .box [.v .str, .v (.int .i64)])] }
def outs_spec_mvOf_1 : List (Exit × Pat) := [(.ret, { tmps := .any :: .any :: .ptr 128 0 :: .v .bool :: an 32 [], blks := [(128, .box [.v .str, .v (.int .i64)])] }), (.exit 0, { tmps := .any :: .any :: .ptr 128 0 :: an 33 [], blks := [(128, .box [.v .str, .v (.int .i64)])] })]
noncomputable def F_spec_mvOf (x : ByteArray) : Option ((ByteArray × Int) × Bool) :=
 bif (x.toList == (⟨#[]⟩ : ByteArray).toList) then
  some (((ByteArray.empty, 1), true))
 else
  match runL step_spec_mvOf_1 ((x, (1, ByteArray.empty, 0))) with
  | none => none
  | some (.inl o13) =>
   some ((o13.2, o13.1))
  | some (.inr o13) =>
   some (((ByteArray.empty, 0), false))
noncomputable def c_spec_mvOf : Con := { ps := [(.val, .str)], rs := [(.val, (.st (.pair .str (.int .i64)))), (.val, .bool)], F := F_spec_mvOf }
noncomputable def env_spec_mvOf : Env := { par := [], dp := false, settle := [], con := fun f => match f with | 187 => some c_spec_mvTimes | _ => none, clo := fun _ => none, T := tinf Tryz.prog }
noncomputable def loops_spec_mvOf : Nat → Option Loop := fun n => match n with | 7 => some { pat := pat_spec_mvOf_0, outs := outs_spec_mvOf_0, run := runL (step_spec_mvOf_0) } | 4 => some { pat := pat_spec_mvOf_1, outs := outs_spec_mvOf_1, run := runL (step_spec_mvOf_1) } | _ => none
theorem con_spec_mvOf : ConOK Tryz.prog 131 c_spec_mvOf := con_of_ev' (body := Tryz.f131.body.getD .skip) (Λ := loops_spec_mvOf) mixed Tryz.func131 (by kernel_rfl) (by kernel_rfl) (envOK_of (E := env_spec_mvOf) (fun f c h => by
  simp only [env_spec_mvOf] at h
  split at h
  · cases h; exact con_spec_mvTimes
  · cases h) (fun f c h => by cases h) rfl) (by kernel_rfl) (by kernel_rfl) (fun n L h => by
  unfold loops_spec_mvOf at h
  split at h
  · cases h; exact fun s o ho => loop_ok (stepF := stepEv env_spec_mvOf loops_spec_mvOf pat_spec_mvOf_0 outs_spec_mvOf_0 Tryz.f131 7) (fun _ => by kernel_rfl) ho
  · cases h; exact fun s o ho => loop_ok (stepF := stepEv env_spec_mvOf loops_spec_mvOf pat_spec_mvOf_1 outs_spec_mvOf_1 Tryz.f131 4) (fun _ => by kernel_rfl) ho
  · cases h) (fun _ => by kernel_rfl)

noncomputable def F_spec_mvNormal (x : (ByteArray × Int)) : Option ((ByteArray × Int)) :=
 match F_spec_mvAll (x) with
 | none => none
 | some y1 =>
  match F_spec_mvOf (y1) with
  | none => none
  | some y2 =>
   some (y2.1)
noncomputable def c_spec_mvNormal : Con := { ps := [(.val, (.st (.pair .str (.int .i64))))], rs := [(.val, (.st (.pair .str (.int .i64))))], F := F_spec_mvNormal }
noncomputable def env_spec_mvNormal : Env := { par := [], dp := false, settle := [], con := fun f => match f with | 129 => some c_spec_mvAll | 131 => some c_spec_mvOf | _ => none, clo := fun _ => none, T := tinf Tryz.prog }
noncomputable def loops_spec_mvNormal : Nat → Option Loop := fun n => none
theorem con_spec_mvNormal : ConOK Tryz.prog 80 c_spec_mvNormal := con_of_ev' (body := Tryz.f80.body.getD .skip) (Λ := loops_spec_mvNormal) mixed Tryz.func80 (by kernel_rfl) (by kernel_rfl) (envOK_of (E := env_spec_mvNormal) (fun f c h => by
  simp only [env_spec_mvNormal] at h
  split at h
  · cases h; exact con_spec_mvAll
  · cases h; exact con_spec_mvOf
  · cases h) (fun f c h => by cases h) rfl) (by kernel_rfl) (by kernel_rfl) (fun n L h => by cases h) (fun _ => by kernel_rfl)

noncomputable def F_spec_noHand (x : DT13) : Option (DT13) :=
 match F_spec_mvNormal (x.2.2.2) with
 | none => none
 | some y1 =>
  some ((x.1, (x.2.1, x.2.2.1, y1)))
noncomputable def c_spec_noHand : Con := { ps := [(.val, TY13)], rs := [(.val, TY13)], F := F_spec_noHand }
noncomputable def env_spec_noHand : Env := { par := [], dp := false, settle := [], con := fun f => match f with | 80 => some c_spec_mvNormal | _ => none, clo := fun _ => none, T := tinf Tryz.prog }
noncomputable def loops_spec_noHand : Nat → Option Loop := fun n => none
theorem con_spec_noHand : ConOK Tryz.prog 47 c_spec_noHand := con_of_ev' (body := Tryz.f47.body.getD .skip) (Λ := loops_spec_noHand) mixed Tryz.func47 (by kernel_rfl) (by kernel_rfl) (envOK_of (E := env_spec_noHand) (fun f c h => by
  simp only [env_spec_noHand] at h
  split at h
  · cases h; exact con_spec_mvNormal
  · cases h) (fun f c h => by cases h) rfl) (by kernel_rfl) (by kernel_rfl) (fun n L h => by cases h) (fun _ => by kernel_rfl)

noncomputable def step_spec_noFind_0 (s : (List DT27) × Int × Int × Int × Int × Int × Int × Int × Bool × Int × Int × Int × Int × Bool × ByteArray × Int × Bool × Int × Int × Int × Int × Int × Bool × Int × Int × Int × Int × Bool × ByteArray × Int) : Option (((List DT27) × Int × Int × Int × Int × Int × Int × Int × Bool × Int × Int × Int × Int × Bool × ByteArray × Int × Bool × Int × Int × Int × Int × Int × Bool × Int × Int × Int × Int × Bool × ByteArray × Int) ⊕ ((Int) ⊕ (Unit))) :=
 bif (decide (s.2.2.1 < s.2.1)) then
  bif decide (0 ≤ s.2.2.1) && decide (s.2.2.1 < (s.1.length : Int)) then
   bif (((((s.1.getD (s.2.2.1).toNat dz27).1.1.1 == s.2.2.2.1) && (((s.1.getD (s.2.2.1).toNat dz27).1.1.2.1 == s.2.2.2.2.1) && (((s.1.getD (s.2.2.1).toNat dz27).1.1.2.2.1 == s.2.2.2.2.2.1) && (((s.1.getD (s.2.2.1).toNat dz27).1.1.2.2.2.1 == s.2.2.2.2.2.2.1) && (((s.1.getD (s.2.2.1).toNat dz27).1.1.2.2.2.2.1 == s.2.2.2.2.2.2.2.1) && (((s.1.getD (s.2.2.1).toNat dz27).1.1.2.2.2.2.2 == s.2.2.2.2.2.2.2.2.1) && true)))))) && ((((s.1.getD (s.2.2.1).toNat dz27).1.2.1.1 == s.2.2.2.2.2.2.2.2.2.1) && (((s.1.getD (s.2.2.1).toNat dz27).1.2.1.2 == s.2.2.2.2.2.2.2.2.2.2.1) && true)) && ((((s.1.getD (s.2.2.1).toNat dz27).1.2.2.1.1 == s.2.2.2.2.2.2.2.2.2.2.2.1) && (((s.1.getD (s.2.2.1).toNat dz27).1.2.2.1.2.1 == s.2.2.2.2.2.2.2.2.2.2.2.2.1) && (((s.1.getD (s.2.2.1).toNat dz27).1.2.2.1.2.2 == s.2.2.2.2.2.2.2.2.2.2.2.2.2.1) && true))) && ((((s.1.getD (s.2.2.1).toNat dz27).1.2.2.2.1.toList == s.2.2.2.2.2.2.2.2.2.2.2.2.2.2.1.toList) && (((s.1.getD (s.2.2.1).toNat dz27).1.2.2.2.2 == s.2.2.2.2.2.2.2.2.2.2.2.2.2.2.2.1) && true)) && true)))) && (((s.1.getD (s.2.2.1).toNat dz27).2.1 == s.2.2.2.2.2.2.2.2.2.2.2.2.2.2.2.2.1) && (((((s.1.getD (s.2.2.1).toNat dz27).2.2.1.1 == s.2.2.2.2.2.2.2.2.2.2.2.2.2.2.2.2.2.1) && (((s.1.getD (s.2.2.1).toNat dz27).2.2.1.2.1 == s.2.2.2.2.2.2.2.2.2.2.2.2.2.2.2.2.2.2.1) && (((s.1.getD (s.2.2.1).toNat dz27).2.2.1.2.2.1 == s.2.2.2.2.2.2.2.2.2.2.2.2.2.2.2.2.2.2.2.1) && (((s.1.getD (s.2.2.1).toNat dz27).2.2.1.2.2.2.1 == s.2.2.2.2.2.2.2.2.2.2.2.2.2.2.2.2.2.2.2.2.1) && (((s.1.getD (s.2.2.1).toNat dz27).2.2.1.2.2.2.2.1 == s.2.2.2.2.2.2.2.2.2.2.2.2.2.2.2.2.2.2.2.2.2.1) && (((s.1.getD (s.2.2.1).toNat dz27).2.2.1.2.2.2.2.2 == s.2.2.2.2.2.2.2.2.2.2.2.2.2.2.2.2.2.2.2.2.2.2.1) && true)))))) && ((((s.1.getD (s.2.2.1).toNat dz27).2.2.2.1.1 == s.2.2.2.2.2.2.2.2.2.2.2.2.2.2.2.2.2.2.2.2.2.2.2.1) && (((s.1.getD (s.2.2.1).toNat dz27).2.2.2.1.2 == s.2.2.2.2.2.2.2.2.2.2.2.2.2.2.2.2.2.2.2.2.2.2.2.2.1) && true)) && ((((s.1.getD (s.2.2.1).toNat dz27).2.2.2.2.1.1 == s.2.2.2.2.2.2.2.2.2.2.2.2.2.2.2.2.2.2.2.2.2.2.2.2.2.1) && (((s.1.getD (s.2.2.1).toNat dz27).2.2.2.2.1.2.1 == s.2.2.2.2.2.2.2.2.2.2.2.2.2.2.2.2.2.2.2.2.2.2.2.2.2.2.1) && (((s.1.getD (s.2.2.1).toNat dz27).2.2.2.2.1.2.2 == s.2.2.2.2.2.2.2.2.2.2.2.2.2.2.2.2.2.2.2.2.2.2.2.2.2.2.2.1) && true))) && ((((s.1.getD (s.2.2.1).toNat dz27).2.2.2.2.2.1.toList == s.2.2.2.2.2.2.2.2.2.2.2.2.2.2.2.2.2.2.2.2.2.2.2.2.2.2.2.2.1.toList) && (((s.1.getD (s.2.2.1).toNat dz27).2.2.2.2.2.2 == s.2.2.2.2.2.2.2.2.2.2.2.2.2.2.2.2.2.2.2.2.2.2.2.2.2.2.2.2.2) && true)) && true)))) && true))) then
    some (.inr (.inl (s.2.2.1)))
   else
    let v2 := IntKind.i64.wrap (s.2.2.1 + 1)
    some (.inl ((s.1, (s.2.1, v2, s.2.2.2))))
  else none
 else
  some (.inr (.inr (())))
def pat_spec_noFind_0 : Pat := { tmps := .any :: .any :: .any :: .ptr 192 0 :: .any :: .any :: .any :: .v (.slice TY27) :: .v (.int .i64) :: .v (.int .i64) :: an 9 [], blks := [(192, .box [.v (.int .i64), .v (.int .i64), .v (.int .i64), .v (.int .i64), .v (.int .i64), .v .bool, .v (.int .i64), .v (.int .i64), .v (.int .i64), .v (.int .i64), .v .bool, .v .str, .v (.int .i64), .v .bool, .v (.int .i64), .v (.int .i64), .v (.int .i64), .v (.int .i64), .v (.int .i64), .v .bool, .v (.int .i64), .v (.int .i64), .v (.int .i64), .v (.int .i64), .v .bool, .v .str, .v (.int .i64)])] }
def outs_spec_noFind_0 : List (Exit × Pat) := [(.ret, { tmps := an 4 (.v (.int .i64) :: an 14 []), blks := [] }), (.exit 0, { tmps := an 19 [], blks := [] })]
noncomputable def F_spec_noFind (x : (List DT27) × DT27) : Option (Int) :=
 match runL step_spec_noFind_0 ((x.1, (x.1.length : Int), (0, x.2.1.1.1, (x.2.1.1.2.1, x.2.1.1.2.2.1, (x.2.1.1.2.2.2.1, x.2.1.1.2.2.2.2.1, (x.2.1.1.2.2.2.2.2, x.2.1.2.1.1, (x.2.1.2.1.2, x.2.1.2.2.1.1, (x.2.1.2.2.1.2.1, x.2.1.2.2.1.2.2, (x.2.1.2.2.2.1, x.2.1.2.2.2.2, (x.2.2.1, x.2.2.2.1.1, (x.2.2.2.1.2.1, x.2.2.2.1.2.2.1, (x.2.2.2.1.2.2.2.1, x.2.2.2.1.2.2.2.2.1, (x.2.2.2.1.2.2.2.2.2, x.2.2.2.2.1.1, (x.2.2.2.2.1.2, x.2.2.2.2.2.1.1, (x.2.2.2.2.2.1.2.1, x.2.2.2.2.2.1.2.2, x.2.2.2.2.2.2))))))))))))))) with
 | none => none
 | some (.inl o3) =>
  some (o3)
 | some (.inr o3) =>
  some ((-1))
noncomputable def c_spec_noFind : Con := { ps := [(.val, (.slice TY27)), (.val, TY27)], rs := [(.val, (.int .i64))], F := F_spec_noFind }
noncomputable def env_spec_noFind : Env := { par := [], dp := false, settle := [], con := fun _ => none, clo := fun _ => none, T := tinf Tryz.prog }
noncomputable def loops_spec_noFind : Nat → Option Loop := fun n => match n with | 2 => some { pat := pat_spec_noFind_0, outs := outs_spec_noFind_0, run := runL (step_spec_noFind_0) } | _ => none
theorem con_spec_noFind : ConOK Tryz.prog 81 c_spec_noFind := con_of_ev' (body := Tryz.f81.body.getD .skip) (Λ := loops_spec_noFind) mixed Tryz.func81 (by kernel_rfl) (by kernel_rfl) (envOK_of (E := env_spec_noFind) (fun f c h => by cases h) (fun f c h => by cases h) rfl) (by kernel_rfl) (by kernel_rfl) (fun n L h => by
  unfold loops_spec_noFind at h
  split at h
  · cases h; exact fun s o ho => loop_ok (stepF := stepEv env_spec_noFind loops_spec_noFind pat_spec_noFind_0 outs_spec_noFind_0 Tryz.f81 2) (fun _ => by kernel_rfl) ho
  · cases h) (fun _ => by kernel_rfl)


noncomputable def step_spec_shText_0 (s : ByteArray × Int × Int × (List Int) × Int × Int × Int × Int × Int × Bool) : Option ((ByteArray × Int × Int × (List Int) × Int × Int × Int × Int × Int × Bool) ⊕ ((ByteArray × Int × Int × Int × Int × Int × Bool))) :=
 bif (decide (s.2.2.1 < s.2.1)) then
  bif decide (0 ≤ s.2.2.1) && decide (s.2.2.1 < (s.2.2.2.1.length : Int)) then
   match F_spec_l1Num ((s.2.2.2.1.getD (s.2.2.1).toNat 0)) with
   | none => none
   | some y5 =>
    bif decide (s.1.size + y5.size ≤ 9223372036854775807) then
     let v6 := IntKind.i64.wrap (s.2.2.1 + 1)
     some (.inl (((s.1 ++ y5), (s.2.1, v6, s.2.2.2))))
    else none
  else none
 else
  some (.inr ((s.1, s.2.2.2.2)))
def pat_spec_shText_0 : Pat := { tmps := .any :: .ptr 64 0 :: .any :: .v .str :: an 6 (.own 640 :: .v (.int .i64) :: .v (.int .i64) :: an 13 []), blks := [(640, .row true (.int .i64)), (64, .box [.v (.int .i64), .v (.int .i64), .v (.int .i64), .v (.int .i64), .v (.int .i64), .v .bool])] }
def outs_spec_shText_0 : List (Exit × Pat) := [(.exit 0, { tmps := .any :: .ptr 64 0 :: .any :: .v .str :: an 22 [], blks := [(64, .box [.v (.int .i64), .v (.int .i64), .v (.int .i64), .v (.int .i64), .v (.int .i64), .v .bool])] })]
noncomputable def F_spec_shText (x : (Int × (Int × (Int × (Int × (Int × Bool)))))) : Option (ByteArray) :=
 match F_spec_l1Num (x.1) with
 | none => none
 | some y1 =>
  match F_spec_shFingers (x) with
  | none => none
  | some y2 =>
   match runL step_spec_shText_0 ((y1, (y2.length : Int), (0, y2, x))) with
   | none => none
   | some o7 =>
    bif o7.2.2.2.2.2.2 then
     bif decide (o7.1.size + (⟨#[115]⟩ : ByteArray).size ≤ 9223372036854775807) then
      some ((o7.1 ++ (⟨#[115]⟩ : ByteArray)))
     else none
    else
     some (o7.1)
noncomputable def c_spec_shText : Con := { ps := [(.val, (.st (.pair (.int .i64) (.pair (.int .i64) (.pair (.int .i64) (.pair (.int .i64) (.pair (.int .i64) .bool)))))))], rs := [(.val, .str)], F := F_spec_shText }
noncomputable def env_spec_shText : Env := { par := [], dp := false, settle := [], con := fun f => match f with | 181 => some c_spec_shFingers | 226 => some c_spec_l1Num | _ => none, clo := fun _ => none, T := tinf Tryz.prog }
noncomputable def loops_spec_shText : Nat → Option Loop := fun n => match n with | 3 => some { pat := pat_spec_shText_0, outs := outs_spec_shText_0, run := runL (step_spec_shText_0) } | _ => none
theorem con_spec_shText : ConOK Tryz.prog 188 c_spec_shText := con_of_ev' (body := Tryz.f188.body.getD .skip) (Λ := loops_spec_shText) mixed Tryz.func188 (by kernel_rfl) (by kernel_rfl) (envOK_of (E := env_spec_shText) (fun f c h => by
  simp only [env_spec_shText] at h
  split at h
  · cases h; exact con_spec_shFingers
  · cases h; exact con_spec_l1Num
  · cases h) (fun f c h => by cases h) rfl) (by kernel_rfl) (by kernel_rfl) (fun n L h => by
  unfold loops_spec_shText at h
  split at h
  · cases h; exact fun s o ho => loop_ok (stepF := stepEv env_spec_shText loops_spec_shText pat_spec_shText_0 outs_spec_shText_0 Tryz.f188 3) (fun _ => by kernel_rfl) ho
  · cases h) (fun _ => by kernel_rfl)

noncomputable def F_spec_orText (x : (Int × Int)) : Option (ByteArray) :=
 let v1 := IntKind.i64.wrap (x.1 + 1)
 bif decide (0 ≤ x.1) && decide (x.1 ≤ v1) && decide (v1 ≤ ((⟨#[117, 100, 108, 114, 102, 98]⟩ : ByteArray).size : Int)) then
  let v2 := IntKind.i64.wrap (x.2 + 1)
  bif decide (0 ≤ x.2) && decide (x.2 ≤ v2) && decide (v2 ≤ ((⟨#[117, 100, 108, 114, 102, 98]⟩ : ByteArray).size : Int)) then
   bif decide (((⟨#[117, 100, 108, 114, 102, 98]⟩ : ByteArray).extract (x.1).toNat (v1).toNat).size + ((⟨#[117, 100, 108, 114, 102, 98]⟩ : ByteArray).extract (x.2).toNat (v2).toNat).size ≤ 9223372036854775807) then
    some ((((⟨#[117, 100, 108, 114, 102, 98]⟩ : ByteArray).extract (x.1).toNat (v1).toNat) ++ ((⟨#[117, 100, 108, 114, 102, 98]⟩ : ByteArray).extract (x.2).toNat (v2).toNat)))
   else none
  else none
 else none
noncomputable def c_spec_orText : Con := { ps := [(.val, (.st (.pair (.int .i64) (.int .i64))))], rs := [(.val, .str)], F := F_spec_orText }
noncomputable def env_spec_orText : Env := { par := [], dp := false, settle := [], con := fun _ => none, clo := fun _ => none, T := tinf Tryz.prog }
noncomputable def loops_spec_orText : Nat → Option Loop := fun n => none
theorem con_spec_orText : ConOK Tryz.prog 189 c_spec_orText := con_of_ev' (body := Tryz.f189.body.getD .skip) (Λ := loops_spec_orText) mixed Tryz.func189 (by kernel_rfl) (by kernel_rfl) (envOK_of (E := env_spec_orText) (fun f c h => by cases h) (fun f c h => by cases h) rfl) (by kernel_rfl) (by kernel_rfl) (fun n L h => by cases h) (fun _ => by kernel_rfl)

noncomputable def F_spec_plNames (x : Unit) : Option ((List ByteArray)) :=
 some ([(⟨#[115, 112, 97, 99, 101]⟩ : ByteArray), (⟨#[104, 101, 97, 100]⟩ : ByteArray), (⟨#[101, 121, 101]⟩ : ByteArray), (⟨#[99, 104, 101, 101, 107]⟩ : ByteArray), (⟨#[109, 111, 117, 116, 104]⟩ : ByteArray), (⟨#[99, 104, 105, 110]⟩ : ByteArray), (⟨#[110, 101, 99, 107]⟩ : ByteArray), (⟨#[99, 104, 101, 115, 116]⟩ : ByteArray), (⟨#[119, 97, 105, 115, 116]⟩ : ByteArray), (⟨#[104, 105, 112]⟩ : ByteArray)])
noncomputable def c_spec_plNames : Con := { ps := [], rs := [(.io true, (.slice .str))], F := F_spec_plNames }
noncomputable def env_spec_plNames : Env := { par := [], dp := false, settle := [], con := fun _ => none, clo := fun _ => none, T := tinf Tryz.prog }
noncomputable def loops_spec_plNames : Nat → Option Loop := fun n => none
theorem con_spec_plNames : ConOK Tryz.prog 227 c_spec_plNames := con_of_ev' (body := Tryz.f227.body.getD .skip) (Λ := loops_spec_plNames) mixed Tryz.func227 (by kernel_rfl) (by kernel_rfl) (envOK_of (E := env_spec_plNames) (fun f c h => by cases h) (fun f c h => by cases h) rfl) (by kernel_rfl) (by kernel_rfl) (fun n L h => by cases h) (fun _ => by kernel_rfl)

noncomputable def F_spec_plText (x : (Int × (Int × Bool))) : Option (ByteArray) :=
 match F_spec_plNames () with
 | none => none
 | some y1 =>
  bif decide (0 ≤ x.1) && decide (x.1 < (y1.length : Int)) then
   bif ((x.2.1 == (-1))) then
    bif decide ((y1.getD (x.1).toNat ByteArray.empty).size + (⟨#[60]⟩ : ByteArray).size ≤ 9223372036854775807) then
     bif x.2.2 then
      bif decide (((y1.getD (x.1).toNat ByteArray.empty) ++ (⟨#[60]⟩ : ByteArray)).size + (⟨#[42]⟩ : ByteArray).size ≤ 9223372036854775807) then
       some ((((y1.getD (x.1).toNat ByteArray.empty) ++ (⟨#[60]⟩ : ByteArray)) ++ (⟨#[42]⟩ : ByteArray)))
      else none
     else
      some (((y1.getD (x.1).toNat ByteArray.empty) ++ (⟨#[60]⟩ : ByteArray)))
    else none
   else
    bif ((x.2.1 == 1)) then
     bif decide ((y1.getD (x.1).toNat ByteArray.empty).size + (⟨#[62]⟩ : ByteArray).size ≤ 9223372036854775807) then
      bif x.2.2 then
       bif decide (((y1.getD (x.1).toNat ByteArray.empty) ++ (⟨#[62]⟩ : ByteArray)).size + (⟨#[42]⟩ : ByteArray).size ≤ 9223372036854775807) then
        some ((((y1.getD (x.1).toNat ByteArray.empty) ++ (⟨#[62]⟩ : ByteArray)) ++ (⟨#[42]⟩ : ByteArray)))
       else none
      else
       some (((y1.getD (x.1).toNat ByteArray.empty) ++ (⟨#[62]⟩ : ByteArray)))
     else none
    else
     bif x.2.2 then
      bif decide ((y1.getD (x.1).toNat ByteArray.empty).size + (⟨#[42]⟩ : ByteArray).size ≤ 9223372036854775807) then
       some (((y1.getD (x.1).toNat ByteArray.empty) ++ (⟨#[42]⟩ : ByteArray)))
      else none
     else
      some ((y1.getD (x.1).toNat ByteArray.empty))
  else none
noncomputable def c_spec_plText : Con := { ps := [(.val, (.st (.pair (.int .i64) (.pair (.int .i64) .bool))))], rs := [(.val, .str)], F := F_spec_plText }
noncomputable def env_spec_plText : Env := { par := [], dp := false, settle := [], con := fun f => match f with | 227 => some c_spec_plNames | _ => none, clo := fun _ => none, T := tinf Tryz.prog }
noncomputable def loops_spec_plText : Nat → Option Loop := fun n => none
theorem con_spec_plText : ConOK Tryz.prog 190 c_spec_plText := con_of_ev' (body := Tryz.f190.body.getD .skip) (Λ := loops_spec_plText) mixed Tryz.func190 (by kernel_rfl) (by kernel_rfl) (envOK_of (E := env_spec_plText) (fun f c h => by
  simp only [env_spec_plText] at h
  split at h
  · cases h; exact con_spec_plNames
  · cases h) (fun f c h => by cases h) rfl) (by kernel_rfl) (by kernel_rfl) (fun n L h => by cases h) (fun _ => by kernel_rfl)

noncomputable def F_spec_mvText (x : (ByteArray × Int)) : Option (ByteArray) :=
 bif (x.1.toList == (⟨#[]⟩ : ByteArray).toList) then
  some ((⟨#[45]⟩ : ByteArray))
 else
  bif (decide (x.2 > 1)) then
   bif decide (x.1.size + (⟨#[42]⟩ : ByteArray).size ≤ 9223372036854775807) then
    match F_spec_l1Num (x.2) with
    | none => none
    | some y1 =>
     bif decide ((x.1 ++ (⟨#[42]⟩ : ByteArray)).size + y1.size ≤ 9223372036854775807) then
      some (((x.1 ++ (⟨#[42]⟩ : ByteArray)) ++ y1))
     else none
   else none
  else
   some (x.1)
noncomputable def c_spec_mvText : Con := { ps := [(.val, (.st (.pair .str (.int .i64))))], rs := [(.val, .str)], F := F_spec_mvText }
noncomputable def env_spec_mvText : Env := { par := [], dp := false, settle := [], con := fun f => match f with | 226 => some c_spec_l1Num | _ => none, clo := fun _ => none, T := tinf Tryz.prog }
noncomputable def loops_spec_mvText : Nat → Option Loop := fun n => none
theorem con_spec_mvText : ConOK Tryz.prog 191 c_spec_mvText := con_of_ev' (body := Tryz.f191.body.getD .skip) (Λ := loops_spec_mvText) mixed Tryz.func191 (by kernel_rfl) (by kernel_rfl) (envOK_of (E := env_spec_mvText) (fun f c h => by
  simp only [env_spec_mvText] at h
  split at h
  · cases h; exact con_spec_l1Num
  · cases h) (fun f c h => by cases h) rfl) (by kernel_rfl) (by kernel_rfl) (fun n L h => by cases h) (fun _ => by kernel_rfl)

noncomputable def F_spec_siText (x : DT13) : Option (ByteArray) :=
 match F_spec_shText (x.1) with
 | none => none
 | some y1 =>
  bif decide (y1.size + (⟨#[47]⟩ : ByteArray).size ≤ 9223372036854775807) then
   match F_spec_orText (x.2.1) with
   | none => none
   | some y2 =>
    bif decide ((y1 ++ (⟨#[47]⟩ : ByteArray)).size + y2.size ≤ 9223372036854775807) then
     bif decide (((y1 ++ (⟨#[47]⟩ : ByteArray)) ++ y2).size + (⟨#[47]⟩ : ByteArray).size ≤ 9223372036854775807) then
      match F_spec_plText (x.2.2.1) with
      | none => none
      | some y3 =>
       bif decide ((((y1 ++ (⟨#[47]⟩ : ByteArray)) ++ y2) ++ (⟨#[47]⟩ : ByteArray)).size + y3.size ≤ 9223372036854775807) then
        bif decide (((((y1 ++ (⟨#[47]⟩ : ByteArray)) ++ y2) ++ (⟨#[47]⟩ : ByteArray)) ++ y3).size + (⟨#[47]⟩ : ByteArray).size ≤ 9223372036854775807) then
         match F_spec_mvText (x.2.2.2) with
         | none => none
         | some y4 =>
          bif decide ((((((y1 ++ (⟨#[47]⟩ : ByteArray)) ++ y2) ++ (⟨#[47]⟩ : ByteArray)) ++ y3) ++ (⟨#[47]⟩ : ByteArray)).size + y4.size ≤ 9223372036854775807) then
           some (((((((y1 ++ (⟨#[47]⟩ : ByteArray)) ++ y2) ++ (⟨#[47]⟩ : ByteArray)) ++ y3) ++ (⟨#[47]⟩ : ByteArray)) ++ y4))
          else none
        else none
       else none
     else none
    else none
  else none
noncomputable def c_spec_siText : Con := { ps := [(.val, TY13)], rs := [(.val, .str)], F := F_spec_siText }
noncomputable def env_spec_siText : Env := { par := [], dp := false, settle := [], con := fun f => match f with | 188 => some c_spec_shText | 189 => some c_spec_orText | 190 => some c_spec_plText | 191 => some c_spec_mvText | _ => none, clo := fun _ => none, T := tinf Tryz.prog }
noncomputable def loops_spec_siText : Nat → Option Loop := fun n => none
theorem con_spec_siText : ConOK Tryz.prog 132 c_spec_siText := con_of_ev' (body := Tryz.f132.body.getD .skip) (Λ := loops_spec_siText) mixed Tryz.func132 (by kernel_rfl) (by kernel_rfl) (envOK_of (E := env_spec_siText) (fun f c h => by
  simp only [env_spec_siText] at h
  split at h
  · cases h; exact con_spec_shText
  · cases h; exact con_spec_orText
  · cases h; exact con_spec_plText
  · cases h; exact con_spec_mvText
  · cases h) (fun f c h => by cases h) rfl) (by kernel_rfl) (by kernel_rfl) (fun n L h => by cases h) (fun _ => by kernel_rfl)

noncomputable def F_spec_noBefore (x : DT27 × DT27) : Option (Bool) :=
 match F_spec_siText (x.1.1) with
 | none => none
 | some y1 =>
  match F_spec_siText (x.2.1) with
  | none => none
  | some y2 =>
   bif (!(y1.toList == y2.toList)) then
    match F_spec_siText (x.1.1) with
    | none => none
    | some y3 =>
     match F_spec_siText (x.2.1) with
     | none => none
     | some y4 =>
      some ((Op.bytesLess y3.toList y4.toList))
   else
    bif x.1.2.1 then
     match F_spec_siText (x.1.2.2) with
     | none => none
     | some y5 =>
      match F_spec_siText (x.2.2.2) with
      | none => none
      | some y6 =>
       some ((Op.bytesLess y5.toList y6.toList))
    else
     some (false)
noncomputable def c_spec_noBefore : Con := { ps := [(.val, TY27), (.val, TY27)], rs := [(.val, .bool)], F := F_spec_noBefore }
noncomputable def env_spec_noBefore : Env := { par := [], dp := false, settle := [], con := fun f => match f with | 132 => some c_spec_siText | _ => none, clo := fun _ => none, T := tinf Tryz.prog }
noncomputable def loops_spec_noBefore : Nat → Option Loop := fun n => none
theorem con_spec_noBefore : ConOK Tryz.prog 82 c_spec_noBefore := con_of_ev' (body := Tryz.f82.body.getD .skip) (Λ := loops_spec_noBefore) mixed Tryz.func82 (by kernel_rfl) (by kernel_rfl) (envOK_of (E := env_spec_noBefore) (fun f c h => by
  simp only [env_spec_noBefore] at h
  split at h
  · cases h; exact con_spec_siText
  · cases h) (fun f c h => by cases h) rfl) (by kernel_rfl) (by kernel_rfl) (fun n L h => by cases h) (fun _ => by kernel_rfl)

noncomputable def step_spec_noPut_0 (s : (List DT27) × Int × Int × Int × Int × Int × Int × Bool × Int × Int × Int × Int × Bool × ByteArray × Int × Bool × Int × Int × Int × Int × Int × Bool × Int × Int × Int × Int × Bool × ByteArray × Int) : Option (((List DT27) × Int × Int × Int × Int × Int × Int × Bool × Int × Int × Int × Int × Bool × ByteArray × Int × Bool × Int × Int × Int × Int × Int × Bool × Int × Int × Int × Int × Bool × ByteArray × Int) ⊕ (((List DT27) × Int × Int × Int × Int × Int × Int × Bool × Int × Int × Int × Int × Bool × ByteArray × Int × Bool × Int × Int × Int × Int × Int × Bool × Int × Int × Int × Int × Bool × ByteArray × Int))) :=
 bif (decide (s.2.1 < (s.1.length : Int))) then
  bif decide (0 ≤ s.2.1) && decide (s.2.1 < (s.1.length : Int)) then
   match F_spec_noBefore (((s.1.getD (s.2.1).toNat dz27), ((s.2.2.1, (s.2.2.2.1, s.2.2.2.2.1, (s.2.2.2.2.2.1, s.2.2.2.2.2.2.1, s.2.2.2.2.2.2.2.1))), (s.2.2.2.2.2.2.2.2.1, s.2.2.2.2.2.2.2.2.2.1), ((s.2.2.2.2.2.2.2.2.2.2.1, s.2.2.2.2.2.2.2.2.2.2.2.1, s.2.2.2.2.2.2.2.2.2.2.2.2.1), s.2.2.2.2.2.2.2.2.2.2.2.2.2.1, s.2.2.2.2.2.2.2.2.2.2.2.2.2.2.1)), (s.2.2.2.2.2.2.2.2.2.2.2.2.2.2.2.1, (s.2.2.2.2.2.2.2.2.2.2.2.2.2.2.2.2.1, (s.2.2.2.2.2.2.2.2.2.2.2.2.2.2.2.2.2.1, s.2.2.2.2.2.2.2.2.2.2.2.2.2.2.2.2.2.2.1, (s.2.2.2.2.2.2.2.2.2.2.2.2.2.2.2.2.2.2.2.1, s.2.2.2.2.2.2.2.2.2.2.2.2.2.2.2.2.2.2.2.2.1, s.2.2.2.2.2.2.2.2.2.2.2.2.2.2.2.2.2.2.2.2.2.1))), ((s.2.2.2.2.2.2.2.2.2.2.2.2.2.2.2.2.2.2.2.2.2.2.1, s.2.2.2.2.2.2.2.2.2.2.2.2.2.2.2.2.2.2.2.2.2.2.2.1), (s.2.2.2.2.2.2.2.2.2.2.2.2.2.2.2.2.2.2.2.2.2.2.2.2.1, s.2.2.2.2.2.2.2.2.2.2.2.2.2.2.2.2.2.2.2.2.2.2.2.2.2.1, s.2.2.2.2.2.2.2.2.2.2.2.2.2.2.2.2.2.2.2.2.2.2.2.2.2.2.1), s.2.2.2.2.2.2.2.2.2.2.2.2.2.2.2.2.2.2.2.2.2.2.2.2.2.2.2)))) with
   | none => none
   | some y4 =>
    bif y4 then
     let v5 := IntKind.i64.wrap (s.2.1 + 1)
     some (.inl ((s.1, v5, s.2.2)))
    else
     some (.inr (s))
  else none
 else
  some (.inr (s))
def pat_spec_noPut_0 : Pat := { tmps := .v (.slice TY27) :: .any :: .any :: .ptr 192 0 :: .any :: .v (.int .i64) :: an 31 [], blks := [(192, .box [.v (.int .i64), .v (.int .i64), .v (.int .i64), .v (.int .i64), .v (.int .i64), .v .bool, .v (.int .i64), .v (.int .i64), .v (.int .i64), .v (.int .i64), .v .bool, .v .str, .v (.int .i64), .v .bool, .v (.int .i64), .v (.int .i64), .v (.int .i64), .v (.int .i64), .v (.int .i64), .v .bool, .v (.int .i64), .v (.int .i64), .v (.int .i64), .v (.int .i64), .v .bool, .v .str, .v (.int .i64)])] }
def outs_spec_noPut_0 : List (Exit × Pat) := [(.exit 0, { tmps := .v (.slice TY27) :: .any :: .any :: .ptr 192 0 :: .any :: .v (.int .i64) :: an 31 [], blks := [(192, .box [.v (.int .i64), .v (.int .i64), .v (.int .i64), .v (.int .i64), .v (.int .i64), .v .bool, .v (.int .i64), .v (.int .i64), .v (.int .i64), .v (.int .i64), .v .bool, .v .str, .v (.int .i64), .v .bool, .v (.int .i64), .v (.int .i64), .v (.int .i64), .v (.int .i64), .v (.int .i64), .v .bool, .v (.int .i64), .v (.int .i64), .v (.int .i64), .v (.int .i64), .v .bool, .v .str, .v (.int .i64)])] })]
noncomputable def F_spec_noPut (x : (List DT27) × DT27) : Option ((List DT27)) :=
 match F_spec_noFind (x) with
 | none => none
 | some y1 =>
  bif (decide (y1 ≥ 0)) then
   some (x.1)
  else
   match runL step_spec_noPut_0 ((x.1, (0, x.2.1.1.1, (x.2.1.1.2.1, x.2.1.1.2.2.1, (x.2.1.1.2.2.2.1, x.2.1.1.2.2.2.2.1, (x.2.1.1.2.2.2.2.2, x.2.1.2.1.1, (x.2.1.2.1.2, x.2.1.2.2.1.1, (x.2.1.2.2.1.2.1, x.2.1.2.2.1.2.2, (x.2.1.2.2.2.1, x.2.1.2.2.2.2, (x.2.2.1, x.2.2.2.1.1, (x.2.2.2.1.2.1, x.2.2.2.1.2.2.1, (x.2.2.2.1.2.2.2.1, x.2.2.2.1.2.2.2.2.1, (x.2.2.2.1.2.2.2.2.2, x.2.2.2.2.1.1, (x.2.2.2.2.1.2, x.2.2.2.2.2.1.1, (x.2.2.2.2.2.1.2.1, x.2.2.2.2.2.1.2.2, x.2.2.2.2.2.2))))))))))))))) with
   | none => none
   | some o6 =>
    bif decide (0 ≤ (0 : Int)) && decide ((0 : Int) ≤ o6.2.1) && decide (o6.2.1 ≤ (o6.1.length : Int)) then
     bif decide (0 ≤ o6.2.1) && decide (o6.2.1 ≤ (o6.1.length : Int)) && decide ((o6.1.length : Int) ≤ (o6.1.length : Int)) then
      bif decide (((o6.1.drop ((0 : Int)).toNat).take ((o6.2.1).toNat - ((0 : Int)).toNat)).length * 232 ≤ 140737488355328) then
       bif decide ((((o6.1.drop ((0 : Int)).toNat).take ((o6.2.1).toNat - ((0 : Int)).toNat)).length + ([(((o6.2.2.1, (o6.2.2.2.1, o6.2.2.2.2.1, (o6.2.2.2.2.2.1, o6.2.2.2.2.2.2.1, o6.2.2.2.2.2.2.2.1))), (o6.2.2.2.2.2.2.2.2.1, o6.2.2.2.2.2.2.2.2.2.1), ((o6.2.2.2.2.2.2.2.2.2.2.1, o6.2.2.2.2.2.2.2.2.2.2.2.1, o6.2.2.2.2.2.2.2.2.2.2.2.2.1), o6.2.2.2.2.2.2.2.2.2.2.2.2.2.1, o6.2.2.2.2.2.2.2.2.2.2.2.2.2.2.1)), (o6.2.2.2.2.2.2.2.2.2.2.2.2.2.2.2.1, (o6.2.2.2.2.2.2.2.2.2.2.2.2.2.2.2.2.1, (o6.2.2.2.2.2.2.2.2.2.2.2.2.2.2.2.2.2.1, o6.2.2.2.2.2.2.2.2.2.2.2.2.2.2.2.2.2.2.1, (o6.2.2.2.2.2.2.2.2.2.2.2.2.2.2.2.2.2.2.2.1, o6.2.2.2.2.2.2.2.2.2.2.2.2.2.2.2.2.2.2.2.2.1, o6.2.2.2.2.2.2.2.2.2.2.2.2.2.2.2.2.2.2.2.2.2.1))), ((o6.2.2.2.2.2.2.2.2.2.2.2.2.2.2.2.2.2.2.2.2.2.2.1, o6.2.2.2.2.2.2.2.2.2.2.2.2.2.2.2.2.2.2.2.2.2.2.2.1), (o6.2.2.2.2.2.2.2.2.2.2.2.2.2.2.2.2.2.2.2.2.2.2.2.2.1, o6.2.2.2.2.2.2.2.2.2.2.2.2.2.2.2.2.2.2.2.2.2.2.2.2.2.1, o6.2.2.2.2.2.2.2.2.2.2.2.2.2.2.2.2.2.2.2.2.2.2.2.2.2.2.1), o6.2.2.2.2.2.2.2.2.2.2.2.2.2.2.2.2.2.2.2.2.2.2.2.2.2.2.2)))] : List (DT27)).length) * 232 ≤ 140737488355328) then
        let v7 := ((o6.1.drop ((0 : Int)).toNat).take ((o6.2.1).toNat - ((0 : Int)).toNat)) ++ ([(((o6.2.2.1, (o6.2.2.2.1, o6.2.2.2.2.1, (o6.2.2.2.2.2.1, o6.2.2.2.2.2.2.1, o6.2.2.2.2.2.2.2.1))), (o6.2.2.2.2.2.2.2.2.1, o6.2.2.2.2.2.2.2.2.2.1), ((o6.2.2.2.2.2.2.2.2.2.2.1, o6.2.2.2.2.2.2.2.2.2.2.2.1, o6.2.2.2.2.2.2.2.2.2.2.2.2.1), o6.2.2.2.2.2.2.2.2.2.2.2.2.2.1, o6.2.2.2.2.2.2.2.2.2.2.2.2.2.2.1)), (o6.2.2.2.2.2.2.2.2.2.2.2.2.2.2.2.1, (o6.2.2.2.2.2.2.2.2.2.2.2.2.2.2.2.2.1, (o6.2.2.2.2.2.2.2.2.2.2.2.2.2.2.2.2.2.1, o6.2.2.2.2.2.2.2.2.2.2.2.2.2.2.2.2.2.2.1, (o6.2.2.2.2.2.2.2.2.2.2.2.2.2.2.2.2.2.2.2.1, o6.2.2.2.2.2.2.2.2.2.2.2.2.2.2.2.2.2.2.2.2.1, o6.2.2.2.2.2.2.2.2.2.2.2.2.2.2.2.2.2.2.2.2.2.1))), ((o6.2.2.2.2.2.2.2.2.2.2.2.2.2.2.2.2.2.2.2.2.2.2.1, o6.2.2.2.2.2.2.2.2.2.2.2.2.2.2.2.2.2.2.2.2.2.2.2.1), (o6.2.2.2.2.2.2.2.2.2.2.2.2.2.2.2.2.2.2.2.2.2.2.2.2.1, o6.2.2.2.2.2.2.2.2.2.2.2.2.2.2.2.2.2.2.2.2.2.2.2.2.2.1, o6.2.2.2.2.2.2.2.2.2.2.2.2.2.2.2.2.2.2.2.2.2.2.2.2.2.2.1), o6.2.2.2.2.2.2.2.2.2.2.2.2.2.2.2.2.2.2.2.2.2.2.2.2.2.2.2)))] : List (DT27))
        bif decide ((v7.length + ((o6.1.drop (o6.2.1).toNat).take (((o6.1.length : Int)).toNat - (o6.2.1).toNat)).length) * 232 ≤ 140737488355328) then
         let v8 := v7 ++ ((o6.1.drop (o6.2.1).toNat).take (((o6.1.length : Int)).toNat - (o6.2.1).toNat))
         some (v8)
        else none
       else none
      else none
     else none
    else none
noncomputable def c_spec_noPut : Con := { ps := [(.val, (.slice TY27)), (.val, TY27)], rs := [(.val, (.slice TY27))], F := F_spec_noPut }
noncomputable def env_spec_noPut : Env := { par := [], dp := false, settle := [999999], con := fun f => match f with | 81 => some c_spec_noFind | 82 => some c_spec_noBefore | _ => none, clo := fun _ => none, T := tinf Tryz.prog }
noncomputable def loops_spec_noPut : Nat → Option Loop := fun n => match n with | 4 => some { pat := pat_spec_noPut_0, outs := outs_spec_noPut_0, run := runL (step_spec_noPut_0) } | _ => none
theorem con_spec_noPut : ConOK Tryz.prog 48 c_spec_noPut := con_of_ev' (body := Tryz.f48.body.getD .skip) (Λ := loops_spec_noPut) mixed Tryz.func48 (by kernel_rfl) (by kernel_rfl) (envOK_of (E := env_spec_noPut) (fun f c h => by
  simp only [env_spec_noPut] at h
  split at h
  · cases h; exact con_spec_noFind
  · cases h; exact con_spec_noBefore
  · cases h) (fun f c h => by cases h) rfl) (by kernel_rfl) (by kernel_rfl) (fun n L h => by
  unfold loops_spec_noPut at h
  split at h
  · cases h; exact fun s o ho => loop_ok (stepF := stepEv env_spec_noPut loops_spec_noPut pat_spec_noPut_0 outs_spec_noPut_0 Tryz.f48 4) (fun _ => by kernel_rfl) ho
  · cases h) (fun _ => by kernel_rfl)

noncomputable def F_spec_siKind (x : DT27) : Option (Int) :=
 bif (!x.2.1) then
  some (0)
 else
  bif (!(x.2.2.2.2.2.1.toList == (⟨#[]⟩ : ByteArray).toList)) then
   some (1)
  else
   bif ((x.1.1.1 == x.2.2.1.1) && ((x.1.1.2.1 == x.2.2.1.2.1) && ((x.1.1.2.2.1 == x.2.2.1.2.2.1) && ((x.1.1.2.2.2.1 == x.2.2.1.2.2.2.1) && ((x.1.1.2.2.2.2.1 == x.2.2.1.2.2.2.2.1) && ((x.1.1.2.2.2.2.2 == x.2.2.1.2.2.2.2.2) && true)))))) then
    some (2)
   else
    some (3)
noncomputable def c_spec_siKind : Con := { ps := [(.val, TY27)], rs := [(.val, (.int .i64))], F := F_spec_siKind }
noncomputable def env_spec_siKind : Env := { par := [], dp := false, settle := [], con := fun _ => none, clo := fun _ => none, T := tinf Tryz.prog }
noncomputable def loops_spec_siKind : Nat → Option Loop := fun n => none
theorem con_spec_siKind : ConOK Tryz.prog 49 c_spec_siKind := con_of_ev' (body := Tryz.f49.body.getD .skip) (Λ := loops_spec_siKind) mixed Tryz.func49 (by kernel_rfl) (by kernel_rfl) (envOK_of (E := env_spec_siKind) (fun f c h => by cases h) (fun f c h => by cases h) rfl) (by kernel_rfl) (by kernel_rfl) (fun n L h => by cases h) (fun _ => by kernel_rfl)

noncomputable def step_spec_NotationsOf_0 (s : (List DT27) × Int × Int × Int × Int × (List DT13) × (List DT13) × Int × Int × Int × Int × Int × Bool × Int × Int × Int × Int × Bool × ByteArray × Int × Int × Int × Int × Int × Int × Bool × Int × Int × Int × Int × Bool × ByteArray × Int × Bool × Int × Int × Int × Int × Int × Bool × Int × Int × Int × Int × Bool × ByteArray × Int) : Option (((List DT27) × Int × Int × Int × Int × (List DT13) × (List DT13) × Int × Int × Int × Int × Int × Bool × Int × Int × Int × Int × Bool × ByteArray × Int × Int × Int × Int × Int × Int × Bool × Int × Int × Int × Int × Bool × ByteArray × Int × Bool × Int × Int × Int × Int × Int × Bool × Int × Int × Int × Int × Bool × ByteArray × Int) ⊕ (((List DT27) × Int × Int × (List DT13) × Int × Int × Int × Int × Int × Bool × Int × Int × Int × Int × Bool × ByteArray × Int × Bool × Int × Int × Int × Int × Int × Bool × Int × Int × Int × Int × Bool × ByteArray × Int))) :=
 bif (decide (s.2.2.2.2.1 < s.2.2.2.1)) then
  bif decide (0 ≤ s.2.2.2.2.1) && decide (s.2.2.2.2.1 < (s.2.2.2.2.2.1.length : Int)) then
   match F_spec_noPut ((s.1, (((s.2.2.2.2.2.2.2.1, (s.2.2.2.2.2.2.2.2.1, s.2.2.2.2.2.2.2.2.2.1, (s.2.2.2.2.2.2.2.2.2.2.1, s.2.2.2.2.2.2.2.2.2.2.2.1, s.2.2.2.2.2.2.2.2.2.2.2.2.1))), (s.2.2.2.2.2.2.2.2.2.2.2.2.2.1, s.2.2.2.2.2.2.2.2.2.2.2.2.2.2.1), ((s.2.2.2.2.2.2.2.2.2.2.2.2.2.2.2.1, s.2.2.2.2.2.2.2.2.2.2.2.2.2.2.2.2.1, s.2.2.2.2.2.2.2.2.2.2.2.2.2.2.2.2.2.1), s.2.2.2.2.2.2.2.2.2.2.2.2.2.2.2.2.2.2.1, s.2.2.2.2.2.2.2.2.2.2.2.2.2.2.2.2.2.2.2.1)), true, (s.2.2.2.2.2.1.getD (s.2.2.2.2.1).toNat dz13)))) with
   | none => none
   | some y46 =>
    match F_spec_siKind ((((s.2.2.2.2.2.2.2.2.2.2.2.2.2.2.2.2.2.2.2.2.1, (s.2.2.2.2.2.2.2.2.2.2.2.2.2.2.2.2.2.2.2.2.2.1, s.2.2.2.2.2.2.2.2.2.2.2.2.2.2.2.2.2.2.2.2.2.2.1, (s.2.2.2.2.2.2.2.2.2.2.2.2.2.2.2.2.2.2.2.2.2.2.2.1, s.2.2.2.2.2.2.2.2.2.2.2.2.2.2.2.2.2.2.2.2.2.2.2.2.1, s.2.2.2.2.2.2.2.2.2.2.2.2.2.2.2.2.2.2.2.2.2.2.2.2.2.1))), (s.2.2.2.2.2.2.2.2.2.2.2.2.2.2.2.2.2.2.2.2.2.2.2.2.2.2.1, s.2.2.2.2.2.2.2.2.2.2.2.2.2.2.2.2.2.2.2.2.2.2.2.2.2.2.2.1), ((s.2.2.2.2.2.2.2.2.2.2.2.2.2.2.2.2.2.2.2.2.2.2.2.2.2.2.2.2.1, s.2.2.2.2.2.2.2.2.2.2.2.2.2.2.2.2.2.2.2.2.2.2.2.2.2.2.2.2.2.1, s.2.2.2.2.2.2.2.2.2.2.2.2.2.2.2.2.2.2.2.2.2.2.2.2.2.2.2.2.2.2.1), s.2.2.2.2.2.2.2.2.2.2.2.2.2.2.2.2.2.2.2.2.2.2.2.2.2.2.2.2.2.2.2.1, s.2.2.2.2.2.2.2.2.2.2.2.2.2.2.2.2.2.2.2.2.2.2.2.2.2.2.2.2.2.2.2.2.1)), (s.2.2.2.2.2.2.2.2.2.2.2.2.2.2.2.2.2.2.2.2.2.2.2.2.2.2.2.2.2.2.2.2.2.1, (s.2.2.2.2.2.2.2.2.2.2.2.2.2.2.2.2.2.2.2.2.2.2.2.2.2.2.2.2.2.2.2.2.2.2.1, (s.2.2.2.2.2.2.2.2.2.2.2.2.2.2.2.2.2.2.2.2.2.2.2.2.2.2.2.2.2.2.2.2.2.2.2.1, s.2.2.2.2.2.2.2.2.2.2.2.2.2.2.2.2.2.2.2.2.2.2.2.2.2.2.2.2.2.2.2.2.2.2.2.2.1, (s.2.2.2.2.2.2.2.2.2.2.2.2.2.2.2.2.2.2.2.2.2.2.2.2.2.2.2.2.2.2.2.2.2.2.2.2.2.1, s.2.2.2.2.2.2.2.2.2.2.2.2.2.2.2.2.2.2.2.2.2.2.2.2.2.2.2.2.2.2.2.2.2.2.2.2.2.2.1, s.2.2.2.2.2.2.2.2.2.2.2.2.2.2.2.2.2.2.2.2.2.2.2.2.2.2.2.2.2.2.2.2.2.2.2.2.2.2.2.1))), ((s.2.2.2.2.2.2.2.2.2.2.2.2.2.2.2.2.2.2.2.2.2.2.2.2.2.2.2.2.2.2.2.2.2.2.2.2.2.2.2.2.1, s.2.2.2.2.2.2.2.2.2.2.2.2.2.2.2.2.2.2.2.2.2.2.2.2.2.2.2.2.2.2.2.2.2.2.2.2.2.2.2.2.2.1), (s.2.2.2.2.2.2.2.2.2.2.2.2.2.2.2.2.2.2.2.2.2.2.2.2.2.2.2.2.2.2.2.2.2.2.2.2.2.2.2.2.2.2.1, s.2.2.2.2.2.2.2.2.2.2.2.2.2.2.2.2.2.2.2.2.2.2.2.2.2.2.2.2.2.2.2.2.2.2.2.2.2.2.2.2.2.2.2.1, s.2.2.2.2.2.2.2.2.2.2.2.2.2.2.2.2.2.2.2.2.2.2.2.2.2.2.2.2.2.2.2.2.2.2.2.2.2.2.2.2.2.2.2.2.1), s.2.2.2.2.2.2.2.2.2.2.2.2.2.2.2.2.2.2.2.2.2.2.2.2.2.2.2.2.2.2.2.2.2.2.2.2.2.2.2.2.2.2.2.2.2)))) with
    | none => none
    | some y47 =>
     bif ((y47 == 1)) then
      match F_spec_noPut ((y46, ((s.2.2.2.2.2.1.getD (s.2.2.2.2.1).toNat dz13), true, ((s.2.2.2.2.2.2.2.1, (s.2.2.2.2.2.2.2.2.1, s.2.2.2.2.2.2.2.2.2.1, (s.2.2.2.2.2.2.2.2.2.2.1, s.2.2.2.2.2.2.2.2.2.2.2.1, s.2.2.2.2.2.2.2.2.2.2.2.2.1))), (s.2.2.2.2.2.2.2.2.2.2.2.2.2.1, s.2.2.2.2.2.2.2.2.2.2.2.2.2.2.1), ((s.2.2.2.2.2.2.2.2.2.2.2.2.2.2.2.1, s.2.2.2.2.2.2.2.2.2.2.2.2.2.2.2.2.1, s.2.2.2.2.2.2.2.2.2.2.2.2.2.2.2.2.2.1), s.2.2.2.2.2.2.2.2.2.2.2.2.2.2.2.2.2.2.1, s.2.2.2.2.2.2.2.2.2.2.2.2.2.2.2.2.2.2.2.1))))) with
      | none => none
      | some y48 =>
       let v49 := IntKind.i64.wrap (s.2.2.2.2.1 + 1)
       some (.inl ((y48, (s.2.1, s.2.2.1, (s.2.2.2.1, v49, s.2.2.2.2.2)))))
     else
      let v50 := IntKind.i64.wrap (s.2.2.2.2.1 + 1)
      some (.inl ((y46, (s.2.1, s.2.2.1, (s.2.2.2.1, v50, s.2.2.2.2.2)))))
  else none
 else
  some (.inr ((s.1, s.2.1, (s.2.2.1, s.2.2.2.2.2.2.1, s.2.2.2.2.2.2.2.2.2.2.2.2.2.2.2.2.2.2.2.2))))
def pat_spec_NotationsOf_0 : Pat := { tmps := .any :: .ptr 64 0 :: .any :: .any :: .v (.slice TY27) :: .any :: .ptr 384 0 :: an 10 (.own 1088 :: .v (.int .i64) :: .v (.int .i64) :: an 15 (.own 2240 :: .v (.int .i64) :: .v (.int .i64) :: an 19 [])), blks := [(2240, .row true TY13), (1088, .row true TY13), (384, .box [.v (.int .i64), .v (.int .i64), .v (.int .i64), .v (.int .i64), .v (.int .i64), .v .bool, .v (.int .i64), .v (.int .i64), .v (.int .i64), .v (.int .i64), .v .bool, .v .str, .v (.int .i64)]), (64, .box [.v (.int .i64), .v (.int .i64), .v (.int .i64), .v (.int .i64), .v (.int .i64), .v .bool, .v (.int .i64), .v (.int .i64), .v (.int .i64), .v (.int .i64), .v .bool, .v .str, .v (.int .i64), .v .bool, .v (.int .i64), .v (.int .i64), .v (.int .i64), .v (.int .i64), .v (.int .i64), .v .bool, .v (.int .i64), .v (.int .i64), .v (.int .i64), .v (.int .i64), .v .bool, .v .str, .v (.int .i64)])] }
def outs_spec_NotationsOf_0 : List (Exit × Pat) := [(.exit 2, { tmps := .any :: .ptr 64 0 :: .any :: .any :: .v (.slice TY27) :: an 12 (.own 1088 :: .v (.int .i64) :: .v (.int .i64) :: an 37 []), blks := [(1088, .row true TY13), (64, .box [.v (.int .i64), .v (.int .i64), .v (.int .i64), .v (.int .i64), .v (.int .i64), .v .bool, .v (.int .i64), .v (.int .i64), .v (.int .i64), .v (.int .i64), .v .bool, .v .str, .v (.int .i64), .v .bool, .v (.int .i64), .v (.int .i64), .v (.int .i64), .v (.int .i64), .v (.int .i64), .v .bool, .v (.int .i64), .v (.int .i64), .v (.int .i64), .v (.int .i64), .v .bool, .v .str, .v (.int .i64)])] })]
noncomputable def step_spec_NotationsOf_1 (s : (List DT27) × Int × Int × (List DT13) × Int × Int × Int × Int × Int × Bool × Int × Int × Int × Int × Bool × ByteArray × Int × Bool × Int × Int × Int × Int × Int × Bool × Int × Int × Int × Int × Bool × ByteArray × Int) : Option (((List DT27) × Int × Int × (List DT13) × Int × Int × Int × Int × Int × Bool × Int × Int × Int × Int × Bool × ByteArray × Int × Bool × Int × Int × Int × Int × Int × Bool × Int × Int × Int × Int × Bool × ByteArray × Int) ⊕ (((List DT27)))) :=
 bif (decide (s.2.2.1 < s.2.1)) then
  bif decide (0 ≤ s.2.2.1) && decide (s.2.2.1 < (s.2.2.2.1.length : Int)) then
   bif (!s.2.2.2.2.2.2.2.2.2.2.2.2.2.2.2.2.2.1) then
    match F_spec_noPut ((s.1, ((s.2.2.2.1.getD (s.2.2.1).toNat dz13), false, ((0, (0, 0, (0, 0, false))), (0, 0), ((0, 0, false), ByteArray.empty, 0))))) with
    | none => none
    | some y38 =>
     let v39 := IntKind.i64.wrap (s.2.2.1 + 1)
     some (.inl ((y38, (s.2.1, v39, s.2.2.2))))
   else
    match F_spec_noHand (((s.2.2.2.2.2.2.2.2.2.2.2.2.2.2.2.2.2.2.1, (s.2.2.2.2.2.2.2.2.2.2.2.2.2.2.2.2.2.2.2.1, s.2.2.2.2.2.2.2.2.2.2.2.2.2.2.2.2.2.2.2.2.1, (s.2.2.2.2.2.2.2.2.2.2.2.2.2.2.2.2.2.2.2.2.2.1, s.2.2.2.2.2.2.2.2.2.2.2.2.2.2.2.2.2.2.2.2.2.2.1, s.2.2.2.2.2.2.2.2.2.2.2.2.2.2.2.2.2.2.2.2.2.2.2.1))), ((s.2.2.2.2.2.2.2.2.2.2.2.2.2.2.2.2.2.2.2.2.2.2.2.2.1, s.2.2.2.2.2.2.2.2.2.2.2.2.2.2.2.2.2.2.2.2.2.2.2.2.2.1), (s.2.2.2.2.2.2.2.2.2.2.2.2.2.2.2.2.2.2.2.2.2.2.2.2.2.2.1, s.2.2.2.2.2.2.2.2.2.2.2.2.2.2.2.2.2.2.2.2.2.2.2.2.2.2.2.1, s.2.2.2.2.2.2.2.2.2.2.2.2.2.2.2.2.2.2.2.2.2.2.2.2.2.2.2.2.1), s.2.2.2.2.2.2.2.2.2.2.2.2.2.2.2.2.2.2.2.2.2.2.2.2.2.2.2.2.2))) with
    | none => none
    | some y40 =>
     match runL step_spec_NotationsOf_0 ((s.1, s.2.1, (s.2.2.1, ([((s.2.2.2.2.2.2.2.2.2.2.2.2.2.2.2.2.2.2.1, (s.2.2.2.2.2.2.2.2.2.2.2.2.2.2.2.2.2.2.2.1, s.2.2.2.2.2.2.2.2.2.2.2.2.2.2.2.2.2.2.2.2.1, (s.2.2.2.2.2.2.2.2.2.2.2.2.2.2.2.2.2.2.2.2.2.1, s.2.2.2.2.2.2.2.2.2.2.2.2.2.2.2.2.2.2.2.2.2.2.1, s.2.2.2.2.2.2.2.2.2.2.2.2.2.2.2.2.2.2.2.2.2.2.2.1))), ((s.2.2.2.2.2.2.2.2.2.2.2.2.2.2.2.2.2.2.2.2.2.2.2.2.1, s.2.2.2.2.2.2.2.2.2.2.2.2.2.2.2.2.2.2.2.2.2.2.2.2.2.1), (s.2.2.2.2.2.2.2.2.2.2.2.2.2.2.2.2.2.2.2.2.2.2.2.2.2.2.1, s.2.2.2.2.2.2.2.2.2.2.2.2.2.2.2.2.2.2.2.2.2.2.2.2.2.2.2.1, s.2.2.2.2.2.2.2.2.2.2.2.2.2.2.2.2.2.2.2.2.2.2.2.2.2.2.2.2.1), s.2.2.2.2.2.2.2.2.2.2.2.2.2.2.2.2.2.2.2.2.2.2.2.2.2.2.2.2.2)), y40].length : Int), (0, [((s.2.2.2.2.2.2.2.2.2.2.2.2.2.2.2.2.2.2.1, (s.2.2.2.2.2.2.2.2.2.2.2.2.2.2.2.2.2.2.2.1, s.2.2.2.2.2.2.2.2.2.2.2.2.2.2.2.2.2.2.2.2.1, (s.2.2.2.2.2.2.2.2.2.2.2.2.2.2.2.2.2.2.2.2.2.1, s.2.2.2.2.2.2.2.2.2.2.2.2.2.2.2.2.2.2.2.2.2.2.1, s.2.2.2.2.2.2.2.2.2.2.2.2.2.2.2.2.2.2.2.2.2.2.2.1))), ((s.2.2.2.2.2.2.2.2.2.2.2.2.2.2.2.2.2.2.2.2.2.2.2.2.1, s.2.2.2.2.2.2.2.2.2.2.2.2.2.2.2.2.2.2.2.2.2.2.2.2.2.1), (s.2.2.2.2.2.2.2.2.2.2.2.2.2.2.2.2.2.2.2.2.2.2.2.2.2.2.1, s.2.2.2.2.2.2.2.2.2.2.2.2.2.2.2.2.2.2.2.2.2.2.2.2.2.2.2.1, s.2.2.2.2.2.2.2.2.2.2.2.2.2.2.2.2.2.2.2.2.2.2.2.2.2.2.2.2.1), s.2.2.2.2.2.2.2.2.2.2.2.2.2.2.2.2.2.2.2.2.2.2.2.2.2.2.2.2.2)), y40], (s.2.2.2.1, (s.2.2.2.1.getD (s.2.2.1).toNat dz13).1.1, ((s.2.2.2.1.getD (s.2.2.1).toNat dz13).1.2.1, (s.2.2.2.1.getD (s.2.2.1).toNat dz13).1.2.2.1, ((s.2.2.2.1.getD (s.2.2.1).toNat dz13).1.2.2.2.1, (s.2.2.2.1.getD (s.2.2.1).toNat dz13).1.2.2.2.2.1, ((s.2.2.2.1.getD (s.2.2.1).toNat dz13).1.2.2.2.2.2, (s.2.2.2.1.getD (s.2.2.1).toNat dz13).2.1.1, ((s.2.2.2.1.getD (s.2.2.1).toNat dz13).2.1.2, (s.2.2.2.1.getD (s.2.2.1).toNat dz13).2.2.1.1, ((s.2.2.2.1.getD (s.2.2.1).toNat dz13).2.2.1.2.1, (s.2.2.2.1.getD (s.2.2.1).toNat dz13).2.2.1.2.2, ((s.2.2.2.1.getD (s.2.2.1).toNat dz13).2.2.2.1, (s.2.2.2.1.getD (s.2.2.1).toNat dz13).2.2.2.2, s.2.2.2.2))))))))))) with
     | none => none
     | some o51 =>
      let v52 := IntKind.i64.wrap (o51.2.2.1 + 1)
      some (.inl ((o51.1, (o51.2.1, v52, o51.2.2.2))))
  else none
 else
  some (.inr (s.1))
def pat_spec_NotationsOf_1 : Pat := { tmps := .any :: .ptr 64 0 :: .any :: .any :: .v (.slice TY27) :: an 12 (.own 1088 :: .v (.int .i64) :: .v (.int .i64) :: an 37 []), blks := [(1088, .row true TY13), (64, .box [.v (.int .i64), .v (.int .i64), .v (.int .i64), .v (.int .i64), .v (.int .i64), .v .bool, .v (.int .i64), .v (.int .i64), .v (.int .i64), .v (.int .i64), .v .bool, .v .str, .v (.int .i64), .v .bool, .v (.int .i64), .v (.int .i64), .v (.int .i64), .v (.int .i64), .v (.int .i64), .v .bool, .v (.int .i64), .v (.int .i64), .v (.int .i64), .v (.int .i64), .v .bool, .v .str, .v (.int .i64)])] }
def outs_spec_NotationsOf_1 : List (Exit × Pat) := [(.exit 0, { tmps := an 4 (.v (.slice TY27) :: an 52 []), blks := [] })]
noncomputable def F_spec_NotationsOf (x : DT27) : Option ((List DT27) × Bool) :=
 match F_spec_siGood (x) with
 | none => none
 | some y1 =>
  bif (!y1) then
   some (([], false))
  else
   match F_spec_noHand (x.1) with
   | none => none
   | some y2 =>
    match runL step_spec_NotationsOf_1 (([], (([x.1, y2].length : Int), 0, ([x.1, y2], x.1.1.1, (x.1.1.2.1, x.1.1.2.2.1, (x.1.1.2.2.2.1, x.1.1.2.2.2.2.1, (x.1.1.2.2.2.2.2, x.1.2.1.1, (x.1.2.1.2, x.1.2.2.1.1, (x.1.2.2.1.2.1, x.1.2.2.1.2.2, (x.1.2.2.2.1, x.1.2.2.2.2, (x.2.1, x.2.2.1.1, (x.2.2.1.2.1, x.2.2.1.2.2.1, (x.2.2.1.2.2.2.1, x.2.2.1.2.2.2.2.1, (x.2.2.1.2.2.2.2.2, x.2.2.2.1.1, (x.2.2.2.1.2, x.2.2.2.2.1.1, (x.2.2.2.2.1.2.1, x.2.2.2.2.1.2.2, x.2.2.2.2.2)))))))))))))))) with
    | none => none
    | some o53 =>
     some ((o53, true))
noncomputable def c_spec_NotationsOf : Con := { ps := [(.val, TY27)], rs := [(.val, (.slice TY27)), (.val, .bool)], F := F_spec_NotationsOf }
noncomputable def env_spec_NotationsOf : Env := { par := [], dp := false, settle := [], con := fun f => match f with | 46 => some c_spec_siGood | 47 => some c_spec_noHand | 48 => some c_spec_noPut | 49 => some c_spec_siKind | _ => none, clo := fun _ => none, T := tinf Tryz.prog }
noncomputable def loops_spec_NotationsOf : Nat → Option Loop := fun n => match n with | 10 => some { pat := pat_spec_NotationsOf_0, outs := outs_spec_NotationsOf_0, run := runL (step_spec_NotationsOf_0) } | 5 => some { pat := pat_spec_NotationsOf_1, outs := outs_spec_NotationsOf_1, run := runL (step_spec_NotationsOf_1) } | _ => none
theorem step_spec_NotationsOf_0_eq (s : (List DT27) × Int × Int × Int × Int × (List DT13) × (List DT13) × Int × Int × Int × Int × Int × Bool × Int × Int × Int × Int × Bool × ByteArray × Int × Int × Int × Int × Int × Int × Bool × Int × Int × Int × Int × Bool × ByteArray × Int × Bool × Int × Int × Int × Int × Int × Bool × Int × Int × Int × Int × Bool × ByteArray × Int) : stepEv env_spec_NotationsOf loops_spec_NotationsOf pat_spec_NotationsOf_0 outs_spec_NotationsOf_0 Tryz.f18 10 s = step_spec_NotationsOf_0 s := by kernel_rfl
theorem step_spec_NotationsOf_1_eq (s : (List DT27) × Int × Int × (List DT13) × Int × Int × Int × Int × Int × Bool × Int × Int × Int × Int × Bool × ByteArray × Int × Bool × Int × Int × Int × Int × Int × Bool × Int × Int × Int × Int × Bool × ByteArray × Int) : stepEv env_spec_NotationsOf loops_spec_NotationsOf pat_spec_NotationsOf_1 outs_spec_NotationsOf_1 Tryz.f18 5 s = step_spec_NotationsOf_1 s := by kernel_rfl
theorem F_spec_NotationsOf_eq (x : DT27) : Fev env_spec_NotationsOf loops_spec_NotationsOf c_spec_NotationsOf.ps c_spec_NotationsOf.rs Tryz.f18 x = F_spec_NotationsOf x := by kernel_rfl
theorem env_spec_NotationsOf_ok : EnvOK Tryz.prog env_spec_NotationsOf := envOK_of (fun f c h => by
  simp only [env_spec_NotationsOf] at h
  split at h
  · cases h; exact con_spec_siGood
  · cases h; exact con_spec_noHand
  · cases h; exact con_spec_noPut
  · cases h; exact con_spec_siKind
  · cases h) (fun f c h => by cases h) rfl
theorem con_spec_NotationsOf : ConOK Tryz.prog 18 c_spec_NotationsOf := con_of_ev' (body := Tryz.f18.body.getD .skip) (Λ := loops_spec_NotationsOf) mixed Tryz.func18 (by kernel_rfl) (by kernel_rfl) env_spec_NotationsOf_ok (by kernel_rfl) (by kernel_rfl) (fun n L h => by
  unfold loops_spec_NotationsOf at h
  split at h
  · cases h; exact fun s o ho => loop_ok (stepF := stepEv env_spec_NotationsOf loops_spec_NotationsOf pat_spec_NotationsOf_0 outs_spec_NotationsOf_0 Tryz.f18 10) (step_spec_NotationsOf_0_eq) ho
  · cases h; exact fun s o ho => loop_ok (stepF := stepEv env_spec_NotationsOf loops_spec_NotationsOf pat_spec_NotationsOf_1 outs_spec_NotationsOf_1 Tryz.f18 5) (step_spec_NotationsOf_1_eq) ho
  · cases h) F_spec_NotationsOf_eq

noncomputable def F_impl_Shape_bends (x : (Int × (Int × (Int × (Int × (Int × Bool)))))) : Option ((List Int)) :=
 some ([x.2.1, x.2.2.1, x.2.2.2.1, x.2.2.2.2.1])
noncomputable def c_impl_Shape_bends : Con := { ps := [(.val, (.st (.pair (.int .i64) (.pair (.int .i64) (.pair (.int .i64) (.pair (.int .i64) (.pair (.int .i64) .bool)))))))], rs := [(.io true, (.slice (.int .i64)))], F := F_impl_Shape_bends }
noncomputable def env_impl_Shape_bends : Env := { par := [], dp := false, settle := [], con := fun _ => none, clo := fun _ => none, T := tinf Tryz.prog }
noncomputable def loops_impl_Shape_bends : Nat → Option Loop := fun n => none
theorem con_impl_Shape_bends : ConOK Tryz.prog 193 c_impl_Shape_bends := con_of_ev' (body := Tryz.f193.body.getD .skip) (Λ := loops_impl_Shape_bends) mixed Tryz.func193 (by kernel_rfl) (by kernel_rfl) (envOK_of (E := env_impl_Shape_bends) (fun f c h => by cases h) (fun f c h => by cases h) rfl) (by kernel_rfl) (by kernel_rfl) (fun n L h => by cases h) (fun _ => by kernel_rfl)

noncomputable def F_impl_within (x : Int × Int × Int) : Option (Bool) :=
 bif (decide (x.1 ≥ x.2.1)) then
  some ((decide (x.1 ≤ x.2.2)))
 else
  some (false)
noncomputable def c_impl_within : Con := { ps := [(.val, (.int .i64)), (.val, (.int .i64)), (.val, (.int .i64))], rs := [(.val, .bool)], F := F_impl_within }
noncomputable def env_impl_within : Env := { par := [], dp := false, settle := [], con := fun _ => none, clo := fun _ => none, T := tinf Tryz.prog }
noncomputable def loops_impl_within : Nat → Option Loop := fun n => none
theorem con_impl_within : ConOK Tryz.prog 119 c_impl_within := con_of_ev' (body := Tryz.f119.body.getD .skip) (Λ := loops_impl_within) mixed Tryz.func119 (by kernel_rfl) (by kernel_rfl) (envOK_of (E := env_impl_within) (fun f c h => by cases h) (fun f c h => by cases h) rfl) (by kernel_rfl) (by kernel_rfl) (fun n L h => by cases h) (fun _ => by kernel_rfl)

noncomputable def F_impl_allWithin_1 (x : Int × Int × Int) : Option (Bool) :=
 match F_impl_within (x) with
 | none => none
 | some y1 =>
  some ((!y1))
noncomputable def c_impl_allWithin_1 : Con := { ps := [(.val, (.int .i64)), (.val, (.ptr (.int .i64))), (.val, (.ptr (.int .i64)))], rs := [(.val, .bool)], F := F_impl_allWithin_1 }
noncomputable def env_impl_allWithin_1 : Env := { par := [], dp := false, settle := [], con := fun f => match f with | 119 => some c_impl_within | _ => none, clo := fun _ => none, T := tinf Tryz.prog }
noncomputable def loops_impl_allWithin_1 : Nat → Option Loop := fun n => none
theorem con_impl_allWithin_1 : ConOK Tryz.prog 229 c_impl_allWithin_1 := con_of_ev' (body := Tryz.f229.body.getD .skip) (Λ := loops_impl_allWithin_1) mixed Tryz.func229 (by kernel_rfl) (by kernel_rfl) (envOK_of (E := env_impl_allWithin_1) (fun f c h => by
  simp only [env_impl_allWithin_1] at h
  split at h
  · cases h; exact con_impl_within
  · cases h) (fun f c h => by cases h) rfl) (by kernel_rfl) (by kernel_rfl) (fun n L h => by cases h) (fun _ => by kernel_rfl)

noncomputable def step_slices_IndexFunc_int_int_0 (s : (List Int) × (Int → Option Bool) × Int × Int) : Option (((List Int) × (Int → Option Bool) × Int × Int) ⊕ ((Int) ⊕ (Unit))) :=
 bif (decide (s.2.2.2 < s.2.2.1)) then
  bif decide (0 ≤ s.2.2.2) && decide (s.2.2.2 < (s.1.length : Int)) then
   match s.2.1 ((s.1.getD (s.2.2.2).toNat 0)) with
   | none => none
   | some y3 =>
    bif y3 then
     some (.inr (.inl (s.2.2.2)))
    else
     let v4 := IntKind.i64.wrap (s.2.2.2 + 1)
     some (.inl ((s.1, (s.2.1, s.2.2.1, v4))))
  else none
 else
  some (.inr (.inr (())))
def pat_slices_IndexFunc_int_int_0 : Pat := { tmps := .v (.slice (.int .i64)) :: .v (.fn (.int .i64) .bool) :: an 5 (.v (.int .i64) :: .v (.int .i64) :: an 10 []), blks := [] }
def outs_slices_IndexFunc_int_int_0 : List (Exit × Pat) := [(.ret, { tmps := an 4 (.v (.int .i64) :: an 14 []), blks := [] }), (.exit 0, { tmps := an 19 [], blks := [] })]
noncomputable def F_slices_IndexFunc_int_int (x : (List Int) × (Int → Option Bool)) : Option (Int) :=
 match runL step_slices_IndexFunc_int_int_0 ((x.1, (x.2, (x.1.length : Int), 0))) with
 | none => none
 | some (.inl o5) =>
  some (o5)
 | some (.inr o5) =>
  some ((-1))
noncomputable def c_slices_IndexFunc_int_int : Con := { ps := [(.val, (.slice (.int .i64))), (.val, (.fn (.int .i64) .bool))], rs := [(.val, (.int .i64))], F := F_slices_IndexFunc_int_int }
noncomputable def env_slices_IndexFunc_int_int : Env := { par := [], dp := false, settle := [], con := fun _ => none, clo := fun _ => none, T := tinf Tryz.prog }
noncomputable def loops_slices_IndexFunc_int_int : Nat → Option Loop := fun n => match n with | 2 => some { pat := pat_slices_IndexFunc_int_int_0, outs := outs_slices_IndexFunc_int_int_0, run := runL (step_slices_IndexFunc_int_int_0) } | _ => none
theorem con_slices_IndexFunc_int_int : ConOK Tryz.prog 248 c_slices_IndexFunc_int_int := con_of_ev' (body := Tryz.f248.body.getD .skip) (Λ := loops_slices_IndexFunc_int_int) mixed Tryz.func248 (by kernel_rfl) (by kernel_rfl) (envOK_of (E := env_slices_IndexFunc_int_int) (fun f c h => by cases h) (fun f c h => by cases h) rfl) (by kernel_rfl) (by kernel_rfl) (fun n L h => by
  unfold loops_slices_IndexFunc_int_int at h
  split at h
  · cases h; exact fun s o ho => loop_ok (stepF := stepEv env_slices_IndexFunc_int_int loops_slices_IndexFunc_int_int pat_slices_IndexFunc_int_int_0 outs_slices_IndexFunc_int_int_0 Tryz.f248 2) (fun _ => by kernel_rfl) ho
  · cases h) (fun _ => by kernel_rfl)

noncomputable def F_slices_ContainsFunc_int_int (x : (List Int) × (Int → Option Bool)) : Option (Bool) :=
 match F_slices_IndexFunc_int_int (x) with
 | none => none
 | some y1 =>
  some ((decide (y1 ≥ 0)))
noncomputable def c_slices_ContainsFunc_int_int : Con := { ps := [(.val, (.slice (.int .i64))), (.val, (.fn (.int .i64) .bool))], rs := [(.val, .bool)], F := F_slices_ContainsFunc_int_int }
noncomputable def env_slices_ContainsFunc_int_int : Env := { par := [], dp := false, settle := [], con := fun f => match f with | 248 => some c_slices_IndexFunc_int_int | _ => none, clo := fun _ => none, T := tinf Tryz.prog }
noncomputable def loops_slices_ContainsFunc_int_int : Nat → Option Loop := fun n => none
theorem con_slices_ContainsFunc_int_int : ConOK Tryz.prog 228 c_slices_ContainsFunc_int_int := con_of_ev' (body := Tryz.f228.body.getD .skip) (Λ := loops_slices_ContainsFunc_int_int) mixed Tryz.func228 (by kernel_rfl) (by kernel_rfl) (envOK_of (E := env_slices_ContainsFunc_int_int) (fun f c h => by
  simp only [env_slices_ContainsFunc_int_int] at h
  split at h
  · cases h; exact con_slices_IndexFunc_int_int
  · cases h) (fun f c h => by cases h) rfl) (by kernel_rfl) (by kernel_rfl) (fun n L h => by cases h) (fun _ => by kernel_rfl)

noncomputable def K_impl_allWithin_1 (q : Int × Int) (x : Int) : Option (Bool) := F_impl_allWithin_1 (x, q)
noncomputable def k_impl_allWithin_1 : CloCon := { caps := [(.int .i64), (.int .i64)], a := (.int .i64), r := .bool, F := K_impl_allWithin_1 }
theorem clo_impl_allWithin_1 : CloOK Tryz.prog 229 k_impl_allWithin_1 := clo_of_con k_impl_allWithin_1 F_impl_allWithin_1 con_impl_allWithin_1 rfl (fun kx x y h => ⟨y, h, rfl⟩)
noncomputable def F_impl_allWithin (x : (List Int) × Int × Int) : Option (Bool) :=
 match F_slices_ContainsFunc_int_int ((x.1, (K_impl_allWithin_1 x.2))) with
 | none => none
 | some y1 =>
  some ((!y1))
noncomputable def c_impl_allWithin : Con := { ps := [(.val, (.slice (.int .i64))), (.val, (.int .i64)), (.val, (.int .i64))], rs := [(.val, .bool)], F := F_impl_allWithin }
noncomputable def env_impl_allWithin : Env := { par := [], dp := false, settle := [], con := fun f => match f with | 228 => some c_slices_ContainsFunc_int_int | _ => none, clo := fun f => match f with | 229 => some k_impl_allWithin_1 | _ => none, T := tinf Tryz.prog }
noncomputable def loops_impl_allWithin : Nat → Option Loop := fun n => none
theorem con_impl_allWithin : ConOK Tryz.prog 192 c_impl_allWithin := con_of_ev' (body := Tryz.f192.body.getD .skip) (Λ := loops_impl_allWithin) mixed Tryz.func192 (by kernel_rfl) (by kernel_rfl) (envOK_of (E := env_impl_allWithin) (fun f c h => by
  simp only [env_impl_allWithin] at h
  split at h
  · cases h; exact con_slices_ContainsFunc_int_int
  · cases h) (fun f c h => by
  simp only [env_impl_allWithin] at h
  split at h
  · cases h; exact clo_impl_allWithin_1
  · cases h) rfl) (by kernel_rfl) (by kernel_rfl) (fun n L h => by cases h) (fun _ => by kernel_rfl)

noncomputable def F_impl_Shape_maySpread (x : (Int × (Int × (Int × (Int × (Int × Bool)))))) : Option (Bool) :=
 bif ((x.2.2.1 == 0)) then
  bif ((x.2.1 == 0)) then
   some (true)
  else
   bif ((x.2.2.2.1 == 0)) then
    some (true)
   else
    bif ((x.2.2.2.1 == 0)) then
     some (((x.2.2.2.2.1 == 0)))
    else
     some (false)
 else
  bif ((x.2.2.2.1 == 0)) then
   some (((x.2.2.2.2.1 == 0)))
  else
   some (false)
noncomputable def c_impl_Shape_maySpread : Con := { ps := [(.val, (.st (.pair (.int .i64) (.pair (.int .i64) (.pair (.int .i64) (.pair (.int .i64) (.pair (.int .i64) .bool)))))))], rs := [(.val, .bool)], F := F_impl_Shape_maySpread }
noncomputable def env_impl_Shape_maySpread : Env := { par := [], dp := false, settle := [], con := fun _ => none, clo := fun _ => none, T := tinf Tryz.prog }
noncomputable def loops_impl_Shape_maySpread : Nat → Option Loop := fun n => none
theorem con_impl_Shape_maySpread : ConOK Tryz.prog 194 c_impl_Shape_maySpread := con_of_ev' (body := Tryz.f194.body.getD .skip) (Λ := loops_impl_Shape_maySpread) mixed Tryz.func194 (by kernel_rfl) (by kernel_rfl) (envOK_of (E := env_impl_Shape_maySpread) (fun f c h => by cases h) (fun f c h => by cases h) rfl) (by kernel_rfl) (by kernel_rfl) (fun n L h => by cases h) (fun _ => by kernel_rfl)

noncomputable def F_impl_IsShape (x : (Int × (Int × (Int × (Int × (Int × Bool)))))) : Option (Bool) :=
 match F_impl_Shape_bends (x) with
 | none => none
 | some y1 =>
  bif decide (([x.1].length + y1.length) * 8 ≤ 140737488355328) then
   let v2 := [x.1] ++ y1
   match F_impl_allWithin ((v2, 0, 2)) with
   | none => none
   | some y3 =>
    bif (!y3) then
     some (false)
    else
     bif (!x.2.2.2.2.2) then
      some (true)
     else
      match F_impl_Shape_maySpread (x) with
      | none => none
      | some y4 =>
       some (y4)
  else none
noncomputable def c_impl_IsShape : Con := { ps := [(.val, (.st (.pair (.int .i64) (.pair (.int .i64) (.pair (.int .i64) (.pair (.int .i64) (.pair (.int .i64) .bool)))))))], rs := [(.val, .bool)], F := F_impl_IsShape }
noncomputable def env_impl_IsShape : Env := { par := [], dp := false, settle := [], con := fun f => match f with | 192 => some c_impl_allWithin | 193 => some c_impl_Shape_bends | 194 => some c_impl_Shape_maySpread | _ => none, clo := fun _ => none, T := tinf Tryz.prog }
noncomputable def loops_impl_IsShape : Nat → Option Loop := fun n => none
theorem con_impl_IsShape : ConOK Tryz.prog 133 c_impl_IsShape := con_of_ev' (body := Tryz.f133.body.getD .skip) (Λ := loops_impl_IsShape) mixed Tryz.func133 (by kernel_rfl) (by kernel_rfl) (envOK_of (E := env_impl_IsShape) (fun f c h => by
  simp only [env_impl_IsShape] at h
  split at h
  · cases h; exact con_impl_allWithin
  · cases h; exact con_impl_Shape_bends
  · cases h; exact con_impl_Shape_maySpread
  · cases h) (fun f c h => by cases h) rfl) (by kernel_rfl) (by kernel_rfl) (fun n L h => by cases h) (fun _ => by kernel_rfl)

noncomputable def F_impl_IsOrient (x : (Int × Int)) : Option (Bool) :=
 match F_impl_within ((x.1, 0, 5)) with
 | none => none
 | some y1 =>
  bif y1 then
   match F_impl_within ((x.2, 0, 5)) with
   | none => none
   | some y2 =>
    bif y2 then
     bif !decide (2 = 0) then
      let v3 := IntKind.i64.wrap ((x.1).tdiv 2)
      bif !decide (2 = 0) then
       let v4 := IntKind.i64.wrap ((x.2).tdiv 2)
       some (((v3 != v4)))
      else none
     else none
    else
     some (false)
  else
   some (false)
noncomputable def c_impl_IsOrient : Con := { ps := [(.val, (.st (.pair (.int .i64) (.int .i64))))], rs := [(.val, .bool)], F := F_impl_IsOrient }
noncomputable def env_impl_IsOrient : Env := { par := [], dp := false, settle := [], con := fun f => match f with | 119 => some c_impl_within | _ => none, clo := fun _ => none, T := tinf Tryz.prog }
noncomputable def loops_impl_IsOrient : Nat → Option Loop := fun n => none
theorem con_impl_IsOrient : ConOK Tryz.prog 134 c_impl_IsOrient := con_of_ev' (body := Tryz.f134.body.getD .skip) (Λ := loops_impl_IsOrient) mixed Tryz.func134 (by kernel_rfl) (by kernel_rfl) (envOK_of (E := env_impl_IsOrient) (fun f c h => by
  simp only [env_impl_IsOrient] at h
  split at h
  · cases h; exact con_impl_within
  · cases h) (fun f c h => by cases h) rfl) (by kernel_rfl) (by kernel_rfl) (fun n L h => by cases h) (fun _ => by kernel_rfl)

noncomputable def F_impl_IsPlace (x : (Int × (Int × Bool))) : Option (Bool) :=
 match F_impl_within ((x.1, 0, 9)) with
 | none => none
 | some y1 =>
  bif y1 then
   match F_impl_within ((x.2.1, (-1), 1)) with
   | none => none
   | some y2 =>
    bif y2 then
     bif x.2.2 then
      some ((!((x.1 == 0))))
     else
      some ((!false))
    else
     some (false)
  else
   some (false)
noncomputable def c_impl_IsPlace : Con := { ps := [(.val, (.st (.pair (.int .i64) (.pair (.int .i64) .bool))))], rs := [(.val, .bool)], F := F_impl_IsPlace }
noncomputable def env_impl_IsPlace : Env := { par := [], dp := false, settle := [], con := fun f => match f with | 119 => some c_impl_within | _ => none, clo := fun _ => none, T := tinf Tryz.prog }
noncomputable def loops_impl_IsPlace : Nat → Option Loop := fun n => none
theorem con_impl_IsPlace : ConOK Tryz.prog 135 c_impl_IsPlace := con_of_ev' (body := Tryz.f135.body.getD .skip) (Λ := loops_impl_IsPlace) mixed Tryz.func135 (by kernel_rfl) (by kernel_rfl) (envOK_of (E := env_impl_IsPlace) (fun f c h => by
  simp only [env_impl_IsPlace] at h
  split at h
  · cases h; exact con_impl_within
  · cases h) (fun f c h => by cases h) rfl) (by kernel_rfl) (by kernel_rfl) (fun n L h => by cases h) (fun _ => by kernel_rfl)

set_option maxHeartbeats 1000000 in
theorem calls_strings_IndexByte (s : ByteArray) (c : Int) (w : World) :
    Calls Tryz.prog 96 #[.string s, .int .u8 c] w fun e w' => e = .returned (.int .i64 (Lib.indexByte s.data.toList c.toNat.toUInt8)) ∧ w' = w := by
  go_enter Tryz.func96, Tryz.ntmps96
  go_wp2
  rw [run_callFunc_extern Tryz.func213 (by kernel_rfl) (by kernel_rfl) (by kernel_rfl) (e := Extern.BytealgIndexByte.indexByte) (by kernel_rfl), Lib.run_indexByteString]
  simp only [Result.andThen]
  rw [Oper.upon_value]
  go_wp2
  go_ret
  exact ⟨rfl, rfl⟩
def F_strings_IndexByte (x : ByteArray × Int) : Option Int := some (Lib.indexByte x.1.data.toList x.2.toNat.toUInt8)
def c_strings_IndexByte : Con := { ps := [(.val, .str), (.val, .int .u8)], rs := [(.val, .int .i64)], F := F_strings_IndexByte }
theorem con_strings_IndexByte : ConOK Tryz.prog 96 c_strings_IndexByte := con_of_pure ⟨Tryz.f96, Tryz.func96, by kernel_rfl, by kernel_rfl⟩ rfl rfl fun w x y hy _ => by
  have e : y = Lib.indexByte x.1.data.toList x.2.toNat.toUInt8 := (Option.some.inj hy).symm
  subst e
  refine (calls_strings_IndexByte x.1 x.2 w).mono ?_
  rintro e w' ⟨rfl, rfl⟩
  exact ⟨rfl, Fr.refl _ _⟩

noncomputable def step_impl_hasOnly_0 (s : ByteArray × ByteArray × Int × Int) : Option ((ByteArray × ByteArray × Int × Int) ⊕ ((Bool) ⊕ (Unit))) :=
 bif (decide (s.2.2.2 < s.2.2.1)) then
  bif decide (0 ≤ s.2.2.2) && decide (s.2.2.2 < (s.1.size : Int)) then
   match F_strings_IndexByte ((s.2.1, (byteAt s.1 (s.2.2.2).toNat))) with
   | none => none
   | some y3 =>
    bif (decide (y3 < 0)) then
     some (.inr (.inl (false)))
    else
     let v4 := IntKind.i64.wrap (s.2.2.2 + 1)
     some (.inl ((s.1, (s.2.1, s.2.2.1, v4))))
  else none
 else
  some (.inr (.inr (())))
def pat_impl_hasOnly_0 : Pat := { tmps := .v .str :: .v .str :: an 5 (.v (.int .i64) :: .v (.int .i64) :: an 9 []), blks := [] }
def outs_impl_hasOnly_0 : List (Exit × Pat) := [(.ret, { tmps := an 4 (.v .bool :: an 13 []), blks := [] }), (.exit 0, { tmps := an 18 [], blks := [] })]
noncomputable def F_impl_hasOnly (x : ByteArray × ByteArray) : Option (Bool) :=
 match runL step_impl_hasOnly_0 ((x.1, (x.2, (x.1.size : Int), 0))) with
 | none => none
 | some (.inl o5) =>
  some (o5)
 | some (.inr o5) =>
  some (true)
noncomputable def c_impl_hasOnly : Con := { ps := [(.val, .str), (.val, .str)], rs := [(.val, .bool)], F := F_impl_hasOnly }
noncomputable def env_impl_hasOnly : Env := { par := [], dp := false, settle := [], con := fun f => match f with | 96 => some c_strings_IndexByte | _ => none, clo := fun _ => none, T := tinf Tryz.prog }
noncomputable def loops_impl_hasOnly : Nat → Option Loop := fun n => match n with | 2 => some { pat := pat_impl_hasOnly_0, outs := outs_impl_hasOnly_0, run := runL (step_impl_hasOnly_0) } | _ => none
theorem con_impl_hasOnly : ConOK Tryz.prog 195 c_impl_hasOnly := con_of_ev' (body := Tryz.f195.body.getD .skip) (Λ := loops_impl_hasOnly) mixed Tryz.func195 (by kernel_rfl) (by kernel_rfl) (envOK_of (E := env_impl_hasOnly) (fun f c h => by
  simp only [env_impl_hasOnly] at h
  split at h
  · cases h; exact con_strings_IndexByte
  · cases h) (fun f c h => by cases h) rfl) (by kernel_rfl) (by kernel_rfl) (fun n L h => by
  unfold loops_impl_hasOnly at h
  split at h
  · cases h; exact fun s o ho => loop_ok (stepF := stepEv env_impl_hasOnly loops_impl_hasOnly pat_impl_hasOnly_0 outs_impl_hasOnly_0 Tryz.f195 2) (fun _ => by kernel_rfl) ho
  · cases h) (fun _ => by kernel_rfl)

noncomputable def F_impl_IsMove (x : (ByteArray × Int)) : Option (Bool) :=
 bif (decide ((x.1.size : Int) ≤ 6)) then
  match F_impl_hasOnly ((x.1, (⟨#[117, 100, 108, 114, 102, 98]⟩ : ByteArray))) with
  | none => none
  | some y1 =>
   bif y1 then
    match F_impl_within ((x.2, 1, 3)) with
    | none => none
    | some y2 =>
     bif y2 then
      bif (!(x.1.toList == (⟨#[]⟩ : ByteArray).toList)) then
       some (true)
      else
       some (((x.2 == 1)))
     else
      some (false)
   else
    some (false)
 else
  some (false)
noncomputable def c_impl_IsMove : Con := { ps := [(.val, (.st (.pair .str (.int .i64))))], rs := [(.val, .bool)], F := F_impl_IsMove }
noncomputable def env_impl_IsMove : Env := { par := [], dp := false, settle := [], con := fun f => match f with | 119 => some c_impl_within | 195 => some c_impl_hasOnly | _ => none, clo := fun _ => none, T := tinf Tryz.prog }
noncomputable def loops_impl_IsMove : Nat → Option Loop := fun n => none
theorem con_impl_IsMove : ConOK Tryz.prog 136 c_impl_IsMove := con_of_ev' (body := Tryz.f136.body.getD .skip) (Λ := loops_impl_IsMove) mixed Tryz.func136 (by kernel_rfl) (by kernel_rfl) (envOK_of (E := env_impl_IsMove) (fun f c h => by
  simp only [env_impl_IsMove] at h
  split at h
  · cases h; exact con_impl_within
  · cases h; exact con_impl_hasOnly
  · cases h) (fun f c h => by cases h) rfl) (by kernel_rfl) (by kernel_rfl) (fun n L h => by cases h) (fun _ => by kernel_rfl)

noncomputable def F_impl_IsHand (x : DT13) : Option (Bool) :=
 match F_impl_IsShape (x.1) with
 | none => none
 | some y1 =>
  bif y1 then
   match F_impl_IsOrient (x.2.1) with
   | none => none
   | some y2 =>
    bif y2 then
     match F_impl_IsPlace (x.2.2.1) with
     | none => none
     | some y3 =>
      bif y3 then
       match F_impl_IsMove (x.2.2.2) with
       | none => none
       | some y4 =>
        some (y4)
      else
       some (false)
    else
     some (false)
  else
   some (false)
noncomputable def c_impl_IsHand : Con := { ps := [(.val, TY13)], rs := [(.val, .bool)], F := F_impl_IsHand }
noncomputable def env_impl_IsHand : Env := { par := [], dp := false, settle := [], con := fun f => match f with | 133 => some c_impl_IsShape | 134 => some c_impl_IsOrient | 135 => some c_impl_IsPlace | 136 => some c_impl_IsMove | _ => none, clo := fun _ => none, T := tinf Tryz.prog }
noncomputable def loops_impl_IsHand : Nat → Option Loop := fun n => none
theorem con_impl_IsHand : ConOK Tryz.prog 87 c_impl_IsHand := con_of_ev' (body := Tryz.f87.body.getD .skip) (Λ := loops_impl_IsHand) mixed Tryz.func87 (by kernel_rfl) (by kernel_rfl) (envOK_of (E := env_impl_IsHand) (fun f c h => by
  simp only [env_impl_IsHand] at h
  split at h
  · cases h; exact con_impl_IsShape
  · cases h; exact con_impl_IsOrient
  · cases h; exact con_impl_IsPlace
  · cases h; exact con_impl_IsMove
  · cases h) (fun f c h => by cases h) rfl) (by kernel_rfl) (by kernel_rfl) (fun n L h => by cases h) (fun _ => by kernel_rfl)

noncomputable def F_impl_Hand_moves (x : DT13) : Option (Bool) :=
 some ((!(x.2.2.2.1.toList == (⟨#[]⟩ : ByteArray).toList)))
noncomputable def c_impl_Hand_moves : Con := { ps := [(.val, TY13)], rs := [(.val, .bool)], F := F_impl_Hand_moves }
noncomputable def env_impl_Hand_moves : Env := { par := [], dp := false, settle := [], con := fun _ => none, clo := fun _ => none, T := tinf Tryz.prog }
noncomputable def loops_impl_Hand_moves : Nat → Option Loop := fun n => none
theorem con_impl_Hand_moves : ConOK Tryz.prog 90 c_impl_Hand_moves := con_of_ev' (body := Tryz.f90.body.getD .skip) (Λ := loops_impl_Hand_moves) mixed Tryz.func90 (by kernel_rfl) (by kernel_rfl) (envOK_of (E := env_impl_Hand_moves) (fun f c h => by cases h) (fun f c h => by cases h) rfl) (by kernel_rfl) (by kernel_rfl) (fun n L h => by cases h) (fun _ => by kernel_rfl)

noncomputable def F_impl_Shape_with (x : (Int × (Int × (Int × (Int × (Int × Bool))))) × Int × Int) : Option ((Int × (Int × (Int × (Int × (Int × Bool)))))) :=
 bif ((x.2.1 == 0)) then
  bif x.1.2.2.2.2.2 then
   match F_impl_Shape_maySpread ((x.2.2, x.1.2)) with
   | none => none
   | some y1 =>
    some ((x.2.2, (x.1.2.1, x.1.2.2.1, (x.1.2.2.2.1, x.1.2.2.2.2.1, y1))))
  else
   some ((x.2.2, (x.1.2.1, x.1.2.2.1, (x.1.2.2.2.1, x.1.2.2.2.2.1, false))))
 else
  bif ((x.2.1 == 1)) then
   bif x.1.2.2.2.2.2 then
    match F_impl_Shape_maySpread ((x.1.1, x.2.2, x.1.2.2)) with
    | none => none
    | some y2 =>
     some ((x.1.1, (x.2.2, x.1.2.2.1, (x.1.2.2.2.1, x.1.2.2.2.2.1, y2))))
   else
    some ((x.1.1, (x.2.2, x.1.2.2.1, (x.1.2.2.2.1, x.1.2.2.2.2.1, false))))
  else
   bif ((x.2.1 == 2)) then
    bif x.1.2.2.2.2.2 then
     match F_impl_Shape_maySpread ((x.1.1, (x.1.2.1, x.2.2, x.1.2.2.2))) with
     | none => none
     | some y3 =>
      some ((x.1.1, (x.1.2.1, x.2.2, (x.1.2.2.2.1, x.1.2.2.2.2.1, y3))))
    else
     some ((x.1.1, (x.1.2.1, x.2.2, (x.1.2.2.2.1, x.1.2.2.2.2.1, false))))
   else
    bif ((x.2.1 == 3)) then
     bif x.1.2.2.2.2.2 then
      match F_impl_Shape_maySpread ((x.1.1, x.1.2.1, (x.1.2.2.1, x.2.2, x.1.2.2.2.2))) with
      | none => none
      | some y4 =>
       some ((x.1.1, (x.1.2.1, x.1.2.2.1, (x.2.2, x.1.2.2.2.2.1, y4))))
     else
      some ((x.1.1, (x.1.2.1, x.1.2.2.1, (x.2.2, x.1.2.2.2.2.1, false))))
    else
     bif x.1.2.2.2.2.2 then
      match F_impl_Shape_maySpread ((x.1.1, (x.1.2.1, x.1.2.2.1, (x.1.2.2.2.1, x.2.2, x.1.2.2.2.2.2)))) with
      | none => none
      | some y5 =>
       some ((x.1.1, (x.1.2.1, x.1.2.2.1, (x.1.2.2.2.1, x.2.2, y5))))
     else
      some ((x.1.1, (x.1.2.1, x.1.2.2.1, (x.1.2.2.2.1, x.2.2, false))))
noncomputable def c_impl_Shape_with : Con := { ps := [(.val, (.st (.pair (.int .i64) (.pair (.int .i64) (.pair (.int .i64) (.pair (.int .i64) (.pair (.int .i64) .bool))))))), (.val, (.int .i64)), (.val, (.int .i64))], rs := [(.val, (.st (.pair (.int .i64) (.pair (.int .i64) (.pair (.int .i64) (.pair (.int .i64) (.pair (.int .i64) .bool)))))))], F := F_impl_Shape_with }
noncomputable def env_impl_Shape_with : Env := { par := [], dp := false, settle := [], con := fun f => match f with | 194 => some c_impl_Shape_maySpread | _ => none, clo := fun _ => none, T := tinf Tryz.prog }
noncomputable def loops_impl_Shape_with : Nat → Option Loop := fun n => none
theorem con_impl_Shape_with : ConOK Tryz.prog 167 c_impl_Shape_with := con_of_ev' (body := Tryz.f167.body.getD .skip) (Λ := loops_impl_Shape_with) mixed Tryz.func167 (by kernel_rfl) (by kernel_rfl) (envOK_of (E := env_impl_Shape_with) (fun f c h => by
  simp only [env_impl_Shape_with] at h
  split at h
  · cases h; exact con_impl_Shape_maySpread
  · cases h) (fun f c h => by cases h) rfl) (by kernel_rfl) (by kernel_rfl) (fun n L h => by cases h) (fun _ => by kernel_rfl)

theorem fr_of_belowI {w w' : World} (h : Go.RowKit.Below w.heap.size w w') : Fr NoB w w' := ⟨h.os, h.tape, h.output, h.size, fun b hb _ => h.block b hb, fun b _ hb => h.block b hb⟩
theorem Itoa_ex : ∃ f : Int → Option ByteArray, f = fun n => bif decide (-9223372036854775808 ≤ n) && decide (n ≤ 9223372036854775807) then some ⟨(Lib.itoa n).toArray⟩ else none := ⟨_, rfl⟩
noncomputable def F_strconv_Itoa : Int → Option ByteArray := Classical.choose Itoa_ex
theorem F_strconv_Itoa_is (n : Int) : F_strconv_Itoa n = bif decide (-9223372036854775808 ≤ n) && decide (n ≤ 9223372036854775807) then some ⟨(Lib.itoa n).toArray⟩ else none := congrFun (Classical.choose_spec Itoa_ex) n
noncomputable def c_strconv_Itoa : Con := { ps := [(.val, .int .i64)], rs := [(.val, .str)], F := F_strconv_Itoa }
theorem calls_F_strconv_Itoa (w : World) (x : Int) (y : ByteArray) (hy : F_strconv_Itoa x = some y) (ht : Tabs Tryz.prog w) : Calls Tryz.prog 210 #[.int .i64 x] w fun e w' => e = .returned (.string y) ∧ Fr NoB w w' := by
  rw [F_strconv_Itoa_is] at hy
  obtain ⟨hg, hy⟩ := bif_none hy
  obtain ⟨h0, h1⟩ := and_b hg
  have h0 : -9223372036854775808 ≤ x := of_decide_eq_true h0
  have h1 : x ≤ 9223372036854775807 := of_decide_eq_true h1
  have e : y = ⟨(Lib.itoa x).toArray⟩ := (Option.some.inj hy).symm
  subst e
  refine (Tryz.strconv_Itoa x h0 h1 w (ht.1 _ (List.mem_cons_self ..)).2).mono ?_
  rintro e w' ⟨rfl, k, os, rfl⟩
  exact ⟨rfl, fr_of_belowI (Go.Lib.below_grow _ _ (Nat.le_refl _) k os)⟩
theorem con_strconv_Itoa : ConOK Tryz.prog 210 c_strconv_Itoa := con_of_pure ⟨Tryz.f210, Tryz.func210, by kernel_rfl, by kernel_rfl⟩ rfl rfl fun w x y hy ht => calls_F_strconv_Itoa w x y hy ht

noncomputable def step_impl_Shape_text_0 (s : ByteArray × Int × Int × (List Int) × Int × Int × Int × Int × Int × Bool) : Option ((ByteArray × Int × Int × (List Int) × Int × Int × Int × Int × Int × Bool) ⊕ ((ByteArray × Int × Int × Int × Int × Int × Bool))) :=
 bif (decide (s.2.2.1 < s.2.1)) then
  bif decide (0 ≤ s.2.2.1) && decide (s.2.2.1 < (s.2.2.2.1.length : Int)) then
   match F_strconv_Itoa ((s.2.2.2.1.getD (s.2.2.1).toNat 0)) with
   | none => none
   | some y5 =>
    bif decide (s.1.size + y5.size ≤ 9223372036854775807) then
     let v6 := IntKind.i64.wrap (s.2.2.1 + 1)
     some (.inl (((s.1 ++ y5), (s.2.1, v6, s.2.2.2))))
    else none
  else none
 else
  some (.inr ((s.1, s.2.2.2.2)))
def pat_impl_Shape_text_0 : Pat := { tmps := .any :: .ptr 64 0 :: .any :: .v .str :: an 6 (.own 640 :: .v (.int .i64) :: .v (.int .i64) :: an 13 []), blks := [(640, .row true (.int .i64)), (64, .box [.v (.int .i64), .v (.int .i64), .v (.int .i64), .v (.int .i64), .v (.int .i64), .v .bool])] }
def outs_impl_Shape_text_0 : List (Exit × Pat) := [(.exit 0, { tmps := .any :: .ptr 64 0 :: .any :: .v .str :: an 22 [], blks := [(64, .box [.v (.int .i64), .v (.int .i64), .v (.int .i64), .v (.int .i64), .v (.int .i64), .v .bool])] })]
noncomputable def F_impl_Shape_text (x : (Int × (Int × (Int × (Int × (Int × Bool)))))) : Option (ByteArray) :=
 match F_strconv_Itoa (x.1) with
 | none => none
 | some y1 =>
  match F_impl_Shape_bends (x) with
  | none => none
  | some y2 =>
   match runL step_impl_Shape_text_0 ((y1, (y2.length : Int), (0, y2, x))) with
   | none => none
   | some o7 =>
    bif o7.2.2.2.2.2.2 then
     bif decide (o7.1.size + (⟨#[115]⟩ : ByteArray).size ≤ 9223372036854775807) then
      some ((o7.1 ++ (⟨#[115]⟩ : ByteArray)))
     else none
    else
     some (o7.1)
noncomputable def c_impl_Shape_text : Con := { ps := [(.val, (.st (.pair (.int .i64) (.pair (.int .i64) (.pair (.int .i64) (.pair (.int .i64) (.pair (.int .i64) .bool)))))))], rs := [(.val, .str)], F := F_impl_Shape_text }
noncomputable def env_impl_Shape_text : Env := { par := [], dp := false, settle := [], con := fun f => match f with | 193 => some c_impl_Shape_bends | 210 => some c_strconv_Itoa | _ => none, clo := fun _ => none, T := tinf Tryz.prog }
noncomputable def loops_impl_Shape_text : Nat → Option Loop := fun n => match n with | 3 => some { pat := pat_impl_Shape_text_0, outs := outs_impl_Shape_text_0, run := runL (step_impl_Shape_text_0) } | _ => none
theorem con_impl_Shape_text : ConOK Tryz.prog 154 c_impl_Shape_text := con_of_ev' (body := Tryz.f154.body.getD .skip) (Λ := loops_impl_Shape_text) mixed Tryz.func154 (by kernel_rfl) (by kernel_rfl) (envOK_of (E := env_impl_Shape_text) (fun f c h => by
  simp only [env_impl_Shape_text] at h
  split at h
  · cases h; exact con_impl_Shape_bends
  · cases h; exact con_strconv_Itoa
  · cases h) (fun f c h => by cases h) rfl) (by kernel_rfl) (by kernel_rfl) (fun n L h => by
  unfold loops_impl_Shape_text at h
  split at h
  · cases h; exact fun s o ho => loop_ok (stepF := stepEv env_impl_Shape_text loops_impl_Shape_text pat_impl_Shape_text_0 outs_impl_Shape_text_0 Tryz.f154 3) (fun _ => by kernel_rfl) ho
  · cases h) (fun _ => by kernel_rfl)

noncomputable def step_impl_ParseShape_0 (s : ByteArray × Int × Int × Int × Int × Int × Int × Bool × Int × Int × Int × Int × Int × Bool) : Option ((ByteArray × Int × Int × Int × Int × Int × Int × Bool × Int × Int × Int × Int × Int × Bool) ⊕ ((ByteArray × Int × Int × Int × Int × Int × Bool × Int × Int × Int × Int × Int × Bool))) :=
 bif (decide (s.2.1 < 5)) then
  bif decide (0 ≤ s.2.1) && decide (s.2.1 < (s.1.size : Int)) then
   let v6 := IntKind.i64.wrap (byteAt s.1 (s.2.1).toNat)
   let v7 := IntKind.i64.wrap (v6 - 48)
   match F_impl_Shape_with (((s.2.2.1, (s.2.2.2.1, s.2.2.2.2.1, (s.2.2.2.2.2.1, s.2.2.2.2.2.2.1, s.2.2.2.2.2.2.2.1))), s.2.1, v7)) with
   | none => none
   | some y8 =>
    let v9 := IntKind.i64.wrap (s.2.1 + 1)
    some (.inl ((s.1, v9, (y8.1, y8.2.1, (y8.2.2.1, y8.2.2.2.1, (y8.2.2.2.2.1, y8.2.2.2.2.2, s.2.2.2.2.2.2.2.2))))))
  else none
 else
  some (.inr ((s.1, s.2.2)))
def pat_impl_ParseShape_0 : Pat := { tmps := .v .str :: .any :: .ptr 128 0 :: .any :: .ptr 256 0 :: an 6 (.v (.int .i64) :: an 26 []), blks := [(256, .box [.v (.int .i64), .v (.int .i64), .v (.int .i64), .v (.int .i64), .v (.int .i64), .v .bool]), (128, .box [.v (.int .i64), .v (.int .i64), .v (.int .i64), .v (.int .i64), .v (.int .i64), .v .bool])] }
def outs_impl_ParseShape_0 : List (Exit × Pat) := [(.exit 0, { tmps := .v .str :: .any :: .ptr 128 0 :: .any :: .ptr 256 0 :: an 33 [], blks := [(256, .box [.v (.int .i64), .v (.int .i64), .v (.int .i64), .v (.int .i64), .v (.int .i64), .v .bool]), (128, .box [.v (.int .i64), .v (.int .i64), .v (.int .i64), .v (.int .i64), .v (.int .i64), .v .bool])] })]
noncomputable def F_impl_ParseShape (x : ByteArray) : Option ((Int × (Int × (Int × (Int × (Int × Bool))))) × Bool) :=
 match F_impl_within (((x.size : Int), 5, 6)) with
 | none => none
 | some y1 =>
  bif (!y1) then
   some (((0, (0, 0, (0, 0, false))), false))
  else
   match runL step_impl_ParseShape_0 ((x, (0, 0, (0, 0, (0, 0, (false, 0, (0, 0, (0, 0, false)))))))) with
   | none => none
   | some o10 =>
    match F_impl_IsShape ((o10.2.1, (o10.2.2.1, o10.2.2.2.1, (o10.2.2.2.2.1, o10.2.2.2.2.2.1, (((o10.1.size : Int) == 6)))))) with
    | none => none
    | some y11 =>
     bif (!y11) then
      some (((0, (0, 0, (0, 0, false))), false))
     else
      match F_impl_Shape_text ((o10.2.1, (o10.2.2.1, o10.2.2.2.1, (o10.2.2.2.2.1, o10.2.2.2.2.2.1, (((o10.1.size : Int) == 6)))))) with
      | none => none
      | some y12 =>
       bif (!(y12.toList == o10.1.toList)) then
        some (((0, (0, 0, (0, 0, false))), false))
       else
        some (((o10.2.1, (o10.2.2.1, o10.2.2.2.1, (o10.2.2.2.2.1, o10.2.2.2.2.2.1, (((o10.1.size : Int) == 6))))), true))
noncomputable def c_impl_ParseShape : Con := { ps := [(.val, .str)], rs := [(.val, (.st (.pair (.int .i64) (.pair (.int .i64) (.pair (.int .i64) (.pair (.int .i64) (.pair (.int .i64) .bool))))))), (.val, .bool)], F := F_impl_ParseShape }
noncomputable def env_impl_ParseShape : Env := { par := [], dp := false, settle := [], con := fun f => match f with | 119 => some c_impl_within | 133 => some c_impl_IsShape | 154 => some c_impl_Shape_text | 167 => some c_impl_Shape_with | _ => none, clo := fun _ => none, T := tinf Tryz.prog }
noncomputable def loops_impl_ParseShape : Nat → Option Loop := fun n => match n with | 5 => some { pat := pat_impl_ParseShape_0, outs := outs_impl_ParseShape_0, run := runL (step_impl_ParseShape_0) } | _ => none
theorem con_impl_ParseShape : ConOK Tryz.prog 106 c_impl_ParseShape := con_of_ev' (body := Tryz.f106.body.getD .skip) (Λ := loops_impl_ParseShape) mixed Tryz.func106 (by kernel_rfl) (by kernel_rfl) (envOK_of (E := env_impl_ParseShape) (fun f c h => by
  simp only [env_impl_ParseShape] at h
  split at h
  · cases h; exact con_impl_within
  · cases h; exact con_impl_IsShape
  · cases h; exact con_impl_Shape_text
  · cases h; exact con_impl_Shape_with
  · cases h) (fun f c h => by cases h) rfl) (by kernel_rfl) (by kernel_rfl) (fun n L h => by
  unfold loops_impl_ParseShape at h
  split at h
  · cases h; exact fun s o ho => loop_ok (stepF := stepEv env_impl_ParseShape loops_impl_ParseShape pat_impl_ParseShape_0 outs_impl_ParseShape_0 Tryz.f106 5) (fun _ => by kernel_rfl) ho
  · cases h) (fun _ => by kernel_rfl)

noncomputable def step_impl_PlainShapes_0 (s : Int × Int × (List ByteArray) × (List (Int × (Int × (Int × (Int × (Int × Bool))))))) : Option ((Int × Int × (List ByteArray) × (List (Int × (Int × (Int × (Int × (Int × Bool))))))) ⊕ (((List (Int × (Int × (Int × (Int × (Int × Bool))))))))) :=
 bif (decide (s.2.1 < s.1)) then
  bif decide (0 ≤ s.2.1) && decide (s.2.1 < (s.2.2.1.length : Int)) then
   match F_impl_ParseShape ((s.2.2.1.getD (s.2.1).toNat ByteArray.empty)) with
   | none => none
   | some y6 =>
    bif decide ((s.2.2.2.length + [y6.1].length) * 48 ≤ 140737488355328) then
     let v7 := s.2.2.2 ++ [y6.1]
     let v8 := IntKind.i64.wrap (s.2.1 + 1)
     some (.inl ((s.1, (v8, s.2.2.1, v7))))
    else none
  else none
 else
  some (.inr (s.2.2.2))
def pat_impl_PlainShapes_0 : Pat := { tmps := .any :: .own 1280 :: an 4 (.own 384 :: .v (.int .i64) :: .v (.int .i64) :: an 14 []), blks := [(384, .row true .str), (1280, .row true (.st (.pair (.int .i64) (.pair (.int .i64) (.pair (.int .i64) (.pair (.int .i64) (.pair (.int .i64) .bool)))))))] }
def outs_impl_PlainShapes_0 : List (Exit × Pat) := [(.exit 0, { tmps := .any :: .own 1280 :: an 21 [], blks := [(1280, .row true (.st (.pair (.int .i64) (.pair (.int .i64) (.pair (.int .i64) (.pair (.int .i64) (.pair (.int .i64) .bool)))))))] })]
noncomputable def F_impl_PlainShapes (x : Unit) : Option ((List (Int × (Int × (Int × (Int × (Int × Bool))))))) :=
 match runL step_impl_PlainShapes_0 ((([(⟨#[48, 48, 48, 48, 48]⟩ : ByteArray), (⟨#[48, 48, 48, 48, 48, 115]⟩ : ByteArray), (⟨#[50, 50, 50, 50, 50]⟩ : ByteArray), (⟨#[49, 48, 48, 48, 48]⟩ : ByteArray), (⟨#[49, 48, 50, 50, 50]⟩ : ByteArray), (⟨#[48, 48, 50, 50, 50]⟩ : ByteArray)].length : Int), (0, [(⟨#[48, 48, 48, 48, 48]⟩ : ByteArray), (⟨#[48, 48, 48, 48, 48, 115]⟩ : ByteArray), (⟨#[50, 50, 50, 50, 50]⟩ : ByteArray), (⟨#[49, 48, 48, 48, 48]⟩ : ByteArray), (⟨#[49, 48, 50, 50, 50]⟩ : ByteArray), (⟨#[48, 48, 50, 50, 50]⟩ : ByteArray)], []))) with
 | none => none
 | some o9 =>
  some (o9)
noncomputable def c_impl_PlainShapes : Con := { ps := [], rs := [(.io true, (.slice (.st (.pair (.int .i64) (.pair (.int .i64) (.pair (.int .i64) (.pair (.int .i64) (.pair (.int .i64) .bool))))))))], F := F_impl_PlainShapes }
noncomputable def env_impl_PlainShapes : Env := { par := [], dp := false, settle := [], con := fun f => match f with | 106 => some c_impl_ParseShape | _ => none, clo := fun _ => none, T := tinf Tryz.prog }
noncomputable def loops_impl_PlainShapes : Nat → Option Loop := fun n => match n with | 3 => some { pat := pat_impl_PlainShapes_0, outs := outs_impl_PlainShapes_0, run := runL (step_impl_PlainShapes_0) } | _ => none
theorem con_impl_PlainShapes : ConOK Tryz.prog 138 c_impl_PlainShapes := con_of_ev' (body := Tryz.f138.body.getD .skip) (Λ := loops_impl_PlainShapes) mixed Tryz.func138 (by kernel_rfl) (by kernel_rfl) (envOK_of (E := env_impl_PlainShapes) (fun f c h => by
  simp only [env_impl_PlainShapes] at h
  split at h
  · cases h; exact con_impl_ParseShape
  · cases h) (fun f c h => by cases h) rfl) (by kernel_rfl) (by kernel_rfl) (fun n L h => by
  unfold loops_impl_PlainShapes at h
  split at h
  · cases h; exact fun s o ho => loop_ok (stepF := stepEv env_impl_PlainShapes loops_impl_PlainShapes pat_impl_PlainShapes_0 outs_impl_PlainShapes_0 Tryz.f138 3) (fun _ => by kernel_rfl) ho
  · cases h) (fun _ => by kernel_rfl)

noncomputable def step_slices_Index_impl_Shape_impl_Shape_0 (s : (List (Int × (Int × (Int × (Int × (Int × Bool)))))) × Int × Int × Int × Int × Int × Int × Int × Bool) : Option (((List (Int × (Int × (Int × (Int × (Int × Bool)))))) × Int × Int × Int × Int × Int × Int × Int × Bool) ⊕ ((Int) ⊕ (Unit))) :=
 bif (decide (s.2.2.1 < s.2.1)) then
  bif decide (0 ≤ s.2.2.1) && decide (s.2.2.1 < (s.1.length : Int)) then
   bif ((s.2.2.2.1 == (s.1.getD (s.2.2.1).toNat (0, (0, 0, (0, 0, false)))).1) && ((s.2.2.2.2.1 == (s.1.getD (s.2.2.1).toNat (0, (0, 0, (0, 0, false)))).2.1) && ((s.2.2.2.2.2.1 == (s.1.getD (s.2.2.1).toNat (0, (0, 0, (0, 0, false)))).2.2.1) && ((s.2.2.2.2.2.2.1 == (s.1.getD (s.2.2.1).toNat (0, (0, 0, (0, 0, false)))).2.2.2.1) && ((s.2.2.2.2.2.2.2.1 == (s.1.getD (s.2.2.1).toNat (0, (0, 0, (0, 0, false)))).2.2.2.2.1) && ((s.2.2.2.2.2.2.2.2 == (s.1.getD (s.2.2.1).toNat (0, (0, 0, (0, 0, false)))).2.2.2.2.2) && true)))))) then
    some (.inr (.inl (s.2.2.1)))
   else
    let v2 := IntKind.i64.wrap (s.2.2.1 + 1)
    some (.inl ((s.1, (s.2.1, v2, s.2.2.2))))
  else none
 else
  some (.inr (.inr (())))
def pat_slices_Index_impl_Shape_impl_Shape_0 : Pat := { tmps := .v (.slice (.st (.pair (.int .i64) (.pair (.int .i64) (.pair (.int .i64) (.pair (.int .i64) (.pair (.int .i64) .bool))))))) :: .any :: .any :: .ptr 192 0 :: .any :: .any :: .any :: .v (.int .i64) :: .v (.int .i64) :: an 10 [], blks := [(192, .box [.v (.int .i64), .v (.int .i64), .v (.int .i64), .v (.int .i64), .v (.int .i64), .v .bool])] }
def outs_slices_Index_impl_Shape_impl_Shape_0 : List (Exit × Pat) := [(.ret, { tmps := an 4 (.v (.int .i64) :: an 14 []), blks := [] }), (.exit 0, { tmps := an 19 [], blks := [] })]
noncomputable def F_slices_Index_impl_Shape_impl_Shape (x : (List (Int × (Int × (Int × (Int × (Int × Bool)))))) × (Int × (Int × (Int × (Int × (Int × Bool)))))) : Option (Int) :=
 match runL step_slices_Index_impl_Shape_impl_Shape_0 ((x.1, ((x.1.length : Int), 0, x.2))) with
 | none => none
 | some (.inl o3) =>
  some (o3)
 | some (.inr o3) =>
  some ((-1))
noncomputable def c_slices_Index_impl_Shape_impl_Shape : Con := { ps := [(.val, (.slice (.st (.pair (.int .i64) (.pair (.int .i64) (.pair (.int .i64) (.pair (.int .i64) (.pair (.int .i64) .bool)))))))), (.val, (.st (.pair (.int .i64) (.pair (.int .i64) (.pair (.int .i64) (.pair (.int .i64) (.pair (.int .i64) .bool)))))))], rs := [(.val, (.int .i64))], F := F_slices_Index_impl_Shape_impl_Shape }
noncomputable def env_slices_Index_impl_Shape_impl_Shape : Env := { par := [], dp := false, settle := [], con := fun _ => none, clo := fun _ => none, T := tinf Tryz.prog }
noncomputable def loops_slices_Index_impl_Shape_impl_Shape : Nat → Option Loop := fun n => match n with | 2 => some { pat := pat_slices_Index_impl_Shape_impl_Shape_0, outs := outs_slices_Index_impl_Shape_impl_Shape_0, run := runL (step_slices_Index_impl_Shape_impl_Shape_0) } | _ => none
theorem con_slices_Index_impl_Shape_impl_Shape : ConOK Tryz.prog 196 c_slices_Index_impl_Shape_impl_Shape := con_of_ev' (body := Tryz.f196.body.getD .skip) (Λ := loops_slices_Index_impl_Shape_impl_Shape) mixed Tryz.func196 (by kernel_rfl) (by kernel_rfl) (envOK_of (E := env_slices_Index_impl_Shape_impl_Shape) (fun f c h => by cases h) (fun f c h => by cases h) rfl) (by kernel_rfl) (by kernel_rfl) (fun n L h => by
  unfold loops_slices_Index_impl_Shape_impl_Shape at h
  split at h
  · cases h; exact fun s o ho => loop_ok (stepF := stepEv env_slices_Index_impl_Shape_impl_Shape loops_slices_Index_impl_Shape_impl_Shape pat_slices_Index_impl_Shape_impl_Shape_0 outs_slices_Index_impl_Shape_impl_Shape_0 Tryz.f196 2) (fun _ => by kernel_rfl) ho
  · cases h) (fun _ => by kernel_rfl)

noncomputable def F_slices_Contains_impl_Shape_impl_Shape (x : (List (Int × (Int × (Int × (Int × (Int × Bool)))))) × (Int × (Int × (Int × (Int × (Int × Bool)))))) : Option (Bool) :=
 match F_slices_Index_impl_Shape_impl_Shape (x) with
 | none => none
 | some y1 =>
  some ((decide (y1 ≥ 0)))
noncomputable def c_slices_Contains_impl_Shape_impl_Shape : Con := { ps := [(.val, (.slice (.st (.pair (.int .i64) (.pair (.int .i64) (.pair (.int .i64) (.pair (.int .i64) (.pair (.int .i64) .bool)))))))), (.val, (.st (.pair (.int .i64) (.pair (.int .i64) (.pair (.int .i64) (.pair (.int .i64) (.pair (.int .i64) .bool)))))))], rs := [(.val, .bool)], F := F_slices_Contains_impl_Shape_impl_Shape }
noncomputable def env_slices_Contains_impl_Shape_impl_Shape : Env := { par := [], dp := false, settle := [], con := fun f => match f with | 196 => some c_slices_Index_impl_Shape_impl_Shape | _ => none, clo := fun _ => none, T := tinf Tryz.prog }
noncomputable def loops_slices_Contains_impl_Shape_impl_Shape : Nat → Option Loop := fun n => none
theorem con_slices_Contains_impl_Shape_impl_Shape : ConOK Tryz.prog 137 c_slices_Contains_impl_Shape_impl_Shape := con_of_ev' (body := Tryz.f137.body.getD .skip) (Λ := loops_slices_Contains_impl_Shape_impl_Shape) mixed Tryz.func137 (by kernel_rfl) (by kernel_rfl) (envOK_of (E := env_slices_Contains_impl_Shape_impl_Shape) (fun f c h => by
  simp only [env_slices_Contains_impl_Shape_impl_Shape] at h
  split at h
  · cases h; exact con_slices_Index_impl_Shape_impl_Shape
  · cases h) (fun f c h => by cases h) rfl) (by kernel_rfl) (by kernel_rfl) (fun n L h => by cases h) (fun _ => by kernel_rfl)

noncomputable def F_impl_Orient_mirrored_1 (x : Int) : Option (Int) :=
 bif ((x == 2)) then
  let v1 := IntKind.i64.wrap ((BitVec.ofInt IntKind.i64.bits (x) ^^^ BitVec.ofInt IntKind.i64.bits (1)).toNat : Nat)
  some (v1)
 else
  bif ((x == 3)) then
   let v2 := IntKind.i64.wrap ((BitVec.ofInt IntKind.i64.bits (x) ^^^ BitVec.ofInt IntKind.i64.bits (1)).toNat : Nat)
   some (v2)
  else
   some (x)
noncomputable def c_impl_Orient_mirrored_1 : Con := { ps := [(.val, (.int .i64))], rs := [(.val, (.int .i64))], F := F_impl_Orient_mirrored_1 }
noncomputable def env_impl_Orient_mirrored_1 : Env := { par := [], dp := false, settle := [], con := fun _ => none, clo := fun _ => none, T := tinf Tryz.prog }
noncomputable def loops_impl_Orient_mirrored_1 : Nat → Option Loop := fun n => none
theorem con_impl_Orient_mirrored_1 : ConOK Tryz.prog 197 c_impl_Orient_mirrored_1 := con_of_ev' (body := Tryz.f197.body.getD .skip) (Λ := loops_impl_Orient_mirrored_1) mixed Tryz.func197 (by kernel_rfl) (by kernel_rfl) (envOK_of (E := env_impl_Orient_mirrored_1) (fun f c h => by cases h) (fun f c h => by cases h) rfl) (by kernel_rfl) (by kernel_rfl) (fun n L h => by cases h) (fun _ => by kernel_rfl)

noncomputable def F_impl_Orient_mirrored (x : (Int × Int)) : Option ((Int × Int)) :=
 match F_impl_Orient_mirrored_1 (x.1) with
 | none => none
 | some y1 =>
  match F_impl_Orient_mirrored_1 (x.2) with
  | none => none
  | some y2 =>
   some ((y1, y2))
noncomputable def c_impl_Orient_mirrored : Con := { ps := [(.val, (.st (.pair (.int .i64) (.int .i64))))], rs := [(.val, (.st (.pair (.int .i64) (.int .i64))))], F := F_impl_Orient_mirrored }
noncomputable def env_impl_Orient_mirrored : Env := { par := [], dp := false, settle := [], con := fun f => match f with | 197 => some c_impl_Orient_mirrored_1 | _ => none, clo := fun _ => none, T := tinf Tryz.prog }
noncomputable def loops_impl_Orient_mirrored : Nat → Option Loop := fun n => none
theorem con_impl_Orient_mirrored : ConOK Tryz.prog 139 c_impl_Orient_mirrored := con_of_ev' (body := Tryz.f139.body.getD .skip) (Λ := loops_impl_Orient_mirrored) mixed Tryz.func139 (by kernel_rfl) (by kernel_rfl) (envOK_of (E := env_impl_Orient_mirrored) (fun f c h => by
  simp only [env_impl_Orient_mirrored] at h
  split at h
  · cases h; exact con_impl_Orient_mirrored_1
  · cases h) (fun f c h => by cases h) rfl) (by kernel_rfl) (by kernel_rfl) (fun n L h => by cases h) (fun _ => by kernel_rfl)

theorem fr_of_belowR {w w' : World} (h : Go.RowKit.Below w.heap.size w w') : Fr NoB w w' := ⟨h.os, h.tape, h.output, h.size, fun b hb _ => h.block b hb, fun b _ hb => h.block b hb⟩
theorem Repeat_ex : ∃ f : ByteArray × Int → Option ByteArray, f = fun x => bif decide (0 ≤ x.2) && decide (x.2 ≤ 1024) && decide (x.1.size ≤ 1048576) then some ⟨(Lib.repeatL x.1.data.toList x.2.toNat).toArray⟩ else none := ⟨_, rfl⟩
noncomputable def F_strings_Repeat : ByteArray × Int → Option ByteArray := Classical.choose Repeat_ex
theorem F_strings_Repeat_is (x : ByteArray × Int) : F_strings_Repeat x = bif decide (0 ≤ x.2) && decide (x.2 ≤ 1024) && decide (x.1.size ≤ 1048576) then some ⟨(Lib.repeatL x.1.data.toList x.2.toNat).toArray⟩ else none := congrFun (Classical.choose_spec Repeat_ex) x
noncomputable def c_strings_Repeat : Con := { ps := [(.val, .str), (.val, .int .i64)], rs := [(.val, .str)], F := F_strings_Repeat }
theorem calls_F_strings_Repeat (w : World) (x : ByteArray × Int) (y : ByteArray) (hy : F_strings_Repeat x = some y) :
    Calls Tryz.prog 198 #[.string x.1, .int .i64 x.2] w fun e w' => e = .returned (.string y) ∧ Fr NoB w w' := by
  rw [F_strings_Repeat_is] at hy
  obtain ⟨hg, hy⟩ := bif_none hy
  obtain ⟨hg, h2⟩ := and_b hg
  obtain ⟨h0, h1⟩ := and_b hg
  have h0 := of_decide_eq_true h0
  have h1 := of_decide_eq_true h1
  have h2 := of_decide_eq_true h2
  obtain rfl := (Option.some.inj hy).symm
  obtain ⟨s, c⟩ := x
  obtain ⟨k, rfl⟩ : ∃ k : Nat, c = (k : Int) := ⟨c.toNat, (Int.toNat_of_nonneg h0).symm⟩
  have h1 : (k : Int) ≤ 1024 := h1
  have h2 : s.size ≤ 1048576 := h2
  have hm : s.size * k ≤ 140737488355328 := Nat.le_trans (Nat.mul_le_mul h2 (show k ≤ 1024 by omega)) (by decide)
  refine (Tryz.strings_Repeat s k w (by omega) hm).mono ?_
  rintro e' w' ⟨rfl, hb⟩
  exact ⟨rfl, fr_of_belowR hb⟩
theorem con_strings_Repeat : ConOK Tryz.prog 198 c_strings_Repeat := con_of_pure ⟨Tryz.f198, Tryz.func198, by kernel_rfl, by kernel_rfl⟩ rfl rfl fun w x y hy _ => calls_F_strings_Repeat w x y hy

noncomputable def F_impl_Move_all (x : (ByteArray × Int)) : Option (ByteArray) :=
 match F_strings_Repeat (x) with
 | none => none
 | some y1 =>
  some (y1)
noncomputable def c_impl_Move_all : Con := { ps := [(.val, (.st (.pair .str (.int .i64))))], rs := [(.val, .str)], F := F_impl_Move_all }
noncomputable def env_impl_Move_all : Env := { par := [], dp := false, settle := [], con := fun f => match f with | 198 => some c_strings_Repeat | _ => none, clo := fun _ => none, T := tinf Tryz.prog }
noncomputable def loops_impl_Move_all : Nat → Option Loop := fun n => none
theorem con_impl_Move_all : ConOK Tryz.prog 140 c_impl_Move_all := con_of_ev' (body := Tryz.f140.body.getD .skip) (Λ := loops_impl_Move_all) mixed Tryz.func140 (by kernel_rfl) (by kernel_rfl) (envOK_of (E := env_impl_Move_all) (fun f c h => by
  simp only [env_impl_Move_all] at h
  split at h
  · cases h; exact con_strings_Repeat
  · cases h) (fun f c h => by cases h) rfl) (by kernel_rfl) (by kernel_rfl) (fun n L h => by cases h) (fun _ => by kernel_rfl)

theorem fr_of_belowM {w w' : World} (h : Go.RowKit.Below w.heap.size w w') : Fr NoB w w' := ⟨h.os, h.tape, h.output, h.size, fun b hb _ => h.block b hb, fun b _ hb => h.block b hb⟩
theorem mirrored_ex : ∃ f : ByteArray × Int → Option (ByteArray × Int), f = fun x => bif decide (x.1.size ≤ 9223372036854775806) then some (rpStr x.1, x.2) else none := ⟨_, rfl⟩
noncomputable def F_impl_Move_mirrored : ByteArray × Int → Option (ByteArray × Int) := Classical.choose mirrored_ex
theorem F_impl_Move_mirrored_is (x : ByteArray × Int) : F_impl_Move_mirrored x = bif decide (x.1.size ≤ 9223372036854775806) then some (rpStr x.1, x.2) else none := congrFun (Classical.choose_spec mirrored_ex) x
noncomputable def c_impl_Move_mirrored : Con := { ps := [(.val, .st (.pair .str (.int .i64)))], rs := [(.val, .st (.pair .str (.int .i64)))], F := F_impl_Move_mirrored }
theorem calls_F_impl_Move_mirrored (w : World) (x y : ByteArray × Int) (hy : F_impl_Move_mirrored x = some y) :
    Calls Tryz.prog 141 #[.agg #[.string x.1, .int .i64 x.2]] w fun e w' => e = .returned (.agg #[.string y.1, .int .i64 y.2]) ∧ Fr NoB w w' := by
  rw [F_impl_Move_mirrored_is] at hy
  obtain ⟨hg, hy⟩ := bif_none hy
  have h0 := of_decide_eq_true hg
  obtain rfl := (Option.some.inj hy).symm
  refine (rp_mirrored x.1 x.2 w h0).mono ?_
  rintro e' w' ⟨rfl, hb⟩
  exact ⟨rfl, fr_of_belowM hb⟩
theorem con_impl_Move_mirrored : ConOK Tryz.prog 141 c_impl_Move_mirrored := con_of_pure ⟨Tryz.f141, Tryz.func141, by kernel_rfl, by kernel_rfl⟩ rfl rfl fun w x y hy _ => calls_F_impl_Move_mirrored w x y hy

noncomputable def F_impl_keepRules (x : DT13 × DT13) : Option (Bool) :=
 match F_impl_Hand_moves (x.2) with
 | none => none
 | some y1 =>
  bif (!y1) then
   bif ((x.2.1.1 == x.1.1.1) && ((x.2.1.2.1 == x.1.1.2.1) && ((x.2.1.2.2.1 == x.1.1.2.2.1) && ((x.2.1.2.2.2.1 == x.1.1.2.2.2.1) && ((x.2.1.2.2.2.2.1 == x.1.1.2.2.2.2.1) && ((x.2.1.2.2.2.2.2 == x.1.1.2.2.2.2.2) && true)))))) then
    some (true)
   else
    match F_impl_PlainShapes () with
    | none => none
    | some y2 =>
     match F_slices_Contains_impl_Shape_impl_Shape ((y2, x.2.1)) with
     | none => none
     | some y3 =>
      some (y3)
  else
   bif ((x.2.2.1.1 == x.1.2.1.1) && ((x.2.2.1.2 == x.1.2.1.2) && true)) then
    match F_impl_Move_all (x.2.2.2.2) with
    | none => none
    | some y4 =>
     match F_impl_Move_all (x.1.2.2.2) with
     | none => none
     | some y5 =>
      bif (y4.toList == y5.toList) then
       match F_impl_Hand_moves (x.1) with
       | none => none
       | some y6 =>
        bif y6 then
         bif ((x.1.1.1 == x.2.1.1) && ((x.1.1.2.1 == x.2.1.2.1) && ((x.1.1.2.2.1 == x.2.1.2.2.1) && ((x.1.1.2.2.2.1 == x.2.1.2.2.2.1) && ((x.1.1.2.2.2.2.1 == x.2.1.2.2.2.2.1) && ((x.1.1.2.2.2.2.2 == x.2.1.2.2.2.2.2) && true)))))) then
          some (true)
         else
          some (false)
        else
         some (false)
      else
       match F_impl_Move_all (x.2.2.2.2) with
       | none => none
       | some y7 =>
        match F_impl_Move_mirrored (x.1.2.2.2) with
        | none => none
        | some y8 =>
         match F_impl_Move_all (y8) with
         | none => none
         | some y9 =>
          match F_impl_Hand_moves (x.1) with
          | none => none
          | some y10 =>
           bif y10 then
            bif ((x.1.1.1 == x.2.1.1) && ((x.1.1.2.1 == x.2.1.2.1) && ((x.1.1.2.2.1 == x.2.1.2.2.1) && ((x.1.1.2.2.2.1 == x.2.1.2.2.2.1) && ((x.1.1.2.2.2.2.1 == x.2.1.2.2.2.2.1) && ((x.1.1.2.2.2.2.2 == x.2.1.2.2.2.2.2) && true)))))) then
             some ((y7.toList == y9.toList))
            else
             some (false)
           else
            some (false)
   else
    match F_impl_Orient_mirrored (x.1.2.1) with
    | none => none
    | some y11 =>
     match F_impl_Move_all (x.2.2.2.2) with
     | none => none
     | some y12 =>
      match F_impl_Move_all (x.1.2.2.2) with
      | none => none
      | some y13 =>
       bif (y12.toList == y13.toList) then
        match F_impl_Hand_moves (x.1) with
        | none => none
        | some y14 =>
         bif y14 then
          bif ((x.1.1.1 == x.2.1.1) && ((x.1.1.2.1 == x.2.1.2.1) && ((x.1.1.2.2.1 == x.2.1.2.2.1) && ((x.1.1.2.2.2.1 == x.2.1.2.2.2.1) && ((x.1.1.2.2.2.2.1 == x.2.1.2.2.2.2.1) && ((x.1.1.2.2.2.2.2 == x.2.1.2.2.2.2.2) && true)))))) then
           bif ((x.2.2.1.1 == y11.1) && ((x.2.2.1.2 == y11.2) && true)) then
            some (true)
           else
            some (false)
          else
           some (false)
         else
          some (false)
       else
        match F_impl_Move_all (x.2.2.2.2) with
        | none => none
        | some y15 =>
         match F_impl_Move_mirrored (x.1.2.2.2) with
         | none => none
         | some y16 =>
          match F_impl_Move_all (y16) with
          | none => none
          | some y17 =>
           match F_impl_Hand_moves (x.1) with
           | none => none
           | some y18 =>
            bif y18 then
             bif ((x.1.1.1 == x.2.1.1) && ((x.1.1.2.1 == x.2.1.2.1) && ((x.1.1.2.2.1 == x.2.1.2.2.1) && ((x.1.1.2.2.2.1 == x.2.1.2.2.2.1) && ((x.1.1.2.2.2.2.1 == x.2.1.2.2.2.2.1) && ((x.1.1.2.2.2.2.2 == x.2.1.2.2.2.2.2) && true)))))) then
              bif ((x.2.2.1.1 == y11.1) && ((x.2.2.1.2 == y11.2) && true)) then
               some ((y15.toList == y17.toList))
              else
               some (false)
             else
              some (false)
            else
             some (false)
noncomputable def c_impl_keepRules : Con := { ps := [(.val, TY13), (.val, TY13)], rs := [(.val, .bool)], F := F_impl_keepRules }
noncomputable def env_impl_keepRules : Env := { par := [], dp := false, settle := [], con := fun f => match f with | 90 => some c_impl_Hand_moves | 137 => some c_slices_Contains_impl_Shape_impl_Shape | 138 => some c_impl_PlainShapes | 139 => some c_impl_Orient_mirrored | 140 => some c_impl_Move_all | 141 => some c_impl_Move_mirrored | _ => none, clo := fun _ => none, T := tinf Tryz.prog }
noncomputable def loops_impl_keepRules : Nat → Option Loop := fun n => none
theorem con_impl_keepRules : ConOK Tryz.prog 88 c_impl_keepRules := con_of_ev' (body := Tryz.f88.body.getD .skip) (Λ := loops_impl_keepRules) mixed Tryz.func88 (by kernel_rfl) (by kernel_rfl) (envOK_of (E := env_impl_keepRules) (fun f c h => by
  simp only [env_impl_keepRules] at h
  split at h
  · cases h; exact con_impl_Hand_moves
  · cases h; exact con_slices_Contains_impl_Shape_impl_Shape
  · cases h; exact con_impl_PlainShapes
  · cases h; exact con_impl_Orient_mirrored
  · cases h; exact con_impl_Move_all
  · cases h; exact con_impl_Move_mirrored
  · cases h) (fun f c h => by cases h) rfl) (by kernel_rfl) (by kernel_rfl) (fun n L h => by cases h) (fun _ => by kernel_rfl)

noncomputable def F_impl_IsSign (x : DT27) : Option (Bool) :=
 match F_impl_IsHand (x.1) with
 | none => none
 | some y1 =>
  bif (!y1) then
   some (false)
  else
   bif (!x.2.1) then
    some ((((x.2.2.1.1 == 0) && ((x.2.2.1.2.1 == 0) && ((x.2.2.1.2.2.1 == 0) && ((x.2.2.1.2.2.2.1 == 0) && ((x.2.2.1.2.2.2.2.1 == 0) && ((x.2.2.1.2.2.2.2.2 == false) && true)))))) && (((x.2.2.2.1.1 == 0) && ((x.2.2.2.1.2 == 0) && true)) && (((x.2.2.2.2.1.1 == 0) && ((x.2.2.2.2.1.2.1 == 0) && ((x.2.2.2.2.1.2.2 == false) && true))) && (((x.2.2.2.2.2.1.toList == ByteArray.empty.toList) && ((x.2.2.2.2.2.2 == 0) && true)) && true)))))
   else
    match F_impl_IsHand (x.2.2) with
    | none => none
    | some y2 =>
     bif y2 then
      match F_impl_keepRules ((x.1, x.2.2)) with
      | none => none
      | some y3 =>
       some (y3)
     else
      some (false)
noncomputable def c_impl_IsSign : Con := { ps := [(.val, TY27)], rs := [(.val, .bool)], F := F_impl_IsSign }
noncomputable def env_impl_IsSign : Env := { par := [], dp := false, settle := [], con := fun f => match f with | 87 => some c_impl_IsHand | 88 => some c_impl_keepRules | _ => none, clo := fun _ => none, T := tinf Tryz.prog }
noncomputable def loops_impl_IsSign : Nat → Option Loop := fun n => none
theorem con_impl_IsSign : ConOK Tryz.prog 51 c_impl_IsSign := con_of_ev' (body := Tryz.f51.body.getD .skip) (Λ := loops_impl_IsSign) mixed Tryz.func51 (by kernel_rfl) (by kernel_rfl) (envOK_of (E := env_impl_IsSign) (fun f c h => by
  simp only [env_impl_IsSign] at h
  split at h
  · cases h; exact con_impl_IsHand
  · cases h; exact con_impl_keepRules
  · cases h) (fun f c h => by cases h) rfl) (by kernel_rfl) (by kernel_rfl) (fun n L h => by cases h) (fun _ => by kernel_rfl)

noncomputable def step_impl_moveOf_0 (s : ByteArray × Int × ByteArray × Int) : Option ((ByteArray × Int × ByteArray × Int) ⊕ ((Bool × ByteArray × Int) ⊕ (ByteArray × Int))) :=
 bif (decide (s.2.1 ≥ 1)) then
  bif !decide (s.2.1 = 0) then
   let v5 := IntKind.i64.wrap (((s.1.size : Int)).tdiv s.2.1)
   bif decide (0 ≤ (0 : Int)) && decide ((0 : Int) ≤ v5) && decide (v5 ≤ (s.1.size : Int)) then
    bif (decide (((s.1.extract ((0 : Int)).toNat (v5).toNat).size : Int) ≤ 6)) then
     match F_strings_Repeat (((s.1.extract ((0 : Int)).toNat (v5).toNat), s.2.1)) with
     | none => none
     | some y6 =>
      bif (y6.toList == s.1.toList) then
       some (.inr (.inl ((true, (s.1.extract ((0 : Int)).toNat (v5).toNat), s.2.1))))
      else
       let v7 := IntKind.i64.wrap (s.2.1 - 1)
       some (.inl ((s.1, v7, s.2.2)))
    else
     let v8 := IntKind.i64.wrap (s.2.1 - 1)
     some (.inl ((s.1, v8, s.2.2)))
   else none
  else none
 else
  some (.inr (.inr (s.2.2)))
def pat_impl_moveOf_0 : Pat := { tmps := .v .str :: .any :: .ptr 128 0 :: .any :: .v (.int .i64) :: an 28 [], blks := [(128, .box [.v .str, .v (.int .i64)])] }
def outs_impl_moveOf_0 : List (Exit × Pat) := [(.ret, { tmps := .any :: .any :: .ptr 128 0 :: .v .bool :: an 29 [], blks := [(128, .box [.v .str, .v (.int .i64)])] }), (.exit 0, { tmps := .any :: .any :: .ptr 128 0 :: an 30 [], blks := [(128, .box [.v .str, .v (.int .i64)])] })]
noncomputable def F_impl_moveOf (x : ByteArray) : Option ((ByteArray × Int) × Bool) :=
 bif (x.toList == (⟨#[]⟩ : ByteArray).toList) then
  some (((ByteArray.empty, 1), true))
 else
  match runL step_impl_moveOf_0 ((x, (3, ByteArray.empty, 0))) with
  | none => none
  | some (.inl o9) =>
   some ((o9.2, o9.1))
  | some (.inr o9) =>
   some (((ByteArray.empty, 0), false))
noncomputable def c_impl_moveOf : Con := { ps := [(.val, .str)], rs := [(.val, (.st (.pair .str (.int .i64)))), (.val, .bool)], F := F_impl_moveOf }
noncomputable def env_impl_moveOf : Env := { par := [], dp := false, settle := [], con := fun f => match f with | 198 => some c_strings_Repeat | _ => none, clo := fun _ => none, T := tinf Tryz.prog }
noncomputable def loops_impl_moveOf : Nat → Option Loop := fun n => match n with | 4 => some { pat := pat_impl_moveOf_0, outs := outs_impl_moveOf_0, run := runL (step_impl_moveOf_0) } | _ => none
theorem con_impl_moveOf : ConOK Tryz.prog 201 c_impl_moveOf := con_of_ev' (body := Tryz.f201.body.getD .skip) (Λ := loops_impl_moveOf) mixed Tryz.func201 (by kernel_rfl) (by kernel_rfl) (envOK_of (E := env_impl_moveOf) (fun f c h => by
  simp only [env_impl_moveOf] at h
  split at h
  · cases h; exact con_strings_Repeat
  · cases h) (fun f c h => by cases h) rfl) (by kernel_rfl) (by kernel_rfl) (fun n L h => by
  unfold loops_impl_moveOf at h
  split at h
  · cases h; exact fun s o ho => loop_ok (stepF := stepEv env_impl_moveOf loops_impl_moveOf pat_impl_moveOf_0 outs_impl_moveOf_0 Tryz.f201 4) (fun _ => by kernel_rfl) ho
  · cases h) (fun _ => by kernel_rfl)

noncomputable def F_impl_Move_normal (x : (ByteArray × Int)) : Option ((ByteArray × Int)) :=
 match F_impl_Move_all (x) with
 | none => none
 | some y1 =>
  match F_impl_moveOf (y1) with
  | none => none
  | some y2 =>
   some (y2.1)
noncomputable def c_impl_Move_normal : Con := { ps := [(.val, (.st (.pair .str (.int .i64))))], rs := [(.val, (.st (.pair .str (.int .i64))))], F := F_impl_Move_normal }
noncomputable def env_impl_Move_normal : Env := { par := [], dp := false, settle := [], con := fun f => match f with | 140 => some c_impl_Move_all | 201 => some c_impl_moveOf | _ => none, clo := fun _ => none, T := tinf Tryz.prog }
noncomputable def loops_impl_Move_normal : Nat → Option Loop := fun n => none
theorem con_impl_Move_normal : ConOK Tryz.prog 142 c_impl_Move_normal := con_of_ev' (body := Tryz.f142.body.getD .skip) (Λ := loops_impl_Move_normal) mixed Tryz.func142 (by kernel_rfl) (by kernel_rfl) (envOK_of (E := env_impl_Move_normal) (fun f c h => by
  simp only [env_impl_Move_normal] at h
  split at h
  · cases h; exact con_impl_Move_all
  · cases h; exact con_impl_moveOf
  · cases h) (fun f c h => by cases h) rfl) (by kernel_rfl) (by kernel_rfl) (fun n L h => by cases h) (fun _ => by kernel_rfl)

noncomputable def F_impl_Hand_normal (x : DT13) : Option (DT13) :=
 match F_impl_Move_normal (x.2.2.2) with
 | none => none
 | some y1 =>
  some ((x.1, (x.2.1, x.2.2.1, y1)))
noncomputable def c_impl_Hand_normal : Con := { ps := [(.val, TY13)], rs := [(.val, TY13)], F := F_impl_Hand_normal }
noncomputable def env_impl_Hand_normal : Env := { par := [], dp := false, settle := [], con := fun f => match f with | 142 => some c_impl_Move_normal | _ => none, clo := fun _ => none, T := tinf Tryz.prog }
noncomputable def loops_impl_Hand_normal : Nat → Option Loop := fun n => none
theorem con_impl_Hand_normal : ConOK Tryz.prog 89 c_impl_Hand_normal := con_of_ev' (body := Tryz.f89.body.getD .skip) (Λ := loops_impl_Hand_normal) mixed Tryz.func89 (by kernel_rfl) (by kernel_rfl) (envOK_of (E := env_impl_Hand_normal) (fun f c h => by
  simp only [env_impl_Hand_normal] at h
  split at h
  · cases h; exact con_impl_Move_normal
  · cases h) (fun f c h => by cases h) rfl) (by kernel_rfl) (by kernel_rfl) (fun n L h => by cases h) (fun _ => by kernel_rfl)

noncomputable def F_impl_Hand_notations (x : DT13) : Option ((List DT13)) :=
 match F_impl_Hand_normal (x) with
 | none => none
 | some y1 =>
  some ([x, y1])
noncomputable def c_impl_Hand_notations : Con := { ps := [(.val, TY13)], rs := [(.io true, (.slice TY13))], F := F_impl_Hand_notations }
noncomputable def env_impl_Hand_notations : Env := { par := [], dp := false, settle := [], con := fun f => match f with | 89 => some c_impl_Hand_normal | _ => none, clo := fun _ => none, T := tinf Tryz.prog }
noncomputable def loops_impl_Hand_notations : Nat → Option Loop := fun n => none
theorem con_impl_Hand_notations : ConOK Tryz.prog 52 c_impl_Hand_notations := con_of_ev' (body := Tryz.f52.body.getD .skip) (Λ := loops_impl_Hand_notations) mixed Tryz.func52 (by kernel_rfl) (by kernel_rfl) (envOK_of (E := env_impl_Hand_notations) (fun f c h => by
  simp only [env_impl_Hand_notations] at h
  split at h
  · cases h; exact con_impl_Hand_normal
  · cases h) (fun f c h => by cases h) rfl) (by kernel_rfl) (by kernel_rfl) (fun n L h => by cases h) (fun _ => by kernel_rfl)

noncomputable def F_impl_Sign_kind (x : DT27) : Option (Int) :=
 bif (!x.2.1) then
  some (0)
 else
  match F_impl_Hand_moves (x.2.2) with
  | none => none
  | some y1 =>
   bif y1 then
    some (1)
   else
    bif ((x.2.2.1.1 == x.1.1.1) && ((x.2.2.1.2.1 == x.1.1.2.1) && ((x.2.2.1.2.2.1 == x.1.1.2.2.1) && ((x.2.2.1.2.2.2.1 == x.1.1.2.2.2.1) && ((x.2.2.1.2.2.2.2.1 == x.1.1.2.2.2.2.1) && ((x.2.2.1.2.2.2.2.2 == x.1.1.2.2.2.2.2) && true)))))) then
     some (2)
    else
     some (3)
noncomputable def c_impl_Sign_kind : Con := { ps := [(.val, TY27)], rs := [(.val, (.int .i64))], F := F_impl_Sign_kind }
noncomputable def env_impl_Sign_kind : Env := { par := [], dp := false, settle := [], con := fun f => match f with | 90 => some c_impl_Hand_moves | _ => none, clo := fun _ => none, T := tinf Tryz.prog }
noncomputable def loops_impl_Sign_kind : Nat → Option Loop := fun n => none
theorem con_impl_Sign_kind : ConOK Tryz.prog 53 c_impl_Sign_kind := con_of_ev' (body := Tryz.f53.body.getD .skip) (Λ := loops_impl_Sign_kind) mixed Tryz.func53 (by kernel_rfl) (by kernel_rfl) (envOK_of (E := env_impl_Sign_kind) (fun f c h => by
  simp only [env_impl_Sign_kind] at h
  split at h
  · cases h; exact con_impl_Hand_moves
  · cases h) (fun f c h => by cases h) rfl) (by kernel_rfl) (by kernel_rfl) (fun n L h => by cases h) (fun _ => by kernel_rfl)

noncomputable def F_bits_Len (x : Int) : Option Int := bif decide (0 ≤ x) && decide (x ≤ 18446744073709551615) then some ((Lib.bitLen x.toNat : Nat) : Int) else none
noncomputable def c_bits_Len : Con := { ps := [(.val, .int .u64)], rs := [(.val, .int .i64)], F := F_bits_Len }
theorem calls_F_bits_Len (w : World) (x : Int) (y : Int) (hy : F_bits_Len x = some y) : Calls Tryz.prog 92 #[.int .u64 x] w fun e w' => e = .returned (.int .i64 y) ∧ Fr NoB w w' := by
  unfold F_bits_Len at hy
  obtain ⟨hg, hy⟩ := bif_none hy
  obtain ⟨h0, h1⟩ := and_b hg
  have h0 := of_decide_eq_true h0
  have h1 := of_decide_eq_true h1
  have e : y = ((Lib.bitLen x.toNat : Nat) : Int) := (Option.some.inj hy).symm
  subst e
  refine (Tryz.bits_Len x w h0 h1).mono ?_
  rintro e w' ⟨rfl, rfl⟩
  exact ⟨rfl, Fr.refl _ _⟩
theorem con_bits_Len : ConOK Tryz.prog 92 c_bits_Len := con_of_pure ⟨Tryz.f92, Tryz.func92, by kernel_rfl, by kernel_rfl⟩ rfl rfl fun w x y hy _ => calls_F_bits_Len w x y hy

noncomputable def step_slices_insertionSortCmpFunc_impl_Sign_0 (s : Int × Int × ((DT27 × DT27) → Option Int) × Int × Int × (List DT27)) : Option ((Int × Int × ((DT27 × DT27) → Option Int) × Int × Int × (List DT27)) ⊕ ((Int × Int × ((DT27 × DT27) → Option Int) × Int × (List DT27)))) :=
 bif (decide (s.2.2.2.2.1 > s.1)) then
  bif decide (0 ≤ s.2.2.2.2.1) && decide (s.2.2.2.2.1 < (s.2.2.2.2.2.length : Int)) then
   let v31 := IntKind.i64.wrap (s.2.2.2.2.1 - 1)
   bif decide (0 ≤ v31) && decide (v31 < (s.2.2.2.2.2.length : Int)) then
    match s.2.2.1 (((s.2.2.2.2.2.getD (s.2.2.2.2.1).toNat dz27), (s.2.2.2.2.2.getD (v31).toNat dz27))) with
    | none => none
    | some y32 =>
     bif (decide (y32 < 0)) then
      let v33 := IntKind.i64.wrap (s.2.2.2.2.1 - 1)
      let v34 := IntKind.i64.wrap (s.2.2.2.2.1 - 1)
      bif decide (0 ≤ v34) && decide (v34 < (s.2.2.2.2.2.length : Int)) then
       bif decide (0 ≤ s.2.2.2.2.1) && decide (s.2.2.2.2.1 < (s.2.2.2.2.2.length : Int)) then
        bif decide (0 ≤ s.2.2.2.2.1) && decide (s.2.2.2.2.1 < (s.2.2.2.2.2.length : Int)) then
         let v35 := s.2.2.2.2.2.getD (s.2.2.2.2.1).toNat dz27
         let v36 := s.2.2.2.2.2.set (s.2.2.2.2.1).toNat ((s.2.2.2.2.2.getD (v34).toNat dz27))
         bif decide (0 ≤ v33) && decide (v33 < (v36.length : Int)) then
          let v37 := v36.getD (v33).toNat dz27
          let v38 := v36.set (v33).toNat ((s.2.2.2.2.2.getD (s.2.2.2.2.1).toNat dz27))
          let v39 := IntKind.i64.wrap (s.2.2.2.2.1 - 1)
          some (.inl ((s.1, (s.2.1, s.2.2.1, (s.2.2.2.1, v39, v38)))))
         else none
        else none
       else none
      else none
     else
      some (.inr ((s.1, s.2.1, (s.2.2.1, s.2.2.2.1, s.2.2.2.2.2))))
   else none
  else none
 else
  some (.inr ((s.1, s.2.1, (s.2.2.1, s.2.2.2.1, s.2.2.2.2.2))))
def pat_slices_insertionSortCmpFunc_impl_Sign_0 : Pat := { tmps := .own 63 :: .v (.int .i64) :: .v (.int .i64) :: .v (.fn (.pair TY27 TY27) (.int .i64)) :: an 4 (.v (.int .i64) :: .v (.int .i64) :: an 43 []), blks := [(63, .row true TY27)] }
def outs_slices_insertionSortCmpFunc_impl_Sign_0 : List (Exit × Pat) := [(.exit 2, { tmps := .own 63 :: .v (.int .i64) :: .v (.int .i64) :: .v (.fn (.pair TY27 TY27) (.int .i64)) :: an 4 (.v (.int .i64) :: an 44 []), blks := [(63, .row true TY27)] })]
noncomputable def step_slices_insertionSortCmpFunc_impl_Sign_1 (s : Int × Int × ((DT27 × DT27) → Option Int) × Int × (List DT27)) : Option ((Int × Int × ((DT27 × DT27) → Option Int) × Int × (List DT27)) ⊕ (((List DT27)))) :=
 bif (decide (s.2.2.2.1 < s.2.1)) then
  match runL step_slices_insertionSortCmpFunc_impl_Sign_0 ((s.1, s.2.1, (s.2.2.1, s.2.2.2.1, s.2.2.2))) with
  | none => none
  | some o40 =>
   let v41 := IntKind.i64.wrap (o40.2.2.2.1 + 1)
   some (.inl ((o40.1, o40.2.1, (o40.2.2.1, v41, o40.2.2.2.2))))
 else
  some (.inr (s.2.2.2.2))
def pat_slices_insertionSortCmpFunc_impl_Sign_1 : Pat := { tmps := .own 63 :: .v (.int .i64) :: .v (.int .i64) :: .v (.fn (.pair TY27 TY27) (.int .i64)) :: an 4 (.v (.int .i64) :: an 44 []), blks := [(63, .row true TY27)] }
def outs_slices_insertionSortCmpFunc_impl_Sign_1 : List (Exit × Pat) := [(.exit 0, { tmps := an 53 [], blks := [(63, .row true TY27)] })]
noncomputable def F_slices_insertionSortCmpFunc_impl_Sign (x : (List DT27) × Int × Int × ((DT27 × DT27) → Option Int)) : Option ((List DT27)) :=
 let v1 := IntKind.i64.wrap (x.2.1 + 1)
 match runL step_slices_insertionSortCmpFunc_impl_Sign_1 ((x.2.1, x.2.2.1, (x.2.2.2, v1, x.1))) with
 | none => none
 | some o42 =>
  some (o42)
noncomputable def c_slices_insertionSortCmpFunc_impl_Sign : Con := { ps := [(.io true, (.slice TY27)), (.val, (.int .i64)), (.val, (.int .i64)), (.val, (.fn (.pair TY27 TY27) (.int .i64)))], rs := [], F := F_slices_insertionSortCmpFunc_impl_Sign }
noncomputable def env_slices_insertionSortCmpFunc_impl_Sign : Env := { par := [63], dp := false, settle := [], con := fun _ => none, clo := fun _ => none, T := tinf Tryz.prog }
noncomputable def loops_slices_insertionSortCmpFunc_impl_Sign : Nat → Option Loop := fun n => match n with | 4 => some { pat := pat_slices_insertionSortCmpFunc_impl_Sign_0, outs := outs_slices_insertionSortCmpFunc_impl_Sign_0, run := runL (step_slices_insertionSortCmpFunc_impl_Sign_0) } | 1 => some { pat := pat_slices_insertionSortCmpFunc_impl_Sign_1, outs := outs_slices_insertionSortCmpFunc_impl_Sign_1, run := runL (step_slices_insertionSortCmpFunc_impl_Sign_1) } | _ => none
theorem con_slices_insertionSortCmpFunc_impl_Sign : ConOK Tryz.prog 143 c_slices_insertionSortCmpFunc_impl_Sign := con_of_ev' (body := Tryz.f143.body.getD .skip) (Λ := loops_slices_insertionSortCmpFunc_impl_Sign) mixed Tryz.func143 (by kernel_rfl) (by kernel_rfl) (envOK_of (E := env_slices_insertionSortCmpFunc_impl_Sign) (fun f c h => by cases h) (fun f c h => by cases h) rfl) (by kernel_rfl) (by kernel_rfl) (fun n L h => by
  unfold loops_slices_insertionSortCmpFunc_impl_Sign at h
  split at h
  · cases h; exact fun s o ho => loop_ok (stepF := stepEv env_slices_insertionSortCmpFunc_impl_Sign loops_slices_insertionSortCmpFunc_impl_Sign pat_slices_insertionSortCmpFunc_impl_Sign_0 outs_slices_insertionSortCmpFunc_impl_Sign_0 Tryz.f143 4) (fun _ => by kernel_rfl) ho
  · cases h; exact fun s o ho => loop_ok (stepF := stepEv env_slices_insertionSortCmpFunc_impl_Sign loops_slices_insertionSortCmpFunc_impl_Sign pat_slices_insertionSortCmpFunc_impl_Sign_1 outs_slices_insertionSortCmpFunc_impl_Sign_1 Tryz.f143 1) (fun _ => by kernel_rfl) ho
  · cases h) (fun _ => by kernel_rfl)

noncomputable def step_slices_pdqsortCmpFunc_impl_Sign_0 (s : Int × Int × Int × ((DT27 × DT27) → Option Int) × Bool × Bool × (List DT27)) : Option ((Int × Int × Int × ((DT27 × DT27) → Option Int) × Bool × Bool × (List DT27)) ⊕ (((List DT27)))) :=
 let v3 := IntKind.i64.wrap (s.2.1 - s.1)
 bif (decide (v3 ≤ 12)) then
  match F_slices_insertionSortCmpFunc_impl_Sign ((s.2.2.2.2.2.2, (s.1, s.2.1, s.2.2.2.1))) with
  | none => none
  | some y4 =>
   some (.inr (y4))
 else
  bif ((s.2.2.1 == 0)) then
   none
  else
   bif (!s.2.2.2.2.1) then
    none
   else
    none
def pat_slices_pdqsortCmpFunc_impl_Sign_0 : Pat := { tmps := .own 63 :: .v (.int .i64) :: .v (.int .i64) :: .v (.int .i64) :: .v (.fn (.pair TY27 TY27) (.int .i64)) :: an 5 (.v .bool :: .v .bool :: an 136 []), blks := [(63, .row true TY27)] }
def outs_slices_pdqsortCmpFunc_impl_Sign_0 : List (Exit × Pat) := [(.ret, { tmps := an 148 [], blks := [(63, .row true TY27)] })]
noncomputable def F_slices_pdqsortCmpFunc_impl_Sign (x : (List DT27) × Int × Int × Int × ((DT27 × DT27) → Option Int)) : Option ((List DT27)) :=
 match runL step_slices_pdqsortCmpFunc_impl_Sign_0 ((x.2.1, x.2.2.1, (x.2.2.2.1, x.2.2.2.2, (true, true, x.1)))) with
 | none => none
 | some o5 =>
  some (o5)
noncomputable def c_slices_pdqsortCmpFunc_impl_Sign : Con := { ps := [(.io true, (.slice TY27)), (.val, (.int .i64)), (.val, (.int .i64)), (.val, (.int .i64)), (.val, (.fn (.pair TY27 TY27) (.int .i64)))], rs := [], F := F_slices_pdqsortCmpFunc_impl_Sign }
noncomputable def env_slices_pdqsortCmpFunc_impl_Sign : Env := { par := [63], dp := false, settle := [], con := fun f => match f with | 143 => some c_slices_insertionSortCmpFunc_impl_Sign | _ => none, clo := fun _ => none, T := tinf Tryz.prog }
noncomputable def loops_slices_pdqsortCmpFunc_impl_Sign : Nat → Option Loop := fun n => match n with | 2 => some { pat := pat_slices_pdqsortCmpFunc_impl_Sign_0, outs := outs_slices_pdqsortCmpFunc_impl_Sign_0, run := runL (step_slices_pdqsortCmpFunc_impl_Sign_0) } | _ => none
theorem con_slices_pdqsortCmpFunc_impl_Sign : ConOK Tryz.prog 91 c_slices_pdqsortCmpFunc_impl_Sign := con_of_ev' (body := Tryz.f91.body.getD .skip) (Λ := loops_slices_pdqsortCmpFunc_impl_Sign) mixed Tryz.func91 (by kernel_rfl) (by kernel_rfl) (envOK_of (E := env_slices_pdqsortCmpFunc_impl_Sign) (fun f c h => by
  simp only [env_slices_pdqsortCmpFunc_impl_Sign] at h
  split at h
  · cases h; exact con_slices_insertionSortCmpFunc_impl_Sign
  · cases h) (fun f c h => by cases h) rfl) (by kernel_rfl) (by kernel_rfl) (fun n L h => by
  unfold loops_slices_pdqsortCmpFunc_impl_Sign at h
  split at h
  · cases h; exact fun s o ho => loop_ok (stepF := stepEv env_slices_pdqsortCmpFunc_impl_Sign loops_slices_pdqsortCmpFunc_impl_Sign pat_slices_pdqsortCmpFunc_impl_Sign_0 outs_slices_pdqsortCmpFunc_impl_Sign_0 Tryz.f91 2) (fun _ => by kernel_rfl) ho
  · cases h) (fun _ => by kernel_rfl)

noncomputable def F_slices_SortFunc_impl_Sign_impl_Sign (x : (List DT27) × ((DT27 × DT27) → Option Int)) : Option ((List DT27)) :=
 let v1 := IntKind.u64.wrap (x.1.length : Int)
 match F_bits_Len (v1) with
 | none => none
 | some y2 =>
  match F_slices_pdqsortCmpFunc_impl_Sign ((x.1, 0, ((x.1.length : Int), y2, x.2))) with
  | none => none
  | some y3 =>
   some (y3)
noncomputable def c_slices_SortFunc_impl_Sign_impl_Sign : Con := { ps := [(.io true, (.slice TY27)), (.val, (.fn (.pair TY27 TY27) (.int .i64)))], rs := [], F := F_slices_SortFunc_impl_Sign_impl_Sign }
noncomputable def env_slices_SortFunc_impl_Sign_impl_Sign : Env := { par := [63], dp := false, settle := [], con := fun f => match f with | 91 => some c_slices_pdqsortCmpFunc_impl_Sign | 92 => some c_bits_Len | _ => none, clo := fun _ => none, T := tinf Tryz.prog }
noncomputable def loops_slices_SortFunc_impl_Sign_impl_Sign : Nat → Option Loop := fun n => none
theorem con_slices_SortFunc_impl_Sign_impl_Sign : ConOK Tryz.prog 54 c_slices_SortFunc_impl_Sign_impl_Sign := con_of_ev' (body := Tryz.f54.body.getD .skip) (Λ := loops_slices_SortFunc_impl_Sign_impl_Sign) mixed Tryz.func54 (by kernel_rfl) (by kernel_rfl) (envOK_of (E := env_slices_SortFunc_impl_Sign_impl_Sign) (fun f c h => by
  simp only [env_slices_SortFunc_impl_Sign_impl_Sign] at h
  split at h
  · cases h; exact con_slices_pdqsortCmpFunc_impl_Sign
  · cases h; exact con_bits_Len
  · cases h) (fun f c h => by cases h) rfl) (by kernel_rfl) (by kernel_rfl) (fun n L h => by cases h) (fun _ => by kernel_rfl)

noncomputable def F_impl_Orient_text (x : (Int × Int)) : Option (ByteArray) :=
 let v1 := IntKind.i64.wrap (x.1 + 1)
 bif decide (0 ≤ x.1) && decide (x.1 ≤ v1) && decide (v1 ≤ ((⟨#[117, 100, 108, 114, 102, 98]⟩ : ByteArray).size : Int)) then
  let v2 := IntKind.i64.wrap (x.2 + 1)
  bif decide (0 ≤ x.2) && decide (x.2 ≤ v2) && decide (v2 ≤ ((⟨#[117, 100, 108, 114, 102, 98]⟩ : ByteArray).size : Int)) then
   bif decide (((⟨#[117, 100, 108, 114, 102, 98]⟩ : ByteArray).extract (x.1).toNat (v1).toNat).size + ((⟨#[117, 100, 108, 114, 102, 98]⟩ : ByteArray).extract (x.2).toNat (v2).toNat).size ≤ 9223372036854775807) then
    some ((((⟨#[117, 100, 108, 114, 102, 98]⟩ : ByteArray).extract (x.1).toNat (v1).toNat) ++ ((⟨#[117, 100, 108, 114, 102, 98]⟩ : ByteArray).extract (x.2).toNat (v2).toNat)))
   else none
  else none
 else none
noncomputable def c_impl_Orient_text : Con := { ps := [(.val, (.st (.pair (.int .i64) (.int .i64))))], rs := [(.val, .str)], F := F_impl_Orient_text }
noncomputable def env_impl_Orient_text : Env := { par := [], dp := false, settle := [], con := fun _ => none, clo := fun _ => none, T := tinf Tryz.prog }
noncomputable def loops_impl_Orient_text : Nat → Option Loop := fun n => none
theorem con_impl_Orient_text : ConOK Tryz.prog 155 c_impl_Orient_text := con_of_ev' (body := Tryz.f155.body.getD .skip) (Λ := loops_impl_Orient_text) mixed Tryz.func155 (by kernel_rfl) (by kernel_rfl) (envOK_of (E := env_impl_Orient_text) (fun f c h => by cases h) (fun f c h => by cases h) rfl) (by kernel_rfl) (by kernel_rfl) (fun n L h => by cases h) (fun _ => by kernel_rfl)

noncomputable def F_impl_Place_text (x : (Int × (Int × Bool))) : Option (ByteArray) :=
 bif (x.1 == 0) then
  let v1 := IntKind.i64.wrap (x.2.1 + 1)
  bif decide (0 ≤ v1) && decide (v1 < (3 : Int)) then
   bif decide ((⟨#[115, 112, 97, 99, 101]⟩ : ByteArray).size + ([(⟨#[60]⟩ : ByteArray), (⟨#[]⟩ : ByteArray), (⟨#[62]⟩ : ByteArray)].getD (v1).toNat ByteArray.empty).size ≤ 9223372036854775807) then
    bif x.2.2 then
     bif decide (((⟨#[115, 112, 97, 99, 101]⟩ : ByteArray) ++ ([(⟨#[60]⟩ : ByteArray), (⟨#[]⟩ : ByteArray), (⟨#[62]⟩ : ByteArray)].getD (v1).toNat ByteArray.empty)).size + (⟨#[42]⟩ : ByteArray).size ≤ 9223372036854775807) then
      some ((((⟨#[115, 112, 97, 99, 101]⟩ : ByteArray) ++ ([(⟨#[60]⟩ : ByteArray), (⟨#[]⟩ : ByteArray), (⟨#[62]⟩ : ByteArray)].getD (v1).toNat ByteArray.empty)) ++ (⟨#[42]⟩ : ByteArray)))
     else none
    else
     some (((⟨#[115, 112, 97, 99, 101]⟩ : ByteArray) ++ ([(⟨#[60]⟩ : ByteArray), (⟨#[]⟩ : ByteArray), (⟨#[62]⟩ : ByteArray)].getD (v1).toNat ByteArray.empty)))
   else none
  else none
 else
  bif (x.1 == 1) then
   let v2 := IntKind.i64.wrap (x.2.1 + 1)
   bif decide (0 ≤ v2) && decide (v2 < (3 : Int)) then
    bif decide ((⟨#[104, 101, 97, 100]⟩ : ByteArray).size + ([(⟨#[60]⟩ : ByteArray), (⟨#[]⟩ : ByteArray), (⟨#[62]⟩ : ByteArray)].getD (v2).toNat ByteArray.empty).size ≤ 9223372036854775807) then
     bif x.2.2 then
      bif decide (((⟨#[104, 101, 97, 100]⟩ : ByteArray) ++ ([(⟨#[60]⟩ : ByteArray), (⟨#[]⟩ : ByteArray), (⟨#[62]⟩ : ByteArray)].getD (v2).toNat ByteArray.empty)).size + (⟨#[42]⟩ : ByteArray).size ≤ 9223372036854775807) then
       some ((((⟨#[104, 101, 97, 100]⟩ : ByteArray) ++ ([(⟨#[60]⟩ : ByteArray), (⟨#[]⟩ : ByteArray), (⟨#[62]⟩ : ByteArray)].getD (v2).toNat ByteArray.empty)) ++ (⟨#[42]⟩ : ByteArray)))
      else none
     else
      some (((⟨#[104, 101, 97, 100]⟩ : ByteArray) ++ ([(⟨#[60]⟩ : ByteArray), (⟨#[]⟩ : ByteArray), (⟨#[62]⟩ : ByteArray)].getD (v2).toNat ByteArray.empty)))
    else none
   else none
  else
   bif (x.1 == 2) then
    let v3 := IntKind.i64.wrap (x.2.1 + 1)
    bif decide (0 ≤ v3) && decide (v3 < (3 : Int)) then
     bif decide ((⟨#[101, 121, 101]⟩ : ByteArray).size + ([(⟨#[60]⟩ : ByteArray), (⟨#[]⟩ : ByteArray), (⟨#[62]⟩ : ByteArray)].getD (v3).toNat ByteArray.empty).size ≤ 9223372036854775807) then
      bif x.2.2 then
       bif decide (((⟨#[101, 121, 101]⟩ : ByteArray) ++ ([(⟨#[60]⟩ : ByteArray), (⟨#[]⟩ : ByteArray), (⟨#[62]⟩ : ByteArray)].getD (v3).toNat ByteArray.empty)).size + (⟨#[42]⟩ : ByteArray).size ≤ 9223372036854775807) then
        some ((((⟨#[101, 121, 101]⟩ : ByteArray) ++ ([(⟨#[60]⟩ : ByteArray), (⟨#[]⟩ : ByteArray), (⟨#[62]⟩ : ByteArray)].getD (v3).toNat ByteArray.empty)) ++ (⟨#[42]⟩ : ByteArray)))
       else none
      else
       some (((⟨#[101, 121, 101]⟩ : ByteArray) ++ ([(⟨#[60]⟩ : ByteArray), (⟨#[]⟩ : ByteArray), (⟨#[62]⟩ : ByteArray)].getD (v3).toNat ByteArray.empty)))
     else none
    else none
   else
    bif (x.1 == 3) then
     let v4 := IntKind.i64.wrap (x.2.1 + 1)
     bif decide (0 ≤ v4) && decide (v4 < (3 : Int)) then
      bif decide ((⟨#[99, 104, 101, 101, 107]⟩ : ByteArray).size + ([(⟨#[60]⟩ : ByteArray), (⟨#[]⟩ : ByteArray), (⟨#[62]⟩ : ByteArray)].getD (v4).toNat ByteArray.empty).size ≤ 9223372036854775807) then
       bif x.2.2 then
        bif decide (((⟨#[99, 104, 101, 101, 107]⟩ : ByteArray) ++ ([(⟨#[60]⟩ : ByteArray), (⟨#[]⟩ : ByteArray), (⟨#[62]⟩ : ByteArray)].getD (v4).toNat ByteArray.empty)).size + (⟨#[42]⟩ : ByteArray).size ≤ 9223372036854775807) then
         some ((((⟨#[99, 104, 101, 101, 107]⟩ : ByteArray) ++ ([(⟨#[60]⟩ : ByteArray), (⟨#[]⟩ : ByteArray), (⟨#[62]⟩ : ByteArray)].getD (v4).toNat ByteArray.empty)) ++ (⟨#[42]⟩ : ByteArray)))
        else none
       else
        some (((⟨#[99, 104, 101, 101, 107]⟩ : ByteArray) ++ ([(⟨#[60]⟩ : ByteArray), (⟨#[]⟩ : ByteArray), (⟨#[62]⟩ : ByteArray)].getD (v4).toNat ByteArray.empty)))
      else none
     else none
    else
     bif (x.1 == 4) then
      let v5 := IntKind.i64.wrap (x.2.1 + 1)
      bif decide (0 ≤ v5) && decide (v5 < (3 : Int)) then
       bif decide ((⟨#[109, 111, 117, 116, 104]⟩ : ByteArray).size + ([(⟨#[60]⟩ : ByteArray), (⟨#[]⟩ : ByteArray), (⟨#[62]⟩ : ByteArray)].getD (v5).toNat ByteArray.empty).size ≤ 9223372036854775807) then
        bif x.2.2 then
         bif decide (((⟨#[109, 111, 117, 116, 104]⟩ : ByteArray) ++ ([(⟨#[60]⟩ : ByteArray), (⟨#[]⟩ : ByteArray), (⟨#[62]⟩ : ByteArray)].getD (v5).toNat ByteArray.empty)).size + (⟨#[42]⟩ : ByteArray).size ≤ 9223372036854775807) then
          some ((((⟨#[109, 111, 117, 116, 104]⟩ : ByteArray) ++ ([(⟨#[60]⟩ : ByteArray), (⟨#[]⟩ : ByteArray), (⟨#[62]⟩ : ByteArray)].getD (v5).toNat ByteArray.empty)) ++ (⟨#[42]⟩ : ByteArray)))
         else none
        else
         some (((⟨#[109, 111, 117, 116, 104]⟩ : ByteArray) ++ ([(⟨#[60]⟩ : ByteArray), (⟨#[]⟩ : ByteArray), (⟨#[62]⟩ : ByteArray)].getD (v5).toNat ByteArray.empty)))
       else none
      else none
     else
      bif (x.1 == 5) then
       let v6 := IntKind.i64.wrap (x.2.1 + 1)
       bif decide (0 ≤ v6) && decide (v6 < (3 : Int)) then
        bif decide ((⟨#[99, 104, 105, 110]⟩ : ByteArray).size + ([(⟨#[60]⟩ : ByteArray), (⟨#[]⟩ : ByteArray), (⟨#[62]⟩ : ByteArray)].getD (v6).toNat ByteArray.empty).size ≤ 9223372036854775807) then
         bif x.2.2 then
          bif decide (((⟨#[99, 104, 105, 110]⟩ : ByteArray) ++ ([(⟨#[60]⟩ : ByteArray), (⟨#[]⟩ : ByteArray), (⟨#[62]⟩ : ByteArray)].getD (v6).toNat ByteArray.empty)).size + (⟨#[42]⟩ : ByteArray).size ≤ 9223372036854775807) then
           some ((((⟨#[99, 104, 105, 110]⟩ : ByteArray) ++ ([(⟨#[60]⟩ : ByteArray), (⟨#[]⟩ : ByteArray), (⟨#[62]⟩ : ByteArray)].getD (v6).toNat ByteArray.empty)) ++ (⟨#[42]⟩ : ByteArray)))
          else none
         else
          some (((⟨#[99, 104, 105, 110]⟩ : ByteArray) ++ ([(⟨#[60]⟩ : ByteArray), (⟨#[]⟩ : ByteArray), (⟨#[62]⟩ : ByteArray)].getD (v6).toNat ByteArray.empty)))
        else none
       else none
      else
       bif (x.1 == 6) then
        let v7 := IntKind.i64.wrap (x.2.1 + 1)
        bif decide (0 ≤ v7) && decide (v7 < (3 : Int)) then
         bif decide ((⟨#[110, 101, 99, 107]⟩ : ByteArray).size + ([(⟨#[60]⟩ : ByteArray), (⟨#[]⟩ : ByteArray), (⟨#[62]⟩ : ByteArray)].getD (v7).toNat ByteArray.empty).size ≤ 9223372036854775807) then
          bif x.2.2 then
           bif decide (((⟨#[110, 101, 99, 107]⟩ : ByteArray) ++ ([(⟨#[60]⟩ : ByteArray), (⟨#[]⟩ : ByteArray), (⟨#[62]⟩ : ByteArray)].getD (v7).toNat ByteArray.empty)).size + (⟨#[42]⟩ : ByteArray).size ≤ 9223372036854775807) then
            some ((((⟨#[110, 101, 99, 107]⟩ : ByteArray) ++ ([(⟨#[60]⟩ : ByteArray), (⟨#[]⟩ : ByteArray), (⟨#[62]⟩ : ByteArray)].getD (v7).toNat ByteArray.empty)) ++ (⟨#[42]⟩ : ByteArray)))
           else none
          else
           some (((⟨#[110, 101, 99, 107]⟩ : ByteArray) ++ ([(⟨#[60]⟩ : ByteArray), (⟨#[]⟩ : ByteArray), (⟨#[62]⟩ : ByteArray)].getD (v7).toNat ByteArray.empty)))
         else none
        else none
       else
        bif (x.1 == 7) then
         let v8 := IntKind.i64.wrap (x.2.1 + 1)
         bif decide (0 ≤ v8) && decide (v8 < (3 : Int)) then
          bif decide ((⟨#[99, 104, 101, 115, 116]⟩ : ByteArray).size + ([(⟨#[60]⟩ : ByteArray), (⟨#[]⟩ : ByteArray), (⟨#[62]⟩ : ByteArray)].getD (v8).toNat ByteArray.empty).size ≤ 9223372036854775807) then
           bif x.2.2 then
            bif decide (((⟨#[99, 104, 101, 115, 116]⟩ : ByteArray) ++ ([(⟨#[60]⟩ : ByteArray), (⟨#[]⟩ : ByteArray), (⟨#[62]⟩ : ByteArray)].getD (v8).toNat ByteArray.empty)).size + (⟨#[42]⟩ : ByteArray).size ≤ 9223372036854775807) then
             some ((((⟨#[99, 104, 101, 115, 116]⟩ : ByteArray) ++ ([(⟨#[60]⟩ : ByteArray), (⟨#[]⟩ : ByteArray), (⟨#[62]⟩ : ByteArray)].getD (v8).toNat ByteArray.empty)) ++ (⟨#[42]⟩ : ByteArray)))
            else none
           else
            some (((⟨#[99, 104, 101, 115, 116]⟩ : ByteArray) ++ ([(⟨#[60]⟩ : ByteArray), (⟨#[]⟩ : ByteArray), (⟨#[62]⟩ : ByteArray)].getD (v8).toNat ByteArray.empty)))
          else none
         else none
        else
         bif (x.1 == 8) then
          let v9 := IntKind.i64.wrap (x.2.1 + 1)
          bif decide (0 ≤ v9) && decide (v9 < (3 : Int)) then
           bif decide ((⟨#[119, 97, 105, 115, 116]⟩ : ByteArray).size + ([(⟨#[60]⟩ : ByteArray), (⟨#[]⟩ : ByteArray), (⟨#[62]⟩ : ByteArray)].getD (v9).toNat ByteArray.empty).size ≤ 9223372036854775807) then
            bif x.2.2 then
             bif decide (((⟨#[119, 97, 105, 115, 116]⟩ : ByteArray) ++ ([(⟨#[60]⟩ : ByteArray), (⟨#[]⟩ : ByteArray), (⟨#[62]⟩ : ByteArray)].getD (v9).toNat ByteArray.empty)).size + (⟨#[42]⟩ : ByteArray).size ≤ 9223372036854775807) then
              some ((((⟨#[119, 97, 105, 115, 116]⟩ : ByteArray) ++ ([(⟨#[60]⟩ : ByteArray), (⟨#[]⟩ : ByteArray), (⟨#[62]⟩ : ByteArray)].getD (v9).toNat ByteArray.empty)) ++ (⟨#[42]⟩ : ByteArray)))
             else none
            else
             some (((⟨#[119, 97, 105, 115, 116]⟩ : ByteArray) ++ ([(⟨#[60]⟩ : ByteArray), (⟨#[]⟩ : ByteArray), (⟨#[62]⟩ : ByteArray)].getD (v9).toNat ByteArray.empty)))
           else none
          else none
         else
          bif (x.1 == 9) then
           let v10 := IntKind.i64.wrap (x.2.1 + 1)
           bif decide (0 ≤ v10) && decide (v10 < (3 : Int)) then
            bif decide ((⟨#[104, 105, 112]⟩ : ByteArray).size + ([(⟨#[60]⟩ : ByteArray), (⟨#[]⟩ : ByteArray), (⟨#[62]⟩ : ByteArray)].getD (v10).toNat ByteArray.empty).size ≤ 9223372036854775807) then
             bif x.2.2 then
              bif decide (((⟨#[104, 105, 112]⟩ : ByteArray) ++ ([(⟨#[60]⟩ : ByteArray), (⟨#[]⟩ : ByteArray), (⟨#[62]⟩ : ByteArray)].getD (v10).toNat ByteArray.empty)).size + (⟨#[42]⟩ : ByteArray).size ≤ 9223372036854775807) then
               some ((((⟨#[104, 105, 112]⟩ : ByteArray) ++ ([(⟨#[60]⟩ : ByteArray), (⟨#[]⟩ : ByteArray), (⟨#[62]⟩ : ByteArray)].getD (v10).toNat ByteArray.empty)) ++ (⟨#[42]⟩ : ByteArray)))
              else none
             else
              some (((⟨#[104, 105, 112]⟩ : ByteArray) ++ ([(⟨#[60]⟩ : ByteArray), (⟨#[]⟩ : ByteArray), (⟨#[62]⟩ : ByteArray)].getD (v10).toNat ByteArray.empty)))
            else none
           else none
          else
           none
noncomputable def c_impl_Place_text : Con := { ps := [(.val, (.st (.pair (.int .i64) (.pair (.int .i64) .bool))))], rs := [(.val, .str)], F := F_impl_Place_text }
noncomputable def env_impl_Place_text : Env := { par := [], dp := false, settle := [], con := fun _ => none, clo := fun _ => none, T := tinf Tryz.prog }
noncomputable def loops_impl_Place_text : Nat → Option Loop := fun n => none
theorem F_impl_Place_text_eq (x : (Int × (Int × Bool))) : Fev env_impl_Place_text loops_impl_Place_text c_impl_Place_text.ps c_impl_Place_text.rs Tryz.f156 x = F_impl_Place_text x := by kernel_rfl
theorem env_impl_Place_text_ok : EnvOK Tryz.prog env_impl_Place_text := envOK_of (fun f c h => by cases h) (fun f c h => by cases h) rfl
theorem con_impl_Place_text : ConOK Tryz.prog 156 c_impl_Place_text := con_of_ev' (body := Tryz.f156.body.getD .skip) (Λ := loops_impl_Place_text) mixed Tryz.func156 (by kernel_rfl) (by kernel_rfl) env_impl_Place_text_ok (by kernel_rfl) (by kernel_rfl) (fun n L h => by cases h) F_impl_Place_text_eq

noncomputable def F_impl_Move_text (x : (ByteArray × Int)) : Option (ByteArray) :=
 bif (x.1.toList == (⟨#[]⟩ : ByteArray).toList) then
  some ((⟨#[45]⟩ : ByteArray))
 else
  bif ((x.2 == 1)) then
   some (x.1)
  else
   bif decide (x.1.size + (⟨#[42]⟩ : ByteArray).size ≤ 9223372036854775807) then
    match F_strconv_Itoa (x.2) with
    | none => none
    | some y1 =>
     bif decide ((x.1 ++ (⟨#[42]⟩ : ByteArray)).size + y1.size ≤ 9223372036854775807) then
      some (((x.1 ++ (⟨#[42]⟩ : ByteArray)) ++ y1))
     else none
   else none
noncomputable def c_impl_Move_text : Con := { ps := [(.val, (.st (.pair .str (.int .i64))))], rs := [(.val, .str)], F := F_impl_Move_text }
noncomputable def env_impl_Move_text : Env := { par := [], dp := false, settle := [], con := fun f => match f with | 210 => some c_strconv_Itoa | _ => none, clo := fun _ => none, T := tinf Tryz.prog }
noncomputable def loops_impl_Move_text : Nat → Option Loop := fun n => none
theorem con_impl_Move_text : ConOK Tryz.prog 157 c_impl_Move_text := con_of_ev' (body := Tryz.f157.body.getD .skip) (Λ := loops_impl_Move_text) mixed Tryz.func157 (by kernel_rfl) (by kernel_rfl) (envOK_of (E := env_impl_Move_text) (fun f c h => by
  simp only [env_impl_Move_text] at h
  split at h
  · cases h; exact con_strconv_Itoa
  · cases h) (fun f c h => by cases h) rfl) (by kernel_rfl) (by kernel_rfl) (fun n L h => by cases h) (fun _ => by kernel_rfl)

theorem fr_of_belowJ {w w' : World} (h : Go.RowKit.Below w.heap.size w w') : Fr NoB w w' := ⟨h.os, h.tape, h.output, h.size, fun b hb _ => h.block b hb, fun b _ hb => h.block b hb⟩
theorem Join_ex : ∃ f : List ByteArray × ByteArray → Option ByteArray, f = fun x => bif decide (x.1.length ≤ 140737488355328) && decide ((Lib.join (x.1.map (·.data.toList)) x.2.data.toList).length ≤ 140737488355328) then some ⟨(Lib.join (x.1.map (·.data.toList)) x.2.data.toList).toArray⟩ else none := ⟨_, rfl⟩
noncomputable def F_strings_Join : List ByteArray × ByteArray → Option ByteArray := Classical.choose Join_ex
theorem F_strings_Join_is (x : List ByteArray × ByteArray) : F_strings_Join x = bif decide (x.1.length ≤ 140737488355328) && decide ((Lib.join (x.1.map (·.data.toList)) x.2.data.toList).length ≤ 140737488355328) then some ⟨(Lib.join (x.1.map (·.data.toList)) x.2.data.toList).toArray⟩ else none := congrFun (Classical.choose_spec Join_ex) x
noncomputable def c_strings_Join : Con := { ps := [(.val, .slice .str), (.val, .str)], rs := [(.val, .str)], F := F_strings_Join }
theorem con_strings_Join : ConOK Tryz.prog 153 c_strings_Join := by
  refine ⟨⟨Tryz.f153, Tryz.func153, by kernel_rfl, by kernel_rfl⟩, fun w Z X vals (x : List ByteArray × ByteArray) (y : ByteArray) hy _ _ hold ht _ => ?_⟩
  have hy : F_strings_Join x = some y := hy
  obtain ⟨xs, sep⟩ := x
  rw [F_strings_Join_is] at hy
  obtain ⟨hg, hy⟩ := bif_none hy
  obtain ⟨h0, h1⟩ := and_b hg
  have h0 : xs.length ≤ 140737488355328 := of_decide_eq_true h0
  have h1 := of_decide_eq_true h1
  obtain ⟨v, r, rfl, ⟨cs, hbox, hrd⟩, v2, r2, rfl, ⟨cs2, hbox2, hrd2⟩, hr⟩ := hold
  obtain rfl : r2 = [] := hr
  have hbox : cs = [v] := hbox
  subst hbox
  have hbox2 : cs2 = [v2] := hbox2
  subst hbox2
  obtain rfl : v2 = .string sep := (List.cons.inj (show [v2] = [.string sep] from hrd2)).1
  obtain ⟨A, cap, e, hle, hcs⟩ := (show RdC Tryz.prog (.slice .str) w Z [v] xs from hrd)
  obtain rfl : v = .slice A xs.length cap := (List.cons.inj e).1
  have hy' : y = ⟨(Lib.join (xs.map (·.data.toList)) sep.data.toList).toArray⟩ := (Option.some.inj hy).symm
  subst hy'
  have key : Calls Tryz.prog 153 #[.slice A xs.length cap, .string sep] w fun e w' => e = .returned (.string ⟨(Lib.join (xs.map (·.data.toList)) sep.data.toList).toArray⟩) ∧ Fr NoB w w' := by
    rcases Nat.eq_zero_or_pos xs.length with hz | hz
    · have hx : xs = [] := List.eq_nil_of_length_eq_zero hz
      subst hx
      refine (Tryz.strings_Join_none A cap sep w).mono ?_
      rintro e' w' ⟨rfl, rfl⟩
      exact ⟨rfl, Fr.refl _ _⟩
    · obtain ⟨b, o, rfl, hlt, _, hel⟩ := hcs hz
      refine (Tryz.strings_Join b o cap xs sep w (fun j x hj => ?_) hlt h0 hle h1).mono ?_
      · obtain ⟨hj', hjx⟩ := List.getElem?_eq_some_iff.1 hj
        obtain ⟨us, hu, hr, hat⟩ := hel j hj'
        have hr' : us = [.string xs[j]] := hr
        subst hr'
        have := hat 0 _ rfl
        rw [hjx] at this
        simpa [Ty.cells] using this
      · rintro e' w' ⟨rfl, hb⟩
        exact ⟨rfl, fr_of_belowJ hb⟩
  refine key.mono ?_
  rintro e' w' ⟨rfl, hfr⟩
  exact ⟨_, [.string _], NoB, NoB, rfl, rfl, rfl, hfr.le, fun _ f => f.elim, fun _ f => f.elim, fun _ f => f.elim, holds_nil rfl _,
    ⟨_, [], rfl, ⟨_, rfl, rfl⟩, rfl⟩⟩

noncomputable def F_impl_Hand_text (x : DT13) : Option (ByteArray) :=
 match F_impl_Shape_text (x.1) with
 | none => none
 | some y1 =>
  match F_impl_Orient_text (x.2.1) with
  | none => none
  | some y2 =>
   match F_impl_Place_text (x.2.2.1) with
   | none => none
   | some y3 =>
    match F_impl_Move_text (x.2.2.2) with
    | none => none
    | some y4 =>
     match F_strings_Join (([y1, y2, y3, y4], (⟨#[47]⟩ : ByteArray))) with
     | none => none
     | some y5 =>
      some (y5)
noncomputable def c_impl_Hand_text : Con := { ps := [(.val, TY13)], rs := [(.val, .str)], F := F_impl_Hand_text }
noncomputable def env_impl_Hand_text : Env := { par := [], dp := false, settle := [], con := fun f => match f with | 153 => some c_strings_Join | 154 => some c_impl_Shape_text | 155 => some c_impl_Orient_text | 156 => some c_impl_Place_text | 157 => some c_impl_Move_text | _ => none, clo := fun _ => none, T := tinf Tryz.prog }
noncomputable def loops_impl_Hand_text : Nat → Option Loop := fun n => none
theorem con_impl_Hand_text : ConOK Tryz.prog 93 c_impl_Hand_text := con_of_ev' (body := Tryz.f93.body.getD .skip) (Λ := loops_impl_Hand_text) mixed Tryz.func93 (by kernel_rfl) (by kernel_rfl) (envOK_of (E := env_impl_Hand_text) (fun f c h => by
  simp only [env_impl_Hand_text] at h
  split at h
  · cases h; exact con_strings_Join
  · cases h; exact con_impl_Shape_text
  · cases h; exact con_impl_Orient_text
  · cases h; exact con_impl_Place_text
  · cases h; exact con_impl_Move_text
  · cases h) (fun f c h => by cases h) rfl) (by kernel_rfl) (by kernel_rfl) (fun n L h => by cases h) (fun _ => by kernel_rfl)

def F_strings_Compare (x : ByteArray × ByteArray) : Option Int := some (Lib.compareBytes x.1.data.toList x.2.data.toList)
def c_strings_Compare : Con := { ps := [(.val, .str), (.val, .str)], rs := [(.val, .int .i64)], F := F_strings_Compare }
theorem con_strings_Compare : ConOK Tryz.prog 73 c_strings_Compare := con_of_pure ⟨Tryz.f73, Tryz.func73, by kernel_rfl, by kernel_rfl⟩ rfl rfl fun w x y hy _ => by
  have e : y = Lib.compareBytes x.1.data.toList x.2.data.toList := (Option.some.inj hy).symm
  subst e
  refine (Tryz.strings_Compare x.1 x.2 w).mono ?_
  rintro e w' ⟨rfl, rfl⟩
  exact ⟨rfl, Fr.refl _ _⟩

noncomputable def step_cmp_Or_int_0 (s : Int × (List Int) × Int × Int) : Option ((Int × (List Int) × Int × Int) ⊕ ((Int) ⊕ (Int))) :=
 bif (decide (s.2.2.2 < s.2.2.1)) then
  bif decide (0 ≤ s.2.2.2) && decide (s.2.2.2 < (s.2.1.length : Int)) then
   bif (((s.2.1.getD (s.2.2.2).toNat 0) != s.1)) then
    some (.inr (.inl ((s.2.1.getD (s.2.2.2).toNat 0))))
   else
    let v2 := IntKind.i64.wrap (s.2.2.2 + 1)
    some (.inl ((s.1, (s.2.1, s.2.2.1, v2))))
  else none
 else
  some (.inr (.inr (s.1)))
def pat_cmp_Or_int_0 : Pat := { tmps := .any :: .any :: .any :: .v (.int .i64) :: .any :: .any :: .v (.slice (.int .i64)) :: .v (.int .i64) :: .v (.int .i64) :: an 9 [], blks := [] }
def outs_cmp_Or_int_0 : List (Exit × Pat) := [(.ret, { tmps := .any :: .any :: .v (.int .i64) :: an 15 [], blks := [] }), (.exit 0, { tmps := .any :: .any :: .any :: .v (.int .i64) :: an 14 [], blks := [] })]
noncomputable def F_cmp_Or_int (x : (List Int)) : Option (Int) :=
 match runL step_cmp_Or_int_0 ((0, (x, (x.length : Int), 0))) with
 | none => none
 | some (.inl o3) =>
  some (o3)
 | some (.inr o3) =>
  some (o3)
noncomputable def c_cmp_Or_int : Con := { ps := [(.val, (.slice (.int .i64)))], rs := [(.val, (.int .i64))], F := F_cmp_Or_int }
noncomputable def env_cmp_Or_int : Env := { par := [], dp := false, settle := [], con := fun _ => none, clo := fun _ => none, T := tinf Tryz.prog }
noncomputable def loops_cmp_Or_int : Nat → Option Loop := fun n => match n with | 3 => some { pat := pat_cmp_Or_int_0, outs := outs_cmp_Or_int_0, run := runL (step_cmp_Or_int_0) } | _ => none
theorem con_cmp_Or_int : ConOK Tryz.prog 72 c_cmp_Or_int := con_of_ev' (body := Tryz.f72.body.getD .skip) (Λ := loops_cmp_Or_int) mixed Tryz.func72 (by kernel_rfl) (by kernel_rfl) (envOK_of (E := env_cmp_Or_int) (fun f c h => by cases h) (fun f c h => by cases h) rfl) (by kernel_rfl) (by kernel_rfl) (fun n L h => by
  unfold loops_cmp_Or_int at h
  split at h
  · cases h; exact fun s o ho => loop_ok (stepF := stepEv env_cmp_Or_int loops_cmp_Or_int pat_cmp_Or_int_0 outs_cmp_Or_int_0 Tryz.f72 3) (fun _ => by kernel_rfl) ho
  · cases h) (fun _ => by kernel_rfl)

noncomputable def F_impl_compareSigns (x : DT27 × DT27) : Option (Int) :=
 bif (!(x.1.2.1 == x.2.2.1)) then
  match F_impl_Hand_text (x.1.1) with
  | none => none
  | some y1 =>
   match F_impl_Hand_text (x.2.1) with
   | none => none
   | some y2 =>
    match F_strings_Compare ((y1, y2)) with
    | none => none
    | some y3 =>
     bif ((y3 != 0)) then
      some (y3)
     else
      bif (x.1.2.1 == x.2.2.1) then
       some (y3)
      else
       bif x.1.2.1 then
        some (1)
       else
        some ((-1))
 else
  bif (!x.1.2.1) then
   match F_impl_Hand_text (x.1.1) with
   | none => none
   | some y4 =>
    match F_impl_Hand_text (x.2.1) with
    | none => none
    | some y5 =>
     match F_strings_Compare ((y4, y5)) with
     | none => none
     | some y6 =>
      bif ((y6 != 0)) then
       some (y6)
      else
       bif (x.1.2.1 == x.2.2.1) then
        some (y6)
       else
        bif x.1.2.1 then
         some (1)
        else
         some ((-1))
  else
   match F_impl_Hand_text (x.1.1) with
   | none => none
   | some y7 =>
    match F_impl_Hand_text (x.2.1) with
    | none => none
    | some y8 =>
     match F_strings_Compare ((y7, y8)) with
     | none => none
     | some y9 =>
      match F_impl_Hand_text (x.1.2.2) with
      | none => none
      | some y10 =>
       match F_impl_Hand_text (x.2.2.2) with
       | none => none
       | some y11 =>
        match F_strings_Compare ((y10, y11)) with
        | none => none
        | some y12 =>
         match F_cmp_Or_int ([y9, y12]) with
         | none => none
         | some y13 =>
          some (y13)
noncomputable def c_impl_compareSigns : Con := { ps := [(.val, TY27), (.val, TY27)], rs := [(.val, (.int .i64))], F := F_impl_compareSigns }
noncomputable def env_impl_compareSigns : Env := { par := [], dp := false, settle := [], con := fun f => match f with | 72 => some c_cmp_Or_int | 73 => some c_strings_Compare | 93 => some c_impl_Hand_text | _ => none, clo := fun _ => none, T := tinf Tryz.prog }
noncomputable def loops_impl_compareSigns : Nat → Option Loop := fun n => none
theorem con_impl_compareSigns : ConOK Tryz.prog 55 c_impl_compareSigns := con_of_ev' (body := Tryz.f55.body.getD .skip) (Λ := loops_impl_compareSigns) mixed Tryz.func55 (by kernel_rfl) (by kernel_rfl) (envOK_of (E := env_impl_compareSigns) (fun f c h => by
  simp only [env_impl_compareSigns] at h
  split at h
  · cases h; exact con_cmp_Or_int
  · cases h; exact con_strings_Compare
  · cases h; exact con_impl_Hand_text
  · cases h) (fun f c h => by cases h) rfl) (by kernel_rfl) (by kernel_rfl) (fun n L h => by cases h) (fun _ => by kernel_rfl)

end Go.Proofs.YtklfnbckoaphpaaGreatDoor
