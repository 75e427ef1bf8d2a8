/- Contracts of functions of the program, written by a program of this claim. No conditions. -/
import Derived.Test.YtklfnbckoaphpaaGreatDoorC0
set_option linter.unusedVariables false
set_option maxRecDepth 100000
namespace Go.Proofs.YtklfnbckoaphpaaGreatDoor
open Go
noncomputable def K_impl_compareEntries (q : Unit) (x : (DT30 × DT30)) : Option (Int) := F_impl_compareEntries x
noncomputable def k_impl_compareEntries : CloCon := { caps := [], a := (.pair TY30 TY30), r := (.int .i64), F := K_impl_compareEntries }
theorem clo_impl_compareEntries : CloOK Tryz.prog 38 k_impl_compareEntries := clo_of_con k_impl_compareEntries F_impl_compareEntries con_impl_compareEntries rfl (fun kx x y h => ⟨y, h, rfl⟩)
noncomputable def K_impl_JoinEntries_1 (q : (List DT30)) (x : DT30) : Option (Bool) := F_impl_JoinEntries_1 (x, q)
noncomputable def k_impl_JoinEntries_1 : CloCon := { caps := [(.slice TY30)], a := TY30, r := .bool, F := K_impl_JoinEntries_1 }
theorem clo_impl_JoinEntries_1 : CloOK Tryz.prog 41 k_impl_JoinEntries_1 := clo_of_con k_impl_JoinEntries_1 F_impl_JoinEntries_1 con_impl_JoinEntries_1 rfl (fun kx x y h => ⟨y, h, rfl⟩)
noncomputable def step_impl_JoinEntries_0 (s : (List DT30) × (List DT30) × Int × Int × (List DT30) × (List DT30)) : Option (((List DT30) × (List DT30) × Int × Int × (List DT30) × (List DT30)) ⊕ (((List DT30) × (List DT30)))) :=
 bif (decide (s.2.2.2.1 < s.2.2.1)) then
  bif decide (0 ≤ s.2.2.2.1) && decide (s.2.2.2.1 < (s.2.1.length : Int)) then
   match F_slices_BinarySearchFunc_impl_Entry_impl_Entry_impl_Entry ((s.1, (s.2.1.getD (s.2.2.2.1).toNat dz30), (K_impl_compareEntries ()))) with
   | none => none
   | some y23 =>
    bif (!y23.2) then
     bif decide ((s.2.2.2.2.1.length + [(s.2.1.getD (s.2.2.2.1).toNat dz30)].length) * 264 ≤ 140737488355328) then
      let v24 := s.2.2.2.2.1 ++ [(s.2.1.getD (s.2.2.2.1).toNat dz30)]
      let v25 := IntKind.i64.wrap (s.2.2.2.1 + 1)
      some (.inl ((s.1, (s.2.1, s.2.2.1, (v25, v24, s.2.2.2.2.2)))))
     else none
    else
     bif decide (0 ≤ y23.1) && decide (y23.1 < (s.1.length : Int)) then
      let v26 := IntKind.i64.wrap ((s.1.getD (y23.1).toNat dz30).2.2.2 + (s.2.1.getD (s.2.2.2.1).toNat dz30).2.2.2)
      let v27 := (minI v26 99999)
      bif decide (0 ≤ y23.1) && decide (y23.1 < (s.2.2.2.2.1.length : Int)) then
       let v28 := s.2.2.2.2.1.getD (y23.1).toNat dz30
       let v29 := s.2.2.2.2.1.set (y23.1).toNat ((v28.1, (v28.2.1, v28.2.2.1, v27)))
       bif decide (0 ≤ y23.1) && decide (y23.1 < (s.1.length : Int)) then
        bif (!(((((s.1.getD (y23.1).toNat dz30).2.1.1.1.1 == (s.2.1.getD (s.2.2.2.1).toNat dz30).2.1.1.1.1) && (((s.1.getD (y23.1).toNat dz30).2.1.1.1.2.1 == (s.2.1.getD (s.2.2.2.1).toNat dz30).2.1.1.1.2.1) && (((s.1.getD (y23.1).toNat dz30).2.1.1.1.2.2.1 == (s.2.1.getD (s.2.2.2.1).toNat dz30).2.1.1.1.2.2.1) && (((s.1.getD (y23.1).toNat dz30).2.1.1.1.2.2.2.1 == (s.2.1.getD (s.2.2.2.1).toNat dz30).2.1.1.1.2.2.2.1) && (((s.1.getD (y23.1).toNat dz30).2.1.1.1.2.2.2.2.1 == (s.2.1.getD (s.2.2.2.1).toNat dz30).2.1.1.1.2.2.2.2.1) && (((s.1.getD (y23.1).toNat dz30).2.1.1.1.2.2.2.2.2 == (s.2.1.getD (s.2.2.2.1).toNat dz30).2.1.1.1.2.2.2.2.2) && true)))))) && ((((s.1.getD (y23.1).toNat dz30).2.1.1.2.1.1 == (s.2.1.getD (s.2.2.2.1).toNat dz30).2.1.1.2.1.1) && (((s.1.getD (y23.1).toNat dz30).2.1.1.2.1.2 == (s.2.1.getD (s.2.2.2.1).toNat dz30).2.1.1.2.1.2) && true)) && ((((s.1.getD (y23.1).toNat dz30).2.1.1.2.2.1.1 == (s.2.1.getD (s.2.2.2.1).toNat dz30).2.1.1.2.2.1.1) && (((s.1.getD (y23.1).toNat dz30).2.1.1.2.2.1.2.1 == (s.2.1.getD (s.2.2.2.1).toNat dz30).2.1.1.2.2.1.2.1) && (((s.1.getD (y23.1).toNat dz30).2.1.1.2.2.1.2.2 == (s.2.1.getD (s.2.2.2.1).toNat dz30).2.1.1.2.2.1.2.2) && true))) && ((((s.1.getD (y23.1).toNat dz30).2.1.1.2.2.2.1.toList == (s.2.1.getD (s.2.2.2.1).toNat dz30).2.1.1.2.2.2.1.toList) && (((s.1.getD (y23.1).toNat dz30).2.1.1.2.2.2.2 == (s.2.1.getD (s.2.2.2.1).toNat dz30).2.1.1.2.2.2.2) && true)) && true)))) && (((s.1.getD (y23.1).toNat dz30).2.1.2.1 == (s.2.1.getD (s.2.2.2.1).toNat dz30).2.1.2.1) && (((((s.1.getD (y23.1).toNat dz30).2.1.2.2.1.1 == (s.2.1.getD (s.2.2.2.1).toNat dz30).2.1.2.2.1.1) && (((s.1.getD (y23.1).toNat dz30).2.1.2.2.1.2.1 == (s.2.1.getD (s.2.2.2.1).toNat dz30).2.1.2.2.1.2.1) && (((s.1.getD (y23.1).toNat dz30).2.1.2.2.1.2.2.1 == (s.2.1.getD (s.2.2.2.1).toNat dz30).2.1.2.2.1.2.2.1) && (((s.1.getD (y23.1).toNat dz30).2.1.2.2.1.2.2.2.1 == (s.2.1.getD (s.2.2.2.1).toNat dz30).2.1.2.2.1.2.2.2.1) && (((s.1.getD (y23.1).toNat dz30).2.1.2.2.1.2.2.2.2.1 == (s.2.1.getD (s.2.2.2.1).toNat dz30).2.1.2.2.1.2.2.2.2.1) && (((s.1.getD (y23.1).toNat dz30).2.1.2.2.1.2.2.2.2.2 == (s.2.1.getD (s.2.2.2.1).toNat dz30).2.1.2.2.1.2.2.2.2.2) && true)))))) && ((((s.1.getD (y23.1).toNat dz30).2.1.2.2.2.1.1 == (s.2.1.getD (s.2.2.2.1).toNat dz30).2.1.2.2.2.1.1) && (((s.1.getD (y23.1).toNat dz30).2.1.2.2.2.1.2 == (s.2.1.getD (s.2.2.2.1).toNat dz30).2.1.2.2.2.1.2) && true)) && ((((s.1.getD (y23.1).toNat dz30).2.1.2.2.2.2.1.1 == (s.2.1.getD (s.2.2.2.1).toNat dz30).2.1.2.2.2.2.1.1) && (((s.1.getD (y23.1).toNat dz30).2.1.2.2.2.2.1.2.1 == (s.2.1.getD (s.2.2.2.1).toNat dz30).2.1.2.2.2.2.1.2.1) && (((s.1.getD (y23.1).toNat dz30).2.1.2.2.2.2.1.2.2 == (s.2.1.getD (s.2.2.2.1).toNat dz30).2.1.2.2.2.2.1.2.2) && true))) && ((((s.1.getD (y23.1).toNat dz30).2.1.2.2.2.2.2.1.toList == (s.2.1.getD (s.2.2.2.1).toNat dz30).2.1.2.2.2.2.2.1.toList) && (((s.1.getD (y23.1).toNat dz30).2.1.2.2.2.2.2.2 == (s.2.1.getD (s.2.2.2.1).toNat dz30).2.1.2.2.2.2.2.2) && true)) && true)))) && true)))) then
         bif decide (0 ≤ y23.1) && decide (y23.1 < (v29.length : Int)) then
          bif decide ((s.2.2.2.2.2.length + [(v29.getD (y23.1).toNat dz30)].length) * 264 ≤ 140737488355328) then
           let v30 := s.2.2.2.2.2 ++ [(v29.getD (y23.1).toNat dz30)]
           let v31 := IntKind.i64.wrap (s.2.2.2.1 + 1)
           some (.inl ((s.1, (s.2.1, s.2.2.1, (v31, v29, v30)))))
          else none
         else none
        else
         let v32 := IntKind.i64.wrap (s.2.2.2.1 + 1)
         some (.inl ((s.1, (s.2.1, s.2.2.1, (v32, v29, s.2.2.2.2.2)))))
       else none
      else none
     else none
  else none
 else
  some (.inr ((s.2.2.2.2.2, s.2.2.2.2.1)))
def pat_impl_JoinEntries_0 : Pat := { tmps := .v (.slice TY30) :: an 6 (.own 1536 :: .ptr 512 0 :: an 16 (.v (.slice TY30) :: .v (.int .i64) :: .v (.int .i64) :: an 55 [])), blks := [(512, .box [.own 4480]), (1536, .row true TY30), (4480, .row true TY30)] }
def outs_impl_JoinEntries_0 : List (Exit × Pat) := [(.exit 0, { tmps := an 7 (.own 1536 :: .ptr 512 0 :: an 74 []), blks := [(512, .box [.own 4480]), (4480, .row true TY30), (1536, .row true TY30)] })]
noncomputable def F_impl_JoinEntries (x : (List DT30) × (List DT30)) : Option ((List DT30) × (List Int) × Bool) :=
 match F_impl_AreEntries (x.1) with
 | none => none
 | some y1 =>
  bif (!y1) then
   some (([], [], false))
  else
   match F_impl_AreEntries (x.2) with
   | none => none
   | some y2 =>
    bif (!y2) then
     some (([], [], false))
    else
     match F_slices_Clone_impl_Entry_impl_Entry (x.1) with
     | none => none
     | some y3 =>
      match runL step_impl_JoinEntries_0 ((x.1, (x.2, (x.2.length : Int), (0, y3, [])))) with
      | none => none
      | some o33 =>
       match F_impl_sortedEntries (o33.2) with
       | none => none
       | some y34 =>
        bif (!y34.2) then
         some (([], [], false))
        else
         match F_impl_those_impl_Entry ((y34.1, (K_impl_JoinEntries_1 o33.1))) with
         | none => none
         | some y35 =>
          some ((y34.1, y35, true))
noncomputable def c_impl_JoinEntries : Con := { ps := [(.val, (.slice TY30)), (.val, (.slice TY30))], rs := [(.io true, (.slice TY30)), (.io true, (.slice (.int .i64))), (.val, .bool)], F := F_impl_JoinEntries }
noncomputable def env_impl_JoinEntries : Env := { par := [], dp := false, settle := [], con := fun f => match f with | 35 => some c_impl_AreEntries | 36 => some c_slices_Clone_impl_Entry_impl_Entry | 37 => some c_slices_BinarySearchFunc_impl_Entry_impl_Entry_impl_Entry | 39 => some c_impl_sortedEntries | 40 => some c_impl_those_impl_Entry | _ => none, clo := fun f => match f with | 38 => some k_impl_compareEntries | 41 => some k_impl_JoinEntries_1 | _ => none, T := tinf Tryz.prog }
noncomputable def loops_impl_JoinEntries : Nat → Option Loop := fun n => match n with | 6 => some { pat := pat_impl_JoinEntries_0, outs := outs_impl_JoinEntries_0, run := runL (step_impl_JoinEntries_0) } | _ => none
theorem con_impl_JoinEntries : ConOK Tryz.prog 10 c_impl_JoinEntries := con_of_ev' (body := Tryz.f10.body.getD .skip) (Λ := loops_impl_JoinEntries) mixed Tryz.func10 (by kernel_rfl) (by kernel_rfl) (envOK_of (E := env_impl_JoinEntries) (fun f c h => by
  simp only [env_impl_JoinEntries] at h
  split at h
  · cases h; exact con_impl_AreEntries
  · cases h; exact con_slices_Clone_impl_Entry_impl_Entry
  · cases h; exact con_slices_BinarySearchFunc_impl_Entry_impl_Entry_impl_Entry
  · cases h; exact con_impl_sortedEntries
  · cases h; exact con_impl_those_impl_Entry
  · cases h) (fun f c h => by
  simp only [env_impl_JoinEntries] at h
  split at h
  · cases h; exact clo_impl_compareEntries
  · cases h; exact clo_impl_JoinEntries_1
  · cases h) rfl) (by kernel_rfl) (by kernel_rfl) (fun n L h => by
  unfold loops_impl_JoinEntries at h
  split at h
  · cases h; exact fun s o ho => loop_ok (stepF := stepEv env_impl_JoinEntries loops_impl_JoinEntries pat_impl_JoinEntries_0 outs_impl_JoinEntries_0 Tryz.f10 6) (fun _ => by kernel_rfl) ho
  · cases h) (fun _ => by kernel_rfl)

noncomputable def F_laws_eqShape (x : (Int × (Int × (Int × (Int × (Int × Bool))))) × (Int × (Int × (Int × (Int × (Int × Bool)))))) : Option (Bool) :=
 bif ((x.1.1 != x.2.1)) then
  some (false)
 else
  bif ((x.1.2.1 != x.2.2.1)) then
   some (false)
  else
   bif ((x.1.2.2.1 != x.2.2.2.1)) then
    some (false)
   else
    bif ((x.1.2.2.2.1 != x.2.2.2.2.1)) then
     some (false)
    else
     bif ((x.1.2.2.2.2.1 != x.2.2.2.2.2.1)) then
      some (false)
     else
      bif (!(x.1.2.2.2.2.2 == x.2.2.2.2.2.2)) then
       some (false)
      else
       some (true)
noncomputable def c_laws_eqShape : Con := { ps := [(.val, (.st (.pair (.int .i64) (.pair (.int .i64) (.pair (.int .i64) (.pair (.int .i64) (.pair (.int .i64) .bool))))))), (.val, (.st (.pair (.int .i64) (.pair (.int .i64) (.pair (.int .i64) (.pair (.int .i64) (.pair (.int .i64) .bool)))))))], rs := [(.val, .bool)], F := F_laws_eqShape }
noncomputable def env_laws_eqShape : Env := { par := [], dp := false, settle := [], con := fun _ => none, clo := fun _ => none, T := tinf Tryz.prog }
noncomputable def loops_laws_eqShape : Nat → Option Loop := fun n => none
theorem con_laws_eqShape : ConOK Tryz.prog 111 c_laws_eqShape := con_of_ev' (body := Tryz.f111.body.getD .skip) (Λ := loops_laws_eqShape) mixed Tryz.func111 (by kernel_rfl) (by kernel_rfl) (envOK_of (E := env_laws_eqShape) (fun f c h => by cases h) (fun f c h => by cases h) rfl) (by kernel_rfl) (by kernel_rfl) (fun n L h => by cases h) (fun _ => by kernel_rfl)

noncomputable def F_laws_eqOrient (x : (Int × Int) × (Int × Int)) : Option (Bool) :=
 bif ((x.1.1 != x.2.1)) then
  some (false)
 else
  bif ((x.1.2 != x.2.2)) then
   some (false)
  else
   some (true)
noncomputable def c_laws_eqOrient : Con := { ps := [(.val, (.st (.pair (.int .i64) (.int .i64)))), (.val, (.st (.pair (.int .i64) (.int .i64))))], rs := [(.val, .bool)], F := F_laws_eqOrient }
noncomputable def env_laws_eqOrient : Env := { par := [], dp := false, settle := [], con := fun _ => none, clo := fun _ => none, T := tinf Tryz.prog }
noncomputable def loops_laws_eqOrient : Nat → Option Loop := fun n => none
theorem con_laws_eqOrient : ConOK Tryz.prog 112 c_laws_eqOrient := con_of_ev' (body := Tryz.f112.body.getD .skip) (Λ := loops_laws_eqOrient) mixed Tryz.func112 (by kernel_rfl) (by kernel_rfl) (envOK_of (E := env_laws_eqOrient) (fun f c h => by cases h) (fun f c h => by cases h) rfl) (by kernel_rfl) (by kernel_rfl) (fun n L h => by cases h) (fun _ => by kernel_rfl)

noncomputable def F_laws_eqPlace (x : (Int × (Int × Bool)) × (Int × (Int × Bool))) : Option (Bool) :=
 bif ((x.1.1 != x.2.1)) then
  some (false)
 else
  bif ((x.1.2.1 != x.2.2.1)) then
   some (false)
  else
   bif (!(x.1.2.2 == x.2.2.2)) then
    some (false)
   else
    some (true)
noncomputable def c_laws_eqPlace : Con := { ps := [(.val, (.st (.pair (.int .i64) (.pair (.int .i64) .bool)))), (.val, (.st (.pair (.int .i64) (.pair (.int .i64) .bool))))], rs := [(.val, .bool)], F := F_laws_eqPlace }
noncomputable def env_laws_eqPlace : Env := { par := [], dp := false, settle := [], con := fun _ => none, clo := fun _ => none, T := tinf Tryz.prog }
noncomputable def loops_laws_eqPlace : Nat → Option Loop := fun n => none
theorem con_laws_eqPlace : ConOK Tryz.prog 113 c_laws_eqPlace := con_of_ev' (body := Tryz.f113.body.getD .skip) (Λ := loops_laws_eqPlace) mixed Tryz.func113 (by kernel_rfl) (by kernel_rfl) (envOK_of (E := env_laws_eqPlace) (fun f c h => by cases h) (fun f c h => by cases h) rfl) (by kernel_rfl) (by kernel_rfl) (fun n L h => by cases h) (fun _ => by kernel_rfl)

noncomputable def F_laws_eqMove (x : (ByteArray × Int) × (ByteArray × Int)) : Option (Bool) :=
 bif (!(x.1.1.toList == x.2.1.toList)) then
  some (false)
 else
  bif ((x.1.2 != x.2.2)) then
   some (false)
  else
   some (true)
noncomputable def c_laws_eqMove : Con := { ps := [(.val, (.st (.pair .str (.int .i64)))), (.val, (.st (.pair .str (.int .i64))))], rs := [(.val, .bool)], F := F_laws_eqMove }
noncomputable def env_laws_eqMove : Env := { par := [], dp := false, settle := [], con := fun _ => none, clo := fun _ => none, T := tinf Tryz.prog }
noncomputable def loops_laws_eqMove : Nat → Option Loop := fun n => none
theorem con_laws_eqMove : ConOK Tryz.prog 114 c_laws_eqMove := con_of_ev' (body := Tryz.f114.body.getD .skip) (Λ := loops_laws_eqMove) mixed Tryz.func114 (by kernel_rfl) (by kernel_rfl) (envOK_of (E := env_laws_eqMove) (fun f c h => by cases h) (fun f c h => by cases h) rfl) (by kernel_rfl) (by kernel_rfl) (fun n L h => by cases h) (fun _ => by kernel_rfl)

noncomputable def F_laws_eqHand (x : ((Int × (Int × (Int × (Int × (Int × Bool))))) × ((Int × Int) × ((Int × (Int × Bool)) × (ByteArray × Int)))) × ((Int × (Int × (Int × (Int × (Int × Bool))))) × ((Int × Int) × ((Int × (Int × Bool)) × (ByteArray × Int))))) : Option (Bool) :=
 match F_laws_eqShape ((x.1.1, x.2.1)) with
 | none => none
 | some y1 =>
  bif (!y1) then
   some (false)
  else
   match F_laws_eqOrient ((x.1.2.1, x.2.2.1)) with
   | none => none
   | some y2 =>
    bif (!y2) then
     some (false)
    else
     match F_laws_eqPlace ((x.1.2.2.1, x.2.2.2.1)) with
     | none => none
     | some y3 =>
      bif (!y3) then
       some (false)
      else
       match F_laws_eqMove ((x.1.2.2.2, x.2.2.2.2)) with
       | none => none
       | some y4 =>
        bif (!y4) then
         some (false)
        else
         some (true)
noncomputable def c_laws_eqHand : Con := { ps := [(.val, (.st (.pair (.st (.pair (.int .i64) (.pair (.int .i64) (.pair (.int .i64) (.pair (.int .i64) (.pair (.int .i64) .bool)))))) (.pair (.st (.pair (.int .i64) (.int .i64))) (.pair (.st (.pair (.int .i64) (.pair (.int .i64) .bool))) (.st (.pair .str (.int .i64)))))))), (.val, (.st (.pair (.st (.pair (.int .i64) (.pair (.int .i64) (.pair (.int .i64) (.pair (.int .i64) (.pair (.int .i64) .bool)))))) (.pair (.st (.pair (.int .i64) (.int .i64))) (.pair (.st (.pair (.int .i64) (.pair (.int .i64) .bool))) (.st (.pair .str (.int .i64))))))))], rs := [(.val, .bool)], F := F_laws_eqHand }
noncomputable def env_laws_eqHand : Env := { par := [], dp := false, settle := [], con := fun f => match f with | 111 => some c_laws_eqShape | 112 => some c_laws_eqOrient | 113 => some c_laws_eqPlace | 114 => some c_laws_eqMove | _ => none, clo := fun _ => none, T := tinf Tryz.prog }
noncomputable def loops_laws_eqHand : Nat → Option Loop := fun n => none
theorem con_laws_eqHand : ConOK Tryz.prog 68 c_laws_eqHand := con_of_ev' (body := Tryz.f68.body.getD .skip) (Λ := loops_laws_eqHand) mixed Tryz.func68 (by kernel_rfl) (by kernel_rfl) (envOK_of (E := env_laws_eqHand) (fun f c h => by
  simp only [env_laws_eqHand] at h
  split at h
  · cases h; exact con_laws_eqShape
  · cases h; exact con_laws_eqOrient
  · cases h; exact con_laws_eqPlace
  · cases h; exact con_laws_eqMove
  · cases h) (fun f c h => by cases h) rfl) (by kernel_rfl) (by kernel_rfl) (fun n L h => by cases h) (fun _ => by kernel_rfl)

noncomputable def F_laws_eqSign (x : (((Int × (Int × (Int × (Int × (Int × Bool))))) × ((Int × Int) × ((Int × (Int × Bool)) × (ByteArray × Int)))) × (Bool × ((Int × (Int × (Int × (Int × (Int × Bool))))) × ((Int × Int) × ((Int × (Int × Bool)) × (ByteArray × Int)))))) × (((Int × (Int × (Int × (Int × (Int × Bool))))) × ((Int × Int) × ((Int × (Int × Bool)) × (ByteArray × Int)))) × (Bool × ((Int × (Int × (Int × (Int × (Int × Bool))))) × ((Int × Int) × ((Int × (Int × Bool)) × (ByteArray × Int))))))) : Option (Bool) :=
 match F_laws_eqHand ((x.1.1, x.2.1)) with
 | none => none
 | some y1 =>
  bif (!y1) then
   some (false)
  else
   bif (!(x.1.2.1 == x.2.2.1)) then
    some (false)
   else
    match F_laws_eqHand ((x.1.2.2, x.2.2.2)) with
    | none => none
    | some y2 =>
     bif (!y2) then
      some (false)
     else
      some (true)
noncomputable def c_laws_eqSign : Con := { ps := [(.val, (.st (.pair (.st (.pair (.st (.pair (.int .i64) (.pair (.int .i64) (.pair (.int .i64) (.pair (.int .i64) (.pair (.int .i64) .bool)))))) (.pair (.st (.pair (.int .i64) (.int .i64))) (.pair (.st (.pair (.int .i64) (.pair (.int .i64) .bool))) (.st (.pair .str (.int .i64))))))) (.pair .bool (.st (.pair (.st (.pair (.int .i64) (.pair (.int .i64) (.pair (.int .i64) (.pair (.int .i64) (.pair (.int .i64) .bool)))))) (.pair (.st (.pair (.int .i64) (.int .i64))) (.pair (.st (.pair (.int .i64) (.pair (.int .i64) .bool))) (.st (.pair .str (.int .i64))))))))))), (.val, (.st (.pair (.st (.pair (.st (.pair (.int .i64) (.pair (.int .i64) (.pair (.int .i64) (.pair (.int .i64) (.pair (.int .i64) .bool)))))) (.pair (.st (.pair (.int .i64) (.int .i64))) (.pair (.st (.pair (.int .i64) (.pair (.int .i64) .bool))) (.st (.pair .str (.int .i64))))))) (.pair .bool (.st (.pair (.st (.pair (.int .i64) (.pair (.int .i64) (.pair (.int .i64) (.pair (.int .i64) (.pair (.int .i64) .bool)))))) (.pair (.st (.pair (.int .i64) (.int .i64))) (.pair (.st (.pair (.int .i64) (.pair (.int .i64) .bool))) (.st (.pair .str (.int .i64)))))))))))], rs := [(.val, .bool)], F := F_laws_eqSign }
noncomputable def env_laws_eqSign : Env := { par := [], dp := false, settle := [], con := fun f => match f with | 68 => some c_laws_eqHand | _ => none, clo := fun _ => none, T := tinf Tryz.prog }
noncomputable def loops_laws_eqSign : Nat → Option Loop := fun n => none
theorem con_laws_eqSign : ConOK Tryz.prog 28 c_laws_eqSign := con_of_ev' (body := Tryz.f28.body.getD .skip) (Λ := loops_laws_eqSign) mixed Tryz.func28 (by kernel_rfl) (by kernel_rfl) (envOK_of (E := env_laws_eqSign) (fun f c h => by
  simp only [env_laws_eqSign] at h
  split at h
  · cases h; exact con_laws_eqHand
  · cases h) (fun f c h => by cases h) rfl) (by kernel_rfl) (by kernel_rfl) (fun n L h => by cases h) (fun _ => by kernel_rfl)

noncomputable def F_laws_eqEntry (x : DT30 × DT30) : Option (Bool) :=
 bif (!(x.1.1.toList == x.2.1.toList)) then
  some (false)
 else
  match F_laws_eqSign ((x.1.2.1, x.2.2.1)) with
  | none => none
  | some y1 =>
   bif (!y1) then
    some (false)
   else
    bif ((x.1.2.2.1 != x.2.2.2.1)) then
     some (false)
    else
     bif ((x.1.2.2.2 != x.2.2.2.2)) then
      some (false)
     else
      some (true)
noncomputable def c_laws_eqEntry : Con := { ps := [(.val, TY30), (.val, TY30)], rs := [(.val, .bool)], F := F_laws_eqEntry }
noncomputable def env_laws_eqEntry : Env := { par := [], dp := false, settle := [], con := fun f => match f with | 28 => some c_laws_eqSign | _ => none, clo := fun _ => none, T := tinf Tryz.prog }
noncomputable def loops_laws_eqEntry : Nat → Option Loop := fun n => none
theorem con_laws_eqEntry : ConOK Tryz.prog 43 c_laws_eqEntry := con_of_ev' (body := Tryz.f43.body.getD .skip) (Λ := loops_laws_eqEntry) mixed Tryz.func43 (by kernel_rfl) (by kernel_rfl) (envOK_of (E := env_laws_eqEntry) (fun f c h => by
  simp only [env_laws_eqEntry] at h
  split at h
  · cases h; exact con_laws_eqSign
  · cases h) (fun f c h => by cases h) rfl) (by kernel_rfl) (by kernel_rfl) (fun n L h => by cases h) (fun _ => by kernel_rfl)

noncomputable def step_laws_eqEntryS_0 (s : (List DT30) × (List DT30) × Int) : Option (((List DT30) × (List DT30) × Int) ⊕ ((Bool) ⊕ (Unit))) :=
 bif (decide (s.2.2 < (s.1.length : Int))) then
  bif decide (0 ≤ s.2.2) && decide (s.2.2 < (s.1.length : Int)) then
   bif decide (0 ≤ s.2.2) && decide (s.2.2 < (s.2.1.length : Int)) then
    match F_laws_eqEntry (((s.1.getD (s.2.2).toNat dz30), (s.2.1.getD (s.2.2).toNat dz30))) with
    | none => none
    | some y3 =>
     bif (!y3) then
      some (.inr (.inl (false)))
     else
      let v4 := IntKind.i64.wrap (s.2.2 + 1)
      some (.inl ((s.1, s.2.1, v4)))
   else none
  else none
 else
  some (.inr (.inr (())))
def pat_laws_eqEntryS_0 : Pat := { tmps := .v (.slice TY30) :: .v (.slice TY30) :: .any :: .any :: .any :: .v (.int .i64) :: an 21 [], blks := [] }
def outs_laws_eqEntryS_0 : List (Exit × Pat) := [(.ret, { tmps := an 4 (.v .bool :: an 22 []), blks := [] }), (.exit 0, { tmps := an 27 [], blks := [] })]
noncomputable def F_laws_eqEntryS (x : (List DT30) × (List DT30)) : Option (Bool) :=
 bif (((x.1.length : Int) != (x.2.length : Int))) then
  some (false)
 else
  match runL step_laws_eqEntryS_0 ((x.1, x.2, 0)) with
  | none => none
  | some (.inl o5) =>
   some (o5)
  | some (.inr o5) =>
   some (true)
noncomputable def c_laws_eqEntryS : Con := { ps := [(.val, (.slice TY30)), (.val, (.slice TY30))], rs := [(.val, .bool)], F := F_laws_eqEntryS }
noncomputable def env_laws_eqEntryS : Env := { par := [], dp := false, settle := [], con := fun f => match f with | 43 => some c_laws_eqEntry | _ => none, clo := fun _ => none, T := tinf Tryz.prog }
noncomputable def loops_laws_eqEntryS : Nat → Option Loop := fun n => match n with | 4 => some { pat := pat_laws_eqEntryS_0, outs := outs_laws_eqEntryS_0, run := runL (step_laws_eqEntryS_0) } | _ => none
theorem con_laws_eqEntryS : ConOK Tryz.prog 11 c_laws_eqEntryS := con_of_ev' (body := Tryz.f11.body.getD .skip) (Λ := loops_laws_eqEntryS) mixed Tryz.func11 (by kernel_rfl) (by kernel_rfl) (envOK_of (E := env_laws_eqEntryS) (fun f c h => by
  simp only [env_laws_eqEntryS] at h
  split at h
  · cases h; exact con_laws_eqEntry
  · cases h) (fun f c h => by cases h) rfl) (by kernel_rfl) (by kernel_rfl) (fun n L h => by
  unfold loops_laws_eqEntryS at h
  split at h
  · cases h; exact fun s o ho => loop_ok (stepF := stepEv env_laws_eqEntryS loops_laws_eqEntryS pat_laws_eqEntryS_0 outs_laws_eqEntryS_0 Tryz.f11 4) (fun _ => by kernel_rfl) ho
  · cases h) (fun _ => by kernel_rfl)

noncomputable def step_laws_eqIntS_0 (s : (List Int) × (List Int) × Int) : Option (((List Int) × (List Int) × Int) ⊕ ((Bool) ⊕ (Unit))) :=
 bif (decide (s.2.2 < (s.1.length : Int))) then
  bif decide (0 ≤ s.2.2) && decide (s.2.2 < (s.1.length : Int)) then
   bif decide (0 ≤ s.2.2) && decide (s.2.2 < (s.2.1.length : Int)) then
    bif (((s.1.getD (s.2.2).toNat 0) != (s.2.1.getD (s.2.2).toNat 0))) then
     some (.inr (.inl (false)))
    else
     let v2 := IntKind.i64.wrap (s.2.2 + 1)
     some (.inl ((s.1, s.2.1, v2)))
   else none
  else none
 else
  some (.inr (.inr (())))
def pat_laws_eqIntS_0 : Pat := { tmps := .v (.slice (.int .i64)) :: .v (.slice (.int .i64)) :: .any :: .any :: .any :: .v (.int .i64) :: an 20 [], blks := [] }
def outs_laws_eqIntS_0 : List (Exit × Pat) := [(.ret, { tmps := an 4 (.v .bool :: an 21 []), blks := [] }), (.exit 0, { tmps := an 26 [], blks := [] })]
noncomputable def F_laws_eqIntS (x : (List Int) × (List Int)) : Option (Bool) :=
 bif (((x.1.length : Int) != (x.2.length : Int))) then
  some (false)
 else
  match runL step_laws_eqIntS_0 ((x.1, x.2, 0)) with
  | none => none
  | some (.inl o3) =>
   some (o3)
  | some (.inr o3) =>
   some (true)
noncomputable def c_laws_eqIntS : Con := { ps := [(.val, (.slice (.int .i64))), (.val, (.slice (.int .i64)))], rs := [(.val, .bool)], F := F_laws_eqIntS }
noncomputable def env_laws_eqIntS : Env := { par := [], dp := false, settle := [], con := fun _ => none, clo := fun _ => none, T := tinf Tryz.prog }
noncomputable def loops_laws_eqIntS : Nat → Option Loop := fun n => match n with | 4 => some { pat := pat_laws_eqIntS_0, outs := outs_laws_eqIntS_0, run := runL (step_laws_eqIntS_0) } | _ => none
theorem con_laws_eqIntS : ConOK Tryz.prog 12 c_laws_eqIntS := con_of_ev' (body := Tryz.f12.body.getD .skip) (Λ := loops_laws_eqIntS) mixed Tryz.func12 (by kernel_rfl) (by kernel_rfl) (envOK_of (E := env_laws_eqIntS) (fun f c h => by cases h) (fun f c h => by cases h) rfl) (by kernel_rfl) (by kernel_rfl) (fun n L h => by
  unfold loops_laws_eqIntS at h
  split at h
  · cases h; exact fun s o ho => loop_ok (stepF := stepEv env_laws_eqIntS loops_laws_eqIntS pat_laws_eqIntS_0 outs_laws_eqIntS_0 Tryz.f12 4) (fun _ => by kernel_rfl) ho
  · cases h) (fun _ => by kernel_rfl)

noncomputable def step_laws_markText_0 (s : Int × ByteArray) : Option ((Int × ByteArray) ⊕ ((ByteArray))) :=
 bif (decide (s.1 > 0)) then
  bif !decide (10 = 0) then
   let v5 := (s.1).tmod 10
   let v6 := IntKind.i64.wrap (48 + v5)
   let v7 := IntKind.u8.wrap v6
   bif decide ((bytesStr [v7]).size + s.2.size ≤ 9223372036854775807) then
    bif !decide (10 = 0) then
     let v8 := IntKind.i64.wrap ((s.1).tdiv 10)
     some (.inl ((v8, ((bytesStr [v7]) ++ s.2))))
    else none
   else none
  else none
 else
  some (.inr (s.2))
def pat_laws_markText_0 : Pat := { tmps := .v (.int .i64) :: .any :: .any :: .v .str :: an 16 [], blks := [] }
def outs_laws_markText_0 : List (Exit × Pat) := [(.exit 0, { tmps := .any :: .any :: .any :: .v .str :: an 16 [], blks := [] })]
noncomputable def F_laws_markText (x : Int) : Option (ByteArray) :=
 bif (decide (x ≤ 0)) then
  some ((⟨#[109, 48]⟩ : ByteArray))
 else
  match runL step_laws_markText_0 ((x, (⟨#[]⟩ : ByteArray))) with
  | none => none
  | some o9 =>
   bif decide ((⟨#[109]⟩ : ByteArray).size + o9.size ≤ 9223372036854775807) then
    some (((⟨#[109]⟩ : ByteArray) ++ o9))
   else none
noncomputable def c_laws_markText : Con := { ps := [(.val, (.int .i64))], rs := [(.val, .str)], F := F_laws_markText }
noncomputable def env_laws_markText : Env := { par := [], dp := false, settle := [], con := fun _ => none, clo := fun _ => none, T := tinf Tryz.prog }
noncomputable def loops_laws_markText : Nat → Option Loop := fun n => match n with | 4 => some { pat := pat_laws_markText_0, outs := outs_laws_markText_0, run := runL (step_laws_markText_0) } | _ => none
theorem con_laws_markText : ConOK Tryz.prog 44 c_laws_markText := con_of_ev' (body := Tryz.f44.body.getD .skip) (Λ := loops_laws_markText) mixed Tryz.func44 (by kernel_rfl) (by kernel_rfl) (envOK_of (E := env_laws_markText) (fun f c h => by cases h) (fun f c h => by cases h) rfl) (by kernel_rfl) (by kernel_rfl) (fun n L h => by
  unfold loops_laws_markText at h
  split at h
  · cases h; exact fun s o ho => loop_ok (stepF := stepEv env_laws_markText loops_laws_markText pat_laws_markText_0 outs_laws_markText_0 Tryz.f44 4) (fun _ => by kernel_rfl) ho
  · cases h) (fun _ => by kernel_rfl)

noncomputable def step_laws_markEntryS_0 (s : Int × Int × (List DT30)) : Option ((Int × Int × (List DT30)) ⊕ ((Int × (List DT30)))) :=
 bif (decide (s.2.1 < (s.2.2.length : Int))) then
  match F_laws_markText (s.1) with
  | none => none
  | some y100 =>
   bif decide (0 ≤ s.2.1) && decide (s.2.1 < (s.2.2.length : Int)) then
    let v101 := s.2.2.getD (s.2.1).toNat dz30
    let v102 := s.2.2.set (s.2.1).toNat ((y100, v101.2))
    let v103 := IntKind.i64.wrap (s.1 + 1)
    bif decide (0 ≤ s.2.1) && decide (s.2.1 < (v102.length : Int)) then
     let v104 := v102.getD (s.2.1).toNat dz30
     let v105 := v102.set (s.2.1).toNat ((v104.1, (((v103, v104.2.1.1.1.2), v104.2.1.1.2), v104.2.1.2), v104.2.2))
     let v106 := IntKind.i64.wrap (v103 + 1)
     bif decide (0 ≤ s.2.1) && decide (s.2.1 < (v105.length : Int)) then
      let v107 := v105.getD (s.2.1).toNat dz30
      let v108 := v105.set (s.2.1).toNat ((v107.1, (((v107.2.1.1.1.1, v106, v107.2.1.1.1.2.2), v107.2.1.1.2), v107.2.1.2), v107.2.2))
      let v109 := IntKind.i64.wrap (v106 + 1)
      bif decide (0 ≤ s.2.1) && decide (s.2.1 < (v108.length : Int)) then
       let v110 := v108.getD (s.2.1).toNat dz30
       let v111 := v108.set (s.2.1).toNat ((v110.1, (((v110.2.1.1.1.1, (v110.2.1.1.1.2.1, v109, v110.2.1.1.1.2.2.2)), v110.2.1.1.2), v110.2.1.2), v110.2.2))
       let v112 := IntKind.i64.wrap (v109 + 1)
       bif decide (0 ≤ s.2.1) && decide (s.2.1 < (v111.length : Int)) then
        let v113 := v111.getD (s.2.1).toNat dz30
        let v114 := v111.set (s.2.1).toNat ((v113.1, (((v113.2.1.1.1.1, v113.2.1.1.1.2.1, (v113.2.1.1.1.2.2.1, v112, v113.2.1.1.1.2.2.2.2)), v113.2.1.1.2), v113.2.1.2), v113.2.2))
        let v115 := IntKind.i64.wrap (v112 + 1)
        bif decide (0 ≤ s.2.1) && decide (s.2.1 < (v114.length : Int)) then
         let v116 := v114.getD (s.2.1).toNat dz30
         let v117 := v114.set (s.2.1).toNat ((v116.1, (((v116.2.1.1.1.1, (v116.2.1.1.1.2.1, v116.2.1.1.1.2.2.1, (v116.2.1.1.1.2.2.2.1, v115, v116.2.1.1.1.2.2.2.2.2))), v116.2.1.1.2), v116.2.1.2), v116.2.2))
         let v118 := IntKind.i64.wrap (v115 + 1)
         bif !decide (3 = 0) then
          let v119 := (v118).tmod 3
          bif decide (0 ≤ s.2.1) && decide (s.2.1 < (v117.length : Int)) then
           let v120 := v117.getD (s.2.1).toNat dz30
           let v121 := v117.set (s.2.1).toNat ((v120.1, (((v120.2.1.1.1.1, (v120.2.1.1.1.2.1, v120.2.1.1.1.2.2.1, (v120.2.1.1.1.2.2.2.1, v120.2.1.1.1.2.2.2.2.1, ((v119 == 0))))), v120.2.1.1.2), v120.2.1.2), v120.2.2))
           let v122 := IntKind.i64.wrap (v118 + 1)
           bif decide (0 ≤ s.2.1) && decide (s.2.1 < (v121.length : Int)) then
            let v123 := v121.getD (s.2.1).toNat dz30
            let v124 := v121.set (s.2.1).toNat ((v123.1, ((v123.2.1.1.1, (v122, v123.2.1.1.2.1.2), v123.2.1.1.2.2), v123.2.1.2), v123.2.2))
            let v125 := IntKind.i64.wrap (v122 + 1)
            bif decide (0 ≤ s.2.1) && decide (s.2.1 < (v124.length : Int)) then
             let v126 := v124.getD (s.2.1).toNat dz30
             let v127 := v124.set (s.2.1).toNat ((v126.1, ((v126.2.1.1.1, (v126.2.1.1.2.1.1, v125), v126.2.1.1.2.2), v126.2.1.2), v126.2.2))
             let v128 := IntKind.i64.wrap (v125 + 1)
             bif decide (0 ≤ s.2.1) && decide (s.2.1 < (v127.length : Int)) then
              let v129 := v127.getD (s.2.1).toNat dz30
              let v130 := v127.set (s.2.1).toNat ((v129.1, ((v129.2.1.1.1, (v129.2.1.1.2.1, (v128, v129.2.1.1.2.2.1.2), v129.2.1.1.2.2.2)), v129.2.1.2), v129.2.2))
              let v131 := IntKind.i64.wrap (v128 + 1)
              bif decide (0 ≤ s.2.1) && decide (s.2.1 < (v130.length : Int)) then
               let v132 := v130.getD (s.2.1).toNat dz30
               let v133 := v130.set (s.2.1).toNat ((v132.1, ((v132.2.1.1.1, (v132.2.1.1.2.1, (v132.2.1.1.2.2.1.1, v131, v132.2.1.1.2.2.1.2.2), v132.2.1.1.2.2.2)), v132.2.1.2), v132.2.2))
               let v134 := IntKind.i64.wrap (v131 + 1)
               bif !decide (3 = 0) then
                let v135 := (v134).tmod 3
                bif decide (0 ≤ s.2.1) && decide (s.2.1 < (v133.length : Int)) then
                 let v136 := v133.getD (s.2.1).toNat dz30
                 let v137 := v133.set (s.2.1).toNat ((v136.1, ((v136.2.1.1.1, (v136.2.1.1.2.1, (v136.2.1.1.2.2.1.1, v136.2.1.1.2.2.1.2.1, ((v135 == 0))), v136.2.1.1.2.2.2)), v136.2.1.2), v136.2.2))
                 let v138 := IntKind.i64.wrap (v134 + 1)
                 match F_laws_markText (v138) with
                 | none => none
                 | some y139 =>
                  bif decide (0 ≤ s.2.1) && decide (s.2.1 < (v137.length : Int)) then
                   let v140 := v137.getD (s.2.1).toNat dz30
                   let v141 := v137.set (s.2.1).toNat ((v140.1, ((v140.2.1.1.1, v140.2.1.1.2.1, (v140.2.1.1.2.2.1, y139, v140.2.1.1.2.2.2.2)), v140.2.1.2), v140.2.2))
                   let v142 := IntKind.i64.wrap (v138 + 1)
                   bif decide (0 ≤ s.2.1) && decide (s.2.1 < (v141.length : Int)) then
                    let v143 := v141.getD (s.2.1).toNat dz30
                    let v144 := v141.set (s.2.1).toNat ((v143.1, ((v143.2.1.1.1, v143.2.1.1.2.1, (v143.2.1.1.2.2.1, v143.2.1.1.2.2.2.1, v142)), v143.2.1.2), v143.2.2))
                    let v145 := IntKind.i64.wrap (v142 + 1)
                    bif !decide (3 = 0) then
                     let v146 := (v145).tmod 3
                     bif decide (0 ≤ s.2.1) && decide (s.2.1 < (v144.length : Int)) then
                      let v147 := v144.getD (s.2.1).toNat dz30
                      let v148 := v144.set (s.2.1).toNat ((v147.1, (v147.2.1.1, ((v146 == 0)), v147.2.1.2.2), v147.2.2))
                      let v149 := IntKind.i64.wrap (v145 + 1)
                      bif decide (0 ≤ s.2.1) && decide (s.2.1 < (v148.length : Int)) then
                       let v150 := v148.getD (s.2.1).toNat dz30
                       let v151 := v148.set (s.2.1).toNat ((v150.1, (v150.2.1.1, (v150.2.1.2.1, (v149, v150.2.1.2.2.1.2), v150.2.1.2.2.2)), v150.2.2))
                       let v152 := IntKind.i64.wrap (v149 + 1)
                       bif decide (0 ≤ s.2.1) && decide (s.2.1 < (v151.length : Int)) then
                        let v153 := v151.getD (s.2.1).toNat dz30
                        let v154 := v151.set (s.2.1).toNat ((v153.1, (v153.2.1.1, (v153.2.1.2.1, (v153.2.1.2.2.1.1, v152, v153.2.1.2.2.1.2.2), v153.2.1.2.2.2)), v153.2.2))
                        let v155 := IntKind.i64.wrap (v152 + 1)
                        bif decide (0 ≤ s.2.1) && decide (s.2.1 < (v154.length : Int)) then
                         let v156 := v154.getD (s.2.1).toNat dz30
                         let v157 := v154.set (s.2.1).toNat ((v156.1, (v156.2.1.1, (v156.2.1.2.1, (v156.2.1.2.2.1.1, (v156.2.1.2.2.1.2.1, v155, v156.2.1.2.2.1.2.2.2)), v156.2.1.2.2.2)), v156.2.2))
                         let v158 := IntKind.i64.wrap (v155 + 1)
                         bif decide (0 ≤ s.2.1) && decide (s.2.1 < (v157.length : Int)) then
                          let v159 := v157.getD (s.2.1).toNat dz30
                          let v160 := v157.set (s.2.1).toNat ((v159.1, (v159.2.1.1, (v159.2.1.2.1, (v159.2.1.2.2.1.1, v159.2.1.2.2.1.2.1, (v159.2.1.2.2.1.2.2.1, v158, v159.2.1.2.2.1.2.2.2.2)), v159.2.1.2.2.2)), v159.2.2))
                          let v161 := IntKind.i64.wrap (v158 + 1)
                          bif decide (0 ≤ s.2.1) && decide (s.2.1 < (v160.length : Int)) then
                           let v162 := v160.getD (s.2.1).toNat dz30
                           let v163 := v160.set (s.2.1).toNat ((v162.1, (v162.2.1.1, (v162.2.1.2.1, (v162.2.1.2.2.1.1, (v162.2.1.2.2.1.2.1, v162.2.1.2.2.1.2.2.1, (v162.2.1.2.2.1.2.2.2.1, v161, v162.2.1.2.2.1.2.2.2.2.2))), v162.2.1.2.2.2)), v162.2.2))
                           let v164 := IntKind.i64.wrap (v161 + 1)
                           bif !decide (3 = 0) then
                            let v165 := (v164).tmod 3
                            bif decide (0 ≤ s.2.1) && decide (s.2.1 < (v163.length : Int)) then
                             let v166 := v163.getD (s.2.1).toNat dz30
                             let v167 := v163.set (s.2.1).toNat ((v166.1, (v166.2.1.1, (v166.2.1.2.1, (v166.2.1.2.2.1.1, (v166.2.1.2.2.1.2.1, v166.2.1.2.2.1.2.2.1, (v166.2.1.2.2.1.2.2.2.1, v166.2.1.2.2.1.2.2.2.2.1, ((v165 == 0))))), v166.2.1.2.2.2)), v166.2.2))
                             let v168 := IntKind.i64.wrap (v164 + 1)
                             bif decide (0 ≤ s.2.1) && decide (s.2.1 < (v167.length : Int)) then
                              let v169 := v167.getD (s.2.1).toNat dz30
                              let v170 := v167.set (s.2.1).toNat ((v169.1, (v169.2.1.1, v169.2.1.2.1, (v169.2.1.2.2.1, (v168, v169.2.1.2.2.2.1.2), v169.2.1.2.2.2.2)), v169.2.2))
                              let v171 := IntKind.i64.wrap (v168 + 1)
                              bif decide (0 ≤ s.2.1) && decide (s.2.1 < (v170.length : Int)) then
                               let v172 := v170.getD (s.2.1).toNat dz30
                               let v173 := v170.set (s.2.1).toNat ((v172.1, (v172.2.1.1, v172.2.1.2.1, (v172.2.1.2.2.1, (v172.2.1.2.2.2.1.1, v171), v172.2.1.2.2.2.2)), v172.2.2))
                               let v174 := IntKind.i64.wrap (v171 + 1)
                               bif decide (0 ≤ s.2.1) && decide (s.2.1 < (v173.length : Int)) then
                                let v175 := v173.getD (s.2.1).toNat dz30
                                let v176 := v173.set (s.2.1).toNat ((v175.1, (v175.2.1.1, (v175.2.1.2.1, v175.2.1.2.2.1, (v175.2.1.2.2.2.1, (v174, v175.2.1.2.2.2.2.1.2), v175.2.1.2.2.2.2.2))), v175.2.2))
                                let v177 := IntKind.i64.wrap (v174 + 1)
                                bif decide (0 ≤ s.2.1) && decide (s.2.1 < (v176.length : Int)) then
                                 let v178 := v176.getD (s.2.1).toNat dz30
                                 let v179 := v176.set (s.2.1).toNat ((v178.1, (v178.2.1.1, (v178.2.1.2.1, v178.2.1.2.2.1, (v178.2.1.2.2.2.1, (v178.2.1.2.2.2.2.1.1, v177, v178.2.1.2.2.2.2.1.2.2), v178.2.1.2.2.2.2.2))), v178.2.2))
                                 let v180 := IntKind.i64.wrap (v177 + 1)
                                 bif !decide (3 = 0) then
                                  let v181 := (v180).tmod 3
                                  bif decide (0 ≤ s.2.1) && decide (s.2.1 < (v179.length : Int)) then
                                   let v182 := v179.getD (s.2.1).toNat dz30
                                   let v183 := v179.set (s.2.1).toNat ((v182.1, (v182.2.1.1, (v182.2.1.2.1, v182.2.1.2.2.1, (v182.2.1.2.2.2.1, (v182.2.1.2.2.2.2.1.1, v182.2.1.2.2.2.2.1.2.1, ((v181 == 0))), v182.2.1.2.2.2.2.2))), v182.2.2))
                                   let v184 := IntKind.i64.wrap (v180 + 1)
                                   match F_laws_markText (v184) with
                                   | none => none
                                   | some y185 =>
                                    bif decide (0 ≤ s.2.1) && decide (s.2.1 < (v183.length : Int)) then
                                     let v186 := v183.getD (s.2.1).toNat dz30
                                     let v187 := v183.set (s.2.1).toNat ((v186.1, (v186.2.1.1, v186.2.1.2.1, (v186.2.1.2.2.1, v186.2.1.2.2.2.1, (v186.2.1.2.2.2.2.1, y185, v186.2.1.2.2.2.2.2.2))), v186.2.2))
                                     let v188 := IntKind.i64.wrap (v184 + 1)
                                     bif decide (0 ≤ s.2.1) && decide (s.2.1 < (v187.length : Int)) then
                                      let v189 := v187.getD (s.2.1).toNat dz30
                                      let v190 := v187.set (s.2.1).toNat ((v189.1, (v189.2.1.1, v189.2.1.2.1, (v189.2.1.2.2.1, v189.2.1.2.2.2.1, (v189.2.1.2.2.2.2.1, v189.2.1.2.2.2.2.2.1, v188))), v189.2.2))
                                      let v191 := IntKind.i64.wrap (v188 + 1)
                                      bif decide (0 ≤ s.2.1) && decide (s.2.1 < (v190.length : Int)) then
                                       let v192 := v190.getD (s.2.1).toNat dz30
                                       let v193 := v190.set (s.2.1).toNat ((v192.1, (v192.2.1, v191, v192.2.2.2)))
                                       let v194 := IntKind.i64.wrap (v191 + 1)
                                       bif decide (0 ≤ s.2.1) && decide (s.2.1 < (v193.length : Int)) then
                                        let v195 := v193.getD (s.2.1).toNat dz30
                                        let v196 := v193.set (s.2.1).toNat ((v195.1, (v195.2.1, v195.2.2.1, v194)))
                                        let v197 := IntKind.i64.wrap (v194 + 1)
                                        let v198 := IntKind.i64.wrap (s.2.1 + 1)
                                        some (.inl ((v197, v198, v196)))
                                       else none
                                      else none
                                     else none
                                    else none
                                  else none
                                 else none
                                else none
                               else none
                              else none
                             else none
                            else none
                           else none
                          else none
                         else none
                        else none
                       else none
                      else none
                     else none
                    else none
                   else none
                  else none
                else none
               else none
              else none
             else none
            else none
           else none
          else none
         else none
        else none
       else none
      else none
     else none
    else none
   else none
 else
  some (.inr ((s.1, s.2.2)))
def pat_laws_markEntryS_0 : Pat := { tmps := .own 63 :: .v (.int .i64) :: .any :: .any :: .any :: .v (.int .i64) :: an 309 [], blks := [(63, .row true TY30)] }
def outs_laws_markEntryS_0 : List (Exit × Pat) := [(.exit 0, { tmps := .any :: .v (.int .i64) :: an 313 [], blks := [(63, .row true TY30)] })]
noncomputable def F_laws_markEntryS (x : (List DT30) × Int) : Option ((List DT30) × Int) :=
 match runL step_laws_markEntryS_0 ((x.2, 0, x.1)) with
 | none => none
 | some o199 =>
  some ((o199.2, o199.1))
noncomputable def c_laws_markEntryS : Con := { ps := [(.io true, (.slice TY30)), (.val, (.int .i64))], rs := [(.val, (.int .i64))], F := F_laws_markEntryS }
noncomputable def env_laws_markEntryS : Env := { par := [63], dp := false, settle := [], con := fun f => match f with | 44 => some c_laws_markText | _ => none, clo := fun _ => none, T := tinf Tryz.prog }
noncomputable def loops_laws_markEntryS : Nat → Option Loop := fun n => match n with | 2 => some { pat := pat_laws_markEntryS_0, outs := outs_laws_markEntryS_0, run := runL (step_laws_markEntryS_0) } | _ => none
theorem step_laws_markEntryS_0_eq (s : Int × Int × (List DT30)) : stepEv env_laws_markEntryS loops_laws_markEntryS pat_laws_markEntryS_0 outs_laws_markEntryS_0 Tryz.f13 2 s = step_laws_markEntryS_0 s := by kernel_rfl
theorem F_laws_markEntryS_eq (x : (List DT30) × Int) : Fev env_laws_markEntryS loops_laws_markEntryS c_laws_markEntryS.ps c_laws_markEntryS.rs Tryz.f13 x = F_laws_markEntryS x := by kernel_rfl
theorem env_laws_markEntryS_ok : EnvOK Tryz.prog env_laws_markEntryS := envOK_of (fun f c h => by
  simp only [env_laws_markEntryS] at h
  split at h
  · cases h; exact con_laws_markText
  · cases h) (fun f c h => by cases h) rfl
theorem con_laws_markEntryS : ConOK Tryz.prog 13 c_laws_markEntryS := con_of_ev' (body := Tryz.f13.body.getD .skip) (Λ := loops_laws_markEntryS) mixed Tryz.func13 (by kernel_rfl) (by kernel_rfl) env_laws_markEntryS_ok (by kernel_rfl) (by kernel_rfl) (fun n L h => by
  unfold loops_laws_markEntryS at h
  split at h
  · cases h; exact fun s o ho => loop_ok (stepF := stepEv env_laws_markEntryS loops_laws_markEntryS pat_laws_markEntryS_0 outs_laws_markEntryS_0 Tryz.f13 2) (step_laws_markEntryS_0_eq) ho
  · cases h) F_laws_markEntryS_eq

noncomputable def step_laws_markIntS_0 (s : Int × Int × (List Int)) : Option ((Int × Int × (List Int)) ⊕ ((Int × (List Int)))) :=
 bif (decide (s.2.1 < (s.2.2.length : Int))) then
  bif decide (0 ≤ s.2.1) && decide (s.2.1 < (s.2.2.length : Int)) then
   let v4 := s.2.2.set (s.2.1).toNat (s.1)
   let v5 := IntKind.i64.wrap (s.1 + 1)
   let v6 := IntKind.i64.wrap (s.2.1 + 1)
   some (.inl ((v5, v6, v4)))
  else none
 else
  some (.inr ((s.1, s.2.2)))
def pat_laws_markIntS_0 : Pat := { tmps := .own 63 :: .v (.int .i64) :: .any :: .any :: .any :: .v (.int .i64) :: an 13 [], blks := [(63, .row true (.int .i64))] }
def outs_laws_markIntS_0 : List (Exit × Pat) := [(.exit 0, { tmps := .any :: .v (.int .i64) :: an 17 [], blks := [(63, .row true (.int .i64))] })]
noncomputable def F_laws_markIntS (x : (List Int) × Int) : Option ((List Int) × Int) :=
 match runL step_laws_markIntS_0 ((x.2, 0, x.1)) with
 | none => none
 | some o7 =>
  some ((o7.2, o7.1))
noncomputable def c_laws_markIntS : Con := { ps := [(.io true, (.slice (.int .i64))), (.val, (.int .i64))], rs := [(.val, (.int .i64))], F := F_laws_markIntS }
noncomputable def env_laws_markIntS : Env := { par := [63], dp := false, settle := [], con := fun _ => none, clo := fun _ => none, T := tinf Tryz.prog }
noncomputable def loops_laws_markIntS : Nat → Option Loop := fun n => match n with | 2 => some { pat := pat_laws_markIntS_0, outs := outs_laws_markIntS_0, run := runL (step_laws_markIntS_0) } | _ => none
theorem con_laws_markIntS : ConOK Tryz.prog 14 c_laws_markIntS := con_of_ev' (body := Tryz.f14.body.getD .skip) (Λ := loops_laws_markIntS) mixed Tryz.func14 (by kernel_rfl) (by kernel_rfl) (envOK_of (E := env_laws_markIntS) (fun f c h => by cases h) (fun f c h => by cases h) rfl) (by kernel_rfl) (by kernel_rfl) (fun n L h => by
  unfold loops_laws_markIntS at h
  split at h
  · cases h; exact fun s o ho => loop_ok (stepF := stepEv env_laws_markIntS loops_laws_markIntS pat_laws_markIntS_0 outs_laws_markIntS_0 Tryz.f14 2) (fun _ => by kernel_rfl) ho
  · cases h) (fun _ => by kernel_rfl)

noncomputable def step_laws_heldEntryS_0 (s : (List DT30) × Int × Int) : Option (((List DT30) × Int × Int) ⊕ ((Int) ⊕ (Int))) :=
 bif (decide (s.2.2 < (s.1.length : Int))) then
  bif decide (0 ≤ s.2.2) && decide (s.2.2 < (s.1.length : Int)) then
   match F_laws_markText (s.2.1) with
   | none => none
   | some y40 =>
    bif (!((s.1.getD (s.2.2).toNat dz30).1.toList == y40.toList)) then
     some (.inr (.inl ((-1))))
    else
     let v41 := IntKind.i64.wrap (s.2.1 + 1)
     bif decide (0 ≤ s.2.2) && decide (s.2.2 < (s.1.length : Int)) then
      bif (((s.1.getD (s.2.2).toNat dz30).2.1.1.1.1 != v41)) then
       some (.inr (.inl ((-1))))
      else
       let v42 := IntKind.i64.wrap (v41 + 1)
       bif decide (0 ≤ s.2.2) && decide (s.2.2 < (s.1.length : Int)) then
        bif (((s.1.getD (s.2.2).toNat dz30).2.1.1.1.2.1 != v42)) then
         some (.inr (.inl ((-1))))
        else
         let v43 := IntKind.i64.wrap (v42 + 1)
         bif decide (0 ≤ s.2.2) && decide (s.2.2 < (s.1.length : Int)) then
          bif (((s.1.getD (s.2.2).toNat dz30).2.1.1.1.2.2.1 != v43)) then
           some (.inr (.inl ((-1))))
          else
           let v44 := IntKind.i64.wrap (v43 + 1)
           bif decide (0 ≤ s.2.2) && decide (s.2.2 < (s.1.length : Int)) then
            bif (((s.1.getD (s.2.2).toNat dz30).2.1.1.1.2.2.2.1 != v44)) then
             some (.inr (.inl ((-1))))
            else
             let v45 := IntKind.i64.wrap (v44 + 1)
             bif decide (0 ≤ s.2.2) && decide (s.2.2 < (s.1.length : Int)) then
              bif (((s.1.getD (s.2.2).toNat dz30).2.1.1.1.2.2.2.2.1 != v45)) then
               some (.inr (.inl ((-1))))
              else
               let v46 := IntKind.i64.wrap (v45 + 1)
               bif decide (0 ≤ s.2.2) && decide (s.2.2 < (s.1.length : Int)) then
                bif !decide (3 = 0) then
                 let v47 := (v46).tmod 3
                 bif (!((s.1.getD (s.2.2).toNat dz30).2.1.1.1.2.2.2.2.2 == ((v47 == 0)))) then
                  some (.inr (.inl ((-1))))
                 else
                  let v48 := IntKind.i64.wrap (v46 + 1)
                  bif decide (0 ≤ s.2.2) && decide (s.2.2 < (s.1.length : Int)) then
                   bif (((s.1.getD (s.2.2).toNat dz30).2.1.1.2.1.1 != v48)) then
                    some (.inr (.inl ((-1))))
                   else
                    let v49 := IntKind.i64.wrap (v48 + 1)
                    bif decide (0 ≤ s.2.2) && decide (s.2.2 < (s.1.length : Int)) then
                     bif (((s.1.getD (s.2.2).toNat dz30).2.1.1.2.1.2 != v49)) then
                      some (.inr (.inl ((-1))))
                     else
                      let v50 := IntKind.i64.wrap (v49 + 1)
                      bif decide (0 ≤ s.2.2) && decide (s.2.2 < (s.1.length : Int)) then
                       bif (((s.1.getD (s.2.2).toNat dz30).2.1.1.2.2.1.1 != v50)) then
                        some (.inr (.inl ((-1))))
                       else
                        let v51 := IntKind.i64.wrap (v50 + 1)
                        bif decide (0 ≤ s.2.2) && decide (s.2.2 < (s.1.length : Int)) then
                         bif (((s.1.getD (s.2.2).toNat dz30).2.1.1.2.2.1.2.1 != v51)) then
                          some (.inr (.inl ((-1))))
                         else
                          let v52 := IntKind.i64.wrap (v51 + 1)
                          bif decide (0 ≤ s.2.2) && decide (s.2.2 < (s.1.length : Int)) then
                           bif !decide (3 = 0) then
                            let v53 := (v52).tmod 3
                            bif (!((s.1.getD (s.2.2).toNat dz30).2.1.1.2.2.1.2.2 == ((v53 == 0)))) then
                             some (.inr (.inl ((-1))))
                            else
                             let v54 := IntKind.i64.wrap (v52 + 1)
                             bif decide (0 ≤ s.2.2) && decide (s.2.2 < (s.1.length : Int)) then
                              match F_laws_markText (v54) with
                              | none => none
                              | some y55 =>
                               bif (!((s.1.getD (s.2.2).toNat dz30).2.1.1.2.2.2.1.toList == y55.toList)) then
                                some (.inr (.inl ((-1))))
                               else
                                let v56 := IntKind.i64.wrap (v54 + 1)
                                bif decide (0 ≤ s.2.2) && decide (s.2.2 < (s.1.length : Int)) then
                                 bif (((s.1.getD (s.2.2).toNat dz30).2.1.1.2.2.2.2 != v56)) then
                                  some (.inr (.inl ((-1))))
                                 else
                                  let v57 := IntKind.i64.wrap (v56 + 1)
                                  bif decide (0 ≤ s.2.2) && decide (s.2.2 < (s.1.length : Int)) then
                                   bif !decide (3 = 0) then
                                    let v58 := (v57).tmod 3
                                    bif (!((s.1.getD (s.2.2).toNat dz30).2.1.2.1 == ((v58 == 0)))) then
                                     some (.inr (.inl ((-1))))
                                    else
                                     let v59 := IntKind.i64.wrap (v57 + 1)
                                     bif decide (0 ≤ s.2.2) && decide (s.2.2 < (s.1.length : Int)) then
                                      bif (((s.1.getD (s.2.2).toNat dz30).2.1.2.2.1.1 != v59)) then
                                       some (.inr (.inl ((-1))))
                                      else
                                       let v60 := IntKind.i64.wrap (v59 + 1)
                                       bif decide (0 ≤ s.2.2) && decide (s.2.2 < (s.1.length : Int)) then
                                        bif (((s.1.getD (s.2.2).toNat dz30).2.1.2.2.1.2.1 != v60)) then
                                         some (.inr (.inl ((-1))))
                                        else
                                         let v61 := IntKind.i64.wrap (v60 + 1)
                                         bif decide (0 ≤ s.2.2) && decide (s.2.2 < (s.1.length : Int)) then
                                          bif (((s.1.getD (s.2.2).toNat dz30).2.1.2.2.1.2.2.1 != v61)) then
                                           some (.inr (.inl ((-1))))
                                          else
                                           let v62 := IntKind.i64.wrap (v61 + 1)
                                           bif decide (0 ≤ s.2.2) && decide (s.2.2 < (s.1.length : Int)) then
                                            bif (((s.1.getD (s.2.2).toNat dz30).2.1.2.2.1.2.2.2.1 != v62)) then
                                             some (.inr (.inl ((-1))))
                                            else
                                             let v63 := IntKind.i64.wrap (v62 + 1)
                                             bif decide (0 ≤ s.2.2) && decide (s.2.2 < (s.1.length : Int)) then
                                              bif (((s.1.getD (s.2.2).toNat dz30).2.1.2.2.1.2.2.2.2.1 != v63)) then
                                               some (.inr (.inl ((-1))))
                                              else
                                               let v64 := IntKind.i64.wrap (v63 + 1)
                                               bif decide (0 ≤ s.2.2) && decide (s.2.2 < (s.1.length : Int)) then
                                                bif !decide (3 = 0) then
                                                 let v65 := (v64).tmod 3
                                                 bif (!((s.1.getD (s.2.2).toNat dz30).2.1.2.2.1.2.2.2.2.2 == ((v65 == 0)))) then
                                                  some (.inr (.inl ((-1))))
                                                 else
                                                  let v66 := IntKind.i64.wrap (v64 + 1)
                                                  bif decide (0 ≤ s.2.2) && decide (s.2.2 < (s.1.length : Int)) then
                                                   bif (((s.1.getD (s.2.2).toNat dz30).2.1.2.2.2.1.1 != v66)) then
                                                    some (.inr (.inl ((-1))))
                                                   else
                                                    let v67 := IntKind.i64.wrap (v66 + 1)
                                                    bif decide (0 ≤ s.2.2) && decide (s.2.2 < (s.1.length : Int)) then
                                                     bif (((s.1.getD (s.2.2).toNat dz30).2.1.2.2.2.1.2 != v67)) then
                                                      some (.inr (.inl ((-1))))
                                                     else
                                                      let v68 := IntKind.i64.wrap (v67 + 1)
                                                      bif decide (0 ≤ s.2.2) && decide (s.2.2 < (s.1.length : Int)) then
                                                       bif (((s.1.getD (s.2.2).toNat dz30).2.1.2.2.2.2.1.1 != v68)) then
                                                        some (.inr (.inl ((-1))))
                                                       else
                                                        let v69 := IntKind.i64.wrap (v68 + 1)
                                                        bif decide (0 ≤ s.2.2) && decide (s.2.2 < (s.1.length : Int)) then
                                                         bif (((s.1.getD (s.2.2).toNat dz30).2.1.2.2.2.2.1.2.1 != v69)) then
                                                          some (.inr (.inl ((-1))))
                                                         else
                                                          let v70 := IntKind.i64.wrap (v69 + 1)
                                                          bif decide (0 ≤ s.2.2) && decide (s.2.2 < (s.1.length : Int)) then
                                                           bif !decide (3 = 0) then
                                                            let v71 := (v70).tmod 3
                                                            bif (!((s.1.getD (s.2.2).toNat dz30).2.1.2.2.2.2.1.2.2 == ((v71 == 0)))) then
                                                             some (.inr (.inl ((-1))))
                                                            else
                                                             let v72 := IntKind.i64.wrap (v70 + 1)
                                                             bif decide (0 ≤ s.2.2) && decide (s.2.2 < (s.1.length : Int)) then
                                                              match F_laws_markText (v72) with
                                                              | none => none
                                                              | some y73 =>
                                                               bif (!((s.1.getD (s.2.2).toNat dz30).2.1.2.2.2.2.2.1.toList == y73.toList)) then
                                                                some (.inr (.inl ((-1))))
                                                               else
                                                                let v74 := IntKind.i64.wrap (v72 + 1)
                                                                bif decide (0 ≤ s.2.2) && decide (s.2.2 < (s.1.length : Int)) then
                                                                 bif (((s.1.getD (s.2.2).toNat dz30).2.1.2.2.2.2.2.2 != v74)) then
                                                                  some (.inr (.inl ((-1))))
                                                                 else
                                                                  let v75 := IntKind.i64.wrap (v74 + 1)
                                                                  bif decide (0 ≤ s.2.2) && decide (s.2.2 < (s.1.length : Int)) then
                                                                   bif (((s.1.getD (s.2.2).toNat dz30).2.2.1 != v75)) then
                                                                    some (.inr (.inl ((-1))))
                                                                   else
                                                                    let v76 := IntKind.i64.wrap (v75 + 1)
                                                                    bif decide (0 ≤ s.2.2) && decide (s.2.2 < (s.1.length : Int)) then
                                                                     bif (((s.1.getD (s.2.2).toNat dz30).2.2.2 != v76)) then
                                                                      some (.inr (.inl ((-1))))
                                                                     else
                                                                      let v77 := IntKind.i64.wrap (v76 + 1)
                                                                      let v78 := IntKind.i64.wrap (s.2.2 + 1)
                                                                      some (.inl ((s.1, v77, v78)))
                                                                    else none
                                                                  else none
                                                                else none
                                                             else none
                                                           else none
                                                          else none
                                                        else none
                                                      else none
                                                    else none
                                                  else none
                                                else none
                                               else none
                                             else none
                                           else none
                                         else none
                                       else none
                                     else none
                                   else none
                                  else none
                                else none
                             else none
                           else none
                          else none
                        else none
                      else none
                    else none
                  else none
                else none
               else none
             else none
           else none
         else none
       else none
     else none
  else none
 else
  some (.inr (.inr (s.2.1)))
def pat_laws_heldEntryS_0 : Pat := { tmps := .v (.slice TY30) :: .v (.int .i64) :: .any :: .any :: .any :: .v (.int .i64) :: an 369 [], blks := [] }
def outs_laws_heldEntryS_0 : List (Exit × Pat) := [(.ret, { tmps := an 4 (.v (.int .i64) :: an 370 []), blks := [] }), (.exit 0, { tmps := .any :: .v (.int .i64) :: an 373 [], blks := [] })]
noncomputable def F_laws_heldEntryS (x : (List DT30) × Int) : Option (Int) :=
 match runL step_laws_heldEntryS_0 ((x.1, x.2, 0)) with
 | none => none
 | some (.inl o79) =>
  some (o79)
 | some (.inr o79) =>
  some (o79)
noncomputable def c_laws_heldEntryS : Con := { ps := [(.val, (.slice TY30)), (.val, (.int .i64))], rs := [(.val, (.int .i64))], F := F_laws_heldEntryS }
noncomputable def env_laws_heldEntryS : Env := { par := [], dp := false, settle := [], con := fun f => match f with | 44 => some c_laws_markText | _ => none, clo := fun _ => none, T := tinf Tryz.prog }
noncomputable def loops_laws_heldEntryS : Nat → Option Loop := fun n => match n with | 2 => some { pat := pat_laws_heldEntryS_0, outs := outs_laws_heldEntryS_0, run := runL (step_laws_heldEntryS_0) } | _ => none
theorem step_laws_heldEntryS_0_eq (s : (List DT30) × Int × Int) : stepEv env_laws_heldEntryS loops_laws_heldEntryS pat_laws_heldEntryS_0 outs_laws_heldEntryS_0 Tryz.f15 2 s = step_laws_heldEntryS_0 s := by kernel_rfl
theorem F_laws_heldEntryS_eq (x : (List DT30) × Int) : Fev env_laws_heldEntryS loops_laws_heldEntryS c_laws_heldEntryS.ps c_laws_heldEntryS.rs Tryz.f15 x = F_laws_heldEntryS x := by kernel_rfl
theorem env_laws_heldEntryS_ok : EnvOK Tryz.prog env_laws_heldEntryS := envOK_of (fun f c h => by
  simp only [env_laws_heldEntryS] at h
  split at h
  · cases h; exact con_laws_markText
  · cases h) (fun f c h => by cases h) rfl
theorem con_laws_heldEntryS : ConOK Tryz.prog 15 c_laws_heldEntryS := con_of_ev' (body := Tryz.f15.body.getD .skip) (Λ := loops_laws_heldEntryS) mixed Tryz.func15 (by kernel_rfl) (by kernel_rfl) env_laws_heldEntryS_ok (by kernel_rfl) (by kernel_rfl) (fun n L h => by
  unfold loops_laws_heldEntryS at h
  split at h
  · cases h; exact fun s o ho => loop_ok (stepF := stepEv env_laws_heldEntryS loops_laws_heldEntryS pat_laws_heldEntryS_0 outs_laws_heldEntryS_0 Tryz.f15 2) (step_laws_heldEntryS_0_eq) ho
  · cases h) F_laws_heldEntryS_eq

noncomputable def step_laws_heldIntS_0 (s : (List Int) × Int × Int) : Option (((List Int) × Int × Int) ⊕ ((Int) ⊕ (Int))) :=
 bif (decide (s.2.2 < (s.1.length : Int))) then
  bif decide (0 ≤ s.2.2) && decide (s.2.2 < (s.1.length : Int)) then
   bif (((s.1.getD (s.2.2).toNat 0) != s.2.1)) then
    some (.inr (.inl ((-1))))
   else
    let v3 := IntKind.i64.wrap (s.2.1 + 1)
    let v4 := IntKind.i64.wrap (s.2.2 + 1)
    some (.inl ((s.1, v3, v4)))
  else none
 else
  some (.inr (.inr (s.2.1)))
def pat_laws_heldIntS_0 : Pat := { tmps := .v (.slice (.int .i64)) :: .v (.int .i64) :: .any :: .any :: .any :: .v (.int .i64) :: an 15 [], blks := [] }
def outs_laws_heldIntS_0 : List (Exit × Pat) := [(.ret, { tmps := an 4 (.v (.int .i64) :: an 16 []), blks := [] }), (.exit 0, { tmps := .any :: .v (.int .i64) :: an 19 [], blks := [] })]
noncomputable def F_laws_heldIntS (x : (List Int) × Int) : Option (Int) :=
 match runL step_laws_heldIntS_0 ((x.1, x.2, 0)) with
 | none => none
 | some (.inl o5) =>
  some (o5)
 | some (.inr o5) =>
  some (o5)
noncomputable def c_laws_heldIntS : Con := { ps := [(.val, (.slice (.int .i64))), (.val, (.int .i64))], rs := [(.val, (.int .i64))], F := F_laws_heldIntS }
noncomputable def env_laws_heldIntS : Env := { par := [], dp := false, settle := [], con := fun _ => none, clo := fun _ => none, T := tinf Tryz.prog }
noncomputable def loops_laws_heldIntS : Nat → Option Loop := fun n => match n with | 2 => some { pat := pat_laws_heldIntS_0, outs := outs_laws_heldIntS_0, run := runL (step_laws_heldIntS_0) } | _ => none
theorem con_laws_heldIntS : ConOK Tryz.prog 16 c_laws_heldIntS := con_of_ev' (body := Tryz.f16.body.getD .skip) (Λ := loops_laws_heldIntS) mixed Tryz.func16 (by kernel_rfl) (by kernel_rfl) (envOK_of (E := env_laws_heldIntS) (fun f c h => by cases h) (fun f c h => by cases h) rfl) (by kernel_rfl) (by kernel_rfl) (fun n L h => by
  unfold loops_laws_heldIntS at h
  split at h
  · cases h; exact fun s o ho => loop_ok (stepF := stepEv env_laws_heldIntS loops_laws_heldIntS pat_laws_heldIntS_0 outs_laws_heldIntS_0 Tryz.f16 2) (fun _ => by kernel_rfl) ho
  · cases h) (fun _ => by kernel_rfl)

noncomputable def F_laws_FnExactJoinEntries (x : (List DT30) × (List DT30)) : Option (Bool) :=
 match F_laws_szEntryS ((x.1, 1048576)) with
 | none => none
 | some y1 =>
  bif (decide (y1 < 0)) then
   some (true)
  else
   match F_laws_szEntryS ((x.2, y1)) with
   | none => none
   | some y2 =>
    bif (decide (y2 < 0)) then
     some (true)
    else
     match F_laws_toEntryS (x.1) with
     | none => none
     | some y3 =>
      match F_laws_toEntryS (x.2) with
      | none => none
      | some y4 =>
       match F_spec_JoinEntries ((y3, y4)) with
       | none => none
       | some y5 =>
        match F_laws_toEntryS (x.1) with
        | none => none
        | some y6 =>
         match F_laws_toEntryS (x.2) with
         | none => none
         | some y7 =>
          match F_impl_JoinEntries ((y6, y7)) with
          | none => none
          | some y8 =>
           match F_laws_eqEntryS ((y8.1, y5.1)) with
           | none => none
           | some y9 =>
            bif (!y9) then
             some (false)
            else
             match F_laws_eqIntS ((y8.2.1, y5.2.1)) with
             | none => none
             | some y10 =>
              bif (!y10) then
               some (false)
              else
               bif (!(y8.2.2 == y5.2.2)) then
                some (false)
               else
                match F_laws_toEntryS (x.1) with
                | none => none
                | some y11 =>
                 match F_laws_eqEntryS ((y6, y11)) with
                 | none => none
                 | some y12 =>
                  bif (!y12) then
                   some (false)
                  else
                   match F_laws_toEntryS (x.2) with
                   | none => none
                   | some y13 =>
                    match F_laws_eqEntryS ((y7, y13)) with
                    | none => none
                    | some y14 =>
                     bif (!y14) then
                      some (false)
                     else
                      match F_laws_markEntryS ((y6, 1)) with
                      | none => none
                      | some y15 =>
                       match F_laws_markEntryS ((y7, y15.2)) with
                       | none => none
                       | some y16 =>
                        bif (decide (y16.2 < 0)) then
                         some (false)
                        else
                         match F_laws_eqEntryS ((y8.1, y5.1)) with
                         | none => none
                         | some y17 =>
                          bif (!y17) then
                           some (false)
                          else
                           match F_laws_eqIntS ((y8.2.1, y5.2.1)) with
                           | none => none
                           | some y18 =>
                            bif (!y18) then
                             some (false)
                            else
                             bif (!(y8.2.2 == y5.2.2)) then
                              some (false)
                             else
                              match F_laws_markEntryS ((y8.1, 1)) with
                              | none => none
                              | some y19 =>
                               match F_laws_markIntS ((y8.2.1, y19.2)) with
                               | none => none
                               | some y20 =>
                                match F_laws_heldEntryS ((y19.1, 1)) with
                                | none => none
                                | some y21 =>
                                 bif (decide (y21 < 0)) then
                                  some (false)
                                 else
                                  match F_laws_heldIntS ((y20.1, y21)) with
                                  | none => none
                                  | some y22 =>
                                   bif (decide (y22 < 0)) then
                                    some (false)
                                   else
                                    bif ((y22 != y20.2)) then
                                     some (false)
                                    else
                                     match F_laws_toEntryS (x.1) with
                                     | none => none
                                     | some y23 =>
                                      match F_laws_toEntryS (x.2) with
                                      | none => none
                                      | some y24 =>
                                       match F_impl_JoinEntries ((y23, y24)) with
                                       | none => none
                                       | some y25 =>
                                        match F_laws_eqEntryS ((y25.1, y5.1)) with
                                        | none => none
                                        | some y26 =>
                                         bif (!y26) then
                                          some (false)
                                         else
                                          match F_laws_eqIntS ((y25.2.1, y5.2.1)) with
                                          | none => none
                                          | some y27 =>
                                           bif (!y27) then
                                            some (false)
                                           else
                                            bif (!(y25.2.2 == y5.2.2)) then
                                             some (false)
                                            else
                                             match F_laws_heldEntryS ((y19.1, 1)) with
                                             | none => none
                                             | some y28 =>
                                              bif (decide (y28 < 0)) then
                                               some (false)
                                              else
                                               match F_laws_heldIntS ((y20.1, y28)) with
                                               | none => none
                                               | some y29 =>
                                                bif (decide (y29 < 0)) then
                                                 some (false)
                                                else
                                                 bif ((y29 != y20.2)) then
                                                  some (false)
                                                 else
                                                  some (true)
noncomputable def c_laws_FnExactJoinEntries : Con := { ps := [(.val, (.slice TY30)), (.val, (.slice TY30))], rs := [(.val, .bool)], F := F_laws_FnExactJoinEntries }
noncomputable def env_laws_FnExactJoinEntries : Env := { par := [], dp := false, settle := [], con := fun f => match f with | 7 => some c_laws_szEntryS | 8 => some c_spec_JoinEntries | 9 => some c_laws_toEntryS | 10 => some c_impl_JoinEntries | 11 => some c_laws_eqEntryS | 12 => some c_laws_eqIntS | 13 => some c_laws_markEntryS | 14 => some c_laws_markIntS | 15 => some c_laws_heldEntryS | 16 => some c_laws_heldIntS | _ => none, clo := fun _ => none, T := tinf Tryz.prog }
noncomputable def loops_laws_FnExactJoinEntries : Nat → Option Loop := fun n => none
theorem F_laws_FnExactJoinEntries_eq (x : (List DT30) × (List DT30)) : Fev env_laws_FnExactJoinEntries loops_laws_FnExactJoinEntries c_laws_FnExactJoinEntries.ps c_laws_FnExactJoinEntries.rs Tryz.f3 x = F_laws_FnExactJoinEntries x := by kernel_rfl
theorem env_laws_FnExactJoinEntries_ok : EnvOK Tryz.prog env_laws_FnExactJoinEntries := envOK_of (fun f c h => by
  simp only [env_laws_FnExactJoinEntries] at h
  split at h
  · cases h; exact con_laws_szEntryS
  · cases h; exact con_spec_JoinEntries
  · cases h; exact con_laws_toEntryS
  · cases h; exact con_impl_JoinEntries
  · cases h; exact con_laws_eqEntryS
  · cases h; exact con_laws_eqIntS
  · cases h; exact con_laws_markEntryS
  · cases h; exact con_laws_markIntS
  · cases h; exact con_laws_heldEntryS
  · cases h; exact con_laws_heldIntS
  · cases h) (fun f c h => by cases h) rfl
theorem con_laws_FnExactJoinEntries : ConOK Tryz.prog 3 c_laws_FnExactJoinEntries := con_of_ev' (body := Tryz.f3.body.getD .skip) (Λ := loops_laws_FnExactJoinEntries) mixed Tryz.func3 (by kernel_rfl) (by kernel_rfl) env_laws_FnExactJoinEntries_ok (by kernel_rfl) (by kernel_rfl) (fun n L h => by cases h) F_laws_FnExactJoinEntries_eq

end Go.Proofs.YtklfnbckoaphpaaGreatDoor
