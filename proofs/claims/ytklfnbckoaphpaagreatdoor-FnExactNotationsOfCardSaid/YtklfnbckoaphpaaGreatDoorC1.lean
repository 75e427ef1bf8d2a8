/- Contracts of functions of the program, written by a program of this claim. No conditions. -/
import Derived.Test.YtklfnbckoaphpaaGreatDoorC0
set_option linter.unusedVariables false
set_option maxRecDepth 100000
namespace Go.Proofs.YtklfnbckoaphpaaGreatDoor
open Go
noncomputable def step_slices_Compact_impl_Sign_impl_Sign_0 (s : Int × Int × Int × Int × (List DT27)) : Option ((Int × Int × Int × Int × (List DT27)) ⊕ ((Int × (List DT27)))) :=
 bif (decide (s.2.2.2.1 < ((s.2.2.1).toNat : Int))) then
  bif decide (0 ≤ s.2.2.2.1) && decide (s.2.2.2.1 < ((s.2.2.1).toNat : Int)) then
   let v24 := IntKind.i64.wrap (s.2.2.2.1 - 1)
   bif decide (0 ≤ v24) && decide (v24 < ((s.2.2.1).toNat : Int)) then
    bif (!(((((s.2.2.2.2.getD ((s.2.1).toNat + (s.2.2.2.1).toNat) dz27).1.1.1 == (s.2.2.2.2.getD ((s.2.1).toNat + (v24).toNat) dz27).1.1.1) && (((s.2.2.2.2.getD ((s.2.1).toNat + (s.2.2.2.1).toNat) dz27).1.1.2.1 == (s.2.2.2.2.getD ((s.2.1).toNat + (v24).toNat) dz27).1.1.2.1) && (((s.2.2.2.2.getD ((s.2.1).toNat + (s.2.2.2.1).toNat) dz27).1.1.2.2.1 == (s.2.2.2.2.getD ((s.2.1).toNat + (v24).toNat) dz27).1.1.2.2.1) && (((s.2.2.2.2.getD ((s.2.1).toNat + (s.2.2.2.1).toNat) dz27).1.1.2.2.2.1 == (s.2.2.2.2.getD ((s.2.1).toNat + (v24).toNat) dz27).1.1.2.2.2.1) && (((s.2.2.2.2.getD ((s.2.1).toNat + (s.2.2.2.1).toNat) dz27).1.1.2.2.2.2.1 == (s.2.2.2.2.getD ((s.2.1).toNat + (v24).toNat) dz27).1.1.2.2.2.2.1) && (((s.2.2.2.2.getD ((s.2.1).toNat + (s.2.2.2.1).toNat) dz27).1.1.2.2.2.2.2 == (s.2.2.2.2.getD ((s.2.1).toNat + (v24).toNat) dz27).1.1.2.2.2.2.2) && true)))))) && ((((s.2.2.2.2.getD ((s.2.1).toNat + (s.2.2.2.1).toNat) dz27).1.2.1.1 == (s.2.2.2.2.getD ((s.2.1).toNat + (v24).toNat) dz27).1.2.1.1) && (((s.2.2.2.2.getD ((s.2.1).toNat + (s.2.2.2.1).toNat) dz27).1.2.1.2 == (s.2.2.2.2.getD ((s.2.1).toNat + (v24).toNat) dz27).1.2.1.2) && true)) && ((((s.2.2.2.2.getD ((s.2.1).toNat + (s.2.2.2.1).toNat) dz27).1.2.2.1.1 == (s.2.2.2.2.getD ((s.2.1).toNat + (v24).toNat) dz27).1.2.2.1.1) && (((s.2.2.2.2.getD ((s.2.1).toNat + (s.2.2.2.1).toNat) dz27).1.2.2.1.2.1 == (s.2.2.2.2.getD ((s.2.1).toNat + (v24).toNat) dz27).1.2.2.1.2.1) && (((s.2.2.2.2.getD ((s.2.1).toNat + (s.2.2.2.1).toNat) dz27).1.2.2.1.2.2 == (s.2.2.2.2.getD ((s.2.1).toNat + (v24).toNat) dz27).1.2.2.1.2.2) && true))) && ((((s.2.2.2.2.getD ((s.2.1).toNat + (s.2.2.2.1).toNat) dz27).1.2.2.2.1.toList == (s.2.2.2.2.getD ((s.2.1).toNat + (v24).toNat) dz27).1.2.2.2.1.toList) && (((s.2.2.2.2.getD ((s.2.1).toNat + (s.2.2.2.1).toNat) dz27).1.2.2.2.2 == (s.2.2.2.2.getD ((s.2.1).toNat + (v24).toNat) dz27).1.2.2.2.2) && true)) && true)))) && (((s.2.2.2.2.getD ((s.2.1).toNat + (s.2.2.2.1).toNat) dz27).2.1 == (s.2.2.2.2.getD ((s.2.1).toNat + (v24).toNat) dz27).2.1) && (((((s.2.2.2.2.getD ((s.2.1).toNat + (s.2.2.2.1).toNat) dz27).2.2.1.1 == (s.2.2.2.2.getD ((s.2.1).toNat + (v24).toNat) dz27).2.2.1.1) && (((s.2.2.2.2.getD ((s.2.1).toNat + (s.2.2.2.1).toNat) dz27).2.2.1.2.1 == (s.2.2.2.2.getD ((s.2.1).toNat + (v24).toNat) dz27).2.2.1.2.1) && (((s.2.2.2.2.getD ((s.2.1).toNat + (s.2.2.2.1).toNat) dz27).2.2.1.2.2.1 == (s.2.2.2.2.getD ((s.2.1).toNat + (v24).toNat) dz27).2.2.1.2.2.1) && (((s.2.2.2.2.getD ((s.2.1).toNat + (s.2.2.2.1).toNat) dz27).2.2.1.2.2.2.1 == (s.2.2.2.2.getD ((s.2.1).toNat + (v24).toNat) dz27).2.2.1.2.2.2.1) && (((s.2.2.2.2.getD ((s.2.1).toNat + (s.2.2.2.1).toNat) dz27).2.2.1.2.2.2.2.1 == (s.2.2.2.2.getD ((s.2.1).toNat + (v24).toNat) dz27).2.2.1.2.2.2.2.1) && (((s.2.2.2.2.getD ((s.2.1).toNat + (s.2.2.2.1).toNat) dz27).2.2.1.2.2.2.2.2 == (s.2.2.2.2.getD ((s.2.1).toNat + (v24).toNat) dz27).2.2.1.2.2.2.2.2) && true)))))) && ((((s.2.2.2.2.getD ((s.2.1).toNat + (s.2.2.2.1).toNat) dz27).2.2.2.1.1 == (s.2.2.2.2.getD ((s.2.1).toNat + (v24).toNat) dz27).2.2.2.1.1) && (((s.2.2.2.2.getD ((s.2.1).toNat + (s.2.2.2.1).toNat) dz27).2.2.2.1.2 == (s.2.2.2.2.getD ((s.2.1).toNat + (v24).toNat) dz27).2.2.2.1.2) && true)) && ((((s.2.2.2.2.getD ((s.2.1).toNat + (s.2.2.2.1).toNat) dz27).2.2.2.2.1.1 == (s.2.2.2.2.getD ((s.2.1).toNat + (v24).toNat) dz27).2.2.2.2.1.1) && (((s.2.2.2.2.getD ((s.2.1).toNat + (s.2.2.2.1).toNat) dz27).2.2.2.2.1.2.1 == (s.2.2.2.2.getD ((s.2.1).toNat + (v24).toNat) dz27).2.2.2.2.1.2.1) && (((s.2.2.2.2.getD ((s.2.1).toNat + (s.2.2.2.1).toNat) dz27).2.2.2.2.1.2.2 == (s.2.2.2.2.getD ((s.2.1).toNat + (v24).toNat) dz27).2.2.2.2.1.2.2) && true))) && ((((s.2.2.2.2.getD ((s.2.1).toNat + (s.2.2.2.1).toNat) dz27).2.2.2.2.2.1.toList == (s.2.2.2.2.getD ((s.2.1).toNat + (v24).toNat) dz27).2.2.2.2.2.1.toList) && (((s.2.2.2.2.getD ((s.2.1).toNat + (s.2.2.2.1).toNat) dz27).2.2.2.2.2.2 == (s.2.2.2.2.getD ((s.2.1).toNat + (v24).toNat) dz27).2.2.2.2.2.2) && true)) && true)))) && true)))) then
     bif decide (0 ≤ s.2.2.2.1) && decide (s.2.2.2.1 < ((s.2.2.1).toNat : Int)) then
      bif decide (0 ≤ s.1) && decide (s.1 < (s.2.2.2.2.length : Int)) then
       let v25 := s.2.2.2.2.getD (s.1).toNat dz27
       let v26 := s.2.2.2.2.set (s.1).toNat ((s.2.2.2.2.getD ((s.2.1).toNat + (s.2.2.2.1).toNat) dz27))
       let v27 := IntKind.i64.wrap (s.1 + 1)
       let v28 := IntKind.i64.wrap (s.2.2.2.1 + 1)
       some (.inl ((v27, (((s.2.1).toNat : Nat) : Int), ((((s.2.2.1).toNat : Nat) : Int), v28, v26))))
      else none
     else none
    else
     let v29 := IntKind.i64.wrap (s.2.2.2.1 + 1)
     some (.inl ((s.1, (((s.2.1).toNat : Nat) : Int), ((((s.2.2.1).toNat : Nat) : Int), v29, s.2.2.2.2))))
   else none
  else none
 else
  some (.inr ((s.1, s.2.2.2.2)))
def pat_slices_Compact_impl_Sign_impl_Sign_0 : Pat := { tmps := .own 62 :: .any :: .any :: .v (.int .i64) :: .sub 62 :: .v (.int .i64) :: an 55 [], blks := [(62, .row true TY27)] }
def outs_slices_Compact_impl_Sign_impl_Sign_0 : List (Exit × Pat) := [(.exit 2, { tmps := .own 62 :: .any :: .any :: .v (.int .i64) :: an 57 [], blks := [(62, .row true TY27)] })]
noncomputable def step_slices_Compact_impl_Sign_impl_Sign_1 (s : Int × (List DT27)) : Option ((Int × (List DT27)) ⊕ ((Int × Int × (List DT27)) ⊕ ((List DT27)))) :=
 bif (decide (s.1 < (s.2.length : Int))) then
  bif decide (0 ≤ s.1) && decide (s.1 < (s.2.length : Int)) then
   let v17 := IntKind.i64.wrap (s.1 - 1)
   bif decide (0 ≤ v17) && decide (v17 < (s.2.length : Int)) then
    bif (((((s.2.getD (s.1).toNat dz27).1.1.1 == (s.2.getD (v17).toNat dz27).1.1.1) && (((s.2.getD (s.1).toNat dz27).1.1.2.1 == (s.2.getD (v17).toNat dz27).1.1.2.1) && (((s.2.getD (s.1).toNat dz27).1.1.2.2.1 == (s.2.getD (v17).toNat dz27).1.1.2.2.1) && (((s.2.getD (s.1).toNat dz27).1.1.2.2.2.1 == (s.2.getD (v17).toNat dz27).1.1.2.2.2.1) && (((s.2.getD (s.1).toNat dz27).1.1.2.2.2.2.1 == (s.2.getD (v17).toNat dz27).1.1.2.2.2.2.1) && (((s.2.getD (s.1).toNat dz27).1.1.2.2.2.2.2 == (s.2.getD (v17).toNat dz27).1.1.2.2.2.2.2) && true)))))) && ((((s.2.getD (s.1).toNat dz27).1.2.1.1 == (s.2.getD (v17).toNat dz27).1.2.1.1) && (((s.2.getD (s.1).toNat dz27).1.2.1.2 == (s.2.getD (v17).toNat dz27).1.2.1.2) && true)) && ((((s.2.getD (s.1).toNat dz27).1.2.2.1.1 == (s.2.getD (v17).toNat dz27).1.2.2.1.1) && (((s.2.getD (s.1).toNat dz27).1.2.2.1.2.1 == (s.2.getD (v17).toNat dz27).1.2.2.1.2.1) && (((s.2.getD (s.1).toNat dz27).1.2.2.1.2.2 == (s.2.getD (v17).toNat dz27).1.2.2.1.2.2) && true))) && ((((s.2.getD (s.1).toNat dz27).1.2.2.2.1.toList == (s.2.getD (v17).toNat dz27).1.2.2.2.1.toList) && (((s.2.getD (s.1).toNat dz27).1.2.2.2.2 == (s.2.getD (v17).toNat dz27).1.2.2.2.2) && true)) && true)))) && (((s.2.getD (s.1).toNat dz27).2.1 == (s.2.getD (v17).toNat dz27).2.1) && (((((s.2.getD (s.1).toNat dz27).2.2.1.1 == (s.2.getD (v17).toNat dz27).2.2.1.1) && (((s.2.getD (s.1).toNat dz27).2.2.1.2.1 == (s.2.getD (v17).toNat dz27).2.2.1.2.1) && (((s.2.getD (s.1).toNat dz27).2.2.1.2.2.1 == (s.2.getD (v17).toNat dz27).2.2.1.2.2.1) && (((s.2.getD (s.1).toNat dz27).2.2.1.2.2.2.1 == (s.2.getD (v17).toNat dz27).2.2.1.2.2.2.1) && (((s.2.getD (s.1).toNat dz27).2.2.1.2.2.2.2.1 == (s.2.getD (v17).toNat dz27).2.2.1.2.2.2.2.1) && (((s.2.getD (s.1).toNat dz27).2.2.1.2.2.2.2.2 == (s.2.getD (v17).toNat dz27).2.2.1.2.2.2.2.2) && true)))))) && ((((s.2.getD (s.1).toNat dz27).2.2.2.1.1 == (s.2.getD (v17).toNat dz27).2.2.2.1.1) && (((s.2.getD (s.1).toNat dz27).2.2.2.1.2 == (s.2.getD (v17).toNat dz27).2.2.2.1.2) && true)) && ((((s.2.getD (s.1).toNat dz27).2.2.2.2.1.1 == (s.2.getD (v17).toNat dz27).2.2.2.2.1.1) && (((s.2.getD (s.1).toNat dz27).2.2.2.2.1.2.1 == (s.2.getD (v17).toNat dz27).2.2.2.2.1.2.1) && (((s.2.getD (s.1).toNat dz27).2.2.2.2.1.2.2 == (s.2.getD (v17).toNat dz27).2.2.2.2.1.2.2) && true))) && ((((s.2.getD (s.1).toNat dz27).2.2.2.2.2.1.toList == (s.2.getD (v17).toNat dz27).2.2.2.2.2.1.toList) && (((s.2.getD (s.1).toNat dz27).2.2.2.2.2.2 == (s.2.getD (v17).toNat dz27).2.2.2.2.2.2) && true)) && true)))) && true))) then
     bif decide (0 ≤ s.1) && decide (s.1 ≤ (s.2.length : Int)) && decide ((s.2.length : Int) ≤ (s.2.length : Int)) then
      match runL step_slices_Compact_impl_Sign_impl_Sign_0 ((s.1, (((s.1).toNat : Nat) : Int), ((((((s.2.length : Int)).toNat - (s.1).toNat) : Nat) : Int), 1, s.2))) with
      | none => none
      | some o30 =>
       bif decide (0 ≤ o30.1) && decide (o30.1 ≤ (o30.2.length : Int)) && decide ((o30.2.length : Int) ≤ (o30.2.length : Int)) then
        bif decide ((o30.1).toNat + (((o30.2.length : Int)).toNat - (o30.1).toNat) ≤ o30.2.length) then
         let v31 := o30.2.take (o30.1).toNat ++ List.replicate (((o30.2.length : Int)).toNat - (o30.1).toNat) ((((0, (0, 0, (0, 0, false))), (0, 0), ((0, 0, false), ByteArray.empty, 0)), false, ((0, (0, 0, (0, 0, false))), (0, 0), ((0, 0, false), ByteArray.empty, 0)))) ++ o30.2.drop ((o30.1).toNat + (((o30.2.length : Int)).toNat - (o30.1).toNat))
         bif decide (0 ≤ (0 : Int)) && decide ((0 : Int) ≤ o30.1) && decide (o30.1 ≤ (v31.length : Int)) then
          some (.inr (.inl ((((((0 : Int)).toNat : Nat) : Int), ((((o30.1).toNat - ((0 : Int)).toNat) : Nat) : Int), v31))))
         else none
        else none
       else none
     else none
    else
     let v32 := IntKind.i64.wrap (s.1 + 1)
     some (.inl ((v32, s.2)))
   else none
  else none
 else
  some (.inr (.inr (s.2)))
def pat_slices_Compact_impl_Sign_impl_Sign_1 : Pat := { tmps := .own 62 :: .any :: .any :: .v (.int .i64) :: an 57 [], blks := [(62, .row true TY27)] }
def outs_slices_Compact_impl_Sign_impl_Sign_1 : List (Exit × Pat) := [(.ret, { tmps := .any :: .any :: .sub 62 :: an 58 [], blks := [(62, .row true TY27)] }), (.exit 0, { tmps := .own 62 :: an 60 [], blks := [(62, .row true TY27)] })]
noncomputable def F_slices_Compact_impl_Sign_impl_Sign (x : (List DT27)) : Option ((List DT27)) :=
 bif (decide ((x.length : Int) < 2)) then
  some (x)
 else
  match runL step_slices_Compact_impl_Sign_impl_Sign_1 ((1, x)) with
  | none => none
  | some (.inl o33) =>
   bif (decide ((o33.1).toNat = 0) && true) then
    some ((o33.2.2.take (o33.2.1).toNat))
   else none
  | some (.inr o33) =>
   some (o33)
noncomputable def c_slices_Compact_impl_Sign_impl_Sign : Con := { ps := [(.eat true, (.slice TY27))], rs := [(.io true, (.slice TY27))], F := F_slices_Compact_impl_Sign_impl_Sign }
noncomputable def env_slices_Compact_impl_Sign_impl_Sign : Env := { par := [62], dp := false, settle := [], con := fun _ => none, clo := fun _ => none, T := tinf Tryz.prog }
noncomputable def loops_slices_Compact_impl_Sign_impl_Sign : Nat → Option Loop := fun n => match n with | 9 => some { pat := pat_slices_Compact_impl_Sign_impl_Sign_0, outs := outs_slices_Compact_impl_Sign_impl_Sign_0, run := runL (step_slices_Compact_impl_Sign_impl_Sign_0) } | 4 => some { pat := pat_slices_Compact_impl_Sign_impl_Sign_1, outs := outs_slices_Compact_impl_Sign_impl_Sign_1, run := runL (step_slices_Compact_impl_Sign_impl_Sign_1) } | _ => none
theorem step_slices_Compact_impl_Sign_impl_Sign_0_eq (s : Int × Int × Int × Int × (List DT27)) : stepEv env_slices_Compact_impl_Sign_impl_Sign loops_slices_Compact_impl_Sign_impl_Sign pat_slices_Compact_impl_Sign_impl_Sign_0 outs_slices_Compact_impl_Sign_impl_Sign_0 Tryz.f56 9 s = step_slices_Compact_impl_Sign_impl_Sign_0 s := by kernel_rfl
theorem step_slices_Compact_impl_Sign_impl_Sign_1_eq (s : Int × (List DT27)) : stepEv env_slices_Compact_impl_Sign_impl_Sign loops_slices_Compact_impl_Sign_impl_Sign pat_slices_Compact_impl_Sign_impl_Sign_1 outs_slices_Compact_impl_Sign_impl_Sign_1 Tryz.f56 4 s = step_slices_Compact_impl_Sign_impl_Sign_1 s := by kernel_rfl
theorem F_slices_Compact_impl_Sign_impl_Sign_eq (x : (List DT27)) : Fev env_slices_Compact_impl_Sign_impl_Sign loops_slices_Compact_impl_Sign_impl_Sign c_slices_Compact_impl_Sign_impl_Sign.ps c_slices_Compact_impl_Sign_impl_Sign.rs Tryz.f56 x = F_slices_Compact_impl_Sign_impl_Sign x := by kernel_rfl
theorem env_slices_Compact_impl_Sign_impl_Sign_ok : EnvOK Tryz.prog env_slices_Compact_impl_Sign_impl_Sign := envOK_of (fun f c h => by cases h) (fun f c h => by cases h) rfl
theorem con_slices_Compact_impl_Sign_impl_Sign : ConOK Tryz.prog 56 c_slices_Compact_impl_Sign_impl_Sign := con_of_ev' (body := Tryz.f56.body.getD .skip) (Λ := loops_slices_Compact_impl_Sign_impl_Sign) mixed Tryz.func56 (by kernel_rfl) (by kernel_rfl) env_slices_Compact_impl_Sign_impl_Sign_ok (by kernel_rfl) (by kernel_rfl) (fun n L h => by
  unfold loops_slices_Compact_impl_Sign_impl_Sign at h
  split at h
  · cases h; exact fun s o ho => loop_ok (stepF := stepEv env_slices_Compact_impl_Sign_impl_Sign loops_slices_Compact_impl_Sign_impl_Sign pat_slices_Compact_impl_Sign_impl_Sign_0 outs_slices_Compact_impl_Sign_impl_Sign_0 Tryz.f56 9) (step_slices_Compact_impl_Sign_impl_Sign_0_eq) ho
  · cases h; exact fun s o ho => loop_ok (stepF := stepEv env_slices_Compact_impl_Sign_impl_Sign loops_slices_Compact_impl_Sign_impl_Sign pat_slices_Compact_impl_Sign_impl_Sign_1 outs_slices_Compact_impl_Sign_impl_Sign_1 Tryz.f56 4) (step_slices_Compact_impl_Sign_impl_Sign_1_eq) ho
  · cases h) F_slices_Compact_impl_Sign_impl_Sign_eq

noncomputable def K_impl_compareSigns (q : Unit) (x : (DT27 × DT27)) : Option (Int) := F_impl_compareSigns x
noncomputable def k_impl_compareSigns : CloCon := { caps := [], a := (.pair TY27 TY27), r := (.int .i64), F := K_impl_compareSigns }
theorem clo_impl_compareSigns : CloOK Tryz.prog 55 k_impl_compareSigns := clo_of_con k_impl_compareSigns F_impl_compareSigns con_impl_compareSigns rfl (fun kx x y h => ⟨y, h, rfl⟩)
noncomputable def step_impl_NotationsOf_0 (s : Int × Int × Int × Int × (List DT13) × (List DT13) × Int × Int × Int × Int × Int × Bool × Int × Int × Int × Int × Bool × ByteArray × Int × (List DT27) × Int × Int × Int × Int × Int × Bool × Int × Int × Int × Int × Bool × ByteArray × Int × Bool × Int × Int × Int × Int × Int × Bool × Int × Int × Int × Int × Bool × ByteArray × Int) : Option ((Int × Int × Int × Int × (List DT13) × (List DT13) × Int × Int × Int × Int × Int × Bool × Int × Int × Int × Int × Bool × ByteArray × Int × (List DT27) × Int × Int × Int × Int × Int × Bool × Int × Int × Int × Int × Bool × ByteArray × Int × Bool × Int × Int × Int × Int × Int × Bool × Int × Int × Int × Int × Bool × ByteArray × Int) ⊕ ((Int × Int × (List DT13) × (List DT27) × Int × Int × Int × Int × Int × Bool × Int × Int × Int × Int × Bool × ByteArray × Int × Bool × Int × Int × Int × Int × Int × Bool × Int × Int × Int × Int × Bool × ByteArray × Int))) :=
 bif (decide (s.2.2.2.1 < s.2.2.1)) then
  bif decide (0 ≤ s.2.2.2.1) && decide (s.2.2.2.1 < (s.2.2.2.2.1.length : Int)) then
   bif decide ((s.2.2.2.2.2.2.2.2.2.2.2.2.2.2.2.2.2.2.2.1.length + [(((s.2.2.2.2.2.2.1, (s.2.2.2.2.2.2.2.1, s.2.2.2.2.2.2.2.2.1, (s.2.2.2.2.2.2.2.2.2.1, s.2.2.2.2.2.2.2.2.2.2.1, s.2.2.2.2.2.2.2.2.2.2.2.1))), (s.2.2.2.2.2.2.2.2.2.2.2.2.1, s.2.2.2.2.2.2.2.2.2.2.2.2.2.1), ((s.2.2.2.2.2.2.2.2.2.2.2.2.2.2.1, s.2.2.2.2.2.2.2.2.2.2.2.2.2.2.2.1, s.2.2.2.2.2.2.2.2.2.2.2.2.2.2.2.2.1), s.2.2.2.2.2.2.2.2.2.2.2.2.2.2.2.2.2.1, s.2.2.2.2.2.2.2.2.2.2.2.2.2.2.2.2.2.2.1)), true, (s.2.2.2.2.1.getD (s.2.2.2.1).toNat dz13))].length) * 232 ≤ 140737488355328) then
    let v44 := s.2.2.2.2.2.2.2.2.2.2.2.2.2.2.2.2.2.2.2.1 ++ [(((s.2.2.2.2.2.2.1, (s.2.2.2.2.2.2.2.1, s.2.2.2.2.2.2.2.2.1, (s.2.2.2.2.2.2.2.2.2.1, s.2.2.2.2.2.2.2.2.2.2.1, s.2.2.2.2.2.2.2.2.2.2.2.1))), (s.2.2.2.2.2.2.2.2.2.2.2.2.1, s.2.2.2.2.2.2.2.2.2.2.2.2.2.1), ((s.2.2.2.2.2.2.2.2.2.2.2.2.2.2.1, s.2.2.2.2.2.2.2.2.2.2.2.2.2.2.2.1, s.2.2.2.2.2.2.2.2.2.2.2.2.2.2.2.2.1), s.2.2.2.2.2.2.2.2.2.2.2.2.2.2.2.2.2.1, s.2.2.2.2.2.2.2.2.2.2.2.2.2.2.2.2.2.2.1)), true, (s.2.2.2.2.1.getD (s.2.2.2.1).toNat dz13))]
    match F_impl_Sign_kind ((((s.2.2.2.2.2.2.2.2.2.2.2.2.2.2.2.2.2.2.2.2.1, (s.2.2.2.2.2.2.2.2.2.2.2.2.2.2.2.2.2.2.2.2.2.1, s.2.2.2.2.2.2.2.2.2.2.2.2.2.2.2.2.2.2.2.2.2.2.1, (s.2.2.2.2.2.2.2.2.2.2.2.2.2.2.2.2.2.2.2.2.2.2.2.1, s.2.2.2.2.2.2.2.2.2.2.2.2.2.2.2.2.2.2.2.2.2.2.2.2.1, s.2.2.2.2.2.2.2.2.2.2.2.2.2.2.2.2.2.2.2.2.2.2.2.2.2.1))), (s.2.2.2.2.2.2.2.2.2.2.2.2.2.2.2.2.2.2.2.2.2.2.2.2.2.2.1, s.2.2.2.2.2.2.2.2.2.2.2.2.2.2.2.2.2.2.2.2.2.2.2.2.2.2.2.1), ((s.2.2.2.2.2.2.2.2.2.2.2.2.2.2.2.2.2.2.2.2.2.2.2.2.2.2.2.2.1, s.2.2.2.2.2.2.2.2.2.2.2.2.2.2.2.2.2.2.2.2.2.2.2.2.2.2.2.2.2.1, s.2.2.2.2.2.2.2.2.2.2.2.2.2.2.2.2.2.2.2.2.2.2.2.2.2.2.2.2.2.2.1), s.2.2.2.2.2.2.2.2.2.2.2.2.2.2.2.2.2.2.2.2.2.2.2.2.2.2.2.2.2.2.2.1, s.2.2.2.2.2.2.2.2.2.2.2.2.2.2.2.2.2.2.2.2.2.2.2.2.2.2.2.2.2.2.2.2.1)), (s.2.2.2.2.2.2.2.2.2.2.2.2.2.2.2.2.2.2.2.2.2.2.2.2.2.2.2.2.2.2.2.2.2.1, (s.2.2.2.2.2.2.2.2.2.2.2.2.2.2.2.2.2.2.2.2.2.2.2.2.2.2.2.2.2.2.2.2.2.2.1, (s.2.2.2.2.2.2.2.2.2.2.2.2.2.2.2.2.2.2.2.2.2.2.2.2.2.2.2.2.2.2.2.2.2.2.2.1, s.2.2.2.2.2.2.2.2.2.2.2.2.2.2.2.2.2.2.2.2.2.2.2.2.2.2.2.2.2.2.2.2.2.2.2.2.1, (s.2.2.2.2.2.2.2.2.2.2.2.2.2.2.2.2.2.2.2.2.2.2.2.2.2.2.2.2.2.2.2.2.2.2.2.2.2.1, s.2.2.2.2.2.2.2.2.2.2.2.2.2.2.2.2.2.2.2.2.2.2.2.2.2.2.2.2.2.2.2.2.2.2.2.2.2.2.1, s.2.2.2.2.2.2.2.2.2.2.2.2.2.2.2.2.2.2.2.2.2.2.2.2.2.2.2.2.2.2.2.2.2.2.2.2.2.2.2.1))), ((s.2.2.2.2.2.2.2.2.2.2.2.2.2.2.2.2.2.2.2.2.2.2.2.2.2.2.2.2.2.2.2.2.2.2.2.2.2.2.2.2.1, s.2.2.2.2.2.2.2.2.2.2.2.2.2.2.2.2.2.2.2.2.2.2.2.2.2.2.2.2.2.2.2.2.2.2.2.2.2.2.2.2.2.1), (s.2.2.2.2.2.2.2.2.2.2.2.2.2.2.2.2.2.2.2.2.2.2.2.2.2.2.2.2.2.2.2.2.2.2.2.2.2.2.2.2.2.2.1, s.2.2.2.2.2.2.2.2.2.2.2.2.2.2.2.2.2.2.2.2.2.2.2.2.2.2.2.2.2.2.2.2.2.2.2.2.2.2.2.2.2.2.2.1, s.2.2.2.2.2.2.2.2.2.2.2.2.2.2.2.2.2.2.2.2.2.2.2.2.2.2.2.2.2.2.2.2.2.2.2.2.2.2.2.2.2.2.2.2.1), s.2.2.2.2.2.2.2.2.2.2.2.2.2.2.2.2.2.2.2.2.2.2.2.2.2.2.2.2.2.2.2.2.2.2.2.2.2.2.2.2.2.2.2.2.2)))) with
    | none => none
    | some y45 =>
     bif ((y45 == 1)) then
      bif decide ((v44.length + [((s.2.2.2.2.1.getD (s.2.2.2.1).toNat dz13), true, ((s.2.2.2.2.2.2.1, (s.2.2.2.2.2.2.2.1, s.2.2.2.2.2.2.2.2.1, (s.2.2.2.2.2.2.2.2.2.1, s.2.2.2.2.2.2.2.2.2.2.1, s.2.2.2.2.2.2.2.2.2.2.2.1))), (s.2.2.2.2.2.2.2.2.2.2.2.2.1, s.2.2.2.2.2.2.2.2.2.2.2.2.2.1), ((s.2.2.2.2.2.2.2.2.2.2.2.2.2.2.1, s.2.2.2.2.2.2.2.2.2.2.2.2.2.2.2.1, s.2.2.2.2.2.2.2.2.2.2.2.2.2.2.2.2.1), s.2.2.2.2.2.2.2.2.2.2.2.2.2.2.2.2.2.1, s.2.2.2.2.2.2.2.2.2.2.2.2.2.2.2.2.2.2.1)))].length) * 232 ≤ 140737488355328) then
       let v46 := v44 ++ [((s.2.2.2.2.1.getD (s.2.2.2.1).toNat dz13), true, ((s.2.2.2.2.2.2.1, (s.2.2.2.2.2.2.2.1, s.2.2.2.2.2.2.2.2.1, (s.2.2.2.2.2.2.2.2.2.1, s.2.2.2.2.2.2.2.2.2.2.1, s.2.2.2.2.2.2.2.2.2.2.2.1))), (s.2.2.2.2.2.2.2.2.2.2.2.2.1, s.2.2.2.2.2.2.2.2.2.2.2.2.2.1), ((s.2.2.2.2.2.2.2.2.2.2.2.2.2.2.1, s.2.2.2.2.2.2.2.2.2.2.2.2.2.2.2.1, s.2.2.2.2.2.2.2.2.2.2.2.2.2.2.2.2.1), s.2.2.2.2.2.2.2.2.2.2.2.2.2.2.2.2.2.1, s.2.2.2.2.2.2.2.2.2.2.2.2.2.2.2.2.2.2.1)))]
       let v47 := IntKind.i64.wrap (s.2.2.2.1 + 1)
       some (.inl ((s.1, s.2.1, (s.2.2.1, v47, (s.2.2.2.2.1, s.2.2.2.2.2.1, (s.2.2.2.2.2.2.1, s.2.2.2.2.2.2.2.1, (s.2.2.2.2.2.2.2.2.1, s.2.2.2.2.2.2.2.2.2.1, (s.2.2.2.2.2.2.2.2.2.2.1, s.2.2.2.2.2.2.2.2.2.2.2.1, (s.2.2.2.2.2.2.2.2.2.2.2.2.1, s.2.2.2.2.2.2.2.2.2.2.2.2.2.1, (s.2.2.2.2.2.2.2.2.2.2.2.2.2.2.1, s.2.2.2.2.2.2.2.2.2.2.2.2.2.2.2.1, (s.2.2.2.2.2.2.2.2.2.2.2.2.2.2.2.2.1, s.2.2.2.2.2.2.2.2.2.2.2.2.2.2.2.2.2.1, (s.2.2.2.2.2.2.2.2.2.2.2.2.2.2.2.2.2.2.1, v46, s.2.2.2.2.2.2.2.2.2.2.2.2.2.2.2.2.2.2.2.2))))))))))))
      else none
     else
      let v48 := IntKind.i64.wrap (s.2.2.2.1 + 1)
      some (.inl ((s.1, s.2.1, (s.2.2.1, v48, (s.2.2.2.2.1, s.2.2.2.2.2.1, (s.2.2.2.2.2.2.1, s.2.2.2.2.2.2.2.1, (s.2.2.2.2.2.2.2.2.1, s.2.2.2.2.2.2.2.2.2.1, (s.2.2.2.2.2.2.2.2.2.2.1, s.2.2.2.2.2.2.2.2.2.2.2.1, (s.2.2.2.2.2.2.2.2.2.2.2.2.1, s.2.2.2.2.2.2.2.2.2.2.2.2.2.1, (s.2.2.2.2.2.2.2.2.2.2.2.2.2.2.1, s.2.2.2.2.2.2.2.2.2.2.2.2.2.2.2.1, (s.2.2.2.2.2.2.2.2.2.2.2.2.2.2.2.2.1, s.2.2.2.2.2.2.2.2.2.2.2.2.2.2.2.2.2.1, (s.2.2.2.2.2.2.2.2.2.2.2.2.2.2.2.2.2.2.1, v44, s.2.2.2.2.2.2.2.2.2.2.2.2.2.2.2.2.2.2.2.2))))))))))))
   else none
  else none
 else
  some (.inr ((s.1, (s.2.1, s.2.2.2.2.2.1, s.2.2.2.2.2.2.2.2.2.2.2.2.2.2.2.2.2.2.2))))
def pat_impl_NotationsOf_0 : Pat := { tmps := .any :: .ptr 64 0 :: .any :: .any :: .own 1728 :: .any :: .ptr 384 0 :: an 7 (.own 896 :: .v (.int .i64) :: .v (.int .i64) :: an 13 (.own 1920 :: .v (.int .i64) :: .v (.int .i64) :: an 24 [])), blks := [(1920, .row true TY13), (896, .row true TY13), (384, .box [.v (.int .i64), .v (.int .i64), .v (.int .i64), .v (.int .i64), .v (.int .i64), .v .bool, .v (.int .i64), .v (.int .i64), .v (.int .i64), .v (.int .i64), .v .bool, .v .str, .v (.int .i64)]), (1728, .row true TY27), (64, .box [.v (.int .i64), .v (.int .i64), .v (.int .i64), .v (.int .i64), .v (.int .i64), .v .bool, .v (.int .i64), .v (.int .i64), .v (.int .i64), .v (.int .i64), .v .bool, .v .str, .v (.int .i64), .v .bool, .v (.int .i64), .v (.int .i64), .v (.int .i64), .v (.int .i64), .v (.int .i64), .v .bool, .v (.int .i64), .v (.int .i64), .v (.int .i64), .v (.int .i64), .v .bool, .v .str, .v (.int .i64)])] }
def outs_impl_NotationsOf_0 : List (Exit × Pat) := [(.exit 2, { tmps := .any :: .ptr 64 0 :: .any :: .any :: .own 1728 :: an 9 (.own 896 :: .v (.int .i64) :: .v (.int .i64) :: an 40 []), blks := [(896, .row true TY13), (1728, .row true TY27), (64, .box [.v (.int .i64), .v (.int .i64), .v (.int .i64), .v (.int .i64), .v (.int .i64), .v .bool, .v (.int .i64), .v (.int .i64), .v (.int .i64), .v (.int .i64), .v .bool, .v .str, .v (.int .i64), .v .bool, .v (.int .i64), .v (.int .i64), .v (.int .i64), .v (.int .i64), .v (.int .i64), .v .bool, .v (.int .i64), .v (.int .i64), .v (.int .i64), .v (.int .i64), .v .bool, .v .str, .v (.int .i64)])] })]
noncomputable def step_impl_NotationsOf_1 (s : Int × Int × (List DT13) × Int × Int × Int × Int × Int × Bool × Int × Int × Int × Int × Bool × ByteArray × Int × Bool × Int × Int × Int × Int × Int × Bool × Int × Int × Int × Int × Bool × ByteArray × Int × (List DT27)) : Option ((Int × Int × (List DT13) × Int × Int × Int × Int × Int × Bool × Int × Int × Int × Int × Bool × ByteArray × Int × Bool × Int × Int × Int × Int × Int × Bool × Int × Int × Int × Int × Bool × ByteArray × Int × (List DT27)) ⊕ (((List DT27)))) :=
 bif (decide (s.2.1 < s.1)) then
  bif decide (0 ≤ s.2.1) && decide (s.2.1 < (s.2.2.1.length : Int)) then
   bif (!s.2.2.2.2.2.2.2.2.2.2.2.2.2.2.2.2.1) then
    bif decide ((s.2.2.2.2.2.2.2.2.2.2.2.2.2.2.2.2.2.2.2.2.2.2.2.2.2.2.2.2.2.2.length + [((s.2.2.1.getD (s.2.1).toNat dz13), false, ((0, (0, 0, (0, 0, false))), (0, 0), ((0, 0, false), ByteArray.empty, 0)))].length) * 232 ≤ 140737488355328) then
     let v36 := s.2.2.2.2.2.2.2.2.2.2.2.2.2.2.2.2.2.2.2.2.2.2.2.2.2.2.2.2.2.2 ++ [((s.2.2.1.getD (s.2.1).toNat dz13), false, ((0, (0, 0, (0, 0, false))), (0, 0), ((0, 0, false), ByteArray.empty, 0)))]
     let v37 := IntKind.i64.wrap (s.2.1 + 1)
     some (.inl ((s.1, v37, (s.2.2.1, s.2.2.2.1, (s.2.2.2.2.1, s.2.2.2.2.2.1, (s.2.2.2.2.2.2.1, s.2.2.2.2.2.2.2.1, (s.2.2.2.2.2.2.2.2.1, s.2.2.2.2.2.2.2.2.2.1, (s.2.2.2.2.2.2.2.2.2.2.1, s.2.2.2.2.2.2.2.2.2.2.2.1, (s.2.2.2.2.2.2.2.2.2.2.2.2.1, s.2.2.2.2.2.2.2.2.2.2.2.2.2.1, (s.2.2.2.2.2.2.2.2.2.2.2.2.2.2.1, s.2.2.2.2.2.2.2.2.2.2.2.2.2.2.2.1, (s.2.2.2.2.2.2.2.2.2.2.2.2.2.2.2.2.1, s.2.2.2.2.2.2.2.2.2.2.2.2.2.2.2.2.2.1, (s.2.2.2.2.2.2.2.2.2.2.2.2.2.2.2.2.2.2.1, s.2.2.2.2.2.2.2.2.2.2.2.2.2.2.2.2.2.2.2.1, (s.2.2.2.2.2.2.2.2.2.2.2.2.2.2.2.2.2.2.2.2.1, s.2.2.2.2.2.2.2.2.2.2.2.2.2.2.2.2.2.2.2.2.2.1, (s.2.2.2.2.2.2.2.2.2.2.2.2.2.2.2.2.2.2.2.2.2.2.1, s.2.2.2.2.2.2.2.2.2.2.2.2.2.2.2.2.2.2.2.2.2.2.2.1, (s.2.2.2.2.2.2.2.2.2.2.2.2.2.2.2.2.2.2.2.2.2.2.2.2.1, s.2.2.2.2.2.2.2.2.2.2.2.2.2.2.2.2.2.2.2.2.2.2.2.2.2.1, (s.2.2.2.2.2.2.2.2.2.2.2.2.2.2.2.2.2.2.2.2.2.2.2.2.2.2.1, s.2.2.2.2.2.2.2.2.2.2.2.2.2.2.2.2.2.2.2.2.2.2.2.2.2.2.2.1, (s.2.2.2.2.2.2.2.2.2.2.2.2.2.2.2.2.2.2.2.2.2.2.2.2.2.2.2.2.1, s.2.2.2.2.2.2.2.2.2.2.2.2.2.2.2.2.2.2.2.2.2.2.2.2.2.2.2.2.2.1, v36)))))))))))))))))
    else none
   else
    match F_impl_Hand_notations (((s.2.2.2.2.2.2.2.2.2.2.2.2.2.2.2.2.2.1, (s.2.2.2.2.2.2.2.2.2.2.2.2.2.2.2.2.2.2.1, s.2.2.2.2.2.2.2.2.2.2.2.2.2.2.2.2.2.2.2.1, (s.2.2.2.2.2.2.2.2.2.2.2.2.2.2.2.2.2.2.2.2.1, s.2.2.2.2.2.2.2.2.2.2.2.2.2.2.2.2.2.2.2.2.2.1, s.2.2.2.2.2.2.2.2.2.2.2.2.2.2.2.2.2.2.2.2.2.2.1))), (s.2.2.2.2.2.2.2.2.2.2.2.2.2.2.2.2.2.2.2.2.2.2.2.1, s.2.2.2.2.2.2.2.2.2.2.2.2.2.2.2.2.2.2.2.2.2.2.2.2.1), ((s.2.2.2.2.2.2.2.2.2.2.2.2.2.2.2.2.2.2.2.2.2.2.2.2.2.1, s.2.2.2.2.2.2.2.2.2.2.2.2.2.2.2.2.2.2.2.2.2.2.2.2.2.2.1, s.2.2.2.2.2.2.2.2.2.2.2.2.2.2.2.2.2.2.2.2.2.2.2.2.2.2.2.1), s.2.2.2.2.2.2.2.2.2.2.2.2.2.2.2.2.2.2.2.2.2.2.2.2.2.2.2.2.1, s.2.2.2.2.2.2.2.2.2.2.2.2.2.2.2.2.2.2.2.2.2.2.2.2.2.2.2.2.2.1))) with
    | none => none
    | some y38 =>
     match runL step_impl_NotationsOf_0 ((s.1, s.2.1, ((y38.length : Int), 0, (y38, s.2.2.1, ((s.2.2.1.getD (s.2.1).toNat dz13).1.1, (s.2.2.1.getD (s.2.1).toNat dz13).1.2.1, ((s.2.2.1.getD (s.2.1).toNat dz13).1.2.2.1, (s.2.2.1.getD (s.2.1).toNat dz13).1.2.2.2.1, ((s.2.2.1.getD (s.2.1).toNat dz13).1.2.2.2.2.1, (s.2.2.1.getD (s.2.1).toNat dz13).1.2.2.2.2.2, ((s.2.2.1.getD (s.2.1).toNat dz13).2.1.1, (s.2.2.1.getD (s.2.1).toNat dz13).2.1.2, ((s.2.2.1.getD (s.2.1).toNat dz13).2.2.1.1, (s.2.2.1.getD (s.2.1).toNat dz13).2.2.1.2.1, ((s.2.2.1.getD (s.2.1).toNat dz13).2.2.1.2.2, (s.2.2.1.getD (s.2.1).toNat dz13).2.2.2.1, ((s.2.2.1.getD (s.2.1).toNat dz13).2.2.2.2, s.2.2.2.2.2.2.2.2.2.2.2.2.2.2.2.2.2.2.2.2.2.2.2.2.2.2.2.2.2.2, (s.2.2.2.1, s.2.2.2.2.1, (s.2.2.2.2.2.1, s.2.2.2.2.2.2.1, (s.2.2.2.2.2.2.2.1, s.2.2.2.2.2.2.2.2.1, (s.2.2.2.2.2.2.2.2.2.1, s.2.2.2.2.2.2.2.2.2.2.1, (s.2.2.2.2.2.2.2.2.2.2.2.1, s.2.2.2.2.2.2.2.2.2.2.2.2.1, (s.2.2.2.2.2.2.2.2.2.2.2.2.2.1, s.2.2.2.2.2.2.2.2.2.2.2.2.2.2.1, (s.2.2.2.2.2.2.2.2.2.2.2.2.2.2.2.1, s.2.2.2.2.2.2.2.2.2.2.2.2.2.2.2.2.1, (s.2.2.2.2.2.2.2.2.2.2.2.2.2.2.2.2.2.1, s.2.2.2.2.2.2.2.2.2.2.2.2.2.2.2.2.2.2.1, (s.2.2.2.2.2.2.2.2.2.2.2.2.2.2.2.2.2.2.2.1, s.2.2.2.2.2.2.2.2.2.2.2.2.2.2.2.2.2.2.2.2.1, (s.2.2.2.2.2.2.2.2.2.2.2.2.2.2.2.2.2.2.2.2.2.1, s.2.2.2.2.2.2.2.2.2.2.2.2.2.2.2.2.2.2.2.2.2.2.1, (s.2.2.2.2.2.2.2.2.2.2.2.2.2.2.2.2.2.2.2.2.2.2.2.1, s.2.2.2.2.2.2.2.2.2.2.2.2.2.2.2.2.2.2.2.2.2.2.2.2.1, (s.2.2.2.2.2.2.2.2.2.2.2.2.2.2.2.2.2.2.2.2.2.2.2.2.2.1, s.2.2.2.2.2.2.2.2.2.2.2.2.2.2.2.2.2.2.2.2.2.2.2.2.2.2.1, (s.2.2.2.2.2.2.2.2.2.2.2.2.2.2.2.2.2.2.2.2.2.2.2.2.2.2.2.1, s.2.2.2.2.2.2.2.2.2.2.2.2.2.2.2.2.2.2.2.2.2.2.2.2.2.2.2.2.1, s.2.2.2.2.2.2.2.2.2.2.2.2.2.2.2.2.2.2.2.2.2.2.2.2.2.2.2.2.2.1)))))))))))))))))))))))) with
     | none => none
     | some o49 =>
      let v50 := IntKind.i64.wrap (o49.2.1 + 1)
      some (.inl ((o49.1, v50, (o49.2.2.1, o49.2.2.2.2.1, (o49.2.2.2.2.2.1, o49.2.2.2.2.2.2.1, (o49.2.2.2.2.2.2.2.1, o49.2.2.2.2.2.2.2.2.1, (o49.2.2.2.2.2.2.2.2.2.1, o49.2.2.2.2.2.2.2.2.2.2.1, (o49.2.2.2.2.2.2.2.2.2.2.2.1, o49.2.2.2.2.2.2.2.2.2.2.2.2.1, (o49.2.2.2.2.2.2.2.2.2.2.2.2.2.1, o49.2.2.2.2.2.2.2.2.2.2.2.2.2.2.1, (o49.2.2.2.2.2.2.2.2.2.2.2.2.2.2.2.1, o49.2.2.2.2.2.2.2.2.2.2.2.2.2.2.2.2.1, (o49.2.2.2.2.2.2.2.2.2.2.2.2.2.2.2.2.2.1, o49.2.2.2.2.2.2.2.2.2.2.2.2.2.2.2.2.2.2.1, (o49.2.2.2.2.2.2.2.2.2.2.2.2.2.2.2.2.2.2.2.1, o49.2.2.2.2.2.2.2.2.2.2.2.2.2.2.2.2.2.2.2.2.1, (o49.2.2.2.2.2.2.2.2.2.2.2.2.2.2.2.2.2.2.2.2.2.1, o49.2.2.2.2.2.2.2.2.2.2.2.2.2.2.2.2.2.2.2.2.2.2.1, (o49.2.2.2.2.2.2.2.2.2.2.2.2.2.2.2.2.2.2.2.2.2.2.2.1, o49.2.2.2.2.2.2.2.2.2.2.2.2.2.2.2.2.2.2.2.2.2.2.2.2.1, (o49.2.2.2.2.2.2.2.2.2.2.2.2.2.2.2.2.2.2.2.2.2.2.2.2.2.1, o49.2.2.2.2.2.2.2.2.2.2.2.2.2.2.2.2.2.2.2.2.2.2.2.2.2.2.1, (o49.2.2.2.2.2.2.2.2.2.2.2.2.2.2.2.2.2.2.2.2.2.2.2.2.2.2.2.1, o49.2.2.2.2.2.2.2.2.2.2.2.2.2.2.2.2.2.2.2.2.2.2.2.2.2.2.2.2.1, (o49.2.2.2.2.2.2.2.2.2.2.2.2.2.2.2.2.2.2.2.2.2.2.2.2.2.2.2.2.2.1, o49.2.2.2.2.2.2.2.2.2.2.2.2.2.2.2.2.2.2.2.2.2.2.2.2.2.2.2.2.2.2, o49.2.2.2.1)))))))))))))))))
  else none
 else
  some (.inr (s.2.2.2.2.2.2.2.2.2.2.2.2.2.2.2.2.2.2.2.2.2.2.2.2.2.2.2.2.2.2))
def pat_impl_NotationsOf_1 : Pat := { tmps := .any :: .ptr 64 0 :: .any :: .any :: .own 1728 :: an 9 (.own 896 :: .v (.int .i64) :: .v (.int .i64) :: an 40 []), blks := [(896, .row true TY13), (64, .box [.v (.int .i64), .v (.int .i64), .v (.int .i64), .v (.int .i64), .v (.int .i64), .v .bool, .v (.int .i64), .v (.int .i64), .v (.int .i64), .v (.int .i64), .v .bool, .v .str, .v (.int .i64), .v .bool, .v (.int .i64), .v (.int .i64), .v (.int .i64), .v (.int .i64), .v (.int .i64), .v .bool, .v (.int .i64), .v (.int .i64), .v (.int .i64), .v (.int .i64), .v .bool, .v .str, .v (.int .i64)]), (1728, .row true TY27)] }
def outs_impl_NotationsOf_1 : List (Exit × Pat) := [(.exit 0, { tmps := an 4 (.own 1728 :: an 52 []), blks := [(1728, .row true TY27)] })]
noncomputable def F_impl_NotationsOf (x : DT27) : Option ((List DT27) × Bool) :=
 match F_impl_IsSign (x) with
 | none => none
 | some y1 =>
  bif (!y1) then
   some (([], false))
  else
   match F_impl_Hand_notations (x.1) with
   | none => none
   | some y2 =>
    match runL step_impl_NotationsOf_1 (((y2.length : Int), 0, (y2, x.1.1.1, (x.1.1.2.1, x.1.1.2.2.1, (x.1.1.2.2.2.1, x.1.1.2.2.2.2.1, (x.1.1.2.2.2.2.2, x.1.2.1.1, (x.1.2.1.2, x.1.2.2.1.1, (x.1.2.2.1.2.1, x.1.2.2.1.2.2, (x.1.2.2.2.1, x.1.2.2.2.2, (x.2.1, x.2.2.1.1, (x.2.2.1.2.1, x.2.2.1.2.2.1, (x.2.2.1.2.2.2.1, x.2.2.1.2.2.2.2.1, (x.2.2.1.2.2.2.2.2, x.2.2.2.1.1, (x.2.2.2.1.2, x.2.2.2.2.1.1, (x.2.2.2.2.1.2.1, x.2.2.2.2.1.2.2, (x.2.2.2.2.2.1, x.2.2.2.2.2.2, [])))))))))))))))) with
    | none => none
    | some o51 =>
     match F_slices_SortFunc_impl_Sign_impl_Sign ((o51, (K_impl_compareSigns ()))) with
     | none => none
     | some y52 =>
      match F_slices_Compact_impl_Sign_impl_Sign (y52) with
      | none => none
      | some y53 =>
       some ((y53, true))
noncomputable def c_impl_NotationsOf : Con := { ps := [(.val, TY27)], rs := [(.io true, (.slice TY27)), (.val, .bool)], F := F_impl_NotationsOf }
noncomputable def env_impl_NotationsOf : Env := { par := [], dp := false, settle := [], con := fun f => match f with | 51 => some c_impl_IsSign | 52 => some c_impl_Hand_notations | 53 => some c_impl_Sign_kind | 54 => some c_slices_SortFunc_impl_Sign_impl_Sign | 56 => some c_slices_Compact_impl_Sign_impl_Sign | _ => none, clo := fun f => match f with | 55 => some k_impl_compareSigns | _ => none, T := tinf Tryz.prog }
noncomputable def loops_impl_NotationsOf : Nat → Option Loop := fun n => match n with | 10 => some { pat := pat_impl_NotationsOf_0, outs := outs_impl_NotationsOf_0, run := runL (step_impl_NotationsOf_0) } | 5 => some { pat := pat_impl_NotationsOf_1, outs := outs_impl_NotationsOf_1, run := runL (step_impl_NotationsOf_1) } | _ => none
theorem step_impl_NotationsOf_0_eq (s : Int × Int × Int × Int × (List DT13) × (List DT13) × Int × Int × Int × Int × Int × Bool × Int × Int × Int × Int × Bool × ByteArray × Int × (List DT27) × Int × Int × Int × Int × Int × Bool × Int × Int × Int × Int × Bool × ByteArray × Int × Bool × Int × Int × Int × Int × Int × Bool × Int × Int × Int × Int × Bool × ByteArray × Int) : stepEv env_impl_NotationsOf loops_impl_NotationsOf pat_impl_NotationsOf_0 outs_impl_NotationsOf_0 Tryz.f20 10 s = step_impl_NotationsOf_0 s := by kernel_rfl
theorem step_impl_NotationsOf_1_eq (s : Int × Int × (List DT13) × Int × Int × Int × Int × Int × Bool × Int × Int × Int × Int × Bool × ByteArray × Int × Bool × Int × Int × Int × Int × Int × Bool × Int × Int × Int × Int × Bool × ByteArray × Int × (List DT27)) : stepEv env_impl_NotationsOf loops_impl_NotationsOf pat_impl_NotationsOf_1 outs_impl_NotationsOf_1 Tryz.f20 5 s = step_impl_NotationsOf_1 s := by kernel_rfl
theorem F_impl_NotationsOf_eq (x : DT27) : Fev env_impl_NotationsOf loops_impl_NotationsOf c_impl_NotationsOf.ps c_impl_NotationsOf.rs Tryz.f20 x = F_impl_NotationsOf x := by kernel_rfl
theorem env_impl_NotationsOf_ok : EnvOK Tryz.prog env_impl_NotationsOf := envOK_of (fun f c h => by
  simp only [env_impl_NotationsOf] at h
  split at h
  · cases h; exact con_impl_IsSign
  · cases h; exact con_impl_Hand_notations
  · cases h; exact con_impl_Sign_kind
  · cases h; exact con_slices_SortFunc_impl_Sign_impl_Sign
  · cases h; exact con_slices_Compact_impl_Sign_impl_Sign
  · cases h) (fun f c h => by
  simp only [env_impl_NotationsOf] at h
  split at h
  · cases h; exact clo_impl_compareSigns
  · cases h) rfl
theorem con_impl_NotationsOf : ConOK Tryz.prog 20 c_impl_NotationsOf := con_of_ev' (body := Tryz.f20.body.getD .skip) (Λ := loops_impl_NotationsOf) mixed Tryz.func20 (by kernel_rfl) (by kernel_rfl) env_impl_NotationsOf_ok (by kernel_rfl) (by kernel_rfl) (fun n L h => by
  unfold loops_impl_NotationsOf at h
  split at h
  · cases h; exact fun s o ho => loop_ok (stepF := stepEv env_impl_NotationsOf loops_impl_NotationsOf pat_impl_NotationsOf_0 outs_impl_NotationsOf_0 Tryz.f20 10) (step_impl_NotationsOf_0_eq) ho
  · cases h; exact fun s o ho => loop_ok (stepF := stepEv env_impl_NotationsOf loops_impl_NotationsOf pat_impl_NotationsOf_1 outs_impl_NotationsOf_1 Tryz.f20 5) (step_impl_NotationsOf_1_eq) ho
  · cases h) F_impl_NotationsOf_eq

noncomputable def F_laws_eqShape (x : (Int × (Int × (Int × (Int × (Int × Bool))))) × (Int × (Int × (Int × (Int × (Int × Bool)))))) : Option (Bool) :=
 bif ((x.1.1 != x.2.1)) then
  some (false)
 else
  bif ((x.1.2.1 != x.2.2.1)) then
   some (false)
  else
   bif ((x.1.2.2.1 != x.2.2.2.1)) then
    some (false)
   else
    bif ((x.1.2.2.2.1 != x.2.2.2.2.1)) then
     some (false)
    else
     bif ((x.1.2.2.2.2.1 != x.2.2.2.2.2.1)) then
      some (false)
     else
      bif (!(x.1.2.2.2.2.2 == x.2.2.2.2.2.2)) then
       some (false)
      else
       some (true)
noncomputable def c_laws_eqShape : Con := { ps := [(.val, (.st (.pair (.int .i64) (.pair (.int .i64) (.pair (.int .i64) (.pair (.int .i64) (.pair (.int .i64) .bool))))))), (.val, (.st (.pair (.int .i64) (.pair (.int .i64) (.pair (.int .i64) (.pair (.int .i64) (.pair (.int .i64) .bool)))))))], rs := [(.val, .bool)], F := F_laws_eqShape }
noncomputable def env_laws_eqShape : Env := { par := [], dp := false, settle := [], con := fun _ => none, clo := fun _ => none, T := tinf Tryz.prog }
noncomputable def loops_laws_eqShape : Nat → Option Loop := fun n => none
theorem con_laws_eqShape : ConOK Tryz.prog 111 c_laws_eqShape := con_of_ev' (body := Tryz.f111.body.getD .skip) (Λ := loops_laws_eqShape) mixed Tryz.func111 (by kernel_rfl) (by kernel_rfl) (envOK_of (E := env_laws_eqShape) (fun f c h => by cases h) (fun f c h => by cases h) rfl) (by kernel_rfl) (by kernel_rfl) (fun n L h => by cases h) (fun _ => by kernel_rfl)

noncomputable def F_laws_eqOrient (x : (Int × Int) × (Int × Int)) : Option (Bool) :=
 bif ((x.1.1 != x.2.1)) then
  some (false)
 else
  bif ((x.1.2 != x.2.2)) then
   some (false)
  else
   some (true)
noncomputable def c_laws_eqOrient : Con := { ps := [(.val, (.st (.pair (.int .i64) (.int .i64)))), (.val, (.st (.pair (.int .i64) (.int .i64))))], rs := [(.val, .bool)], F := F_laws_eqOrient }
noncomputable def env_laws_eqOrient : Env := { par := [], dp := false, settle := [], con := fun _ => none, clo := fun _ => none, T := tinf Tryz.prog }
noncomputable def loops_laws_eqOrient : Nat → Option Loop := fun n => none
theorem con_laws_eqOrient : ConOK Tryz.prog 112 c_laws_eqOrient := con_of_ev' (body := Tryz.f112.body.getD .skip) (Λ := loops_laws_eqOrient) mixed Tryz.func112 (by kernel_rfl) (by kernel_rfl) (envOK_of (E := env_laws_eqOrient) (fun f c h => by cases h) (fun f c h => by cases h) rfl) (by kernel_rfl) (by kernel_rfl) (fun n L h => by cases h) (fun _ => by kernel_rfl)

noncomputable def F_laws_eqPlace (x : (Int × (Int × Bool)) × (Int × (Int × Bool))) : Option (Bool) :=
 bif ((x.1.1 != x.2.1)) then
  some (false)
 else
  bif ((x.1.2.1 != x.2.2.1)) then
   some (false)
  else
   bif (!(x.1.2.2 == x.2.2.2)) then
    some (false)
   else
    some (true)
noncomputable def c_laws_eqPlace : Con := { ps := [(.val, (.st (.pair (.int .i64) (.pair (.int .i64) .bool)))), (.val, (.st (.pair (.int .i64) (.pair (.int .i64) .bool))))], rs := [(.val, .bool)], F := F_laws_eqPlace }
noncomputable def env_laws_eqPlace : Env := { par := [], dp := false, settle := [], con := fun _ => none, clo := fun _ => none, T := tinf Tryz.prog }
noncomputable def loops_laws_eqPlace : Nat → Option Loop := fun n => none
theorem con_laws_eqPlace : ConOK Tryz.prog 113 c_laws_eqPlace := con_of_ev' (body := Tryz.f113.body.getD .skip) (Λ := loops_laws_eqPlace) mixed Tryz.func113 (by kernel_rfl) (by kernel_rfl) (envOK_of (E := env_laws_eqPlace) (fun f c h => by cases h) (fun f c h => by cases h) rfl) (by kernel_rfl) (by kernel_rfl) (fun n L h => by cases h) (fun _ => by kernel_rfl)

noncomputable def F_laws_eqMove (x : (ByteArray × Int) × (ByteArray × Int)) : Option (Bool) :=
 bif (!(x.1.1.toList == x.2.1.toList)) then
  some (false)
 else
  bif ((x.1.2 != x.2.2)) then
   some (false)
  else
   some (true)
noncomputable def c_laws_eqMove : Con := { ps := [(.val, (.st (.pair .str (.int .i64)))), (.val, (.st (.pair .str (.int .i64))))], rs := [(.val, .bool)], F := F_laws_eqMove }
noncomputable def env_laws_eqMove : Env := { par := [], dp := false, settle := [], con := fun _ => none, clo := fun _ => none, T := tinf Tryz.prog }
noncomputable def loops_laws_eqMove : Nat → Option Loop := fun n => none
theorem con_laws_eqMove : ConOK Tryz.prog 114 c_laws_eqMove := con_of_ev' (body := Tryz.f114.body.getD .skip) (Λ := loops_laws_eqMove) mixed Tryz.func114 (by kernel_rfl) (by kernel_rfl) (envOK_of (E := env_laws_eqMove) (fun f c h => by cases h) (fun f c h => by cases h) rfl) (by kernel_rfl) (by kernel_rfl) (fun n L h => by cases h) (fun _ => by kernel_rfl)

noncomputable def F_laws_eqHand (x : DT13 × DT13) : Option (Bool) :=
 match F_laws_eqShape ((x.1.1, x.2.1)) with
 | none => none
 | some y1 =>
  bif (!y1) then
   some (false)
  else
   match F_laws_eqOrient ((x.1.2.1, x.2.2.1)) with
   | none => none
   | some y2 =>
    bif (!y2) then
     some (false)
    else
     match F_laws_eqPlace ((x.1.2.2.1, x.2.2.2.1)) with
     | none => none
     | some y3 =>
      bif (!y3) then
       some (false)
      else
       match F_laws_eqMove ((x.1.2.2.2, x.2.2.2.2)) with
       | none => none
       | some y4 =>
        bif (!y4) then
         some (false)
        else
         some (true)
noncomputable def c_laws_eqHand : Con := { ps := [(.val, TY13), (.val, TY13)], rs := [(.val, .bool)], F := F_laws_eqHand }
noncomputable def env_laws_eqHand : Env := { par := [], dp := false, settle := [], con := fun f => match f with | 111 => some c_laws_eqShape | 112 => some c_laws_eqOrient | 113 => some c_laws_eqPlace | 114 => some c_laws_eqMove | _ => none, clo := fun _ => none, T := tinf Tryz.prog }
noncomputable def loops_laws_eqHand : Nat → Option Loop := fun n => none
theorem con_laws_eqHand : ConOK Tryz.prog 68 c_laws_eqHand := con_of_ev' (body := Tryz.f68.body.getD .skip) (Λ := loops_laws_eqHand) mixed Tryz.func68 (by kernel_rfl) (by kernel_rfl) (envOK_of (E := env_laws_eqHand) (fun f c h => by
  simp only [env_laws_eqHand] at h
  split at h
  · cases h; exact con_laws_eqShape
  · cases h; exact con_laws_eqOrient
  · cases h; exact con_laws_eqPlace
  · cases h; exact con_laws_eqMove
  · cases h) (fun f c h => by cases h) rfl) (by kernel_rfl) (by kernel_rfl) (fun n L h => by cases h) (fun _ => by kernel_rfl)

noncomputable def F_laws_eqSign (x : DT27 × DT27) : Option (Bool) :=
 match F_laws_eqHand ((x.1.1, x.2.1)) with
 | none => none
 | some y1 =>
  bif (!y1) then
   some (false)
  else
   bif (!(x.1.2.1 == x.2.2.1)) then
    some (false)
   else
    match F_laws_eqHand ((x.1.2.2, x.2.2.2)) with
    | none => none
    | some y2 =>
     bif (!y2) then
      some (false)
     else
      some (true)
noncomputable def c_laws_eqSign : Con := { ps := [(.val, TY27), (.val, TY27)], rs := [(.val, .bool)], F := F_laws_eqSign }
noncomputable def env_laws_eqSign : Env := { par := [], dp := false, settle := [], con := fun f => match f with | 68 => some c_laws_eqHand | _ => none, clo := fun _ => none, T := tinf Tryz.prog }
noncomputable def loops_laws_eqSign : Nat → Option Loop := fun n => none
theorem con_laws_eqSign : ConOK Tryz.prog 28 c_laws_eqSign := con_of_ev' (body := Tryz.f28.body.getD .skip) (Λ := loops_laws_eqSign) mixed Tryz.func28 (by kernel_rfl) (by kernel_rfl) (envOK_of (E := env_laws_eqSign) (fun f c h => by
  simp only [env_laws_eqSign] at h
  split at h
  · cases h; exact con_laws_eqHand
  · cases h) (fun f c h => by cases h) rfl) (by kernel_rfl) (by kernel_rfl) (fun n L h => by cases h) (fun _ => by kernel_rfl)

noncomputable def step_laws_eqSignS_0 (s : (List DT27) × (List DT27) × Int) : Option (((List DT27) × (List DT27) × Int) ⊕ ((Bool) ⊕ (Unit))) :=
 bif (decide (s.2.2 < (s.1.length : Int))) then
  bif decide (0 ≤ s.2.2) && decide (s.2.2 < (s.1.length : Int)) then
   bif decide (0 ≤ s.2.2) && decide (s.2.2 < (s.2.1.length : Int)) then
    match F_laws_eqSign (((s.1.getD (s.2.2).toNat dz27), (s.2.1.getD (s.2.2).toNat dz27))) with
    | none => none
    | some y3 =>
     bif (!y3) then
      some (.inr (.inl (false)))
     else
      let v4 := IntKind.i64.wrap (s.2.2 + 1)
      some (.inl ((s.1, s.2.1, v4)))
   else none
  else none
 else
  some (.inr (.inr (())))
def pat_laws_eqSignS_0 : Pat := { tmps := .v (.slice TY27) :: .v (.slice TY27) :: .any :: .any :: .any :: .v (.int .i64) :: an 21 [], blks := [] }
def outs_laws_eqSignS_0 : List (Exit × Pat) := [(.ret, { tmps := an 4 (.v .bool :: an 22 []), blks := [] }), (.exit 0, { tmps := an 27 [], blks := [] })]
noncomputable def F_laws_eqSignS (x : (List DT27) × (List DT27)) : Option (Bool) :=
 bif (((x.1.length : Int) != (x.2.length : Int))) then
  some (false)
 else
  match runL step_laws_eqSignS_0 ((x.1, x.2, 0)) with
  | none => none
  | some (.inl o5) =>
   some (o5)
  | some (.inr o5) =>
   some (true)
noncomputable def c_laws_eqSignS : Con := { ps := [(.val, (.slice TY27)), (.val, (.slice TY27))], rs := [(.val, .bool)], F := F_laws_eqSignS }
noncomputable def env_laws_eqSignS : Env := { par := [], dp := false, settle := [], con := fun f => match f with | 28 => some c_laws_eqSign | _ => none, clo := fun _ => none, T := tinf Tryz.prog }
noncomputable def loops_laws_eqSignS : Nat → Option Loop := fun n => match n with | 4 => some { pat := pat_laws_eqSignS_0, outs := outs_laws_eqSignS_0, run := runL (step_laws_eqSignS_0) } | _ => none
theorem con_laws_eqSignS : ConOK Tryz.prog 21 c_laws_eqSignS := con_of_ev' (body := Tryz.f21.body.getD .skip) (Λ := loops_laws_eqSignS) mixed Tryz.func21 (by kernel_rfl) (by kernel_rfl) (envOK_of (E := env_laws_eqSignS) (fun f c h => by
  simp only [env_laws_eqSignS] at h
  split at h
  · cases h; exact con_laws_eqSign
  · cases h) (fun f c h => by cases h) rfl) (by kernel_rfl) (by kernel_rfl) (fun n L h => by
  unfold loops_laws_eqSignS at h
  split at h
  · cases h; exact fun s o ho => loop_ok (stepF := stepEv env_laws_eqSignS loops_laws_eqSignS pat_laws_eqSignS_0 outs_laws_eqSignS_0 Tryz.f21 4) (fun _ => by kernel_rfl) ho
  · cases h) (fun _ => by kernel_rfl)

noncomputable def step_laws_markText_0 (s : Int × ByteArray) : Option ((Int × ByteArray) ⊕ ((ByteArray))) :=
 bif (decide (s.1 > 0)) then
  bif !decide (10 = 0) then
   let v5 := (s.1).tmod 10
   let v6 := IntKind.i64.wrap (48 + v5)
   let v7 := IntKind.u8.wrap v6
   bif decide ((bytesStr [v7]).size + s.2.size ≤ 9223372036854775807) then
    bif !decide (10 = 0) then
     let v8 := IntKind.i64.wrap ((s.1).tdiv 10)
     some (.inl ((v8, ((bytesStr [v7]) ++ s.2))))
    else none
   else none
  else none
 else
  some (.inr (s.2))
def pat_laws_markText_0 : Pat := { tmps := .v (.int .i64) :: .any :: .any :: .v .str :: an 16 [], blks := [] }
def outs_laws_markText_0 : List (Exit × Pat) := [(.exit 0, { tmps := .any :: .any :: .any :: .v .str :: an 16 [], blks := [] })]
noncomputable def F_laws_markText (x : Int) : Option (ByteArray) :=
 bif (decide (x ≤ 0)) then
  some ((⟨#[109, 48]⟩ : ByteArray))
 else
  match runL step_laws_markText_0 ((x, (⟨#[]⟩ : ByteArray))) with
  | none => none
  | some o9 =>
   bif decide ((⟨#[109]⟩ : ByteArray).size + o9.size ≤ 9223372036854775807) then
    some (((⟨#[109]⟩ : ByteArray) ++ o9))
   else none
noncomputable def c_laws_markText : Con := { ps := [(.val, (.int .i64))], rs := [(.val, .str)], F := F_laws_markText }
noncomputable def env_laws_markText : Env := { par := [], dp := false, settle := [], con := fun _ => none, clo := fun _ => none, T := tinf Tryz.prog }
noncomputable def loops_laws_markText : Nat → Option Loop := fun n => match n with | 4 => some { pat := pat_laws_markText_0, outs := outs_laws_markText_0, run := runL (step_laws_markText_0) } | _ => none
theorem con_laws_markText : ConOK Tryz.prog 44 c_laws_markText := con_of_ev' (body := Tryz.f44.body.getD .skip) (Λ := loops_laws_markText) mixed Tryz.func44 (by kernel_rfl) (by kernel_rfl) (envOK_of (E := env_laws_markText) (fun f c h => by cases h) (fun f c h => by cases h) rfl) (by kernel_rfl) (by kernel_rfl) (fun n L h => by
  unfold loops_laws_markText at h
  split at h
  · cases h; exact fun s o ho => loop_ok (stepF := stepEv env_laws_markText loops_laws_markText pat_laws_markText_0 outs_laws_markText_0 Tryz.f44 4) (fun _ => by kernel_rfl) ho
  · cases h) (fun _ => by kernel_rfl)

noncomputable def step_laws_markSignS_0 (s : Int × Int × (List DT27)) : Option ((Int × Int × (List DT27)) ⊕ ((Int × (List DT27)))) :=
 bif (decide (s.2.1 < (s.2.2.length : Int))) then
  bif decide (0 ≤ s.2.1) && decide (s.2.1 < (s.2.2.length : Int)) then
   let v90 := s.2.2.getD (s.2.1).toNat dz27
   let v91 := s.2.2.set (s.2.1).toNat ((((s.1, v90.1.1.2), v90.1.2), v90.2))
   let v92 := IntKind.i64.wrap (s.1 + 1)
   bif decide (0 ≤ s.2.1) && decide (s.2.1 < (v91.length : Int)) then
    let v93 := v91.getD (s.2.1).toNat dz27
    let v94 := v91.set (s.2.1).toNat ((((v93.1.1.1, v92, v93.1.1.2.2), v93.1.2), v93.2))
    let v95 := IntKind.i64.wrap (v92 + 1)
    bif decide (0 ≤ s.2.1) && decide (s.2.1 < (v94.length : Int)) then
     let v96 := v94.getD (s.2.1).toNat dz27
     let v97 := v94.set (s.2.1).toNat ((((v96.1.1.1, (v96.1.1.2.1, v95, v96.1.1.2.2.2)), v96.1.2), v96.2))
     let v98 := IntKind.i64.wrap (v95 + 1)
     bif decide (0 ≤ s.2.1) && decide (s.2.1 < (v97.length : Int)) then
      let v99 := v97.getD (s.2.1).toNat dz27
      let v100 := v97.set (s.2.1).toNat ((((v99.1.1.1, v99.1.1.2.1, (v99.1.1.2.2.1, v98, v99.1.1.2.2.2.2)), v99.1.2), v99.2))
      let v101 := IntKind.i64.wrap (v98 + 1)
      bif decide (0 ≤ s.2.1) && decide (s.2.1 < (v100.length : Int)) then
       let v102 := v100.getD (s.2.1).toNat dz27
       let v103 := v100.set (s.2.1).toNat ((((v102.1.1.1, (v102.1.1.2.1, v102.1.1.2.2.1, (v102.1.1.2.2.2.1, v101, v102.1.1.2.2.2.2.2))), v102.1.2), v102.2))
       let v104 := IntKind.i64.wrap (v101 + 1)
       bif !decide (3 = 0) then
        let v105 := (v104).tmod 3
        bif decide (0 ≤ s.2.1) && decide (s.2.1 < (v103.length : Int)) then
         let v106 := v103.getD (s.2.1).toNat dz27
         let v107 := v103.set (s.2.1).toNat ((((v106.1.1.1, (v106.1.1.2.1, v106.1.1.2.2.1, (v106.1.1.2.2.2.1, v106.1.1.2.2.2.2.1, ((v105 == 0))))), v106.1.2), v106.2))
         let v108 := IntKind.i64.wrap (v104 + 1)
         bif decide (0 ≤ s.2.1) && decide (s.2.1 < (v107.length : Int)) then
          let v109 := v107.getD (s.2.1).toNat dz27
          let v110 := v107.set (s.2.1).toNat (((v109.1.1, (v108, v109.1.2.1.2), v109.1.2.2), v109.2))
          let v111 := IntKind.i64.wrap (v108 + 1)
          bif decide (0 ≤ s.2.1) && decide (s.2.1 < (v110.length : Int)) then
           let v112 := v110.getD (s.2.1).toNat dz27
           let v113 := v110.set (s.2.1).toNat (((v112.1.1, (v112.1.2.1.1, v111), v112.1.2.2), v112.2))
           let v114 := IntKind.i64.wrap (v111 + 1)
           bif decide (0 ≤ s.2.1) && decide (s.2.1 < (v113.length : Int)) then
            let v115 := v113.getD (s.2.1).toNat dz27
            let v116 := v113.set (s.2.1).toNat (((v115.1.1, (v115.1.2.1, (v114, v115.1.2.2.1.2), v115.1.2.2.2)), v115.2))
            let v117 := IntKind.i64.wrap (v114 + 1)
            bif decide (0 ≤ s.2.1) && decide (s.2.1 < (v116.length : Int)) then
             let v118 := v116.getD (s.2.1).toNat dz27
             let v119 := v116.set (s.2.1).toNat (((v118.1.1, (v118.1.2.1, (v118.1.2.2.1.1, v117, v118.1.2.2.1.2.2), v118.1.2.2.2)), v118.2))
             let v120 := IntKind.i64.wrap (v117 + 1)
             bif !decide (3 = 0) then
              let v121 := (v120).tmod 3
              bif decide (0 ≤ s.2.1) && decide (s.2.1 < (v119.length : Int)) then
               let v122 := v119.getD (s.2.1).toNat dz27
               let v123 := v119.set (s.2.1).toNat (((v122.1.1, (v122.1.2.1, (v122.1.2.2.1.1, v122.1.2.2.1.2.1, ((v121 == 0))), v122.1.2.2.2)), v122.2))
               let v124 := IntKind.i64.wrap (v120 + 1)
               match F_laws_markText (v124) with
               | none => none
               | some y125 =>
                bif decide (0 ≤ s.2.1) && decide (s.2.1 < (v123.length : Int)) then
                 let v126 := v123.getD (s.2.1).toNat dz27
                 let v127 := v123.set (s.2.1).toNat (((v126.1.1, v126.1.2.1, (v126.1.2.2.1, y125, v126.1.2.2.2.2)), v126.2))
                 let v128 := IntKind.i64.wrap (v124 + 1)
                 bif decide (0 ≤ s.2.1) && decide (s.2.1 < (v127.length : Int)) then
                  let v129 := v127.getD (s.2.1).toNat dz27
                  let v130 := v127.set (s.2.1).toNat (((v129.1.1, v129.1.2.1, (v129.1.2.2.1, v129.1.2.2.2.1, v128)), v129.2))
                  let v131 := IntKind.i64.wrap (v128 + 1)
                  bif !decide (3 = 0) then
                   let v132 := (v131).tmod 3
                   bif decide (0 ≤ s.2.1) && decide (s.2.1 < (v130.length : Int)) then
                    let v133 := v130.getD (s.2.1).toNat dz27
                    let v134 := v130.set (s.2.1).toNat ((v133.1, ((v132 == 0)), v133.2.2))
                    let v135 := IntKind.i64.wrap (v131 + 1)
                    bif decide (0 ≤ s.2.1) && decide (s.2.1 < (v134.length : Int)) then
                     let v136 := v134.getD (s.2.1).toNat dz27
                     let v137 := v134.set (s.2.1).toNat ((v136.1, (v136.2.1, (v135, v136.2.2.1.2), v136.2.2.2)))
                     let v138 := IntKind.i64.wrap (v135 + 1)
                     bif decide (0 ≤ s.2.1) && decide (s.2.1 < (v137.length : Int)) then
                      let v139 := v137.getD (s.2.1).toNat dz27
                      let v140 := v137.set (s.2.1).toNat ((v139.1, (v139.2.1, (v139.2.2.1.1, v138, v139.2.2.1.2.2), v139.2.2.2)))
                      let v141 := IntKind.i64.wrap (v138 + 1)
                      bif decide (0 ≤ s.2.1) && decide (s.2.1 < (v140.length : Int)) then
                       let v142 := v140.getD (s.2.1).toNat dz27
                       let v143 := v140.set (s.2.1).toNat ((v142.1, (v142.2.1, (v142.2.2.1.1, (v142.2.2.1.2.1, v141, v142.2.2.1.2.2.2)), v142.2.2.2)))
                       let v144 := IntKind.i64.wrap (v141 + 1)
                       bif decide (0 ≤ s.2.1) && decide (s.2.1 < (v143.length : Int)) then
                        let v145 := v143.getD (s.2.1).toNat dz27
                        let v146 := v143.set (s.2.1).toNat ((v145.1, (v145.2.1, (v145.2.2.1.1, v145.2.2.1.2.1, (v145.2.2.1.2.2.1, v144, v145.2.2.1.2.2.2.2)), v145.2.2.2)))
                        let v147 := IntKind.i64.wrap (v144 + 1)
                        bif decide (0 ≤ s.2.1) && decide (s.2.1 < (v146.length : Int)) then
                         let v148 := v146.getD (s.2.1).toNat dz27
                         let v149 := v146.set (s.2.1).toNat ((v148.1, (v148.2.1, (v148.2.2.1.1, (v148.2.2.1.2.1, v148.2.2.1.2.2.1, (v148.2.2.1.2.2.2.1, v147, v148.2.2.1.2.2.2.2.2))), v148.2.2.2)))
                         let v150 := IntKind.i64.wrap (v147 + 1)
                         bif !decide (3 = 0) then
                          let v151 := (v150).tmod 3
                          bif decide (0 ≤ s.2.1) && decide (s.2.1 < (v149.length : Int)) then
                           let v152 := v149.getD (s.2.1).toNat dz27
                           let v153 := v149.set (s.2.1).toNat ((v152.1, (v152.2.1, (v152.2.2.1.1, (v152.2.2.1.2.1, v152.2.2.1.2.2.1, (v152.2.2.1.2.2.2.1, v152.2.2.1.2.2.2.2.1, ((v151 == 0))))), v152.2.2.2)))
                           let v154 := IntKind.i64.wrap (v150 + 1)
                           bif decide (0 ≤ s.2.1) && decide (s.2.1 < (v153.length : Int)) then
                            let v155 := v153.getD (s.2.1).toNat dz27
                            let v156 := v153.set (s.2.1).toNat ((v155.1, v155.2.1, (v155.2.2.1, (v154, v155.2.2.2.1.2), v155.2.2.2.2)))
                            let v157 := IntKind.i64.wrap (v154 + 1)
                            bif decide (0 ≤ s.2.1) && decide (s.2.1 < (v156.length : Int)) then
                             let v158 := v156.getD (s.2.1).toNat dz27
                             let v159 := v156.set (s.2.1).toNat ((v158.1, v158.2.1, (v158.2.2.1, (v158.2.2.2.1.1, v157), v158.2.2.2.2)))
                             let v160 := IntKind.i64.wrap (v157 + 1)
                             bif decide (0 ≤ s.2.1) && decide (s.2.1 < (v159.length : Int)) then
                              let v161 := v159.getD (s.2.1).toNat dz27
                              let v162 := v159.set (s.2.1).toNat ((v161.1, (v161.2.1, v161.2.2.1, (v161.2.2.2.1, (v160, v161.2.2.2.2.1.2), v161.2.2.2.2.2))))
                              let v163 := IntKind.i64.wrap (v160 + 1)
                              bif decide (0 ≤ s.2.1) && decide (s.2.1 < (v162.length : Int)) then
                               let v164 := v162.getD (s.2.1).toNat dz27
                               let v165 := v162.set (s.2.1).toNat ((v164.1, (v164.2.1, v164.2.2.1, (v164.2.2.2.1, (v164.2.2.2.2.1.1, v163, v164.2.2.2.2.1.2.2), v164.2.2.2.2.2))))
                               let v166 := IntKind.i64.wrap (v163 + 1)
                               bif !decide (3 = 0) then
                                let v167 := (v166).tmod 3
                                bif decide (0 ≤ s.2.1) && decide (s.2.1 < (v165.length : Int)) then
                                 let v168 := v165.getD (s.2.1).toNat dz27
                                 let v169 := v165.set (s.2.1).toNat ((v168.1, (v168.2.1, v168.2.2.1, (v168.2.2.2.1, (v168.2.2.2.2.1.1, v168.2.2.2.2.1.2.1, ((v167 == 0))), v168.2.2.2.2.2))))
                                 let v170 := IntKind.i64.wrap (v166 + 1)
                                 match F_laws_markText (v170) with
                                 | none => none
                                 | some y171 =>
                                  bif decide (0 ≤ s.2.1) && decide (s.2.1 < (v169.length : Int)) then
                                   let v172 := v169.getD (s.2.1).toNat dz27
                                   let v173 := v169.set (s.2.1).toNat ((v172.1, v172.2.1, (v172.2.2.1, v172.2.2.2.1, (v172.2.2.2.2.1, y171, v172.2.2.2.2.2.2))))
                                   let v174 := IntKind.i64.wrap (v170 + 1)
                                   bif decide (0 ≤ s.2.1) && decide (s.2.1 < (v173.length : Int)) then
                                    let v175 := v173.getD (s.2.1).toNat dz27
                                    let v176 := v173.set (s.2.1).toNat ((v175.1, v175.2.1, (v175.2.2.1, v175.2.2.2.1, (v175.2.2.2.2.1, v175.2.2.2.2.2.1, v174))))
                                    let v177 := IntKind.i64.wrap (v174 + 1)
                                    let v178 := IntKind.i64.wrap (s.2.1 + 1)
                                    some (.inl ((v177, v178, v176)))
                                   else none
                                  else none
                                else none
                               else none
                              else none
                             else none
                            else none
                           else none
                          else none
                         else none
                        else none
                       else none
                      else none
                     else none
                    else none
                   else none
                  else none
                 else none
                else none
              else none
             else none
            else none
           else none
          else none
         else none
        else none
       else none
      else none
     else none
    else none
   else none
  else none
 else
  some (.inr ((s.1, s.2.2)))
def pat_laws_markSignS_0 : Pat := { tmps := .own 63 :: .v (.int .i64) :: .any :: .any :: .any :: .v (.int .i64) :: an 260 [], blks := [(63, .row true TY27)] }
def outs_laws_markSignS_0 : List (Exit × Pat) := [(.exit 0, { tmps := .any :: .v (.int .i64) :: an 264 [], blks := [(63, .row true TY27)] })]
noncomputable def F_laws_markSignS (x : (List DT27) × Int) : Option ((List DT27) × Int) :=
 match runL step_laws_markSignS_0 ((x.2, 0, x.1)) with
 | none => none
 | some o179 =>
  some ((o179.2, o179.1))
noncomputable def c_laws_markSignS : Con := { ps := [(.io true, (.slice TY27)), (.val, (.int .i64))], rs := [(.val, (.int .i64))], F := F_laws_markSignS }
noncomputable def env_laws_markSignS : Env := { par := [63], dp := false, settle := [], con := fun f => match f with | 44 => some c_laws_markText | _ => none, clo := fun _ => none, T := tinf Tryz.prog }
noncomputable def loops_laws_markSignS : Nat → Option Loop := fun n => match n with | 2 => some { pat := pat_laws_markSignS_0, outs := outs_laws_markSignS_0, run := runL (step_laws_markSignS_0) } | _ => none
theorem step_laws_markSignS_0_eq (s : Int × Int × (List DT27)) : stepEv env_laws_markSignS loops_laws_markSignS pat_laws_markSignS_0 outs_laws_markSignS_0 Tryz.f22 2 s = step_laws_markSignS_0 s := by kernel_rfl
theorem F_laws_markSignS_eq (x : (List DT27) × Int) : Fev env_laws_markSignS loops_laws_markSignS c_laws_markSignS.ps c_laws_markSignS.rs Tryz.f22 x = F_laws_markSignS x := by kernel_rfl
theorem env_laws_markSignS_ok : EnvOK Tryz.prog env_laws_markSignS := envOK_of (fun f c h => by
  simp only [env_laws_markSignS] at h
  split at h
  · cases h; exact con_laws_markText
  · cases h) (fun f c h => by cases h) rfl
theorem con_laws_markSignS : ConOK Tryz.prog 22 c_laws_markSignS := con_of_ev' (body := Tryz.f22.body.getD .skip) (Λ := loops_laws_markSignS) mixed Tryz.func22 (by kernel_rfl) (by kernel_rfl) env_laws_markSignS_ok (by kernel_rfl) (by kernel_rfl) (fun n L h => by
  unfold loops_laws_markSignS at h
  split at h
  · cases h; exact fun s o ho => loop_ok (stepF := stepEv env_laws_markSignS loops_laws_markSignS pat_laws_markSignS_0 outs_laws_markSignS_0 Tryz.f22 2) (step_laws_markSignS_0_eq) ho
  · cases h) F_laws_markSignS_eq

noncomputable def step_laws_heldSignS_0 (s : (List DT27) × Int × Int) : Option (((List DT27) × Int × Int) ⊕ ((Int) ⊕ (Int))) :=
 bif (decide (s.2.2 < (s.1.length : Int))) then
  bif decide (0 ≤ s.2.2) && decide (s.2.2 < (s.1.length : Int)) then
   bif (((s.1.getD (s.2.2).toNat dz27).1.1.1 != s.2.1)) then
    some (.inr (.inl ((-1))))
   else
    let v36 := IntKind.i64.wrap (s.2.1 + 1)
    bif decide (0 ≤ s.2.2) && decide (s.2.2 < (s.1.length : Int)) then
     bif (((s.1.getD (s.2.2).toNat dz27).1.1.2.1 != v36)) then
      some (.inr (.inl ((-1))))
     else
      let v37 := IntKind.i64.wrap (v36 + 1)
      bif decide (0 ≤ s.2.2) && decide (s.2.2 < (s.1.length : Int)) then
       bif (((s.1.getD (s.2.2).toNat dz27).1.1.2.2.1 != v37)) then
        some (.inr (.inl ((-1))))
       else
        let v38 := IntKind.i64.wrap (v37 + 1)
        bif decide (0 ≤ s.2.2) && decide (s.2.2 < (s.1.length : Int)) then
         bif (((s.1.getD (s.2.2).toNat dz27).1.1.2.2.2.1 != v38)) then
          some (.inr (.inl ((-1))))
         else
          let v39 := IntKind.i64.wrap (v38 + 1)
          bif decide (0 ≤ s.2.2) && decide (s.2.2 < (s.1.length : Int)) then
           bif (((s.1.getD (s.2.2).toNat dz27).1.1.2.2.2.2.1 != v39)) then
            some (.inr (.inl ((-1))))
           else
            let v40 := IntKind.i64.wrap (v39 + 1)
            bif decide (0 ≤ s.2.2) && decide (s.2.2 < (s.1.length : Int)) then
             bif !decide (3 = 0) then
              let v41 := (v40).tmod 3
              bif (!((s.1.getD (s.2.2).toNat dz27).1.1.2.2.2.2.2 == ((v41 == 0)))) then
               some (.inr (.inl ((-1))))
              else
               let v42 := IntKind.i64.wrap (v40 + 1)
               bif decide (0 ≤ s.2.2) && decide (s.2.2 < (s.1.length : Int)) then
                bif (((s.1.getD (s.2.2).toNat dz27).1.2.1.1 != v42)) then
                 some (.inr (.inl ((-1))))
                else
                 let v43 := IntKind.i64.wrap (v42 + 1)
                 bif decide (0 ≤ s.2.2) && decide (s.2.2 < (s.1.length : Int)) then
                  bif (((s.1.getD (s.2.2).toNat dz27).1.2.1.2 != v43)) then
                   some (.inr (.inl ((-1))))
                  else
                   let v44 := IntKind.i64.wrap (v43 + 1)
                   bif decide (0 ≤ s.2.2) && decide (s.2.2 < (s.1.length : Int)) then
                    bif (((s.1.getD (s.2.2).toNat dz27).1.2.2.1.1 != v44)) then
                     some (.inr (.inl ((-1))))
                    else
                     let v45 := IntKind.i64.wrap (v44 + 1)
                     bif decide (0 ≤ s.2.2) && decide (s.2.2 < (s.1.length : Int)) then
                      bif (((s.1.getD (s.2.2).toNat dz27).1.2.2.1.2.1 != v45)) then
                       some (.inr (.inl ((-1))))
                      else
                       let v46 := IntKind.i64.wrap (v45 + 1)
                       bif decide (0 ≤ s.2.2) && decide (s.2.2 < (s.1.length : Int)) then
                        bif !decide (3 = 0) then
                         let v47 := (v46).tmod 3
                         bif (!((s.1.getD (s.2.2).toNat dz27).1.2.2.1.2.2 == ((v47 == 0)))) then
                          some (.inr (.inl ((-1))))
                         else
                          let v48 := IntKind.i64.wrap (v46 + 1)
                          bif decide (0 ≤ s.2.2) && decide (s.2.2 < (s.1.length : Int)) then
                           match F_laws_markText (v48) with
                           | none => none
                           | some y49 =>
                            bif (!((s.1.getD (s.2.2).toNat dz27).1.2.2.2.1.toList == y49.toList)) then
                             some (.inr (.inl ((-1))))
                            else
                             let v50 := IntKind.i64.wrap (v48 + 1)
                             bif decide (0 ≤ s.2.2) && decide (s.2.2 < (s.1.length : Int)) then
                              bif (((s.1.getD (s.2.2).toNat dz27).1.2.2.2.2 != v50)) then
                               some (.inr (.inl ((-1))))
                              else
                               let v51 := IntKind.i64.wrap (v50 + 1)
                               bif decide (0 ≤ s.2.2) && decide (s.2.2 < (s.1.length : Int)) then
                                bif !decide (3 = 0) then
                                 let v52 := (v51).tmod 3
                                 bif (!((s.1.getD (s.2.2).toNat dz27).2.1 == ((v52 == 0)))) then
                                  some (.inr (.inl ((-1))))
                                 else
                                  let v53 := IntKind.i64.wrap (v51 + 1)
                                  bif decide (0 ≤ s.2.2) && decide (s.2.2 < (s.1.length : Int)) then
                                   bif (((s.1.getD (s.2.2).toNat dz27).2.2.1.1 != v53)) then
                                    some (.inr (.inl ((-1))))
                                   else
                                    let v54 := IntKind.i64.wrap (v53 + 1)
                                    bif decide (0 ≤ s.2.2) && decide (s.2.2 < (s.1.length : Int)) then
                                     bif (((s.1.getD (s.2.2).toNat dz27).2.2.1.2.1 != v54)) then
                                      some (.inr (.inl ((-1))))
                                     else
                                      let v55 := IntKind.i64.wrap (v54 + 1)
                                      bif decide (0 ≤ s.2.2) && decide (s.2.2 < (s.1.length : Int)) then
                                       bif (((s.1.getD (s.2.2).toNat dz27).2.2.1.2.2.1 != v55)) then
                                        some (.inr (.inl ((-1))))
                                       else
                                        let v56 := IntKind.i64.wrap (v55 + 1)
                                        bif decide (0 ≤ s.2.2) && decide (s.2.2 < (s.1.length : Int)) then
                                         bif (((s.1.getD (s.2.2).toNat dz27).2.2.1.2.2.2.1 != v56)) then
                                          some (.inr (.inl ((-1))))
                                         else
                                          let v57 := IntKind.i64.wrap (v56 + 1)
                                          bif decide (0 ≤ s.2.2) && decide (s.2.2 < (s.1.length : Int)) then
                                           bif (((s.1.getD (s.2.2).toNat dz27).2.2.1.2.2.2.2.1 != v57)) then
                                            some (.inr (.inl ((-1))))
                                           else
                                            let v58 := IntKind.i64.wrap (v57 + 1)
                                            bif decide (0 ≤ s.2.2) && decide (s.2.2 < (s.1.length : Int)) then
                                             bif !decide (3 = 0) then
                                              let v59 := (v58).tmod 3
                                              bif (!((s.1.getD (s.2.2).toNat dz27).2.2.1.2.2.2.2.2 == ((v59 == 0)))) then
                                               some (.inr (.inl ((-1))))
                                              else
                                               let v60 := IntKind.i64.wrap (v58 + 1)
                                               bif decide (0 ≤ s.2.2) && decide (s.2.2 < (s.1.length : Int)) then
                                                bif (((s.1.getD (s.2.2).toNat dz27).2.2.2.1.1 != v60)) then
                                                 some (.inr (.inl ((-1))))
                                                else
                                                 let v61 := IntKind.i64.wrap (v60 + 1)
                                                 bif decide (0 ≤ s.2.2) && decide (s.2.2 < (s.1.length : Int)) then
                                                  bif (((s.1.getD (s.2.2).toNat dz27).2.2.2.1.2 != v61)) then
                                                   some (.inr (.inl ((-1))))
                                                  else
                                                   let v62 := IntKind.i64.wrap (v61 + 1)
                                                   bif decide (0 ≤ s.2.2) && decide (s.2.2 < (s.1.length : Int)) then
                                                    bif (((s.1.getD (s.2.2).toNat dz27).2.2.2.2.1.1 != v62)) then
                                                     some (.inr (.inl ((-1))))
                                                    else
                                                     let v63 := IntKind.i64.wrap (v62 + 1)
                                                     bif decide (0 ≤ s.2.2) && decide (s.2.2 < (s.1.length : Int)) then
                                                      bif (((s.1.getD (s.2.2).toNat dz27).2.2.2.2.1.2.1 != v63)) then
                                                       some (.inr (.inl ((-1))))
                                                      else
                                                       let v64 := IntKind.i64.wrap (v63 + 1)
                                                       bif decide (0 ≤ s.2.2) && decide (s.2.2 < (s.1.length : Int)) then
                                                        bif !decide (3 = 0) then
                                                         let v65 := (v64).tmod 3
                                                         bif (!((s.1.getD (s.2.2).toNat dz27).2.2.2.2.1.2.2 == ((v65 == 0)))) then
                                                          some (.inr (.inl ((-1))))
                                                         else
                                                          let v66 := IntKind.i64.wrap (v64 + 1)
                                                          bif decide (0 ≤ s.2.2) && decide (s.2.2 < (s.1.length : Int)) then
                                                           match F_laws_markText (v66) with
                                                           | none => none
                                                           | some y67 =>
                                                            bif (!((s.1.getD (s.2.2).toNat dz27).2.2.2.2.2.1.toList == y67.toList)) then
                                                             some (.inr (.inl ((-1))))
                                                            else
                                                             let v68 := IntKind.i64.wrap (v66 + 1)
                                                             bif decide (0 ≤ s.2.2) && decide (s.2.2 < (s.1.length : Int)) then
                                                              bif (((s.1.getD (s.2.2).toNat dz27).2.2.2.2.2.2 != v68)) then
                                                               some (.inr (.inl ((-1))))
                                                              else
                                                               let v69 := IntKind.i64.wrap (v68 + 1)
                                                               let v70 := IntKind.i64.wrap (s.2.2 + 1)
                                                               some (.inl ((s.1, v69, v70)))
                                                             else none
                                                          else none
                                                        else none
                                                       else none
                                                     else none
                                                   else none
                                                 else none
                                               else none
                                             else none
                                            else none
                                          else none
                                        else none
                                      else none
                                    else none
                                  else none
                                else none
                               else none
                             else none
                          else none
                        else none
                       else none
                     else none
                   else none
                 else none
               else none
             else none
            else none
          else none
        else none
      else none
    else none
  else none
 else
  some (.inr (.inr (s.2.1)))
def pat_laws_heldSignS_0 : Pat := { tmps := .v (.slice TY27) :: .v (.int .i64) :: .any :: .any :: .any :: .v (.int .i64) :: an 314 [], blks := [] }
def outs_laws_heldSignS_0 : List (Exit × Pat) := [(.ret, { tmps := an 4 (.v (.int .i64) :: an 315 []), blks := [] }), (.exit 0, { tmps := .any :: .v (.int .i64) :: an 318 [], blks := [] })]
noncomputable def F_laws_heldSignS (x : (List DT27) × Int) : Option (Int) :=
 match runL step_laws_heldSignS_0 ((x.1, x.2, 0)) with
 | none => none
 | some (.inl o71) =>
  some (o71)
 | some (.inr o71) =>
  some (o71)
noncomputable def c_laws_heldSignS : Con := { ps := [(.val, (.slice TY27)), (.val, (.int .i64))], rs := [(.val, (.int .i64))], F := F_laws_heldSignS }
noncomputable def env_laws_heldSignS : Env := { par := [], dp := false, settle := [], con := fun f => match f with | 44 => some c_laws_markText | _ => none, clo := fun _ => none, T := tinf Tryz.prog }
noncomputable def loops_laws_heldSignS : Nat → Option Loop := fun n => match n with | 2 => some { pat := pat_laws_heldSignS_0, outs := outs_laws_heldSignS_0, run := runL (step_laws_heldSignS_0) } | _ => none
theorem step_laws_heldSignS_0_eq (s : (List DT27) × Int × Int) : stepEv env_laws_heldSignS loops_laws_heldSignS pat_laws_heldSignS_0 outs_laws_heldSignS_0 Tryz.f23 2 s = step_laws_heldSignS_0 s := by kernel_rfl
theorem F_laws_heldSignS_eq (x : (List DT27) × Int) : Fev env_laws_heldSignS loops_laws_heldSignS c_laws_heldSignS.ps c_laws_heldSignS.rs Tryz.f23 x = F_laws_heldSignS x := by kernel_rfl
theorem env_laws_heldSignS_ok : EnvOK Tryz.prog env_laws_heldSignS := envOK_of (fun f c h => by
  simp only [env_laws_heldSignS] at h
  split at h
  · cases h; exact con_laws_markText
  · cases h) (fun f c h => by cases h) rfl
theorem con_laws_heldSignS : ConOK Tryz.prog 23 c_laws_heldSignS := con_of_ev' (body := Tryz.f23.body.getD .skip) (Λ := loops_laws_heldSignS) mixed Tryz.func23 (by kernel_rfl) (by kernel_rfl) env_laws_heldSignS_ok (by kernel_rfl) (by kernel_rfl) (fun n L h => by
  unfold loops_laws_heldSignS at h
  split at h
  · cases h; exact fun s o ho => loop_ok (stepF := stepEv env_laws_heldSignS loops_laws_heldSignS pat_laws_heldSignS_0 outs_laws_heldSignS_0 Tryz.f23 2) (step_laws_heldSignS_0_eq) ho
  · cases h) F_laws_heldSignS_eq

noncomputable def F_laws_FnExactNotationsOf (x : DT27) : Option (Bool) :=
 match F_laws_szSign ((x, 1048576)) with
 | none => none
 | some y1 =>
  bif (decide (y1 < 0)) then
   some (true)
  else
   match F_laws_toSign (x) with
   | none => none
   | some y2 =>
    match F_spec_NotationsOf (y2) with
    | none => none
    | some y3 =>
     match F_laws_toSign (x) with
     | none => none
     | some y4 =>
      match F_impl_NotationsOf (y4) with
      | none => none
      | some y5 =>
       match F_laws_eqSignS ((y5.1, y3.1)) with
       | none => none
       | some y6 =>
        bif (!y6) then
         some (false)
        else
         bif (!(y5.2 == y3.2)) then
          some (false)
         else
          match F_laws_markSignS ((y5.1, 1)) with
          | none => none
          | some y7 =>
           match F_laws_heldSignS ((y7.1, 1)) with
           | none => none
           | some y8 =>
            bif (decide (y8 < 0)) then
             some (false)
            else
             bif ((y8 != y7.2)) then
              some (false)
             else
              match F_laws_toSign (x) with
              | none => none
              | some y9 =>
               match F_impl_NotationsOf (y9) with
               | none => none
               | some y10 =>
                match F_laws_eqSignS ((y10.1, y3.1)) with
                | none => none
                | some y11 =>
                 bif (!y11) then
                  some (false)
                 else
                  bif (!(y10.2 == y3.2)) then
                   some (false)
                  else
                   match F_laws_heldSignS ((y7.1, 1)) with
                   | none => none
                   | some y12 =>
                    bif (decide (y12 < 0)) then
                     some (false)
                    else
                     bif ((y12 != y7.2)) then
                      some (false)
                     else
                      some (true)
noncomputable def c_laws_FnExactNotationsOf : Con := { ps := [(.val, TY27)], rs := [(.val, .bool)], F := F_laws_FnExactNotationsOf }
noncomputable def env_laws_FnExactNotationsOf : Env := { par := [], dp := false, settle := [], con := fun f => match f with | 17 => some c_laws_szSign | 18 => some c_spec_NotationsOf | 19 => some c_laws_toSign | 20 => some c_impl_NotationsOf | 21 => some c_laws_eqSignS | 22 => some c_laws_markSignS | 23 => some c_laws_heldSignS | _ => none, clo := fun _ => none, T := tinf Tryz.prog }
noncomputable def loops_laws_FnExactNotationsOf : Nat → Option Loop := fun n => none
theorem F_laws_FnExactNotationsOf_eq (x : DT27) : Fev env_laws_FnExactNotationsOf loops_laws_FnExactNotationsOf c_laws_FnExactNotationsOf.ps c_laws_FnExactNotationsOf.rs Tryz.f4 x = F_laws_FnExactNotationsOf x := by kernel_rfl
theorem env_laws_FnExactNotationsOf_ok : EnvOK Tryz.prog env_laws_FnExactNotationsOf := envOK_of (fun f c h => by
  simp only [env_laws_FnExactNotationsOf] at h
  split at h
  · cases h; exact con_laws_szSign
  · cases h; exact con_spec_NotationsOf
  · cases h; exact con_laws_toSign
  · cases h; exact con_impl_NotationsOf
  · cases h; exact con_laws_eqSignS
  · cases h; exact con_laws_markSignS
  · cases h; exact con_laws_heldSignS
  · cases h) (fun f c h => by cases h) rfl
theorem con_laws_FnExactNotationsOf : ConOK Tryz.prog 4 c_laws_FnExactNotationsOf := con_of_ev' (body := Tryz.f4.body.getD .skip) (Λ := loops_laws_FnExactNotationsOf) mixed Tryz.func4 (by kernel_rfl) (by kernel_rfl) env_laws_FnExactNotationsOf_ok (by kernel_rfl) (by kernel_rfl) (fun n L h => by cases h) F_laws_FnExactNotationsOf_eq

end Go.Proofs.YtklfnbckoaphpaaGreatDoor
