/- Contracts of functions of the program, written by a program of this claim. No conditions. -/
import Derived.Test.YtbpcjfljgjekmaaGreatDoorC0
set_option linter.unusedVariables false
set_option maxRecDepth 100000
namespace Go.Proofs.YtbpcjfljgjekmaaGreatDoor
open Go
noncomputable def F_laws_eqOrient (x : (Int × Int) × (Int × Int)) : Option (Bool) :=
 bif ((x.1.1 != x.2.1)) then
  some (false)
 else
  bif ((x.1.2 != x.2.2)) then
   some (false)
  else
   some (true)
noncomputable def c_laws_eqOrient : Con := { ps := [(.val, (.st (.pair (.int .i64) (.int .i64)))), (.val, (.st (.pair (.int .i64) (.int .i64))))], rs := [(.val, .bool)], F := F_laws_eqOrient }
noncomputable def env_laws_eqOrient : Env := { par := [], dp := false, settle := [], con := fun _ => none, clo := fun _ => none, T := tinf Tryz.prog }
noncomputable def loops_laws_eqOrient : Nat → Option Loop := fun n => none
theorem F_laws_eqOrient_eq (x : (Int × Int) × (Int × Int)) : Fev env_laws_eqOrient loops_laws_eqOrient c_laws_eqOrient.ps c_laws_eqOrient.rs Tryz.f159 x = F_laws_eqOrient x := by kernel_rfl
theorem env_laws_eqOrient_ok : EnvOK Tryz.prog env_laws_eqOrient := envOK_of (fun f c h => by cases h) (fun f c h => by cases h) rfl
theorem con_laws_eqOrient : ConOK Tryz.prog 159 c_laws_eqOrient := con_of_ev' (body := Tryz.f159.body.getD .skip) (Λ := loops_laws_eqOrient) mixed Tryz.func159 (by kernel_rfl) (by kernel_rfl) env_laws_eqOrient_ok (by kernel_rfl) (by kernel_rfl) (fun n L h => by cases h) F_laws_eqOrient_eq

noncomputable def F_laws_eqPlace (x : (Int × (Int × Bool)) × (Int × (Int × Bool))) : Option (Bool) :=
 bif ((x.1.1 != x.2.1)) then
  some (false)
 else
  bif ((x.1.2.1 != x.2.2.1)) then
   some (false)
  else
   bif (!(x.1.2.2 == x.2.2.2)) then
    some (false)
   else
    some (true)
noncomputable def c_laws_eqPlace : Con := { ps := [(.val, (.st (.pair (.int .i64) (.pair (.int .i64) .bool)))), (.val, (.st (.pair (.int .i64) (.pair (.int .i64) .bool))))], rs := [(.val, .bool)], F := F_laws_eqPlace }
noncomputable def env_laws_eqPlace : Env := { par := [], dp := false, settle := [], con := fun _ => none, clo := fun _ => none, T := tinf Tryz.prog }
noncomputable def loops_laws_eqPlace : Nat → Option Loop := fun n => none
theorem F_laws_eqPlace_eq (x : (Int × (Int × Bool)) × (Int × (Int × Bool))) : Fev env_laws_eqPlace loops_laws_eqPlace c_laws_eqPlace.ps c_laws_eqPlace.rs Tryz.f160 x = F_laws_eqPlace x := by kernel_rfl
theorem env_laws_eqPlace_ok : EnvOK Tryz.prog env_laws_eqPlace := envOK_of (fun f c h => by cases h) (fun f c h => by cases h) rfl
theorem con_laws_eqPlace : ConOK Tryz.prog 160 c_laws_eqPlace := con_of_ev' (body := Tryz.f160.body.getD .skip) (Λ := loops_laws_eqPlace) mixed Tryz.func160 (by kernel_rfl) (by kernel_rfl) env_laws_eqPlace_ok (by kernel_rfl) (by kernel_rfl) (fun n L h => by cases h) F_laws_eqPlace_eq

noncomputable def F_laws_eqMove (x : (ByteArray × Int) × (ByteArray × Int)) : Option (Bool) :=
 bif (!(x.1.1.toList == x.2.1.toList)) then
  some (false)
 else
  bif ((x.1.2 != x.2.2)) then
   some (false)
  else
   some (true)
noncomputable def c_laws_eqMove : Con := { ps := [(.val, (.st (.pair .str (.int .i64)))), (.val, (.st (.pair .str (.int .i64))))], rs := [(.val, .bool)], F := F_laws_eqMove }
noncomputable def env_laws_eqMove : Env := { par := [], dp := false, settle := [], con := fun _ => none, clo := fun _ => none, T := tinf Tryz.prog }
noncomputable def loops_laws_eqMove : Nat → Option Loop := fun n => none
theorem F_laws_eqMove_eq (x : (ByteArray × Int) × (ByteArray × Int)) : Fev env_laws_eqMove loops_laws_eqMove c_laws_eqMove.ps c_laws_eqMove.rs Tryz.f161 x = F_laws_eqMove x := by kernel_rfl
theorem env_laws_eqMove_ok : EnvOK Tryz.prog env_laws_eqMove := envOK_of (fun f c h => by cases h) (fun f c h => by cases h) rfl
theorem con_laws_eqMove : ConOK Tryz.prog 161 c_laws_eqMove := con_of_ev' (body := Tryz.f161.body.getD .skip) (Λ := loops_laws_eqMove) mixed Tryz.func161 (by kernel_rfl) (by kernel_rfl) env_laws_eqMove_ok (by kernel_rfl) (by kernel_rfl) (fun n L h => by cases h) F_laws_eqMove_eq

noncomputable def F_laws_eqHand (x : ((Int × (Int × (Int × (Int × (Int × Bool))))) × ((Int × Int) × ((Int × (Int × Bool)) × (ByteArray × Int)))) × ((Int × (Int × (Int × (Int × (Int × Bool))))) × ((Int × Int) × ((Int × (Int × Bool)) × (ByteArray × Int))))) : Option (Bool) :=
 match F_laws_eqShape ((x.1.1, x.2.1)) with
 | none => none
 | some y1 =>
  bif (!y1) then
   some (false)
  else
   match F_laws_eqOrient ((x.1.2.1, x.2.2.1)) with
   | none => none
   | some y2 =>
    bif (!y2) then
     some (false)
    else
     match F_laws_eqPlace ((x.1.2.2.1, x.2.2.2.1)) with
     | none => none
     | some y3 =>
      bif (!y3) then
       some (false)
      else
       match F_laws_eqMove ((x.1.2.2.2, x.2.2.2.2)) with
       | none => none
       | some y4 =>
        bif (!y4) then
         some (false)
        else
         some (true)
noncomputable def c_laws_eqHand : Con := { ps := [(.val, (.st (.pair (.st (.pair (.int .i64) (.pair (.int .i64) (.pair (.int .i64) (.pair (.int .i64) (.pair (.int .i64) .bool)))))) (.pair (.st (.pair (.int .i64) (.int .i64))) (.pair (.st (.pair (.int .i64) (.pair (.int .i64) .bool))) (.st (.pair .str (.int .i64)))))))), (.val, (.st (.pair (.st (.pair (.int .i64) (.pair (.int .i64) (.pair (.int .i64) (.pair (.int .i64) (.pair (.int .i64) .bool)))))) (.pair (.st (.pair (.int .i64) (.int .i64))) (.pair (.st (.pair (.int .i64) (.pair (.int .i64) .bool))) (.st (.pair .str (.int .i64))))))))], rs := [(.val, .bool)], F := F_laws_eqHand }
noncomputable def env_laws_eqHand : Env := { par := [], dp := false, settle := [], con := fun f => match f with | 158 => some c_laws_eqShape | 159 => some c_laws_eqOrient | 160 => some c_laws_eqPlace | 161 => some c_laws_eqMove | _ => none, clo := fun _ => none, T := tinf Tryz.prog }
noncomputable def loops_laws_eqHand : Nat → Option Loop := fun n => none
theorem F_laws_eqHand_eq (x : ((Int × (Int × (Int × (Int × (Int × Bool))))) × ((Int × Int) × ((Int × (Int × Bool)) × (ByteArray × Int)))) × ((Int × (Int × (Int × (Int × (Int × Bool))))) × ((Int × Int) × ((Int × (Int × Bool)) × (ByteArray × Int))))) : Fev env_laws_eqHand loops_laws_eqHand c_laws_eqHand.ps c_laws_eqHand.rs Tryz.f85 x = F_laws_eqHand x := by kernel_rfl
theorem env_laws_eqHand_ok : EnvOK Tryz.prog env_laws_eqHand := envOK_of (fun f c h => by
  simp only [env_laws_eqHand] at h
  split at h
  · cases h; exact con_laws_eqShape
  · cases h; exact con_laws_eqOrient
  · cases h; exact con_laws_eqPlace
  · cases h; exact con_laws_eqMove
  · cases h) (fun f c h => by cases h) rfl
theorem con_laws_eqHand : ConOK Tryz.prog 85 c_laws_eqHand := con_of_ev' (body := Tryz.f85.body.getD .skip) (Λ := loops_laws_eqHand) mixed Tryz.func85 (by kernel_rfl) (by kernel_rfl) env_laws_eqHand_ok (by kernel_rfl) (by kernel_rfl) (fun n L h => by cases h) F_laws_eqHand_eq

noncomputable def F_laws_eqSign (x : (((Int × (Int × (Int × (Int × (Int × Bool))))) × ((Int × Int) × ((Int × (Int × Bool)) × (ByteArray × Int)))) × (Bool × ((Int × (Int × (Int × (Int × (Int × Bool))))) × ((Int × Int) × ((Int × (Int × Bool)) × (ByteArray × Int)))))) × (((Int × (Int × (Int × (Int × (Int × Bool))))) × ((Int × Int) × ((Int × (Int × Bool)) × (ByteArray × Int)))) × (Bool × ((Int × (Int × (Int × (Int × (Int × Bool))))) × ((Int × Int) × ((Int × (Int × Bool)) × (ByteArray × Int))))))) : Option (Bool) :=
 match F_laws_eqHand ((x.1.1, x.2.1)) with
 | none => none
 | some y1 =>
  bif (!y1) then
   some (false)
  else
   bif (!(x.1.2.1 == x.2.2.1)) then
    some (false)
   else
    match F_laws_eqHand ((x.1.2.2, x.2.2.2)) with
    | none => none
    | some y2 =>
     bif (!y2) then
      some (false)
     else
      some (true)
noncomputable def c_laws_eqSign : Con := { ps := [(.val, (.st (.pair (.st (.pair (.st (.pair (.int .i64) (.pair (.int .i64) (.pair (.int .i64) (.pair (.int .i64) (.pair (.int .i64) .bool)))))) (.pair (.st (.pair (.int .i64) (.int .i64))) (.pair (.st (.pair (.int .i64) (.pair (.int .i64) .bool))) (.st (.pair .str (.int .i64))))))) (.pair .bool (.st (.pair (.st (.pair (.int .i64) (.pair (.int .i64) (.pair (.int .i64) (.pair (.int .i64) (.pair (.int .i64) .bool)))))) (.pair (.st (.pair (.int .i64) (.int .i64))) (.pair (.st (.pair (.int .i64) (.pair (.int .i64) .bool))) (.st (.pair .str (.int .i64))))))))))), (.val, (.st (.pair (.st (.pair (.st (.pair (.int .i64) (.pair (.int .i64) (.pair (.int .i64) (.pair (.int .i64) (.pair (.int .i64) .bool)))))) (.pair (.st (.pair (.int .i64) (.int .i64))) (.pair (.st (.pair (.int .i64) (.pair (.int .i64) .bool))) (.st (.pair .str (.int .i64))))))) (.pair .bool (.st (.pair (.st (.pair (.int .i64) (.pair (.int .i64) (.pair (.int .i64) (.pair (.int .i64) (.pair (.int .i64) .bool)))))) (.pair (.st (.pair (.int .i64) (.int .i64))) (.pair (.st (.pair (.int .i64) (.pair (.int .i64) .bool))) (.st (.pair .str (.int .i64)))))))))))], rs := [(.val, .bool)], F := F_laws_eqSign }
noncomputable def env_laws_eqSign : Env := { par := [], dp := false, settle := [], con := fun f => match f with | 85 => some c_laws_eqHand | _ => none, clo := fun _ => none, T := tinf Tryz.prog }
noncomputable def loops_laws_eqSign : Nat → Option Loop := fun n => none
theorem F_laws_eqSign_eq (x : (((Int × (Int × (Int × (Int × (Int × Bool))))) × ((Int × Int) × ((Int × (Int × Bool)) × (ByteArray × Int)))) × (Bool × ((Int × (Int × (Int × (Int × (Int × Bool))))) × ((Int × Int) × ((Int × (Int × Bool)) × (ByteArray × Int)))))) × (((Int × (Int × (Int × (Int × (Int × Bool))))) × ((Int × Int) × ((Int × (Int × Bool)) × (ByteArray × Int)))) × (Bool × ((Int × (Int × (Int × (Int × (Int × Bool))))) × ((Int × Int) × ((Int × (Int × Bool)) × (ByteArray × Int))))))) : Fev env_laws_eqSign loops_laws_eqSign c_laws_eqSign.ps c_laws_eqSign.rs Tryz.f37 x = F_laws_eqSign x := by kernel_rfl
theorem env_laws_eqSign_ok : EnvOK Tryz.prog env_laws_eqSign := envOK_of (fun f c h => by
  simp only [env_laws_eqSign] at h
  split at h
  · cases h; exact con_laws_eqHand
  · cases h) (fun f c h => by cases h) rfl
theorem con_laws_eqSign : ConOK Tryz.prog 37 c_laws_eqSign := con_of_ev' (body := Tryz.f37.body.getD .skip) (Λ := loops_laws_eqSign) mixed Tryz.func37 (by kernel_rfl) (by kernel_rfl) env_laws_eqSign_ok (by kernel_rfl) (by kernel_rfl) (fun n L h => by cases h) F_laws_eqSign_eq

noncomputable def F_laws_FnExactParseShort (x : ByteArray) : Option (Bool) :=
 bif (decide ((x.size : Int) > 1048576)) then
  some (true)
 else
  match F_spec_ParseShort (x) with
  | none => none
  | some y1 =>
   match F_impl_ParseShort (x) with
   | none => none
   | some y2 =>
    match F_laws_eqSign ((y2.1, y1.1)) with
    | none => none
    | some y3 =>
     bif (!y3) then
      some (false)
     else
      bif (!(y2.2 == y1.2)) then
       some (false)
      else
       some (true)
noncomputable def c_laws_FnExactParseShort : Con := { ps := [(.val, .str)], rs := [(.val, .bool)], F := F_laws_FnExactParseShort }
noncomputable def env_laws_FnExactParseShort : Env := { par := [], dp := false, settle := [], con := fun f => match f with | 37 => some c_laws_eqSign | 48 => some c_spec_ParseShort | 49 => some c_impl_ParseShort | _ => none, clo := fun _ => none, T := tinf Tryz.prog }
noncomputable def loops_laws_FnExactParseShort : Nat → Option Loop := fun n => none
theorem F_laws_FnExactParseShort_eq (x : ByteArray) : Fev env_laws_FnExactParseShort loops_laws_FnExactParseShort c_laws_FnExactParseShort.ps c_laws_FnExactParseShort.rs Tryz.f9 x = F_laws_FnExactParseShort x := by kernel_rfl
theorem env_laws_FnExactParseShort_ok : EnvOK Tryz.prog env_laws_FnExactParseShort := envOK_of (fun f c h => by
  simp only [env_laws_FnExactParseShort] at h
  split at h
  · cases h; exact con_laws_eqSign
  · cases h; exact con_spec_ParseShort
  · cases h; exact con_impl_ParseShort
  · cases h) (fun f c h => by cases h) rfl
theorem con_laws_FnExactParseShort : ConOK Tryz.prog 9 c_laws_FnExactParseShort := con_of_ev' (body := Tryz.f9.body.getD .skip) (Λ := loops_laws_FnExactParseShort) mixed Tryz.func9 (by kernel_rfl) (by kernel_rfl) env_laws_FnExactParseShort_ok (by kernel_rfl) (by kernel_rfl) (fun n L h => by cases h) F_laws_FnExactParseShort_eq

end Go.Proofs.YtbpcjfljgjekmaaGreatDoor
