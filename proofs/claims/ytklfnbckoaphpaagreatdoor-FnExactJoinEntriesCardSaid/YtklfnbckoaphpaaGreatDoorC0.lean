/- Contracts of functions of the program, written by a program of this claim. No conditions. -/
import Derived.Test.YtklfnbckoaphpaaGreatDoorEvZk
import Derived.Test.YtklfnbckoaphpaaGreatDoorRows
import Derived.Shelf.Strings.Search1
import Derived.Lib.AppendIntMem
import Derived.Lib.RepeatB
import Derived.Test.YtklfnbckoaphpaaGreatDoorEvZl
import Derived.OwnWalk
import Derived.Lib.SliceRun
import Derived.WalkKit
import Derived.Deep.LoopGhost
import Derived.Lib.Walk
import Derived.Shelf.SlSortCmp.WholeK
import Derived.Shelf.SlSortCmp.NoneTotal
import Derived.Test.YtklfnbckoaphpaaGreatDoorShelf
import Derived.Test.YtklfnbckoaphpaaGreatDoorRp
import Derived.Test.YtklfnbckoaphpaaGreatDoorEvZp
import Derived.Test.YtklfnbckoaphpaaGreatDoorCm
set_option linter.unusedVariables false
set_option maxRecDepth 100000
namespace Go.Proofs.YtklfnbckoaphpaaGreatDoor
open Go
abbrev DT30 := (ByteArray × ((((Int × (Int × (Int × (Int × (Int × Bool))))) × ((Int × Int) × ((Int × (Int × Bool)) × (ByteArray × Int)))) × (Bool × ((Int × (Int × (Int × (Int × (Int × Bool))))) × ((Int × Int) × ((Int × (Int × Bool)) × (ByteArray × Int)))))) × (Int × Int)))
abbrev TY30 : Ty := (.st (.pair .str (.pair (.st (.pair (.st (.pair (.st (.pair (.int .i64) (.pair (.int .i64) (.pair (.int .i64) (.pair (.int .i64) (.pair (.int .i64) .bool)))))) (.pair (.st (.pair (.int .i64) (.int .i64))) (.pair (.st (.pair (.int .i64) (.pair (.int .i64) .bool))) (.st (.pair .str (.int .i64))))))) (.pair .bool (.st (.pair (.st (.pair (.int .i64) (.pair (.int .i64) (.pair (.int .i64) (.pair (.int .i64) (.pair (.int .i64) .bool)))))) (.pair (.st (.pair (.int .i64) (.int .i64))) (.pair (.st (.pair (.int .i64) (.pair (.int .i64) .bool))) (.st (.pair .str (.int .i64)))))))))) (.pair (.int .i64) (.int .i64)))))
def dz30 : DT30 := (ByteArray.empty, ((((0, (0, 0, (0, 0, false))), (0, 0), ((0, 0, false), ByteArray.empty, 0)), false, ((0, (0, 0, (0, 0, false))), (0, 0), ((0, 0, false), ByteArray.empty, 0))), 0, 0))
def an (n : Nat) (l : List PatK) : List PatK := List.replicate n .any ++ l
theorem mixed : Tryz.prog.follows .mixedOrders = true := by kernel_rfl
noncomputable def F_laws_szMove (x : (ByteArray × Int) × Int) : Option (Int) :=
 let v1 := IntKind.i64.wrap (x.2 - (x.1.1.size : Int))
 bif (decide (v1 < 0)) then
  some ((-1))
 else
  some (v1)
noncomputable def c_laws_szMove : Con := { ps := [(.val, (.st (.pair .str (.int .i64)))), (.val, (.int .i64))], rs := [(.val, (.int .i64))], F := F_laws_szMove }
noncomputable def env_laws_szMove : Env := { par := [], dp := false, settle := [], con := fun _ => none, clo := fun _ => none, T := tinf Tryz.prog }
noncomputable def loops_laws_szMove : Nat → Option Loop := fun n => none
theorem con_laws_szMove : ConOK Tryz.prog 77 c_laws_szMove := con_of_ev' (body := Tryz.f77.body.getD .skip) (Λ := loops_laws_szMove) mixed Tryz.func77 (by kernel_rfl) (by kernel_rfl) (envOK_of (E := env_laws_szMove) (fun f c h => by cases h) (fun f c h => by cases h) rfl) (by kernel_rfl) (by kernel_rfl) (fun n L h => by cases h) (fun _ => by kernel_rfl)

noncomputable def F_laws_szHand (x : ((Int × (Int × (Int × (Int × (Int × Bool))))) × ((Int × Int) × ((Int × (Int × Bool)) × (ByteArray × Int)))) × Int) : Option (Int) :=
 match F_laws_szMove ((x.1.2.2.2, x.2)) with
 | none => none
 | some y1 =>
  bif (decide (y1 < 0)) then
   some ((-1))
  else
   some (y1)
noncomputable def c_laws_szHand : Con := { ps := [(.val, (.st (.pair (.st (.pair (.int .i64) (.pair (.int .i64) (.pair (.int .i64) (.pair (.int .i64) (.pair (.int .i64) .bool)))))) (.pair (.st (.pair (.int .i64) (.int .i64))) (.pair (.st (.pair (.int .i64) (.pair (.int .i64) .bool))) (.st (.pair .str (.int .i64)))))))), (.val, (.int .i64))], rs := [(.val, (.int .i64))], F := F_laws_szHand }
noncomputable def env_laws_szHand : Env := { par := [], dp := false, settle := [], con := fun f => match f with | 77 => some c_laws_szMove | _ => none, clo := fun _ => none, T := tinf Tryz.prog }
noncomputable def loops_laws_szHand : Nat → Option Loop := fun n => none
theorem con_laws_szHand : ConOK Tryz.prog 45 c_laws_szHand := con_of_ev' (body := Tryz.f45.body.getD .skip) (Λ := loops_laws_szHand) mixed Tryz.func45 (by kernel_rfl) (by kernel_rfl) (envOK_of (E := env_laws_szHand) (fun f c h => by
  simp only [env_laws_szHand] at h
  split at h
  · cases h; exact con_laws_szMove
  · cases h) (fun f c h => by cases h) rfl) (by kernel_rfl) (by kernel_rfl) (fun n L h => by cases h) (fun _ => by kernel_rfl)

noncomputable def F_laws_szSign (x : (((Int × (Int × (Int × (Int × (Int × Bool))))) × ((Int × Int) × ((Int × (Int × Bool)) × (ByteArray × Int)))) × (Bool × ((Int × (Int × (Int × (Int × (Int × Bool))))) × ((Int × Int) × ((Int × (Int × Bool)) × (ByteArray × Int)))))) × Int) : Option (Int) :=
 match F_laws_szHand ((x.1.1, x.2)) with
 | none => none
 | some y1 =>
  bif (decide (y1 < 0)) then
   some ((-1))
  else
   match F_laws_szHand ((x.1.2.2, y1)) with
   | none => none
   | some y2 =>
    bif (decide (y2 < 0)) then
     some ((-1))
    else
     some (y2)
noncomputable def c_laws_szSign : Con := { ps := [(.val, (.st (.pair (.st (.pair (.st (.pair (.int .i64) (.pair (.int .i64) (.pair (.int .i64) (.pair (.int .i64) (.pair (.int .i64) .bool)))))) (.pair (.st (.pair (.int .i64) (.int .i64))) (.pair (.st (.pair (.int .i64) (.pair (.int .i64) .bool))) (.st (.pair .str (.int .i64))))))) (.pair .bool (.st (.pair (.st (.pair (.int .i64) (.pair (.int .i64) (.pair (.int .i64) (.pair (.int .i64) (.pair (.int .i64) .bool)))))) (.pair (.st (.pair (.int .i64) (.int .i64))) (.pair (.st (.pair (.int .i64) (.pair (.int .i64) .bool))) (.st (.pair .str (.int .i64))))))))))), (.val, (.int .i64))], rs := [(.val, (.int .i64))], F := F_laws_szSign }
noncomputable def env_laws_szSign : Env := { par := [], dp := false, settle := [], con := fun f => match f with | 45 => some c_laws_szHand | _ => none, clo := fun _ => none, T := tinf Tryz.prog }
noncomputable def loops_laws_szSign : Nat → Option Loop := fun n => none
theorem con_laws_szSign : ConOK Tryz.prog 17 c_laws_szSign := con_of_ev' (body := Tryz.f17.body.getD .skip) (Λ := loops_laws_szSign) mixed Tryz.func17 (by kernel_rfl) (by kernel_rfl) (envOK_of (E := env_laws_szSign) (fun f c h => by
  simp only [env_laws_szSign] at h
  split at h
  · cases h; exact con_laws_szHand
  · cases h) (fun f c h => by cases h) rfl) (by kernel_rfl) (by kernel_rfl) (fun n L h => by cases h) (fun _ => by kernel_rfl)

noncomputable def F_laws_szEntry (x : DT30 × Int) : Option (Int) :=
 let v1 := IntKind.i64.wrap (x.2 - (x.1.1.size : Int))
 bif (decide (v1 < 0)) then
  some ((-1))
 else
  match F_laws_szSign ((x.1.2.1, v1)) with
  | none => none
  | some y2 =>
   bif (decide (y2 < 0)) then
    some ((-1))
   else
    some (y2)
noncomputable def c_laws_szEntry : Con := { ps := [(.val, TY30), (.val, (.int .i64))], rs := [(.val, (.int .i64))], F := F_laws_szEntry }
noncomputable def env_laws_szEntry : Env := { par := [], dp := false, settle := [], con := fun f => match f with | 17 => some c_laws_szSign | _ => none, clo := fun _ => none, T := tinf Tryz.prog }
noncomputable def loops_laws_szEntry : Nat → Option Loop := fun n => none
theorem con_laws_szEntry : ConOK Tryz.prog 29 c_laws_szEntry := con_of_ev' (body := Tryz.f29.body.getD .skip) (Λ := loops_laws_szEntry) mixed Tryz.func29 (by kernel_rfl) (by kernel_rfl) (envOK_of (E := env_laws_szEntry) (fun f c h => by
  simp only [env_laws_szEntry] at h
  split at h
  · cases h; exact con_laws_szSign
  · cases h) (fun f c h => by cases h) rfl) (by kernel_rfl) (by kernel_rfl) (fun n L h => by cases h) (fun _ => by kernel_rfl)

noncomputable def step_laws_szEntryS_0 (s : (List DT30) × Int × Int) : Option (((List DT30) × Int × Int) ⊕ ((Int) ⊕ (Int))) :=
 bif (decide (s.2.2 < (s.1.length : Int))) then
  bif decide (0 ≤ s.2.2) && decide (s.2.2 < (s.1.length : Int)) then
   match F_laws_szEntry (((s.1.getD (s.2.2).toNat dz30), s.2.1)) with
   | none => none
   | some y4 =>
    bif (decide (y4 < 0)) then
     some (.inr (.inl ((-1))))
    else
     let v5 := IntKind.i64.wrap (s.2.2 + 1)
     some (.inl ((s.1, y4, v5)))
  else none
 else
  some (.inr (.inr (s.2.1)))
def pat_laws_szEntryS_0 : Pat := { tmps := .v (.slice TY30) :: .v (.int .i64) :: .any :: .any :: .any :: .v (.int .i64) :: an 21 [], blks := [] }
def outs_laws_szEntryS_0 : List (Exit × Pat) := [(.ret, { tmps := an 4 (.v (.int .i64) :: an 22 []), blks := [] }), (.exit 0, { tmps := .any :: .v (.int .i64) :: an 25 [], blks := [] })]
noncomputable def F_laws_szEntryS (x : (List DT30) × Int) : Option (Int) :=
 let v1 := IntKind.i64.wrap (x.2 - (x.1.length : Int))
 bif (decide (v1 < 0)) then
  some ((-1))
 else
  match runL step_laws_szEntryS_0 ((x.1, v1, 0)) with
  | none => none
  | some (.inl o6) =>
   some (o6)
  | some (.inr o6) =>
   some (o6)
noncomputable def c_laws_szEntryS : Con := { ps := [(.val, (.slice TY30)), (.val, (.int .i64))], rs := [(.val, (.int .i64))], F := F_laws_szEntryS }
noncomputable def env_laws_szEntryS : Env := { par := [], dp := false, settle := [], con := fun f => match f with | 29 => some c_laws_szEntry | _ => none, clo := fun _ => none, T := tinf Tryz.prog }
noncomputable def loops_laws_szEntryS : Nat → Option Loop := fun n => match n with | 5 => some { pat := pat_laws_szEntryS_0, outs := outs_laws_szEntryS_0, run := runL (step_laws_szEntryS_0) } | _ => none
theorem con_laws_szEntryS : ConOK Tryz.prog 7 c_laws_szEntryS := con_of_ev' (body := Tryz.f7.body.getD .skip) (Λ := loops_laws_szEntryS) mixed Tryz.func7 (by kernel_rfl) (by kernel_rfl) (envOK_of (E := env_laws_szEntryS) (fun f c h => by
  simp only [env_laws_szEntryS] at h
  split at h
  · cases h; exact con_laws_szEntry
  · cases h) (fun f c h => by cases h) rfl) (by kernel_rfl) (by kernel_rfl) (fun n L h => by
  unfold loops_laws_szEntryS at h
  split at h
  · cases h; exact fun s o ho => loop_ok (stepF := stepEv env_laws_szEntryS loops_laws_szEntryS pat_laws_szEntryS_0 outs_laws_szEntryS_0 Tryz.f7 5) (fun _ => by kernel_rfl) ho
  · cases h) (fun _ => by kernel_rfl)

noncomputable def F_laws_toShape (x : (Int × (Int × (Int × (Int × (Int × Bool)))))) : Option ((Int × (Int × (Int × (Int × (Int × Bool)))))) :=
 some (x)
noncomputable def c_laws_toShape : Con := { ps := [(.val, (.st (.pair (.int .i64) (.pair (.int .i64) (.pair (.int .i64) (.pair (.int .i64) (.pair (.int .i64) .bool)))))))], rs := [(.val, (.st (.pair (.int .i64) (.pair (.int .i64) (.pair (.int .i64) (.pair (.int .i64) (.pair (.int .i64) .bool)))))))], F := F_laws_toShape }
noncomputable def env_laws_toShape : Env := { par := [], dp := false, settle := [], con := fun _ => none, clo := fun _ => none, T := tinf Tryz.prog }
noncomputable def loops_laws_toShape : Nat → Option Loop := fun n => none
theorem con_laws_toShape : ConOK Tryz.prog 83 c_laws_toShape := con_of_ev' (body := Tryz.f83.body.getD .skip) (Λ := loops_laws_toShape) mixed Tryz.func83 (by kernel_rfl) (by kernel_rfl) (envOK_of (E := env_laws_toShape) (fun f c h => by cases h) (fun f c h => by cases h) rfl) (by kernel_rfl) (by kernel_rfl) (fun n L h => by cases h) (fun _ => by kernel_rfl)

noncomputable def F_laws_toOrient (x : (Int × Int)) : Option ((Int × Int)) :=
 some (x)
noncomputable def c_laws_toOrient : Con := { ps := [(.val, (.st (.pair (.int .i64) (.int .i64))))], rs := [(.val, (.st (.pair (.int .i64) (.int .i64))))], F := F_laws_toOrient }
noncomputable def env_laws_toOrient : Env := { par := [], dp := false, settle := [], con := fun _ => none, clo := fun _ => none, T := tinf Tryz.prog }
noncomputable def loops_laws_toOrient : Nat → Option Loop := fun n => none
theorem con_laws_toOrient : ConOK Tryz.prog 84 c_laws_toOrient := con_of_ev' (body := Tryz.f84.body.getD .skip) (Λ := loops_laws_toOrient) mixed Tryz.func84 (by kernel_rfl) (by kernel_rfl) (envOK_of (E := env_laws_toOrient) (fun f c h => by cases h) (fun f c h => by cases h) rfl) (by kernel_rfl) (by kernel_rfl) (fun n L h => by cases h) (fun _ => by kernel_rfl)

noncomputable def F_laws_toPlace (x : (Int × (Int × Bool))) : Option ((Int × (Int × Bool))) :=
 some (x)
noncomputable def c_laws_toPlace : Con := { ps := [(.val, (.st (.pair (.int .i64) (.pair (.int .i64) .bool))))], rs := [(.val, (.st (.pair (.int .i64) (.pair (.int .i64) .bool))))], F := F_laws_toPlace }
noncomputable def env_laws_toPlace : Env := { par := [], dp := false, settle := [], con := fun _ => none, clo := fun _ => none, T := tinf Tryz.prog }
noncomputable def loops_laws_toPlace : Nat → Option Loop := fun n => none
theorem con_laws_toPlace : ConOK Tryz.prog 85 c_laws_toPlace := con_of_ev' (body := Tryz.f85.body.getD .skip) (Λ := loops_laws_toPlace) mixed Tryz.func85 (by kernel_rfl) (by kernel_rfl) (envOK_of (E := env_laws_toPlace) (fun f c h => by cases h) (fun f c h => by cases h) rfl) (by kernel_rfl) (by kernel_rfl) (fun n L h => by cases h) (fun _ => by kernel_rfl)

noncomputable def F_laws_toMove (x : (ByteArray × Int)) : Option ((ByteArray × Int)) :=
 some (x)
noncomputable def c_laws_toMove : Con := { ps := [(.val, (.st (.pair .str (.int .i64))))], rs := [(.val, (.st (.pair .str (.int .i64))))], F := F_laws_toMove }
noncomputable def env_laws_toMove : Env := { par := [], dp := false, settle := [], con := fun _ => none, clo := fun _ => none, T := tinf Tryz.prog }
noncomputable def loops_laws_toMove : Nat → Option Loop := fun n => none
theorem con_laws_toMove : ConOK Tryz.prog 86 c_laws_toMove := con_of_ev' (body := Tryz.f86.body.getD .skip) (Λ := loops_laws_toMove) mixed Tryz.func86 (by kernel_rfl) (by kernel_rfl) (envOK_of (E := env_laws_toMove) (fun f c h => by cases h) (fun f c h => by cases h) rfl) (by kernel_rfl) (by kernel_rfl) (fun n L h => by cases h) (fun _ => by kernel_rfl)

noncomputable def F_laws_toHand (x : ((Int × (Int × (Int × (Int × (Int × Bool))))) × ((Int × Int) × ((Int × (Int × Bool)) × (ByteArray × Int))))) : Option (((Int × (Int × (Int × (Int × (Int × Bool))))) × ((Int × Int) × ((Int × (Int × Bool)) × (ByteArray × Int))))) :=
 match F_laws_toShape (x.1) with
 | none => none
 | some y1 =>
  match F_laws_toOrient (x.2.1) with
  | none => none
  | some y2 =>
   match F_laws_toPlace (x.2.2.1) with
   | none => none
   | some y3 =>
    match F_laws_toMove (x.2.2.2) with
    | none => none
    | some y4 =>
     some ((y1, (y2, y3, y4)))
noncomputable def c_laws_toHand : Con := { ps := [(.val, (.st (.pair (.st (.pair (.int .i64) (.pair (.int .i64) (.pair (.int .i64) (.pair (.int .i64) (.pair (.int .i64) .bool)))))) (.pair (.st (.pair (.int .i64) (.int .i64))) (.pair (.st (.pair (.int .i64) (.pair (.int .i64) .bool))) (.st (.pair .str (.int .i64))))))))], rs := [(.val, (.st (.pair (.st (.pair (.int .i64) (.pair (.int .i64) (.pair (.int .i64) (.pair (.int .i64) (.pair (.int .i64) .bool)))))) (.pair (.st (.pair (.int .i64) (.int .i64))) (.pair (.st (.pair (.int .i64) (.pair (.int .i64) .bool))) (.st (.pair .str (.int .i64))))))))], F := F_laws_toHand }
noncomputable def env_laws_toHand : Env := { par := [], dp := false, settle := [], con := fun f => match f with | 83 => some c_laws_toShape | 84 => some c_laws_toOrient | 85 => some c_laws_toPlace | 86 => some c_laws_toMove | _ => none, clo := fun _ => none, T := tinf Tryz.prog }
noncomputable def loops_laws_toHand : Nat → Option Loop := fun n => none
theorem con_laws_toHand : ConOK Tryz.prog 50 c_laws_toHand := con_of_ev' (body := Tryz.f50.body.getD .skip) (Λ := loops_laws_toHand) mixed Tryz.func50 (by kernel_rfl) (by kernel_rfl) (envOK_of (E := env_laws_toHand) (fun f c h => by
  simp only [env_laws_toHand] at h
  split at h
  · cases h; exact con_laws_toShape
  · cases h; exact con_laws_toOrient
  · cases h; exact con_laws_toPlace
  · cases h; exact con_laws_toMove
  · cases h) (fun f c h => by cases h) rfl) (by kernel_rfl) (by kernel_rfl) (fun n L h => by cases h) (fun _ => by kernel_rfl)

noncomputable def F_laws_toSign (x : (((Int × (Int × (Int × (Int × (Int × Bool))))) × ((Int × Int) × ((Int × (Int × Bool)) × (ByteArray × Int)))) × (Bool × ((Int × (Int × (Int × (Int × (Int × Bool))))) × ((Int × Int) × ((Int × (Int × Bool)) × (ByteArray × Int))))))) : Option ((((Int × (Int × (Int × (Int × (Int × Bool))))) × ((Int × Int) × ((Int × (Int × Bool)) × (ByteArray × Int)))) × (Bool × ((Int × (Int × (Int × (Int × (Int × Bool))))) × ((Int × Int) × ((Int × (Int × Bool)) × (ByteArray × Int))))))) :=
 match F_laws_toHand (x.1) with
 | none => none
 | some y1 =>
  match F_laws_toHand (x.2.2) with
  | none => none
  | some y2 =>
   some ((y1, x.2.1, y2))
noncomputable def c_laws_toSign : Con := { ps := [(.val, (.st (.pair (.st (.pair (.st (.pair (.int .i64) (.pair (.int .i64) (.pair (.int .i64) (.pair (.int .i64) (.pair (.int .i64) .bool)))))) (.pair (.st (.pair (.int .i64) (.int .i64))) (.pair (.st (.pair (.int .i64) (.pair (.int .i64) .bool))) (.st (.pair .str (.int .i64))))))) (.pair .bool (.st (.pair (.st (.pair (.int .i64) (.pair (.int .i64) (.pair (.int .i64) (.pair (.int .i64) (.pair (.int .i64) .bool)))))) (.pair (.st (.pair (.int .i64) (.int .i64))) (.pair (.st (.pair (.int .i64) (.pair (.int .i64) .bool))) (.st (.pair .str (.int .i64)))))))))))], rs := [(.val, (.st (.pair (.st (.pair (.st (.pair (.int .i64) (.pair (.int .i64) (.pair (.int .i64) (.pair (.int .i64) (.pair (.int .i64) .bool)))))) (.pair (.st (.pair (.int .i64) (.int .i64))) (.pair (.st (.pair (.int .i64) (.pair (.int .i64) .bool))) (.st (.pair .str (.int .i64))))))) (.pair .bool (.st (.pair (.st (.pair (.int .i64) (.pair (.int .i64) (.pair (.int .i64) (.pair (.int .i64) (.pair (.int .i64) .bool)))))) (.pair (.st (.pair (.int .i64) (.int .i64))) (.pair (.st (.pair (.int .i64) (.pair (.int .i64) .bool))) (.st (.pair .str (.int .i64)))))))))))], F := F_laws_toSign }
noncomputable def env_laws_toSign : Env := { par := [], dp := false, settle := [], con := fun f => match f with | 50 => some c_laws_toHand | _ => none, clo := fun _ => none, T := tinf Tryz.prog }
noncomputable def loops_laws_toSign : Nat → Option Loop := fun n => none
theorem con_laws_toSign : ConOK Tryz.prog 19 c_laws_toSign := con_of_ev' (body := Tryz.f19.body.getD .skip) (Λ := loops_laws_toSign) mixed Tryz.func19 (by kernel_rfl) (by kernel_rfl) (envOK_of (E := env_laws_toSign) (fun f c h => by
  simp only [env_laws_toSign] at h
  split at h
  · cases h; exact con_laws_toHand
  · cases h) (fun f c h => by cases h) rfl) (by kernel_rfl) (by kernel_rfl) (fun n L h => by cases h) (fun _ => by kernel_rfl)

noncomputable def F_laws_toEntry (x : DT30) : Option (DT30) :=
 match F_laws_toSign (x.2.1) with
 | none => none
 | some y1 =>
  some ((x.1, y1, x.2.2))
noncomputable def c_laws_toEntry : Con := { ps := [(.val, TY30)], rs := [(.val, TY30)], F := F_laws_toEntry }
noncomputable def env_laws_toEntry : Env := { par := [], dp := false, settle := [], con := fun f => match f with | 19 => some c_laws_toSign | _ => none, clo := fun _ => none, T := tinf Tryz.prog }
noncomputable def loops_laws_toEntry : Nat → Option Loop := fun n => none
theorem con_laws_toEntry : ConOK Tryz.prog 34 c_laws_toEntry := con_of_ev' (body := Tryz.f34.body.getD .skip) (Λ := loops_laws_toEntry) mixed Tryz.func34 (by kernel_rfl) (by kernel_rfl) (envOK_of (E := env_laws_toEntry) (fun f c h => by
  simp only [env_laws_toEntry] at h
  split at h
  · cases h; exact con_laws_toSign
  · cases h) (fun f c h => by cases h) rfl) (by kernel_rfl) (by kernel_rfl) (fun n L h => by cases h) (fun _ => by kernel_rfl)

noncomputable def step_laws_toEntryS_0 (s : (List DT30) × Int × (List DT30)) : Option (((List DT30) × Int × (List DT30)) ⊕ (((List DT30)))) :=
 bif (decide (s.2.1 < (s.1.length : Int))) then
  bif decide (0 ≤ s.2.1) && decide (s.2.1 < (s.1.length : Int)) then
   match F_laws_toEntry ((s.1.getD (s.2.1).toNat dz30)) with
   | none => none
   | some y5 =>
    bif decide (0 ≤ s.2.1) && decide (s.2.1 < (s.2.2.length : Int)) then
     let v6 := s.2.2.getD (s.2.1).toNat dz30
     let v7 := s.2.2.set (s.2.1).toNat (y5)
     let v8 := IntKind.i64.wrap (s.2.1 + 1)
     some (.inl ((s.1, v8, v7)))
    else none
  else none
 else
  some (.inr (s.2.2))
def pat_laws_toEntryS_0 : Pat := { tmps := .v (.slice TY30) :: .any :: .any :: .own 448 :: .v (.int .i64) :: an 18 [], blks := [(448, .row true TY30)] }
def outs_laws_toEntryS_0 : List (Exit × Pat) := [(.exit 0, { tmps := .any :: .any :: .any :: .own 448 :: an 19 [], blks := [(448, .row true TY30)] })]
noncomputable def F_laws_toEntryS (x : (List DT30)) : Option ((List DT30)) :=
 bif decide (0 ≤ (x.length : Int)) && decide ((x.length : Int) ≤ (x.length : Int)) && decide ((x.length : Int) * (264 : Int) ≤ 140737488355328) then
  match runL step_laws_toEntryS_0 ((x, 0, (List.replicate ((x.length : Int)).toNat (((ByteArray.empty, ((((0, (0, 0, (0, 0, false))), (0, 0), ((0, 0, false), ByteArray.empty, 0)), false, ((0, (0, 0, (0, 0, false))), (0, 0), ((0, 0, false), ByteArray.empty, 0))), 0, 0))) : DT30)))) with
  | none => none
  | some o9 =>
   some (o9)
 else none
noncomputable def c_laws_toEntryS : Con := { ps := [(.val, (.slice TY30))], rs := [(.io true, (.slice TY30))], F := F_laws_toEntryS }
noncomputable def env_laws_toEntryS : Env := { par := [], dp := false, settle := [], con := fun f => match f with | 34 => some c_laws_toEntry | _ => none, clo := fun _ => none, T := tinf Tryz.prog }
noncomputable def loops_laws_toEntryS : Nat → Option Loop := fun n => match n with | 3 => some { pat := pat_laws_toEntryS_0, outs := outs_laws_toEntryS_0, run := runL (step_laws_toEntryS_0) } | _ => none
theorem con_laws_toEntryS : ConOK Tryz.prog 9 c_laws_toEntryS := con_of_ev' (body := Tryz.f9.body.getD .skip) (Λ := loops_laws_toEntryS) mixed Tryz.func9 (by kernel_rfl) (by kernel_rfl) (envOK_of (E := env_laws_toEntryS) (fun f c h => by
  simp only [env_laws_toEntryS] at h
  split at h
  · cases h; exact con_laws_toEntry
  · cases h) (fun f c h => by cases h) rfl) (by kernel_rfl) (by kernel_rfl) (fun n L h => by
  unfold loops_laws_toEntryS at h
  split at h
  · cases h; exact fun s o ho => loop_ok (stepF := stepEv env_laws_toEntryS loops_laws_toEntryS pat_laws_toEntryS_0 outs_laws_toEntryS_0 Tryz.f9 3) (fun _ => by kernel_rfl) ho
  · cases h) (fun _ => by kernel_rfl)

noncomputable def F_spec_l1In (x : Int × Int × Int) : Option (Bool) :=
 bif (decide (x.1 ≥ x.2.1)) then
  some ((decide (x.1 ≤ x.2.2)))
 else
  some (false)
noncomputable def c_spec_l1In : Con := { ps := [(.val, (.int .i64)), (.val, (.int .i64)), (.val, (.int .i64))], rs := [(.val, .bool)], F := F_spec_l1In }
noncomputable def env_spec_l1In : Env := { par := [], dp := false, settle := [], con := fun _ => none, clo := fun _ => none, T := tinf Tryz.prog }
noncomputable def loops_spec_l1In : Nat → Option Loop := fun n => none
theorem con_spec_l1In : ConOK Tryz.prog 117 c_spec_l1In := con_of_ev' (body := Tryz.f117.body.getD .skip) (Λ := loops_spec_l1In) mixed Tryz.func117 (by kernel_rfl) (by kernel_rfl) (envOK_of (E := env_spec_l1In) (fun f c h => by cases h) (fun f c h => by cases h) rfl) (by kernel_rfl) (by kernel_rfl) (fun n L h => by cases h) (fun _ => by kernel_rfl)

noncomputable def step_spec_enGloss_0 (s : ByteArray × Int) : Option ((ByteArray × Int) ⊕ ((Bool) ⊕ (ByteArray))) :=
 bif (decide (s.2 < (s.1.size : Int))) then
  bif decide (0 ≤ s.2) && decide (s.2 < (s.1.size : Int)) then
   bif (decide ((byteAt s.1 (s.2).toNat) < 65)) then
    some (.inr (.inl (false)))
   else
    bif decide (0 ≤ s.2) && decide (s.2 < (s.1.size : Int)) then
     bif (decide ((byteAt s.1 (s.2).toNat) > 90)) then
      some (.inr (.inl (false)))
     else
      let v2 := IntKind.i64.wrap (s.2 + 1)
      some (.inl ((s.1, v2)))
    else none
  else none
 else
  some (.inr (.inr (s.1)))
def pat_spec_enGloss_0 : Pat := { tmps := .v .str :: .any :: .any :: .v (.int .i64) :: an 19 [], blks := [] }
def outs_spec_enGloss_0 : List (Exit × Pat) := [(.ret, { tmps := .any :: .any :: .v .bool :: an 20 [], blks := [] }), (.exit 0, { tmps := .v .str :: an 22 [], blks := [] })]
noncomputable def F_spec_enGloss (x : ByteArray) : Option (Bool) :=
 match runL step_spec_enGloss_0 ((x, 0)) with
 | none => none
 | some (.inl o3) =>
  some (o3)
 | some (.inr o3) =>
  match F_spec_l1In (((o3.size : Int), 1, 8)) with
  | none => none
  | some y4 =>
   some (y4)
noncomputable def c_spec_enGloss : Con := { ps := [(.val, .str)], rs := [(.val, .bool)], F := F_spec_enGloss }
noncomputable def env_spec_enGloss : Env := { par := [], dp := false, settle := [], con := fun f => match f with | 117 => some c_spec_l1In | _ => none, clo := fun _ => none, T := tinf Tryz.prog }
noncomputable def loops_spec_enGloss : Nat → Option Loop := fun n => match n with | 2 => some { pat := pat_spec_enGloss_0, outs := outs_spec_enGloss_0, run := runL (step_spec_enGloss_0) } | _ => none
theorem con_spec_enGloss : ConOK Tryz.prog 115 c_spec_enGloss := con_of_ev' (body := Tryz.f115.body.getD .skip) (Λ := loops_spec_enGloss) mixed Tryz.func115 (by kernel_rfl) (by kernel_rfl) (envOK_of (E := env_spec_enGloss) (fun f c h => by
  simp only [env_spec_enGloss] at h
  split at h
  · cases h; exact con_spec_l1In
  · cases h) (fun f c h => by cases h) rfl) (by kernel_rfl) (by kernel_rfl) (fun n L h => by
  unfold loops_spec_enGloss at h
  split at h
  · cases h; exact fun s o ho => loop_ok (stepF := stepEv env_spec_enGloss loops_spec_enGloss pat_spec_enGloss_0 outs_spec_enGloss_0 Tryz.f115 2) (fun _ => by kernel_rfl) ho
  · cases h) (fun _ => by kernel_rfl)

noncomputable def F_spec_shFingers (x : (Int × (Int × (Int × (Int × (Int × Bool)))))) : Option ((List Int)) :=
 some ([x.2.1, x.2.2.1, x.2.2.2.1, x.2.2.2.2.1])
noncomputable def c_spec_shFingers : Con := { ps := [(.val, (.st (.pair (.int .i64) (.pair (.int .i64) (.pair (.int .i64) (.pair (.int .i64) (.pair (.int .i64) .bool)))))))], rs := [(.io true, (.slice (.int .i64)))], F := F_spec_shFingers }
noncomputable def env_spec_shFingers : Env := { par := [], dp := false, settle := [], con := fun _ => none, clo := fun _ => none, T := tinf Tryz.prog }
noncomputable def loops_spec_shFingers : Nat → Option Loop := fun n => none
theorem con_spec_shFingers : ConOK Tryz.prog 181 c_spec_shFingers := con_of_ev' (body := Tryz.f181.body.getD .skip) (Λ := loops_spec_shFingers) mixed Tryz.func181 (by kernel_rfl) (by kernel_rfl) (envOK_of (E := env_spec_shFingers) (fun f c h => by cases h) (fun f c h => by cases h) rfl) (by kernel_rfl) (by kernel_rfl) (fun n L h => by cases h) (fun _ => by kernel_rfl)

noncomputable def step_spec_l1All_0 (s : Int × Int × (List Int) × Int × Int) : Option ((Int × Int × (List Int) × Int × Int) ⊕ ((Bool) ⊕ (Unit))) :=
 bif (decide (s.2.2.2.2 < s.2.2.2.1)) then
  bif decide (0 ≤ s.2.2.2.2) && decide (s.2.2.2.2 < (s.2.2.1.length : Int)) then
   match F_spec_l1In (((s.2.2.1.getD (s.2.2.2.2).toNat 0), s.1, s.2.1)) with
   | none => none
   | some y3 =>
    bif (!y3) then
     some (.inr (.inl (false)))
    else
     let v4 := IntKind.i64.wrap (s.2.2.2.2 + 1)
     some (.inl ((s.1, s.2.1, (s.2.2.1, s.2.2.2.1, v4))))
  else none
 else
  some (.inr (.inr (())))
def pat_spec_l1All_0 : Pat := { tmps := .any :: .v (.int .i64) :: .v (.int .i64) :: an 6 (.v (.slice (.int .i64)) :: .v (.int .i64) :: .v (.int .i64) :: an 9 []), blks := [] }
def outs_spec_l1All_0 : List (Exit × Pat) := [(.ret, { tmps := an 6 (.v .bool :: an 14 []), blks := [] }), (.exit 0, { tmps := an 21 [], blks := [] })]
noncomputable def F_spec_l1All (x : (List Int) × Int × Int) : Option (Bool) :=
 match runL step_spec_l1All_0 ((x.2.1, x.2.2, (x.1, (x.1.length : Int), 0))) with
 | none => none
 | some (.inl o5) =>
  some (o5)
 | some (.inr o5) =>
  some (true)
noncomputable def c_spec_l1All : Con := { ps := [(.val, (.slice (.int .i64))), (.val, (.int .i64)), (.val, (.int .i64))], rs := [(.val, .bool)], F := F_spec_l1All }
noncomputable def env_spec_l1All : Env := { par := [], dp := false, settle := [], con := fun f => match f with | 117 => some c_spec_l1In | _ => none, clo := fun _ => none, T := tinf Tryz.prog }
noncomputable def loops_spec_l1All : Nat → Option Loop := fun n => match n with | 2 => some { pat := pat_spec_l1All_0, outs := outs_spec_l1All_0, run := runL (step_spec_l1All_0) } | _ => none
theorem con_spec_l1All : ConOK Tryz.prog 180 c_spec_l1All := con_of_ev' (body := Tryz.f180.body.getD .skip) (Λ := loops_spec_l1All) mixed Tryz.func180 (by kernel_rfl) (by kernel_rfl) (envOK_of (E := env_spec_l1All) (fun f c h => by
  simp only [env_spec_l1All] at h
  split at h
  · cases h; exact con_spec_l1In
  · cases h) (fun f c h => by cases h) rfl) (by kernel_rfl) (by kernel_rfl) (fun n L h => by
  unfold loops_spec_l1All at h
  split at h
  · cases h; exact fun s o ho => loop_ok (stepF := stepEv env_spec_l1All loops_spec_l1All pat_spec_l1All_0 outs_spec_l1All_0 Tryz.f180 2) (fun _ => by kernel_rfl) ho
  · cases h) (fun _ => by kernel_rfl)

noncomputable def step_spec_shWide_0 (s : Int × (List Int)) : Option ((Int × (List Int)) ⊕ ((Bool) ⊕ (Unit))) :=
 bif (decide (s.1 < 4)) then
  let v5 := IntKind.i64.wrap (s.1 - 1)
  bif decide (0 ≤ v5) && decide (v5 < (s.2.length : Int)) then
   bif (((s.2.getD (v5).toNat 0) == 0)) then
    bif decide (0 ≤ s.1) && decide (s.1 < (s.2.length : Int)) then
     bif (((s.2.getD (s.1).toNat 0) == 0)) then
      some (.inr (.inl (true)))
     else
      let v6 := IntKind.i64.wrap (s.1 + 1)
      some (.inl ((v6, s.2)))
    else none
   else
    let v7 := IntKind.i64.wrap (s.1 + 1)
    some (.inl ((v7, s.2)))
  else none
 else
  some (.inr (.inr (())))
def pat_spec_shWide_0 : Pat := { tmps := .any :: .any :: .any :: .own 384 :: .v (.int .i64) :: an 19 [], blks := [(384, .row true (.int .i64))] }
def outs_spec_shWide_0 : List (Exit × Pat) := [(.ret, { tmps := .any :: .any :: .v .bool :: an 21 [], blks := [] }), (.exit 0, { tmps := an 24 [], blks := [] })]
noncomputable def F_spec_shWide (x : (Int × (Int × (Int × (Int × (Int × Bool)))))) : Option (Bool) :=
 match F_spec_shFingers (x) with
 | none => none
 | some y1 =>
  match runL step_spec_shWide_0 ((1, y1)) with
  | none => none
  | some (.inl o8) =>
   some (o8)
  | some (.inr o8) =>
   some (false)
noncomputable def c_spec_shWide : Con := { ps := [(.val, (.st (.pair (.int .i64) (.pair (.int .i64) (.pair (.int .i64) (.pair (.int .i64) (.pair (.int .i64) .bool)))))))], rs := [(.val, .bool)], F := F_spec_shWide }
noncomputable def env_spec_shWide : Env := { par := [], dp := false, settle := [], con := fun f => match f with | 181 => some c_spec_shFingers | _ => none, clo := fun _ => none, T := tinf Tryz.prog }
noncomputable def loops_spec_shWide : Nat → Option Loop := fun n => match n with | 3 => some { pat := pat_spec_shWide_0, outs := outs_spec_shWide_0, run := runL (step_spec_shWide_0) } | _ => none
theorem con_spec_shWide : ConOK Tryz.prog 182 c_spec_shWide := con_of_ev' (body := Tryz.f182.body.getD .skip) (Λ := loops_spec_shWide) mixed Tryz.func182 (by kernel_rfl) (by kernel_rfl) (envOK_of (E := env_spec_shWide) (fun f c h => by
  simp only [env_spec_shWide] at h
  split at h
  · cases h; exact con_spec_shFingers
  · cases h) (fun f c h => by cases h) rfl) (by kernel_rfl) (by kernel_rfl) (fun n L h => by
  unfold loops_spec_shWide at h
  split at h
  · cases h; exact fun s o ho => loop_ok (stepF := stepEv env_spec_shWide loops_spec_shWide pat_spec_shWide_0 outs_spec_shWide_0 Tryz.f182 3) (fun _ => by kernel_rfl) ho
  · cases h) (fun _ => by kernel_rfl)

noncomputable def F_spec_shGood (x : (Int × (Int × (Int × (Int × (Int × Bool)))))) : Option (Bool) :=
 match F_spec_l1In ((x.1, 0, 2)) with
 | none => none
 | some y1 =>
  bif y1 then
   match F_spec_shFingers (x) with
   | none => none
   | some y2 =>
    match F_spec_l1All ((y2, 0, 2)) with
    | none => none
    | some y3 =>
     bif y3 then
      bif (!x.2.2.2.2.2) then
       some (true)
      else
       match F_spec_shWide (x) with
       | none => none
       | some y4 =>
        some (y4)
     else
      some (false)
  else
   some (false)
noncomputable def c_spec_shGood : Con := { ps := [(.val, (.st (.pair (.int .i64) (.pair (.int .i64) (.pair (.int .i64) (.pair (.int .i64) (.pair (.int .i64) .bool)))))))], rs := [(.val, .bool)], F := F_spec_shGood }
noncomputable def env_spec_shGood : Env := { par := [], dp := false, settle := [], con := fun f => match f with | 117 => some c_spec_l1In | 180 => some c_spec_l1All | 181 => some c_spec_shFingers | 182 => some c_spec_shWide | _ => none, clo := fun _ => none, T := tinf Tryz.prog }
noncomputable def loops_spec_shGood : Nat → Option Loop := fun n => none
theorem con_spec_shGood : ConOK Tryz.prog 123 c_spec_shGood := con_of_ev' (body := Tryz.f123.body.getD .skip) (Λ := loops_spec_shGood) mixed Tryz.func123 (by kernel_rfl) (by kernel_rfl) (envOK_of (E := env_spec_shGood) (fun f c h => by
  simp only [env_spec_shGood] at h
  split at h
  · cases h; exact con_spec_l1In
  · cases h; exact con_spec_l1All
  · cases h; exact con_spec_shFingers
  · cases h; exact con_spec_shWide
  · cases h) (fun f c h => by cases h) rfl) (by kernel_rfl) (by kernel_rfl) (fun n L h => by cases h) (fun _ => by kernel_rfl)

noncomputable def F_spec_orDir (x : Int) : Option (Bool) :=
 match F_spec_l1In ((x, 0, 5)) with
 | none => none
 | some y1 =>
  some (y1)
noncomputable def c_spec_orDir : Con := { ps := [(.val, (.int .i64))], rs := [(.val, .bool)], F := F_spec_orDir }
noncomputable def env_spec_orDir : Env := { par := [], dp := false, settle := [], con := fun f => match f with | 117 => some c_spec_l1In | _ => none, clo := fun _ => none, T := tinf Tryz.prog }
noncomputable def loops_spec_orDir : Nat → Option Loop := fun n => none
theorem con_spec_orDir : ConOK Tryz.prog 183 c_spec_orDir := con_of_ev' (body := Tryz.f183.body.getD .skip) (Λ := loops_spec_orDir) mixed Tryz.func183 (by kernel_rfl) (by kernel_rfl) (envOK_of (E := env_spec_orDir) (fun f c h => by
  simp only [env_spec_orDir] at h
  split at h
  · cases h; exact con_spec_l1In
  · cases h) (fun f c h => by cases h) rfl) (by kernel_rfl) (by kernel_rfl) (fun n L h => by cases h) (fun _ => by kernel_rfl)

noncomputable def F_spec_orOpposite (x : Int) : Option (Int) :=
 bif !decide (2 = 0) then
  let v1 := (x).tmod 2
  bif ((v1 == 0)) then
   let v2 := IntKind.i64.wrap (x + 1)
   some (v2)
  else
   let v3 := IntKind.i64.wrap (x - 1)
   some (v3)
 else none
noncomputable def c_spec_orOpposite : Con := { ps := [(.val, (.int .i64))], rs := [(.val, (.int .i64))], F := F_spec_orOpposite }
noncomputable def env_spec_orOpposite : Env := { par := [], dp := false, settle := [], con := fun _ => none, clo := fun _ => none, T := tinf Tryz.prog }
noncomputable def loops_spec_orOpposite : Nat → Option Loop := fun n => none
theorem con_spec_orOpposite : ConOK Tryz.prog 184 c_spec_orOpposite := con_of_ev' (body := Tryz.f184.body.getD .skip) (Λ := loops_spec_orOpposite) mixed Tryz.func184 (by kernel_rfl) (by kernel_rfl) (envOK_of (E := env_spec_orOpposite) (fun f c h => by cases h) (fun f c h => by cases h) rfl) (by kernel_rfl) (by kernel_rfl) (fun n L h => by cases h) (fun _ => by kernel_rfl)

noncomputable def F_spec_orGood (x : (Int × Int)) : Option (Bool) :=
 match F_spec_orDir (x.1) with
 | none => none
 | some y1 =>
  bif y1 then
   match F_spec_orDir (x.2) with
   | none => none
   | some y2 =>
    bif y2 then
     bif ((x.1 != x.2)) then
      match F_spec_orOpposite (x.2) with
      | none => none
      | some y3 =>
       some (((x.1 != y3)))
     else
      some (false)
    else
     some (false)
  else
   some (false)
noncomputable def c_spec_orGood : Con := { ps := [(.val, (.st (.pair (.int .i64) (.int .i64))))], rs := [(.val, .bool)], F := F_spec_orGood }
noncomputable def env_spec_orGood : Env := { par := [], dp := false, settle := [], con := fun f => match f with | 183 => some c_spec_orDir | 184 => some c_spec_orOpposite | _ => none, clo := fun _ => none, T := tinf Tryz.prog }
noncomputable def loops_spec_orGood : Nat → Option Loop := fun n => none
theorem con_spec_orGood : ConOK Tryz.prog 124 c_spec_orGood := con_of_ev' (body := Tryz.f124.body.getD .skip) (Λ := loops_spec_orGood) mixed Tryz.func124 (by kernel_rfl) (by kernel_rfl) (envOK_of (E := env_spec_orGood) (fun f c h => by
  simp only [env_spec_orGood] at h
  split at h
  · cases h; exact con_spec_orDir
  · cases h; exact con_spec_orOpposite
  · cases h) (fun f c h => by cases h) rfl) (by kernel_rfl) (by kernel_rfl) (fun n L h => by cases h) (fun _ => by kernel_rfl)

noncomputable def F_spec_plGood (x : (Int × (Int × Bool))) : Option (Bool) :=
 match F_spec_l1In ((x.1, 0, 9)) with
 | none => none
 | some y1 =>
  bif y1 then
   match F_spec_l1In ((x.2.1, (-1), 1)) with
   | none => none
   | some y2 =>
    bif y2 then
     bif (decide (x.1 > 0)) then
      some (true)
     else
      some ((!x.2.2))
    else
     some (false)
  else
   some (false)
noncomputable def c_spec_plGood : Con := { ps := [(.val, (.st (.pair (.int .i64) (.pair (.int .i64) .bool))))], rs := [(.val, .bool)], F := F_spec_plGood }
noncomputable def env_spec_plGood : Env := { par := [], dp := false, settle := [], con := fun f => match f with | 117 => some c_spec_l1In | _ => none, clo := fun _ => none, T := tinf Tryz.prog }
noncomputable def loops_spec_plGood : Nat → Option Loop := fun n => none
theorem con_spec_plGood : ConOK Tryz.prog 125 c_spec_plGood := con_of_ev' (body := Tryz.f125.body.getD .skip) (Λ := loops_spec_plGood) mixed Tryz.func125 (by kernel_rfl) (by kernel_rfl) (envOK_of (E := env_spec_plGood) (fun f c h => by
  simp only [env_spec_plGood] at h
  split at h
  · cases h; exact con_spec_l1In
  · cases h) (fun f c h => by cases h) rfl) (by kernel_rfl) (by kernel_rfl) (fun n L h => by cases h) (fun _ => by kernel_rfl)

noncomputable def F_spec_mvLetters (x : Unit) : Option (ByteArray) :=
 some ((⟨#[117, 100, 108, 114, 102, 98]⟩ : ByteArray))
noncomputable def c_spec_mvLetters : Con := { ps := [], rs := [(.val, .str)], F := F_spec_mvLetters }
noncomputable def env_spec_mvLetters : Env := { par := [], dp := false, settle := [], con := fun _ => none, clo := fun _ => none, T := tinf Tryz.prog }
noncomputable def loops_spec_mvLetters : Nat → Option Loop := fun n => none
theorem con_spec_mvLetters : ConOK Tryz.prog 247 c_spec_mvLetters := con_of_ev' (body := Tryz.f247.body.getD .skip) (Λ := loops_spec_mvLetters) mixed Tryz.func247 (by kernel_rfl) (by kernel_rfl) (envOK_of (E := env_spec_mvLetters) (fun f c h => by cases h) (fun f c h => by cases h) rfl) (by kernel_rfl) (by kernel_rfl) (fun n L h => by cases h) (fun _ => by kernel_rfl)

noncomputable def step_spec_mvIndex_0 (s : Int × Int) : Option ((Int × Int) ⊕ ((Int) ⊕ (Unit))) :=
 match F_spec_mvLetters () with
 | none => none
 | some y4 =>
  bif (decide (s.2 < (y4.size : Int))) then
   match F_spec_mvLetters () with
   | none => none
   | some y5 =>
    bif decide (0 ≤ s.2) && decide (s.2 < (y5.size : Int)) then
     bif (((byteAt y5 (s.2).toNat) == s.1)) then
      some (.inr (.inl (s.2)))
     else
      let v6 := IntKind.i64.wrap (s.2 + 1)
      some (.inl ((s.1, v6)))
    else none
  else
   some (.inr (.inr (())))
def pat_spec_mvIndex_0 : Pat := { tmps := .v (.int .u8) :: .any :: .any :: .v (.int .i64) :: an 12 [], blks := [] }
def outs_spec_mvIndex_0 : List (Exit × Pat) := [(.ret, { tmps := .any :: .any :: .v (.int .i64) :: an 13 [], blks := [] }), (.exit 0, { tmps := an 16 [], blks := [] })]
noncomputable def F_spec_mvIndex (x : Int) : Option (Int) :=
 match runL step_spec_mvIndex_0 ((x, 0)) with
 | none => none
 | some (.inl o7) =>
  some (o7)
 | some (.inr o7) =>
  some ((-1))
noncomputable def c_spec_mvIndex : Con := { ps := [(.val, (.int .u8))], rs := [(.val, (.int .i64))], F := F_spec_mvIndex }
noncomputable def env_spec_mvIndex : Env := { par := [], dp := false, settle := [], con := fun f => match f with | 247 => some c_spec_mvLetters | _ => none, clo := fun _ => none, T := tinf Tryz.prog }
noncomputable def loops_spec_mvIndex : Nat → Option Loop := fun n => match n with | 2 => some { pat := pat_spec_mvIndex_0, outs := outs_spec_mvIndex_0, run := runL (step_spec_mvIndex_0) } | _ => none
theorem con_spec_mvIndex : ConOK Tryz.prog 225 c_spec_mvIndex := con_of_ev' (body := Tryz.f225.body.getD .skip) (Λ := loops_spec_mvIndex) mixed Tryz.func225 (by kernel_rfl) (by kernel_rfl) (envOK_of (E := env_spec_mvIndex) (fun f c h => by
  simp only [env_spec_mvIndex] at h
  split at h
  · cases h; exact con_spec_mvLetters
  · cases h) (fun f c h => by cases h) rfl) (by kernel_rfl) (by kernel_rfl) (fun n L h => by
  unfold loops_spec_mvIndex at h
  split at h
  · cases h; exact fun s o ho => loop_ok (stepF := stepEv env_spec_mvIndex loops_spec_mvIndex pat_spec_mvIndex_0 outs_spec_mvIndex_0 Tryz.f225 2) (fun _ => by kernel_rfl) ho
  · cases h) (fun _ => by kernel_rfl)

noncomputable def step_spec_mvSteps_0 (s : ByteArray × Int) : Option ((ByteArray × Int) ⊕ ((Bool) ⊕ (Unit))) :=
 bif (decide (s.2 < (s.1.size : Int))) then
  bif decide (0 ≤ s.2) && decide (s.2 < (s.1.size : Int)) then
   match F_spec_mvIndex ((byteAt s.1 (s.2).toNat)) with
   | none => none
   | some y3 =>
    bif (decide (y3 < 0)) then
     some (.inr (.inl (false)))
    else
     let v4 := IntKind.i64.wrap (s.2 + 1)
     some (.inl ((s.1, v4)))
  else none
 else
  some (.inr (.inr (())))
def pat_spec_mvSteps_0 : Pat := { tmps := .v .str :: .any :: .any :: .v (.int .i64) :: an 11 [], blks := [] }
def outs_spec_mvSteps_0 : List (Exit × Pat) := [(.ret, { tmps := .any :: .any :: .v .bool :: an 12 [], blks := [] }), (.exit 0, { tmps := an 15 [], blks := [] })]
noncomputable def F_spec_mvSteps (x : ByteArray) : Option (Bool) :=
 match runL step_spec_mvSteps_0 ((x, 0)) with
 | none => none
 | some (.inl o5) =>
  some (o5)
 | some (.inr o5) =>
  some (true)
noncomputable def c_spec_mvSteps : Con := { ps := [(.val, .str)], rs := [(.val, .bool)], F := F_spec_mvSteps }
noncomputable def env_spec_mvSteps : Env := { par := [], dp := false, settle := [], con := fun f => match f with | 225 => some c_spec_mvIndex | _ => none, clo := fun _ => none, T := tinf Tryz.prog }
noncomputable def loops_spec_mvSteps : Nat → Option Loop := fun n => match n with | 2 => some { pat := pat_spec_mvSteps_0, outs := outs_spec_mvSteps_0, run := runL (step_spec_mvSteps_0) } | _ => none
theorem con_spec_mvSteps : ConOK Tryz.prog 185 c_spec_mvSteps := con_of_ev' (body := Tryz.f185.body.getD .skip) (Λ := loops_spec_mvSteps) mixed Tryz.func185 (by kernel_rfl) (by kernel_rfl) (envOK_of (E := env_spec_mvSteps) (fun f c h => by
  simp only [env_spec_mvSteps] at h
  split at h
  · cases h; exact con_spec_mvIndex
  · cases h) (fun f c h => by cases h) rfl) (by kernel_rfl) (by kernel_rfl) (fun n L h => by
  unfold loops_spec_mvSteps at h
  split at h
  · cases h; exact fun s o ho => loop_ok (stepF := stepEv env_spec_mvSteps loops_spec_mvSteps pat_spec_mvSteps_0 outs_spec_mvSteps_0 Tryz.f185 2) (fun _ => by kernel_rfl) ho
  · cases h) (fun _ => by kernel_rfl)

noncomputable def F_spec_mvGood (x : (ByteArray × Int)) : Option (Bool) :=
 bif (decide ((x.1.size : Int) ≤ 6)) then
  match F_spec_mvSteps (x.1) with
  | none => none
  | some y1 =>
   bif y1 then
    match F_spec_l1In ((x.2, 1, 3)) with
    | none => none
    | some y2 =>
     bif y2 then
      bif (!(x.1.toList == (⟨#[]⟩ : ByteArray).toList)) then
       some (true)
      else
       some (((x.2 == 1)))
     else
      some (false)
   else
    some (false)
 else
  some (false)
noncomputable def c_spec_mvGood : Con := { ps := [(.val, (.st (.pair .str (.int .i64))))], rs := [(.val, .bool)], F := F_spec_mvGood }
noncomputable def env_spec_mvGood : Env := { par := [], dp := false, settle := [], con := fun f => match f with | 117 => some c_spec_l1In | 185 => some c_spec_mvSteps | _ => none, clo := fun _ => none, T := tinf Tryz.prog }
noncomputable def loops_spec_mvGood : Nat → Option Loop := fun n => none
theorem con_spec_mvGood : ConOK Tryz.prog 126 c_spec_mvGood := con_of_ev' (body := Tryz.f126.body.getD .skip) (Λ := loops_spec_mvGood) mixed Tryz.func126 (by kernel_rfl) (by kernel_rfl) (envOK_of (E := env_spec_mvGood) (fun f c h => by
  simp only [env_spec_mvGood] at h
  split at h
  · cases h; exact con_spec_l1In
  · cases h; exact con_spec_mvSteps
  · cases h) (fun f c h => by cases h) rfl) (by kernel_rfl) (by kernel_rfl) (fun n L h => by cases h) (fun _ => by kernel_rfl)

noncomputable def F_spec_siHand (x : ((Int × (Int × (Int × (Int × (Int × Bool))))) × ((Int × Int) × ((Int × (Int × Bool)) × (ByteArray × Int))))) : Option (Bool) :=
 match F_spec_shGood (x.1) with
 | none => none
 | some y1 =>
  bif y1 then
   match F_spec_orGood (x.2.1) with
   | none => none
   | some y2 =>
    bif y2 then
     match F_spec_plGood (x.2.2.1) with
     | none => none
     | some y3 =>
      bif y3 then
       match F_spec_mvGood (x.2.2.2) with
       | none => none
       | some y4 =>
        some (y4)
      else
       some (false)
    else
     some (false)
  else
   some (false)
noncomputable def c_spec_siHand : Con := { ps := [(.val, (.st (.pair (.st (.pair (.int .i64) (.pair (.int .i64) (.pair (.int .i64) (.pair (.int .i64) (.pair (.int .i64) .bool)))))) (.pair (.st (.pair (.int .i64) (.int .i64))) (.pair (.st (.pair (.int .i64) (.pair (.int .i64) .bool))) (.st (.pair .str (.int .i64))))))))], rs := [(.val, .bool)], F := F_spec_siHand }
noncomputable def env_spec_siHand : Env := { par := [], dp := false, settle := [], con := fun f => match f with | 123 => some c_spec_shGood | 124 => some c_spec_orGood | 125 => some c_spec_plGood | 126 => some c_spec_mvGood | _ => none, clo := fun _ => none, T := tinf Tryz.prog }
noncomputable def loops_spec_siHand : Nat → Option Loop := fun n => none
theorem con_spec_siHand : ConOK Tryz.prog 78 c_spec_siHand := con_of_ev' (body := Tryz.f78.body.getD .skip) (Λ := loops_spec_siHand) mixed Tryz.func78 (by kernel_rfl) (by kernel_rfl) (envOK_of (E := env_spec_siHand) (fun f c h => by
  simp only [env_spec_siHand] at h
  split at h
  · cases h; exact con_spec_shGood
  · cases h; exact con_spec_orGood
  · cases h; exact con_spec_plGood
  · cases h; exact con_spec_mvGood
  · cases h) (fun f c h => by cases h) rfl) (by kernel_rfl) (by kernel_rfl) (fun n L h => by cases h) (fun _ => by kernel_rfl)

noncomputable def step_spec_shParse_0 (s : ByteArray × Int × Int × Int × Int × Int × Int × Bool × (List Int)) : Option ((ByteArray × Int × Int × Int × Int × Int × Int × Bool × (List Int)) ⊕ ((ByteArray × (List Int) × Int × Int × Int × Int × Int × Bool))) :=
 bif (decide (s.2.1 < 5)) then
  bif decide (0 ≤ s.2.1) && decide (s.2.1 < (s.1.size : Int)) then
   let v22 := IntKind.i64.wrap (byteAt s.1 (s.2.1).toNat)
   let v23 := IntKind.i64.wrap (v22 - 48)
   bif decide ((s.2.2.2.2.2.2.2.2.length + [v23].length) * 8 ≤ 140737488355328) then
    let v24 := s.2.2.2.2.2.2.2.2 ++ [v23]
    let v25 := IntKind.i64.wrap (s.2.1 + 1)
    some (.inl ((s.1, v25, (s.2.2.1, s.2.2.2.1, (s.2.2.2.2.1, s.2.2.2.2.2.1, (s.2.2.2.2.2.2.1, s.2.2.2.2.2.2.2.1, v24))))))
   else none
  else none
 else
  some (.inr ((s.1, (s.2.2.2.2.2.2.2.2, s.2.2.1, (s.2.2.2.1, s.2.2.2.2.1, (s.2.2.2.2.2.1, s.2.2.2.2.2.2.1, s.2.2.2.2.2.2.2.1))))))
def pat_spec_shParse_0 : Pat := { tmps := .v .str :: .any :: .ptr 128 0 :: .any :: .own 2112 :: .v (.int .i64) :: an 52 [], blks := [(128, .box [.v (.int .i64), .v (.int .i64), .v (.int .i64), .v (.int .i64), .v (.int .i64), .v .bool]), (2112, .row true (.int .i64))] }
def outs_spec_shParse_0 : List (Exit × Pat) := [(.exit 0, { tmps := .v .str :: .any :: .ptr 128 0 :: .any :: .own 2112 :: an 53 [], blks := [(2112, .row true (.int .i64)), (128, .box [.v (.int .i64), .v (.int .i64), .v (.int .i64), .v (.int .i64), .v (.int .i64), .v .bool])] })]
noncomputable def F_spec_shParse (x : ByteArray) : Option ((Int × (Int × (Int × (Int × (Int × Bool))))) × Bool) :=
 match F_spec_l1In (((x.size : Int), 5, 6)) with
 | none => none
 | some y1 =>
  bif (!y1) then
   some (((0, (0, 0, (0, 0, false))), false))
  else
   bif (((x.size : Int) == 6)) then
    bif decide (0 ≤ 5) && decide (5 < (x.size : Int)) then
     bif (((byteAt x (5 : Int).toNat) != 115)) then
      some (((0, (0, 0, (0, 0, false))), false))
     else
      match runL step_spec_shParse_0 ((x, 0, (0, 0, (0, 0, (0, false, []))))) with
      | none => none
      | some o13 =>
       bif decide (0 ≤ 0) && decide (0 < (o13.2.1.length : Int)) then
        bif decide (0 ≤ 1) && decide (1 < (o13.2.1.length : Int)) then
         bif decide (0 ≤ 2) && decide (2 < (o13.2.1.length : Int)) then
          bif decide (0 ≤ 3) && decide (3 < (o13.2.1.length : Int)) then
           bif decide (0 ≤ 4) && decide (4 < (o13.2.1.length : Int)) then
            match F_spec_shGood (((o13.2.1.getD (0 : Int).toNat 0), ((o13.2.1.getD (1 : Int).toNat 0), (o13.2.1.getD (2 : Int).toNat 0), ((o13.2.1.getD (3 : Int).toNat 0), (o13.2.1.getD (4 : Int).toNat 0), (((o13.1.size : Int) == 6)))))) with
            | none => none
            | some y14 =>
             bif (!y14) then
              some (((0, (0, 0, (0, 0, false))), false))
             else
              some ((((o13.2.1.getD (0 : Int).toNat 0), ((o13.2.1.getD (1 : Int).toNat 0), (o13.2.1.getD (2 : Int).toNat 0), ((o13.2.1.getD (3 : Int).toNat 0), (o13.2.1.getD (4 : Int).toNat 0), (((o13.1.size : Int) == 6))))), true))
           else none
          else none
         else none
        else none
       else none
    else none
   else
    match runL step_spec_shParse_0 ((x, 0, (0, 0, (0, 0, (0, false, []))))) with
    | none => none
    | some o26 =>
     bif decide (0 ≤ 0) && decide (0 < (o26.2.1.length : Int)) then
      bif decide (0 ≤ 1) && decide (1 < (o26.2.1.length : Int)) then
       bif decide (0 ≤ 2) && decide (2 < (o26.2.1.length : Int)) then
        bif decide (0 ≤ 3) && decide (3 < (o26.2.1.length : Int)) then
         bif decide (0 ≤ 4) && decide (4 < (o26.2.1.length : Int)) then
          match F_spec_shGood (((o26.2.1.getD (0 : Int).toNat 0), ((o26.2.1.getD (1 : Int).toNat 0), (o26.2.1.getD (2 : Int).toNat 0), ((o26.2.1.getD (3 : Int).toNat 0), (o26.2.1.getD (4 : Int).toNat 0), (((o26.1.size : Int) == 6)))))) with
          | none => none
          | some y27 =>
           bif (!y27) then
            some (((0, (0, 0, (0, 0, false))), false))
           else
            some ((((o26.2.1.getD (0 : Int).toNat 0), ((o26.2.1.getD (1 : Int).toNat 0), (o26.2.1.getD (2 : Int).toNat 0), ((o26.2.1.getD (3 : Int).toNat 0), (o26.2.1.getD (4 : Int).toNat 0), (((o26.1.size : Int) == 6))))), true))
         else none
        else none
       else none
      else none
     else none
noncomputable def c_spec_shParse : Con := { ps := [(.val, .str)], rs := [(.val, (.st (.pair (.int .i64) (.pair (.int .i64) (.pair (.int .i64) (.pair (.int .i64) (.pair (.int .i64) .bool))))))), (.val, .bool)], F := F_spec_shParse }
noncomputable def env_spec_shParse : Env := { par := [], dp := false, settle := [], con := fun f => match f with | 117 => some c_spec_l1In | 123 => some c_spec_shGood | _ => none, clo := fun _ => none, T := tinf Tryz.prog }
noncomputable def loops_spec_shParse : Nat → Option Loop := fun n => match n with | 5 => some { pat := pat_spec_shParse_0, outs := outs_spec_shParse_0, run := runL (step_spec_shParse_0) } | _ => none
theorem con_spec_shParse : ConOK Tryz.prog 100 c_spec_shParse := con_of_ev' (body := Tryz.f100.body.getD .skip) (Λ := loops_spec_shParse) mixed Tryz.func100 (by kernel_rfl) (by kernel_rfl) (envOK_of (E := env_spec_shParse) (fun f c h => by
  simp only [env_spec_shParse] at h
  split at h
  · cases h; exact con_spec_l1In
  · cases h; exact con_spec_shGood
  · cases h) (fun f c h => by cases h) rfl) (by kernel_rfl) (by kernel_rfl) (fun n L h => by
  unfold loops_spec_shParse at h
  split at h
  · cases h; exact fun s o ho => loop_ok (stepF := stepEv env_spec_shParse loops_spec_shParse pat_spec_shParse_0 outs_spec_shParse_0 Tryz.f100 5) (fun _ => by kernel_rfl) ho
  · cases h) (fun _ => by kernel_rfl)

noncomputable def step_spec_siPlain_0 (s : Int × Int × (List ByteArray) × (List (Int × (Int × (Int × (Int × (Int × Bool))))))) : Option ((Int × Int × (List ByteArray) × (List (Int × (Int × (Int × (Int × (Int × Bool))))))) ⊕ (((List (Int × (Int × (Int × (Int × (Int × Bool))))))))) :=
 bif (decide (s.2.1 < s.1)) then
  bif decide (0 ≤ s.2.1) && decide (s.2.1 < (s.2.2.1.length : Int)) then
   match F_spec_shParse ((s.2.2.1.getD (s.2.1).toNat ByteArray.empty)) with
   | none => none
   | some y6 =>
    bif decide ((s.2.2.2.length + [y6.1].length) * 48 ≤ 140737488355328) then
     let v7 := s.2.2.2 ++ [y6.1]
     let v8 := IntKind.i64.wrap (s.2.1 + 1)
     some (.inl ((s.1, (v8, s.2.2.1, v7))))
    else none
  else none
 else
  some (.inr (s.2.2.2))
def pat_spec_siPlain_0 : Pat := { tmps := .any :: .own 1280 :: an 4 (.own 384 :: .v (.int .i64) :: .v (.int .i64) :: an 14 []), blks := [(384, .row true .str), (1280, .row true (.st (.pair (.int .i64) (.pair (.int .i64) (.pair (.int .i64) (.pair (.int .i64) (.pair (.int .i64) .bool)))))))] }
def outs_spec_siPlain_0 : List (Exit × Pat) := [(.exit 0, { tmps := .any :: .own 1280 :: an 21 [], blks := [(1280, .row true (.st (.pair (.int .i64) (.pair (.int .i64) (.pair (.int .i64) (.pair (.int .i64) (.pair (.int .i64) .bool)))))))] })]
noncomputable def F_spec_siPlain (x : Unit) : Option ((List (Int × (Int × (Int × (Int × (Int × Bool))))))) :=
 match runL step_spec_siPlain_0 ((([(⟨#[48, 48, 48, 48, 48]⟩ : ByteArray), (⟨#[48, 48, 48, 48, 48, 115]⟩ : ByteArray), (⟨#[50, 50, 50, 50, 50]⟩ : ByteArray), (⟨#[49, 48, 48, 48, 48]⟩ : ByteArray), (⟨#[49, 48, 50, 50, 50]⟩ : ByteArray), (⟨#[48, 48, 50, 50, 50]⟩ : ByteArray)].length : Int), (0, [(⟨#[48, 48, 48, 48, 48]⟩ : ByteArray), (⟨#[48, 48, 48, 48, 48, 115]⟩ : ByteArray), (⟨#[50, 50, 50, 50, 50]⟩ : ByteArray), (⟨#[49, 48, 48, 48, 48]⟩ : ByteArray), (⟨#[49, 48, 50, 50, 50]⟩ : ByteArray), (⟨#[48, 48, 50, 50, 50]⟩ : ByteArray)], []))) with
 | none => none
 | some o9 =>
  some (o9)
noncomputable def c_spec_siPlain : Con := { ps := [], rs := [(.io true, (.slice (.st (.pair (.int .i64) (.pair (.int .i64) (.pair (.int .i64) (.pair (.int .i64) (.pair (.int .i64) .bool))))))))], F := F_spec_siPlain }
noncomputable def env_spec_siPlain : Env := { par := [], dp := false, settle := [], con := fun f => match f with | 100 => some c_spec_shParse | _ => none, clo := fun _ => none, T := tinf Tryz.prog }
noncomputable def loops_spec_siPlain : Nat → Option Loop := fun n => match n with | 3 => some { pat := pat_spec_siPlain_0, outs := outs_spec_siPlain_0, run := runL (step_spec_siPlain_0) } | _ => none
theorem con_spec_siPlain : ConOK Tryz.prog 127 c_spec_siPlain := con_of_ev' (body := Tryz.f127.body.getD .skip) (Λ := loops_spec_siPlain) mixed Tryz.func127 (by kernel_rfl) (by kernel_rfl) (envOK_of (E := env_spec_siPlain) (fun f c h => by
  simp only [env_spec_siPlain] at h
  split at h
  · cases h; exact con_spec_shParse
  · cases h) (fun f c h => by cases h) rfl) (by kernel_rfl) (by kernel_rfl) (fun n L h => by
  unfold loops_spec_siPlain at h
  split at h
  · cases h; exact fun s o ho => loop_ok (stepF := stepEv env_spec_siPlain loops_spec_siPlain pat_spec_siPlain_0 outs_spec_siPlain_0 Tryz.f127 3) (fun _ => by kernel_rfl) ho
  · cases h) (fun _ => by kernel_rfl)

noncomputable def F_spec_orSwap (x : Int) : Option (Int) :=
 bif ((x == 2)) then
  match F_spec_orOpposite (x) with
  | none => none
  | some y1 =>
   some (y1)
 else
  bif ((x == 3)) then
   match F_spec_orOpposite (x) with
   | none => none
   | some y2 =>
    some (y2)
  else
   some (x)
noncomputable def c_spec_orSwap : Con := { ps := [(.val, (.int .i64))], rs := [(.val, (.int .i64))], F := F_spec_orSwap }
noncomputable def env_spec_orSwap : Env := { par := [], dp := false, settle := [], con := fun f => match f with | 184 => some c_spec_orOpposite | _ => none, clo := fun _ => none, T := tinf Tryz.prog }
noncomputable def loops_spec_orSwap : Nat → Option Loop := fun n => none
theorem con_spec_orSwap : ConOK Tryz.prog 186 c_spec_orSwap := con_of_ev' (body := Tryz.f186.body.getD .skip) (Λ := loops_spec_orSwap) mixed Tryz.func186 (by kernel_rfl) (by kernel_rfl) (envOK_of (E := env_spec_orSwap) (fun f c h => by
  simp only [env_spec_orSwap] at h
  split at h
  · cases h; exact con_spec_orOpposite
  · cases h) (fun f c h => by cases h) rfl) (by kernel_rfl) (by kernel_rfl) (fun n L h => by cases h) (fun _ => by kernel_rfl)

noncomputable def F_spec_orMirror (x : (Int × Int)) : Option ((Int × Int)) :=
 match F_spec_orSwap (x.1) with
 | none => none
 | some y1 =>
  match F_spec_orSwap (x.2) with
  | none => none
  | some y2 =>
   some ((y1, y2))
noncomputable def c_spec_orMirror : Con := { ps := [(.val, (.st (.pair (.int .i64) (.int .i64))))], rs := [(.val, (.st (.pair (.int .i64) (.int .i64))))], F := F_spec_orMirror }
noncomputable def env_spec_orMirror : Env := { par := [], dp := false, settle := [], con := fun f => match f with | 186 => some c_spec_orSwap | _ => none, clo := fun _ => none, T := tinf Tryz.prog }
noncomputable def loops_spec_orMirror : Nat → Option Loop := fun n => none
theorem con_spec_orMirror : ConOK Tryz.prog 128 c_spec_orMirror := con_of_ev' (body := Tryz.f128.body.getD .skip) (Λ := loops_spec_orMirror) mixed Tryz.func128 (by kernel_rfl) (by kernel_rfl) (envOK_of (E := env_spec_orMirror) (fun f c h => by
  simp only [env_spec_orMirror] at h
  split at h
  · cases h; exact con_spec_orSwap
  · cases h) (fun f c h => by cases h) rfl) (by kernel_rfl) (by kernel_rfl) (fun n L h => by cases h) (fun _ => by kernel_rfl)

noncomputable def step_spec_mvTimes_0 (s : ByteArray × Int × ByteArray) : Option ((ByteArray × Int × ByteArray) ⊕ ((ByteArray))) :=
 bif (decide (s.2.1 > 0)) then
  bif decide (s.2.2.size + s.1.size ≤ 9223372036854775807) then
   let v2 := IntKind.i64.wrap (s.2.1 - 1)
   some (.inl ((s.1, v2, (s.2.2 ++ s.1))))
  else none
 else
  some (.inr (s.2.2))
def pat_spec_mvTimes_0 : Pat := { tmps := .v .str :: .v (.int .i64) :: .any :: .any :: .any :: .v .str :: an 8 [], blks := [] }
def outs_spec_mvTimes_0 : List (Exit × Pat) := [(.exit 0, { tmps := an 5 (.v .str :: an 8 []), blks := [] })]
noncomputable def F_spec_mvTimes (x : ByteArray × Int) : Option (ByteArray) :=
 match runL step_spec_mvTimes_0 ((x.1, x.2, (⟨#[]⟩ : ByteArray))) with
 | none => none
 | some o3 =>
  some (o3)
noncomputable def c_spec_mvTimes : Con := { ps := [(.val, .str), (.val, (.int .i64))], rs := [(.val, .str)], F := F_spec_mvTimes }
noncomputable def env_spec_mvTimes : Env := { par := [], dp := false, settle := [], con := fun _ => none, clo := fun _ => none, T := tinf Tryz.prog }
noncomputable def loops_spec_mvTimes : Nat → Option Loop := fun n => match n with | 2 => some { pat := pat_spec_mvTimes_0, outs := outs_spec_mvTimes_0, run := runL (step_spec_mvTimes_0) } | _ => none
theorem con_spec_mvTimes : ConOK Tryz.prog 187 c_spec_mvTimes := con_of_ev' (body := Tryz.f187.body.getD .skip) (Λ := loops_spec_mvTimes) mixed Tryz.func187 (by kernel_rfl) (by kernel_rfl) (envOK_of (E := env_spec_mvTimes) (fun f c h => by cases h) (fun f c h => by cases h) rfl) (by kernel_rfl) (by kernel_rfl) (fun n L h => by
  unfold loops_spec_mvTimes at h
  split at h
  · cases h; exact fun s o ho => loop_ok (stepF := stepEv env_spec_mvTimes loops_spec_mvTimes pat_spec_mvTimes_0 outs_spec_mvTimes_0 Tryz.f187 2) (fun _ => by kernel_rfl) ho
  · cases h) (fun _ => by kernel_rfl)

noncomputable def F_spec_mvAll (x : (ByteArray × Int)) : Option (ByteArray) :=
 match F_spec_mvTimes (x) with
 | none => none
 | some y1 =>
  some (y1)
noncomputable def c_spec_mvAll : Con := { ps := [(.val, (.st (.pair .str (.int .i64))))], rs := [(.val, .str)], F := F_spec_mvAll }
noncomputable def env_spec_mvAll : Env := { par := [], dp := false, settle := [], con := fun f => match f with | 187 => some c_spec_mvTimes | _ => none, clo := fun _ => none, T := tinf Tryz.prog }
noncomputable def loops_spec_mvAll : Nat → Option Loop := fun n => none
theorem con_spec_mvAll : ConOK Tryz.prog 129 c_spec_mvAll := con_of_ev' (body := Tryz.f129.body.getD .skip) (Λ := loops_spec_mvAll) mixed Tryz.func129 (by kernel_rfl) (by kernel_rfl) (envOK_of (E := env_spec_mvAll) (fun f c h => by
  simp only [env_spec_mvAll] at h
  split at h
  · cases h; exact con_spec_mvTimes
  · cases h) (fun f c h => by cases h) rfl) (by kernel_rfl) (by kernel_rfl) (fun n L h => by cases h) (fun _ => by kernel_rfl)

noncomputable def step_spec_mvMirror_0 (s : ByteArray × Int × ByteArray × Int × ByteArray × Int) : Option ((ByteArray × Int × ByteArray × Int × ByteArray × Int) ⊕ ((ByteArray × ByteArray × Int × ByteArray × Int))) :=
 bif (decide (s.2.1 < (s.2.2.2.2.1.size : Int))) then
  bif decide (0 ≤ s.2.1) && decide (s.2.1 < (s.2.2.2.2.1.size : Int)) then
   bif (((byteAt s.2.2.2.2.1 (s.2.1).toNat) == 108)) then
    bif decide (s.1.size + (⟨#[114]⟩ : ByteArray).size ≤ 9223372036854775807) then
     let v5 := IntKind.i64.wrap (s.2.1 + 1)
     some (.inl (((s.1 ++ (⟨#[114]⟩ : ByteArray)), v5, s.2.2)))
    else none
   else
    bif (((byteAt s.2.2.2.2.1 (s.2.1).toNat) == 114)) then
     bif decide (s.1.size + (⟨#[108]⟩ : ByteArray).size ≤ 9223372036854775807) then
      let v6 := IntKind.i64.wrap (s.2.1 + 1)
      some (.inl (((s.1 ++ (⟨#[108]⟩ : ByteArray)), v6, s.2.2)))
     else none
    else
     let v7 := IntKind.i64.wrap (s.2.1 + 1)
     bif decide (0 ≤ s.2.1) && decide (s.2.1 ≤ v7) && decide (v7 ≤ (s.2.2.2.2.1.size : Int)) then
      bif decide (s.1.size + (s.2.2.2.2.1.extract (s.2.1).toNat (v7).toNat).size ≤ 9223372036854775807) then
       let v8 := IntKind.i64.wrap (s.2.1 + 1)
       some (.inl (((s.1 ++ (s.2.2.2.2.1.extract (s.2.1).toNat (v7).toNat)), v8, s.2.2)))
      else none
     else none
  else none
 else
  some (.inr ((s.1, s.2.2)))
def pat_spec_mvMirror_0 : Pat := { tmps := .any :: .ptr 64 0 :: .ptr 128 0 :: .v .str :: .v (.int .i64) :: an 31 [], blks := [(128, .box [.v .str, .v (.int .i64)]), (64, .box [.v .str, .v (.int .i64)])] }
def outs_spec_mvMirror_0 : List (Exit × Pat) := [(.exit 0, { tmps := .any :: .ptr 64 0 :: .ptr 128 0 :: .v .str :: an 32 [], blks := [(128, .box [.v .str, .v (.int .i64)]), (64, .box [.v .str, .v (.int .i64)])] })]
noncomputable def F_spec_mvMirror (x : (ByteArray × Int)) : Option ((ByteArray × Int)) :=
 match runL step_spec_mvMirror_0 (((⟨#[]⟩ : ByteArray), 0, (ByteArray.empty, 0, x))) with
 | none => none
 | some o9 =>
  some ((o9.1, o9.2.2.2.2))
noncomputable def c_spec_mvMirror : Con := { ps := [(.val, (.st (.pair .str (.int .i64))))], rs := [(.val, (.st (.pair .str (.int .i64))))], F := F_spec_mvMirror }
noncomputable def env_spec_mvMirror : Env := { par := [], dp := false, settle := [], con := fun _ => none, clo := fun _ => none, T := tinf Tryz.prog }
noncomputable def loops_spec_mvMirror : Nat → Option Loop := fun n => match n with | 3 => some { pat := pat_spec_mvMirror_0, outs := outs_spec_mvMirror_0, run := runL (step_spec_mvMirror_0) } | _ => none
theorem con_spec_mvMirror : ConOK Tryz.prog 130 c_spec_mvMirror := con_of_ev' (body := Tryz.f130.body.getD .skip) (Λ := loops_spec_mvMirror) mixed Tryz.func130 (by kernel_rfl) (by kernel_rfl) (envOK_of (E := env_spec_mvMirror) (fun f c h => by cases h) (fun f c h => by cases h) rfl) (by kernel_rfl) (by kernel_rfl) (fun n L h => by
  unfold loops_spec_mvMirror at h
  split at h
  · cases h; exact fun s o ho => loop_ok (stepF := stepEv env_spec_mvMirror loops_spec_mvMirror pat_spec_mvMirror_0 outs_spec_mvMirror_0 Tryz.f130 3) (fun _ => by kernel_rfl) ho
  · cases h) (fun _ => by kernel_rfl)

noncomputable def step_spec_siBroken_0 (s : Int × Int × (List (Int × (Int × (Int × (Int × (Int × Bool)))))) × Int × Int × Int × Int × Int × Bool × Int × Int × Int × Int × Bool × ByteArray × Int) : Option ((Int × Int × (List (Int × (Int × (Int × (Int × (Int × Bool)))))) × Int × Int × Int × Int × Int × Bool × Int × Int × Int × Int × Bool × ByteArray × Int) ⊕ ((Int) ⊕ (Unit))) :=
 bif (decide (s.2.1 < s.1)) then
  bif decide (0 ≤ s.2.1) && decide (s.2.1 < (s.2.2.1.length : Int)) then
   bif (((s.2.2.1.getD (s.2.1).toNat (0, (0, 0, (0, 0, false)))).1 == s.2.2.2.1) && (((s.2.2.1.getD (s.2.1).toNat (0, (0, 0, (0, 0, false)))).2.1 == s.2.2.2.2.1) && (((s.2.2.1.getD (s.2.1).toNat (0, (0, 0, (0, 0, false)))).2.2.1 == s.2.2.2.2.2.1) && (((s.2.2.1.getD (s.2.1).toNat (0, (0, 0, (0, 0, false)))).2.2.2.1 == s.2.2.2.2.2.2.1) && (((s.2.2.1.getD (s.2.1).toNat (0, (0, 0, (0, 0, false)))).2.2.2.2.1 == s.2.2.2.2.2.2.2.1) && (((s.2.2.1.getD (s.2.1).toNat (0, (0, 0, (0, 0, false)))).2.2.2.2.2 == s.2.2.2.2.2.2.2.2.1) && true)))))) then
    some (.inr (.inl (0)))
   else
    let v3 := IntKind.i64.wrap (s.2.1 + 1)
    some (.inl ((s.1, v3, s.2.2)))
  else none
 else
  some (.inr (.inr (())))
def pat_spec_siBroken_0 : Pat := { tmps := .any :: .any :: .any :: .ptr 192 0 :: an 12 (.own 1024 :: .v (.int .i64) :: .v (.int .i64) :: an 51 []), blks := [(1024, .row true (.st (.pair (.int .i64) (.pair (.int .i64) (.pair (.int .i64) (.pair (.int .i64) (.pair (.int .i64) .bool))))))), (192, .box [.v (.int .i64), .v (.int .i64), .v (.int .i64), .v (.int .i64), .v (.int .i64), .v .bool, .v (.int .i64), .v (.int .i64), .v (.int .i64), .v (.int .i64), .v .bool, .v .str, .v (.int .i64)])] }
def outs_spec_siBroken_0 : List (Exit × Pat) := [(.ret, { tmps := an 4 (.v (.int .i64) :: an 65 []), blks := [] }), (.exit 0, { tmps := an 70 [], blks := [] })]
noncomputable def F_spec_siBroken (x : ((Int × (Int × (Int × (Int × (Int × Bool))))) × ((Int × Int) × ((Int × (Int × Bool)) × (ByteArray × Int)))) × ((Int × (Int × (Int × (Int × (Int × Bool))))) × ((Int × Int) × ((Int × (Int × Bool)) × (ByteArray × Int))))) : Option (Int) :=
 bif (x.2.2.2.2.1.toList == (⟨#[]⟩ : ByteArray).toList) then
  bif ((x.1.1.1 == x.2.1.1) && ((x.1.1.2.1 == x.2.1.2.1) && ((x.1.1.2.2.1 == x.2.1.2.2.1) && ((x.1.1.2.2.2.1 == x.2.1.2.2.2.1) && ((x.1.1.2.2.2.2.1 == x.2.1.2.2.2.2.1) && ((x.1.1.2.2.2.2.2 == x.2.1.2.2.2.2.2) && true)))))) then
   some (0)
  else
   match F_spec_siPlain () with
   | none => none
   | some y1 =>
    match runL step_spec_siBroken_0 (((y1.length : Int), 0, (y1, x.2.1.1, (x.2.1.2.1, x.2.1.2.2.1, (x.2.1.2.2.2.1, x.2.1.2.2.2.2.1, (x.2.1.2.2.2.2.2, x.2.2.1.1, (x.2.2.1.2, x.2.2.2.1.1, (x.2.2.2.1.2.1, x.2.2.2.1.2.2, x.2.2.2.2)))))))) with
    | none => none
    | some (.inl o4) =>
     some (o4)
    | some (.inr o4) =>
     some (4)
 else
  bif (x.1.2.2.2.1.toList == (⟨#[]⟩ : ByteArray).toList) then
   some (3)
  else
   bif (!((x.1.1.1 == x.2.1.1) && ((x.1.1.2.1 == x.2.1.2.1) && ((x.1.1.2.2.1 == x.2.1.2.2.1) && ((x.1.1.2.2.2.1 == x.2.1.2.2.2.1) && ((x.1.1.2.2.2.2.1 == x.2.1.2.2.2.2.1) && ((x.1.1.2.2.2.2.2 == x.2.1.2.2.2.2.2) && true))))))) then
    some (1)
   else
    bif (!((x.1.2.1.1 == x.2.2.1.1) && ((x.1.2.1.2 == x.2.2.1.2) && true))) then
     match F_spec_orMirror (x.2.2.1) with
     | none => none
     | some y5 =>
      bif (!((x.1.2.1.1 == y5.1) && ((x.1.2.1.2 == y5.2) && true))) then
       some (2)
      else
       match F_spec_mvAll (x.1.2.2.2) with
       | none => none
       | some y6 =>
        match F_spec_mvAll (x.2.2.2.2) with
        | none => none
        | some y7 =>
         bif (!(y6.toList == y7.toList)) then
          match F_spec_mvMirror (x.1.2.2.2) with
          | none => none
          | some y8 =>
           match F_spec_mvAll (y8) with
           | none => none
           | some y9 =>
            match F_spec_mvAll (x.2.2.2.2) with
            | none => none
            | some y10 =>
             bif (!(y9.toList == y10.toList)) then
              some (3)
             else
              some (0)
         else
          some (0)
    else
     match F_spec_mvAll (x.1.2.2.2) with
     | none => none
     | some y11 =>
      match F_spec_mvAll (x.2.2.2.2) with
      | none => none
      | some y12 =>
       bif (!(y11.toList == y12.toList)) then
        match F_spec_mvMirror (x.1.2.2.2) with
        | none => none
        | some y13 =>
         match F_spec_mvAll (y13) with
         | none => none
         | some y14 =>
          match F_spec_mvAll (x.2.2.2.2) with
          | none => none
          | some y15 =>
           bif (!(y14.toList == y15.toList)) then
            some (3)
           else
            some (0)
       else
        some (0)
noncomputable def c_spec_siBroken : Con := { ps := [(.val, (.st (.pair (.st (.pair (.int .i64) (.pair (.int .i64) (.pair (.int .i64) (.pair (.int .i64) (.pair (.int .i64) .bool)))))) (.pair (.st (.pair (.int .i64) (.int .i64))) (.pair (.st (.pair (.int .i64) (.pair (.int .i64) .bool))) (.st (.pair .str (.int .i64)))))))), (.val, (.st (.pair (.st (.pair (.int .i64) (.pair (.int .i64) (.pair (.int .i64) (.pair (.int .i64) (.pair (.int .i64) .bool)))))) (.pair (.st (.pair (.int .i64) (.int .i64))) (.pair (.st (.pair (.int .i64) (.pair (.int .i64) .bool))) (.st (.pair .str (.int .i64))))))))], rs := [(.val, (.int .i64))], F := F_spec_siBroken }
noncomputable def env_spec_siBroken : Env := { par := [], dp := false, settle := [], con := fun f => match f with | 127 => some c_spec_siPlain | 128 => some c_spec_orMirror | 129 => some c_spec_mvAll | 130 => some c_spec_mvMirror | _ => none, clo := fun _ => none, T := tinf Tryz.prog }
noncomputable def loops_spec_siBroken : Nat → Option Loop := fun n => match n with | 5 => some { pat := pat_spec_siBroken_0, outs := outs_spec_siBroken_0, run := runL (step_spec_siBroken_0) } | _ => none
theorem con_spec_siBroken : ConOK Tryz.prog 79 c_spec_siBroken := con_of_ev' (body := Tryz.f79.body.getD .skip) (Λ := loops_spec_siBroken) mixed Tryz.func79 (by kernel_rfl) (by kernel_rfl) (envOK_of (E := env_spec_siBroken) (fun f c h => by
  simp only [env_spec_siBroken] at h
  split at h
  · cases h; exact con_spec_siPlain
  · cases h; exact con_spec_orMirror
  · cases h; exact con_spec_mvAll
  · cases h; exact con_spec_mvMirror
  · cases h) (fun f c h => by cases h) rfl) (by kernel_rfl) (by kernel_rfl) (fun n L h => by
  unfold loops_spec_siBroken at h
  split at h
  · cases h; exact fun s o ho => loop_ok (stepF := stepEv env_spec_siBroken loops_spec_siBroken pat_spec_siBroken_0 outs_spec_siBroken_0 Tryz.f79 5) (fun _ => by kernel_rfl) ho
  · cases h) (fun _ => by kernel_rfl)

noncomputable def F_spec_siGood (x : (((Int × (Int × (Int × (Int × (Int × Bool))))) × ((Int × Int) × ((Int × (Int × Bool)) × (ByteArray × Int)))) × (Bool × ((Int × (Int × (Int × (Int × (Int × Bool))))) × ((Int × Int) × ((Int × (Int × Bool)) × (ByteArray × Int))))))) : Option (Bool) :=
 match F_spec_siHand (x.1) with
 | none => none
 | some y1 =>
  bif (!y1) then
   some (false)
  else
   bif (!x.2.1) then
    some ((((x.2.2.1.1 == 0) && ((x.2.2.1.2.1 == 0) && ((x.2.2.1.2.2.1 == 0) && ((x.2.2.1.2.2.2.1 == 0) && ((x.2.2.1.2.2.2.2.1 == 0) && ((x.2.2.1.2.2.2.2.2 == false) && true)))))) && (((x.2.2.2.1.1 == 0) && ((x.2.2.2.1.2 == 0) && true)) && (((x.2.2.2.2.1.1 == 0) && ((x.2.2.2.2.1.2.1 == 0) && ((x.2.2.2.2.1.2.2 == false) && true))) && (((x.2.2.2.2.2.1.toList == ByteArray.empty.toList) && ((x.2.2.2.2.2.2 == 0) && true)) && true)))))
   else
    match F_spec_siHand (x.2.2) with
    | none => none
    | some y2 =>
     bif y2 then
      match F_spec_siBroken ((x.1, x.2.2)) with
      | none => none
      | some y3 =>
       some (((y3 == 0)))
     else
      some (false)
noncomputable def c_spec_siGood : Con := { ps := [(.val, (.st (.pair (.st (.pair (.st (.pair (.int .i64) (.pair (.int .i64) (.pair (.int .i64) (.pair (.int .i64) (.pair (.int .i64) .bool)))))) (.pair (.st (.pair (.int .i64) (.int .i64))) (.pair (.st (.pair (.int .i64) (.pair (.int .i64) .bool))) (.st (.pair .str (.int .i64))))))) (.pair .bool (.st (.pair (.st (.pair (.int .i64) (.pair (.int .i64) (.pair (.int .i64) (.pair (.int .i64) (.pair (.int .i64) .bool)))))) (.pair (.st (.pair (.int .i64) (.int .i64))) (.pair (.st (.pair (.int .i64) (.pair (.int .i64) .bool))) (.st (.pair .str (.int .i64)))))))))))], rs := [(.val, .bool)], F := F_spec_siGood }
noncomputable def env_spec_siGood : Env := { par := [], dp := false, settle := [], con := fun f => match f with | 78 => some c_spec_siHand | 79 => some c_spec_siBroken | _ => none, clo := fun _ => none, T := tinf Tryz.prog }
noncomputable def loops_spec_siGood : Nat → Option Loop := fun n => none
theorem con_spec_siGood : ConOK Tryz.prog 46 c_spec_siGood := con_of_ev' (body := Tryz.f46.body.getD .skip) (Λ := loops_spec_siGood) mixed Tryz.func46 (by kernel_rfl) (by kernel_rfl) (envOK_of (E := env_spec_siGood) (fun f c h => by
  simp only [env_spec_siGood] at h
  split at h
  · cases h; exact con_spec_siHand
  · cases h; exact con_spec_siBroken
  · cases h) (fun f c h => by cases h) rfl) (by kernel_rfl) (by kernel_rfl) (fun n L h => by cases h) (fun _ => by kernel_rfl)

noncomputable def F_spec_enRegion (x : Int) : Option (Bool) :=
 match F_spec_l1In ((x, 0, 5)) with
 | none => none
 | some y1 =>
  some (y1)
noncomputable def c_spec_enRegion : Con := { ps := [(.val, (.int .i64))], rs := [(.val, .bool)], F := F_spec_enRegion }
noncomputable def env_spec_enRegion : Env := { par := [], dp := false, settle := [], con := fun f => match f with | 117 => some c_spec_l1In | _ => none, clo := fun _ => none, T := tinf Tryz.prog }
noncomputable def loops_spec_enRegion : Nat → Option Loop := fun n => none
theorem con_spec_enRegion : ConOK Tryz.prog 116 c_spec_enRegion := con_of_ev' (body := Tryz.f116.body.getD .skip) (Λ := loops_spec_enRegion) mixed Tryz.func116 (by kernel_rfl) (by kernel_rfl) (envOK_of (E := env_spec_enRegion) (fun f c h => by
  simp only [env_spec_enRegion] at h
  split at h
  · cases h; exact con_spec_l1In
  · cases h) (fun f c h => by cases h) rfl) (by kernel_rfl) (by kernel_rfl) (fun n L h => by cases h) (fun _ => by kernel_rfl)

noncomputable def F_spec_enOne (x : DT30) : Option (Bool) :=
 match F_spec_enGloss (x.1) with
 | none => none
 | some y1 =>
  bif y1 then
   match F_spec_siGood (x.2.1) with
   | none => none
   | some y2 =>
    bif y2 then
     match F_spec_enRegion (x.2.2.1) with
     | none => none
     | some y3 =>
      bif y3 then
       match F_spec_l1In ((x.2.2.2, 0, 99999)) with
       | none => none
       | some y4 =>
        some (y4)
      else
       some (false)
    else
     some (false)
  else
   some (false)
noncomputable def c_spec_enOne : Con := { ps := [(.val, TY30)], rs := [(.val, .bool)], F := F_spec_enOne }
noncomputable def env_spec_enOne : Env := { par := [], dp := false, settle := [], con := fun f => match f with | 46 => some c_spec_siGood | 115 => some c_spec_enGloss | 116 => some c_spec_enRegion | 117 => some c_spec_l1In | _ => none, clo := fun _ => none, T := tinf Tryz.prog }
noncomputable def loops_spec_enOne : Nat → Option Loop := fun n => none
theorem con_spec_enOne : ConOK Tryz.prog 69 c_spec_enOne := con_of_ev' (body := Tryz.f69.body.getD .skip) (Λ := loops_spec_enOne) mixed Tryz.func69 (by kernel_rfl) (by kernel_rfl) (envOK_of (E := env_spec_enOne) (fun f c h => by
  simp only [env_spec_enOne] at h
  split at h
  · cases h; exact con_spec_siGood
  · cases h; exact con_spec_enGloss
  · cases h; exact con_spec_enRegion
  · cases h; exact con_spec_l1In
  · cases h) (fun f c h => by cases h) rfl) (by kernel_rfl) (by kernel_rfl) (fun n L h => by cases h) (fun _ => by kernel_rfl)

noncomputable def F_spec_enBefore (x : DT30 × DT30) : Option (Bool) :=
 bif (Op.bytesLess x.1.1.toList x.2.1.toList) then
  some (true)
 else
  bif (x.1.1.toList == x.2.1.toList) then
   some ((decide (x.1.2.2.1 < x.2.2.2.1)))
  else
   some (false)
noncomputable def c_spec_enBefore : Con := { ps := [(.val, TY30), (.val, TY30)], rs := [(.val, .bool)], F := F_spec_enBefore }
noncomputable def env_spec_enBefore : Env := { par := [], dp := false, settle := [], con := fun _ => none, clo := fun _ => none, T := tinf Tryz.prog }
noncomputable def loops_spec_enBefore : Nat → Option Loop := fun n => none
theorem con_spec_enBefore : ConOK Tryz.prog 70 c_spec_enBefore := con_of_ev' (body := Tryz.f70.body.getD .skip) (Λ := loops_spec_enBefore) mixed Tryz.func70 (by kernel_rfl) (by kernel_rfl) (envOK_of (E := env_spec_enBefore) (fun f c h => by cases h) (fun f c h => by cases h) rfl) (by kernel_rfl) (by kernel_rfl) (fun n L h => by cases h) (fun _ => by kernel_rfl)

noncomputable def step_spec_enGood_0 (s : (List DT30) × (List DT30) × Int × Int) : Option (((List DT30) × (List DT30) × Int × Int) ⊕ ((Bool) ⊕ ((List DT30)))) :=
 bif (decide (s.2.2.2 < s.2.2.1)) then
  bif decide (0 ≤ s.2.2.2) && decide (s.2.2.2 < (s.2.1.length : Int)) then
   match F_spec_enOne ((s.2.1.getD (s.2.2.2).toNat dz30)) with
   | none => none
   | some y6 =>
    bif (!y6) then
     some (.inr (.inl (false)))
    else
     bif (decide (s.2.2.2 > 0)) then
      let v7 := IntKind.i64.wrap (s.2.2.2 - 1)
      bif decide (0 ≤ v7) && decide (v7 < (s.1.length : Int)) then
       match F_spec_enBefore (((s.1.getD (v7).toNat dz30), (s.2.1.getD (s.2.2.2).toNat dz30))) with
       | none => none
       | some y8 =>
        bif (!y8) then
         some (.inr (.inl (false)))
        else
         let v9 := IntKind.i64.wrap (s.2.2.2 + 1)
         some (.inl ((s.1, (s.2.1, s.2.2.1, v9))))
      else none
     else
      let v10 := IntKind.i64.wrap (s.2.2.2 + 1)
      some (.inl ((s.1, (s.2.1, s.2.2.1, v10))))
  else none
 else
  some (.inr (.inr (s.1)))
def pat_spec_enGood_0 : Pat := { tmps := .v (.slice TY30) :: an 4 (.v (.slice TY30) :: .v (.int .i64) :: .v (.int .i64) :: an 25 []), blks := [] }
def outs_spec_enGood_0 : List (Exit × Pat) := [(.ret, { tmps := .any :: .any :: .v .bool :: an 30 [], blks := [] }), (.exit 0, { tmps := .v (.slice TY30) :: an 32 [], blks := [] })]
noncomputable def F_spec_enGood (x : (List DT30)) : Option (Bool) :=
 match runL step_spec_enGood_0 ((x, (x, (x.length : Int), 0))) with
 | none => none
 | some (.inl o11) =>
  some (o11)
 | some (.inr o11) =>
  some ((decide ((o11.length : Int) ≤ 16)))
noncomputable def c_spec_enGood : Con := { ps := [(.val, (.slice TY30))], rs := [(.val, .bool)], F := F_spec_enGood }
noncomputable def env_spec_enGood : Env := { par := [], dp := false, settle := [], con := fun f => match f with | 69 => some c_spec_enOne | 70 => some c_spec_enBefore | _ => none, clo := fun _ => none, T := tinf Tryz.prog }
noncomputable def loops_spec_enGood : Nat → Option Loop := fun n => match n with | 2 => some { pat := pat_spec_enGood_0, outs := outs_spec_enGood_0, run := runL (step_spec_enGood_0) } | _ => none
theorem con_spec_enGood : ConOK Tryz.prog 30 c_spec_enGood := con_of_ev' (body := Tryz.f30.body.getD .skip) (Λ := loops_spec_enGood) mixed Tryz.func30 (by kernel_rfl) (by kernel_rfl) (envOK_of (E := env_spec_enGood) (fun f c h => by
  simp only [env_spec_enGood] at h
  split at h
  · cases h; exact con_spec_enOne
  · cases h; exact con_spec_enBefore
  · cases h) (fun f c h => by cases h) rfl) (by kernel_rfl) (by kernel_rfl) (fun n L h => by
  unfold loops_spec_enGood at h
  split at h
  · cases h; exact fun s o ho => loop_ok (stepF := stepEv env_spec_enGood loops_spec_enGood pat_spec_enGood_0 outs_spec_enGood_0 Tryz.f30 2) (fun _ => by kernel_rfl) ho
  · cases h) (fun _ => by kernel_rfl)

noncomputable def step_spec_enAt_0 (s : (List DT30) × Int × Int × ByteArray × Int × Int × Int × Int × Int × Bool × Int × Int × Int × Int × Bool × ByteArray × Int × Bool × Int × Int × Int × Int × Int × Bool × Int × Int × Int × Int × Bool × ByteArray × Int × Int × Int) : Option (((List DT30) × Int × Int × ByteArray × Int × Int × Int × Int × Int × Bool × Int × Int × Int × Int × Bool × ByteArray × Int × Bool × Int × Int × Int × Int × Int × Bool × Int × Int × Int × Int × Bool × ByteArray × Int × Int × Int) ⊕ ((Int) ⊕ (Unit))) :=
 bif (decide (s.2.2.1 < s.2.1)) then
  bif decide (0 ≤ s.2.2.1) && decide (s.2.2.1 < (s.1.length : Int)) then
   bif ((s.1.getD (s.2.2.1).toNat dz30).1.toList == s.2.2.2.1.toList) then
    bif (((s.1.getD (s.2.2.1).toNat dz30).2.2.1 == s.2.2.2.2.2.2.2.2.2.2.2.2.2.2.2.2.2.2.2.2.2.2.2.2.2.2.2.2.2.2.2.1)) then
     some (.inr (.inl (s.2.2.1)))
    else
     let v3 := IntKind.i64.wrap (s.2.2.1 + 1)
     some (.inl ((s.1, (s.2.1, v3, s.2.2.2))))
   else
    let v4 := IntKind.i64.wrap (s.2.2.1 + 1)
    some (.inl ((s.1, (s.2.1, v4, s.2.2.2))))
  else none
 else
  some (.inr (.inr (())))
def pat_spec_enAt_0 : Pat := { tmps := .any :: .any :: .any :: .ptr 192 0 :: .any :: .any :: .any :: .v (.slice TY30) :: .v (.int .i64) :: .v (.int .i64) :: an 18 [], blks := [(192, .box [.v .str, .v (.int .i64), .v (.int .i64), .v (.int .i64), .v (.int .i64), .v (.int .i64), .v .bool, .v (.int .i64), .v (.int .i64), .v (.int .i64), .v (.int .i64), .v .bool, .v .str, .v (.int .i64), .v .bool, .v (.int .i64), .v (.int .i64), .v (.int .i64), .v (.int .i64), .v (.int .i64), .v .bool, .v (.int .i64), .v (.int .i64), .v (.int .i64), .v (.int .i64), .v .bool, .v .str, .v (.int .i64), .v (.int .i64), .v (.int .i64)])] }
def outs_spec_enAt_0 : List (Exit × Pat) := [(.ret, { tmps := an 4 (.v (.int .i64) :: an 23 []), blks := [] }), (.exit 0, { tmps := an 28 [], blks := [] })]
noncomputable def F_spec_enAt (x : (List DT30) × DT30) : Option (Int) :=
 match runL step_spec_enAt_0 ((x.1, ((x.1.length : Int), 0, (x.2.1, x.2.2.1.1.1.1, (x.2.2.1.1.1.2.1, x.2.2.1.1.1.2.2.1, (x.2.2.1.1.1.2.2.2.1, x.2.2.1.1.1.2.2.2.2.1, (x.2.2.1.1.1.2.2.2.2.2, x.2.2.1.1.2.1.1, (x.2.2.1.1.2.1.2, x.2.2.1.1.2.2.1.1, (x.2.2.1.1.2.2.1.2.1, x.2.2.1.1.2.2.1.2.2, (x.2.2.1.1.2.2.2.1, x.2.2.1.1.2.2.2.2, (x.2.2.1.2.1, x.2.2.1.2.2.1.1, (x.2.2.1.2.2.1.2.1, x.2.2.1.2.2.1.2.2.1, (x.2.2.1.2.2.1.2.2.2.1, x.2.2.1.2.2.1.2.2.2.2.1, (x.2.2.1.2.2.1.2.2.2.2.2, x.2.2.1.2.2.2.1.1, (x.2.2.1.2.2.2.1.2, x.2.2.1.2.2.2.2.1.1, (x.2.2.1.2.2.2.2.1.2.1, x.2.2.1.2.2.2.2.1.2.2, (x.2.2.1.2.2.2.2.2.1, x.2.2.1.2.2.2.2.2.2, x.2.2.2))))))))))))))))) with
 | none => none
 | some (.inl o5) =>
  some (o5)
 | some (.inr o5) =>
  some ((-1))
noncomputable def c_spec_enAt : Con := { ps := [(.val, (.slice TY30)), (.val, TY30)], rs := [(.val, (.int .i64))], F := F_spec_enAt }
noncomputable def env_spec_enAt : Env := { par := [], dp := false, settle := [], con := fun _ => none, clo := fun _ => none, T := tinf Tryz.prog }
noncomputable def loops_spec_enAt : Nat → Option Loop := fun n => match n with | 2 => some { pat := pat_spec_enAt_0, outs := outs_spec_enAt_0, run := runL (step_spec_enAt_0) } | _ => none
theorem con_spec_enAt : ConOK Tryz.prog 31 c_spec_enAt := con_of_ev' (body := Tryz.f31.body.getD .skip) (Λ := loops_spec_enAt) mixed Tryz.func31 (by kernel_rfl) (by kernel_rfl) (envOK_of (E := env_spec_enAt) (fun f c h => by cases h) (fun f c h => by cases h) rfl) (by kernel_rfl) (by kernel_rfl) (fun n L h => by
  unfold loops_spec_enAt at h
  split at h
  · cases h; exact fun s o ho => loop_ok (stepF := stepEv env_spec_enAt loops_spec_enAt pat_spec_enAt_0 outs_spec_enAt_0 Tryz.f31 2) (fun _ => by kernel_rfl) ho
  · cases h) (fun _ => by kernel_rfl)

noncomputable def step_spec_enPut_0 (s : Int × ByteArray × Int × Int × Int × Int × Int × Bool × Int × Int × Int × Int × Bool × ByteArray × Int × Bool × Int × Int × Int × Int × Int × Bool × Int × Int × Int × Int × Bool × ByteArray × Int × Int × Int × (List DT30)) : Option ((Int × ByteArray × Int × Int × Int × Int × Int × Bool × Int × Int × Int × Int × Bool × ByteArray × Int × Bool × Int × Int × Int × Int × Int × Bool × Int × Int × Int × Int × Bool × ByteArray × Int × Int × Int × (List DT30)) ⊕ ((Int × ByteArray × Int × Int × Int × Int × Int × Bool × Int × Int × Int × Int × Bool × ByteArray × Int × Bool × Int × Int × Int × Int × Int × Bool × Int × Int × Int × Int × Bool × ByteArray × Int × Int × Int × (List DT30)))) :=
 bif (decide (s.1 < (s.2.2.2.2.2.2.2.2.2.2.2.2.2.2.2.2.2.2.2.2.2.2.2.2.2.2.2.2.2.2.2.length : Int))) then
  bif decide (0 ≤ s.1) && decide (s.1 < (s.2.2.2.2.2.2.2.2.2.2.2.2.2.2.2.2.2.2.2.2.2.2.2.2.2.2.2.2.2.2.2.length : Int)) then
   match F_spec_enBefore (((s.2.2.2.2.2.2.2.2.2.2.2.2.2.2.2.2.2.2.2.2.2.2.2.2.2.2.2.2.2.2.2.getD (s.1).toNat dz30), s.2.1, ((((s.2.2.1, (s.2.2.2.1, s.2.2.2.2.1, (s.2.2.2.2.2.1, s.2.2.2.2.2.2.1, s.2.2.2.2.2.2.2.1))), (s.2.2.2.2.2.2.2.2.1, s.2.2.2.2.2.2.2.2.2.1), ((s.2.2.2.2.2.2.2.2.2.2.1, s.2.2.2.2.2.2.2.2.2.2.2.1, s.2.2.2.2.2.2.2.2.2.2.2.2.1), s.2.2.2.2.2.2.2.2.2.2.2.2.2.1, s.2.2.2.2.2.2.2.2.2.2.2.2.2.2.1)), s.2.2.2.2.2.2.2.2.2.2.2.2.2.2.2.1, ((s.2.2.2.2.2.2.2.2.2.2.2.2.2.2.2.2.1, (s.2.2.2.2.2.2.2.2.2.2.2.2.2.2.2.2.2.1, s.2.2.2.2.2.2.2.2.2.2.2.2.2.2.2.2.2.2.1, (s.2.2.2.2.2.2.2.2.2.2.2.2.2.2.2.2.2.2.2.1, s.2.2.2.2.2.2.2.2.2.2.2.2.2.2.2.2.2.2.2.2.1, s.2.2.2.2.2.2.2.2.2.2.2.2.2.2.2.2.2.2.2.2.2.1))), (s.2.2.2.2.2.2.2.2.2.2.2.2.2.2.2.2.2.2.2.2.2.2.1, s.2.2.2.2.2.2.2.2.2.2.2.2.2.2.2.2.2.2.2.2.2.2.2.1), ((s.2.2.2.2.2.2.2.2.2.2.2.2.2.2.2.2.2.2.2.2.2.2.2.2.1, s.2.2.2.2.2.2.2.2.2.2.2.2.2.2.2.2.2.2.2.2.2.2.2.2.2.1, s.2.2.2.2.2.2.2.2.2.2.2.2.2.2.2.2.2.2.2.2.2.2.2.2.2.2.1), s.2.2.2.2.2.2.2.2.2.2.2.2.2.2.2.2.2.2.2.2.2.2.2.2.2.2.2.1, s.2.2.2.2.2.2.2.2.2.2.2.2.2.2.2.2.2.2.2.2.2.2.2.2.2.2.2.2.1))), s.2.2.2.2.2.2.2.2.2.2.2.2.2.2.2.2.2.2.2.2.2.2.2.2.2.2.2.2.2.1, s.2.2.2.2.2.2.2.2.2.2.2.2.2.2.2.2.2.2.2.2.2.2.2.2.2.2.2.2.2.2.1))) with
   | none => none
   | some y3 =>
    bif y3 then
     let v4 := IntKind.i64.wrap (s.1 + 1)
     some (.inl ((v4, s.2)))
    else
     some (.inr (s))
  else none
 else
  some (.inr (s))
def pat_spec_enPut_0 : Pat := { tmps := .own 62 :: .any :: .any :: .ptr 192 0 :: .any :: .v (.int .i64) :: an 26 [], blks := [(192, .box [.v .str, .v (.int .i64), .v (.int .i64), .v (.int .i64), .v (.int .i64), .v (.int .i64), .v .bool, .v (.int .i64), .v (.int .i64), .v (.int .i64), .v (.int .i64), .v .bool, .v .str, .v (.int .i64), .v .bool, .v (.int .i64), .v (.int .i64), .v (.int .i64), .v (.int .i64), .v (.int .i64), .v .bool, .v (.int .i64), .v (.int .i64), .v (.int .i64), .v (.int .i64), .v .bool, .v .str, .v (.int .i64), .v (.int .i64), .v (.int .i64)]), (62, .row true TY30)] }
def outs_spec_enPut_0 : List (Exit × Pat) := [(.exit 0, { tmps := .own 62 :: .any :: .any :: .ptr 192 0 :: .any :: .v (.int .i64) :: an 26 [], blks := [(192, .box [.v .str, .v (.int .i64), .v (.int .i64), .v (.int .i64), .v (.int .i64), .v (.int .i64), .v .bool, .v (.int .i64), .v (.int .i64), .v (.int .i64), .v (.int .i64), .v .bool, .v .str, .v (.int .i64), .v .bool, .v (.int .i64), .v (.int .i64), .v (.int .i64), .v (.int .i64), .v (.int .i64), .v .bool, .v (.int .i64), .v (.int .i64), .v (.int .i64), .v (.int .i64), .v .bool, .v .str, .v (.int .i64), .v (.int .i64), .v (.int .i64)]), (62, .row true TY30)] })]
noncomputable def F_spec_enPut (x : (List DT30) × DT30) : Option ((List DT30)) :=
 match runL step_spec_enPut_0 ((0, (x.2.1, x.2.2.1.1.1.1, (x.2.2.1.1.1.2.1, x.2.2.1.1.1.2.2.1, (x.2.2.1.1.1.2.2.2.1, x.2.2.1.1.1.2.2.2.2.1, (x.2.2.1.1.1.2.2.2.2.2, x.2.2.1.1.2.1.1, (x.2.2.1.1.2.1.2, x.2.2.1.1.2.2.1.1, (x.2.2.1.1.2.2.1.2.1, x.2.2.1.1.2.2.1.2.2, (x.2.2.1.1.2.2.2.1, x.2.2.1.1.2.2.2.2, (x.2.2.1.2.1, x.2.2.1.2.2.1.1, (x.2.2.1.2.2.1.2.1, x.2.2.1.2.2.1.2.2.1, (x.2.2.1.2.2.1.2.2.2.1, x.2.2.1.2.2.1.2.2.2.2.1, (x.2.2.1.2.2.1.2.2.2.2.2, x.2.2.1.2.2.2.1.1, (x.2.2.1.2.2.2.1.2, x.2.2.1.2.2.2.2.1.1, (x.2.2.1.2.2.2.2.1.2.1, x.2.2.1.2.2.2.2.1.2.2, (x.2.2.1.2.2.2.2.2.1, x.2.2.1.2.2.2.2.2.2, (x.2.2.2.1, x.2.2.2.2, x.1))))))))))))))))) with
 | none => none
 | some o5 =>
  bif decide (0 ≤ (0 : Int)) && decide ((0 : Int) ≤ o5.1) && decide (o5.1 ≤ (o5.2.2.2.2.2.2.2.2.2.2.2.2.2.2.2.2.2.2.2.2.2.2.2.2.2.2.2.2.2.2.2.length : Int)) then
   bif decide (0 ≤ o5.1) && decide (o5.1 ≤ (o5.2.2.2.2.2.2.2.2.2.2.2.2.2.2.2.2.2.2.2.2.2.2.2.2.2.2.2.2.2.2.2.length : Int)) && decide ((o5.2.2.2.2.2.2.2.2.2.2.2.2.2.2.2.2.2.2.2.2.2.2.2.2.2.2.2.2.2.2.2.length : Int) ≤ (o5.2.2.2.2.2.2.2.2.2.2.2.2.2.2.2.2.2.2.2.2.2.2.2.2.2.2.2.2.2.2.2.length : Int)) then
    bif decide (((o5.2.2.2.2.2.2.2.2.2.2.2.2.2.2.2.2.2.2.2.2.2.2.2.2.2.2.2.2.2.2.2.drop ((0 : Int)).toNat).take ((o5.1).toNat - ((0 : Int)).toNat)).length * 264 ≤ 140737488355328) then
     bif decide ((((o5.2.2.2.2.2.2.2.2.2.2.2.2.2.2.2.2.2.2.2.2.2.2.2.2.2.2.2.2.2.2.2.drop ((0 : Int)).toNat).take ((o5.1).toNat - ((0 : Int)).toNat)).length + ([(o5.2.1, ((((o5.2.2.1, (o5.2.2.2.1, o5.2.2.2.2.1, (o5.2.2.2.2.2.1, o5.2.2.2.2.2.2.1, o5.2.2.2.2.2.2.2.1))), (o5.2.2.2.2.2.2.2.2.1, o5.2.2.2.2.2.2.2.2.2.1), ((o5.2.2.2.2.2.2.2.2.2.2.1, o5.2.2.2.2.2.2.2.2.2.2.2.1, o5.2.2.2.2.2.2.2.2.2.2.2.2.1), o5.2.2.2.2.2.2.2.2.2.2.2.2.2.1, o5.2.2.2.2.2.2.2.2.2.2.2.2.2.2.1)), o5.2.2.2.2.2.2.2.2.2.2.2.2.2.2.2.1, ((o5.2.2.2.2.2.2.2.2.2.2.2.2.2.2.2.2.1, (o5.2.2.2.2.2.2.2.2.2.2.2.2.2.2.2.2.2.1, o5.2.2.2.2.2.2.2.2.2.2.2.2.2.2.2.2.2.2.1, (o5.2.2.2.2.2.2.2.2.2.2.2.2.2.2.2.2.2.2.2.1, o5.2.2.2.2.2.2.2.2.2.2.2.2.2.2.2.2.2.2.2.2.1, o5.2.2.2.2.2.2.2.2.2.2.2.2.2.2.2.2.2.2.2.2.2.1))), (o5.2.2.2.2.2.2.2.2.2.2.2.2.2.2.2.2.2.2.2.2.2.2.1, o5.2.2.2.2.2.2.2.2.2.2.2.2.2.2.2.2.2.2.2.2.2.2.2.1), ((o5.2.2.2.2.2.2.2.2.2.2.2.2.2.2.2.2.2.2.2.2.2.2.2.2.1, o5.2.2.2.2.2.2.2.2.2.2.2.2.2.2.2.2.2.2.2.2.2.2.2.2.2.1, o5.2.2.2.2.2.2.2.2.2.2.2.2.2.2.2.2.2.2.2.2.2.2.2.2.2.2.1), o5.2.2.2.2.2.2.2.2.2.2.2.2.2.2.2.2.2.2.2.2.2.2.2.2.2.2.2.1, o5.2.2.2.2.2.2.2.2.2.2.2.2.2.2.2.2.2.2.2.2.2.2.2.2.2.2.2.2.1))), o5.2.2.2.2.2.2.2.2.2.2.2.2.2.2.2.2.2.2.2.2.2.2.2.2.2.2.2.2.2.1, o5.2.2.2.2.2.2.2.2.2.2.2.2.2.2.2.2.2.2.2.2.2.2.2.2.2.2.2.2.2.2.1))] : List (DT30)).length) * 264 ≤ 140737488355328) then
      let v6 := ((o5.2.2.2.2.2.2.2.2.2.2.2.2.2.2.2.2.2.2.2.2.2.2.2.2.2.2.2.2.2.2.2.drop ((0 : Int)).toNat).take ((o5.1).toNat - ((0 : Int)).toNat)) ++ ([(o5.2.1, ((((o5.2.2.1, (o5.2.2.2.1, o5.2.2.2.2.1, (o5.2.2.2.2.2.1, o5.2.2.2.2.2.2.1, o5.2.2.2.2.2.2.2.1))), (o5.2.2.2.2.2.2.2.2.1, o5.2.2.2.2.2.2.2.2.2.1), ((o5.2.2.2.2.2.2.2.2.2.2.1, o5.2.2.2.2.2.2.2.2.2.2.2.1, o5.2.2.2.2.2.2.2.2.2.2.2.2.1), o5.2.2.2.2.2.2.2.2.2.2.2.2.2.1, o5.2.2.2.2.2.2.2.2.2.2.2.2.2.2.1)), o5.2.2.2.2.2.2.2.2.2.2.2.2.2.2.2.1, ((o5.2.2.2.2.2.2.2.2.2.2.2.2.2.2.2.2.1, (o5.2.2.2.2.2.2.2.2.2.2.2.2.2.2.2.2.2.1, o5.2.2.2.2.2.2.2.2.2.2.2.2.2.2.2.2.2.2.1, (o5.2.2.2.2.2.2.2.2.2.2.2.2.2.2.2.2.2.2.2.1, o5.2.2.2.2.2.2.2.2.2.2.2.2.2.2.2.2.2.2.2.2.1, o5.2.2.2.2.2.2.2.2.2.2.2.2.2.2.2.2.2.2.2.2.2.1))), (o5.2.2.2.2.2.2.2.2.2.2.2.2.2.2.2.2.2.2.2.2.2.2.1, o5.2.2.2.2.2.2.2.2.2.2.2.2.2.2.2.2.2.2.2.2.2.2.2.1), ((o5.2.2.2.2.2.2.2.2.2.2.2.2.2.2.2.2.2.2.2.2.2.2.2.2.1, o5.2.2.2.2.2.2.2.2.2.2.2.2.2.2.2.2.2.2.2.2.2.2.2.2.2.1, o5.2.2.2.2.2.2.2.2.2.2.2.2.2.2.2.2.2.2.2.2.2.2.2.2.2.2.1), o5.2.2.2.2.2.2.2.2.2.2.2.2.2.2.2.2.2.2.2.2.2.2.2.2.2.2.2.1, o5.2.2.2.2.2.2.2.2.2.2.2.2.2.2.2.2.2.2.2.2.2.2.2.2.2.2.2.2.1))), o5.2.2.2.2.2.2.2.2.2.2.2.2.2.2.2.2.2.2.2.2.2.2.2.2.2.2.2.2.2.1, o5.2.2.2.2.2.2.2.2.2.2.2.2.2.2.2.2.2.2.2.2.2.2.2.2.2.2.2.2.2.2.1))] : List (DT30))
      bif decide ((v6.length + ((o5.2.2.2.2.2.2.2.2.2.2.2.2.2.2.2.2.2.2.2.2.2.2.2.2.2.2.2.2.2.2.2.drop (o5.1).toNat).take (((o5.2.2.2.2.2.2.2.2.2.2.2.2.2.2.2.2.2.2.2.2.2.2.2.2.2.2.2.2.2.2.2.length : Int)).toNat - (o5.1).toNat)).length) * 264 ≤ 140737488355328) then
       let v7 := v6 ++ ((o5.2.2.2.2.2.2.2.2.2.2.2.2.2.2.2.2.2.2.2.2.2.2.2.2.2.2.2.2.2.2.2.drop (o5.1).toNat).take (((o5.2.2.2.2.2.2.2.2.2.2.2.2.2.2.2.2.2.2.2.2.2.2.2.2.2.2.2.2.2.2.2.length : Int)).toNat - (o5.1).toNat))
       some (v7)
      else none
     else none
    else none
   else none
  else none
noncomputable def c_spec_enPut : Con := { ps := [(.eat true, (.slice TY30)), (.val, TY30)], rs := [(.io true, (.slice TY30))], F := F_spec_enPut }
noncomputable def env_spec_enPut : Env := { par := [62], dp := false, settle := [999999], con := fun f => match f with | 70 => some c_spec_enBefore | _ => none, clo := fun _ => none, T := tinf Tryz.prog }
noncomputable def loops_spec_enPut : Nat → Option Loop := fun n => match n with | 2 => some { pat := pat_spec_enPut_0, outs := outs_spec_enPut_0, run := runL (step_spec_enPut_0) } | _ => none
theorem step_spec_enPut_0_eq (s : Int × ByteArray × Int × Int × Int × Int × Int × Bool × Int × Int × Int × Int × Bool × ByteArray × Int × Bool × Int × Int × Int × Int × Int × Bool × Int × Int × Int × Int × Bool × ByteArray × Int × Int × Int × (List DT30)) : stepEv env_spec_enPut loops_spec_enPut pat_spec_enPut_0 outs_spec_enPut_0 Tryz.f32 2 s = step_spec_enPut_0 s := by kernel_rfl
theorem F_spec_enPut_eq (x : (List DT30) × DT30) : Fev env_spec_enPut loops_spec_enPut c_spec_enPut.ps c_spec_enPut.rs Tryz.f32 x = F_spec_enPut x := by kernel_rfl
theorem env_spec_enPut_ok : EnvOK Tryz.prog env_spec_enPut := envOK_of (fun f c h => by
  simp only [env_spec_enPut] at h
  split at h
  · cases h; exact con_spec_enBefore
  · cases h) (fun f c h => by cases h) rfl
theorem con_spec_enPut : ConOK Tryz.prog 32 c_spec_enPut := con_of_ev' (body := Tryz.f32.body.getD .skip) (Λ := loops_spec_enPut) mixed Tryz.func32 (by kernel_rfl) (by kernel_rfl) env_spec_enPut_ok (by kernel_rfl) (by kernel_rfl) (fun n L h => by
  unfold loops_spec_enPut at h
  split at h
  · cases h; exact fun s o ho => loop_ok (stepF := stepEv env_spec_enPut loops_spec_enPut pat_spec_enPut_0 outs_spec_enPut_0 Tryz.f32 2) (step_spec_enPut_0_eq) ho
  · cases h) F_spec_enPut_eq

noncomputable def F_spec_l1Least (x : Int × Int) : Option (Int) :=
 bif (decide (x.1 < x.2)) then
  some (x.1)
 else
  some (x.2)
noncomputable def c_spec_l1Least : Con := { ps := [(.val, (.int .i64)), (.val, (.int .i64))], rs := [(.val, (.int .i64))], F := F_spec_l1Least }
noncomputable def env_spec_l1Least : Env := { par := [], dp := false, settle := [], con := fun _ => none, clo := fun _ => none, T := tinf Tryz.prog }
noncomputable def loops_spec_l1Least : Nat → Option Loop := fun n => none
theorem con_spec_l1Least : ConOK Tryz.prog 33 c_spec_l1Least := con_of_ev' (body := Tryz.f33.body.getD .skip) (Λ := loops_spec_l1Least) mixed Tryz.func33 (by kernel_rfl) (by kernel_rfl) (envOK_of (E := env_spec_l1Least) (fun f c h => by cases h) (fun f c h => by cases h) rfl) (by kernel_rfl) (by kernel_rfl) (fun n L h => by cases h) (fun _ => by kernel_rfl)

noncomputable def step_spec_JoinEntries_0 (s : (List DT30) × (List DT30) × Int × Int × (List DT30)) : Option (((List DT30) × (List DT30) × Int × Int × (List DT30)) ⊕ (((List DT30) × (List DT30)))) :=
 bif (decide (s.2.2.2.1 < s.2.2.1)) then
  bif decide (0 ≤ s.2.2.2.1) && decide (s.2.2.2.1 < (s.2.1.length : Int)) then
   match F_spec_enAt ((s.2.2.2.2, (s.2.1.getD (s.2.2.2.1).toNat dz30))) with
   | none => none
   | some y11 =>
    bif (decide (y11 < 0)) then
     match F_spec_enPut ((s.2.2.2.2, (s.2.1.getD (s.2.2.2.1).toNat dz30))) with
     | none => none
     | some y12 =>
      let v13 := IntKind.i64.wrap (s.2.2.2.1 + 1)
      some (.inl ((s.1, s.2.1, (s.2.2.1, v13, y12))))
    else
     bif decide (0 ≤ y11) && decide (y11 < (s.2.2.2.2.length : Int)) then
      let v14 := IntKind.i64.wrap ((s.2.2.2.2.getD (y11).toNat dz30).2.2.2 + (s.2.1.getD (s.2.2.2.1).toNat dz30).2.2.2)
      match F_spec_l1Least ((99999, v14)) with
      | none => none
      | some y15 =>
       bif decide (0 ≤ y11) && decide (y11 < (s.2.2.2.2.length : Int)) then
        let v16 := s.2.2.2.2.getD (y11).toNat dz30
        let v17 := s.2.2.2.2.set (y11).toNat (((s.2.2.2.2.getD (y11).toNat dz30).1, ((s.2.2.2.2.getD (y11).toNat dz30).2.1, (s.2.2.2.2.getD (y11).toNat dz30).2.2.1, y15)))
        let v18 := IntKind.i64.wrap (s.2.2.2.1 + 1)
        some (.inl ((s.1, s.2.1, (s.2.2.1, v18, v17))))
       else none
     else none
  else none
 else
  some (.inr ((s.1, s.2.2.2.2)))
def pat_spec_JoinEntries_0 : Pat := { tmps := .any :: .v (.slice TY30) :: an 5 (.own 1664 :: an 19 (.v (.slice TY30) :: .v (.int .i64) :: .v (.int .i64) :: an 59 [])), blks := [(1664, .row true TY30)] }
def outs_spec_JoinEntries_0 : List (Exit × Pat) := [(.exit 0, { tmps := .any :: .v (.slice TY30) :: an 5 (.own 1664 :: an 81 []), blks := [(1664, .row true TY30)] })]
noncomputable def step_spec_JoinEntries_1 (s : (List DT30) × Int × Int × (List DT30) × (List Int)) : Option (((List DT30) × Int × Int × (List DT30) × (List Int)) ⊕ (((List Int) × (List DT30)))) :=
 bif (decide (s.2.2.1 < s.2.1)) then
  bif decide (0 ≤ s.2.2.1) && decide (s.2.2.1 < (s.2.2.2.1.length : Int)) then
   match F_spec_enAt ((s.1, (s.2.2.2.1.getD (s.2.2.1).toNat dz30))) with
   | none => none
   | some y30 =>
    bif (decide (y30 ≥ 0)) then
     bif decide (0 ≤ y30) && decide (y30 < (s.1.length : Int)) then
      bif (!(((((s.1.getD (y30).toNat dz30).2.1.1.1.1 == (s.2.2.2.1.getD (s.2.2.1).toNat dz30).2.1.1.1.1) && (((s.1.getD (y30).toNat dz30).2.1.1.1.2.1 == (s.2.2.2.1.getD (s.2.2.1).toNat dz30).2.1.1.1.2.1) && (((s.1.getD (y30).toNat dz30).2.1.1.1.2.2.1 == (s.2.2.2.1.getD (s.2.2.1).toNat dz30).2.1.1.1.2.2.1) && (((s.1.getD (y30).toNat dz30).2.1.1.1.2.2.2.1 == (s.2.2.2.1.getD (s.2.2.1).toNat dz30).2.1.1.1.2.2.2.1) && (((s.1.getD (y30).toNat dz30).2.1.1.1.2.2.2.2.1 == (s.2.2.2.1.getD (s.2.2.1).toNat dz30).2.1.1.1.2.2.2.2.1) && (((s.1.getD (y30).toNat dz30).2.1.1.1.2.2.2.2.2 == (s.2.2.2.1.getD (s.2.2.1).toNat dz30).2.1.1.1.2.2.2.2.2) && true)))))) && ((((s.1.getD (y30).toNat dz30).2.1.1.2.1.1 == (s.2.2.2.1.getD (s.2.2.1).toNat dz30).2.1.1.2.1.1) && (((s.1.getD (y30).toNat dz30).2.1.1.2.1.2 == (s.2.2.2.1.getD (s.2.2.1).toNat dz30).2.1.1.2.1.2) && true)) && ((((s.1.getD (y30).toNat dz30).2.1.1.2.2.1.1 == (s.2.2.2.1.getD (s.2.2.1).toNat dz30).2.1.1.2.2.1.1) && (((s.1.getD (y30).toNat dz30).2.1.1.2.2.1.2.1 == (s.2.2.2.1.getD (s.2.2.1).toNat dz30).2.1.1.2.2.1.2.1) && (((s.1.getD (y30).toNat dz30).2.1.1.2.2.1.2.2 == (s.2.2.2.1.getD (s.2.2.1).toNat dz30).2.1.1.2.2.1.2.2) && true))) && ((((s.1.getD (y30).toNat dz30).2.1.1.2.2.2.1.toList == (s.2.2.2.1.getD (s.2.2.1).toNat dz30).2.1.1.2.2.2.1.toList) && (((s.1.getD (y30).toNat dz30).2.1.1.2.2.2.2 == (s.2.2.2.1.getD (s.2.2.1).toNat dz30).2.1.1.2.2.2.2) && true)) && true)))) && (((s.1.getD (y30).toNat dz30).2.1.2.1 == (s.2.2.2.1.getD (s.2.2.1).toNat dz30).2.1.2.1) && (((((s.1.getD (y30).toNat dz30).2.1.2.2.1.1 == (s.2.2.2.1.getD (s.2.2.1).toNat dz30).2.1.2.2.1.1) && (((s.1.getD (y30).toNat dz30).2.1.2.2.1.2.1 == (s.2.2.2.1.getD (s.2.2.1).toNat dz30).2.1.2.2.1.2.1) && (((s.1.getD (y30).toNat dz30).2.1.2.2.1.2.2.1 == (s.2.2.2.1.getD (s.2.2.1).toNat dz30).2.1.2.2.1.2.2.1) && (((s.1.getD (y30).toNat dz30).2.1.2.2.1.2.2.2.1 == (s.2.2.2.1.getD (s.2.2.1).toNat dz30).2.1.2.2.1.2.2.2.1) && (((s.1.getD (y30).toNat dz30).2.1.2.2.1.2.2.2.2.1 == (s.2.2.2.1.getD (s.2.2.1).toNat dz30).2.1.2.2.1.2.2.2.2.1) && (((s.1.getD (y30).toNat dz30).2.1.2.2.1.2.2.2.2.2 == (s.2.2.2.1.getD (s.2.2.1).toNat dz30).2.1.2.2.1.2.2.2.2.2) && true)))))) && ((((s.1.getD (y30).toNat dz30).2.1.2.2.2.1.1 == (s.2.2.2.1.getD (s.2.2.1).toNat dz30).2.1.2.2.2.1.1) && (((s.1.getD (y30).toNat dz30).2.1.2.2.2.1.2 == (s.2.2.2.1.getD (s.2.2.1).toNat dz30).2.1.2.2.2.1.2) && true)) && ((((s.1.getD (y30).toNat dz30).2.1.2.2.2.2.1.1 == (s.2.2.2.1.getD (s.2.2.1).toNat dz30).2.1.2.2.2.2.1.1) && (((s.1.getD (y30).toNat dz30).2.1.2.2.2.2.1.2.1 == (s.2.2.2.1.getD (s.2.2.1).toNat dz30).2.1.2.2.2.2.1.2.1) && (((s.1.getD (y30).toNat dz30).2.1.2.2.2.2.1.2.2 == (s.2.2.2.1.getD (s.2.2.1).toNat dz30).2.1.2.2.2.2.1.2.2) && true))) && ((((s.1.getD (y30).toNat dz30).2.1.2.2.2.2.2.1.toList == (s.2.2.2.1.getD (s.2.2.1).toNat dz30).2.1.2.2.2.2.2.1.toList) && (((s.1.getD (y30).toNat dz30).2.1.2.2.2.2.2.2 == (s.2.2.2.1.getD (s.2.2.1).toNat dz30).2.1.2.2.2.2.2.2) && true)) && true)))) && true)))) then
       bif decide ((s.2.2.2.2.length + [s.2.2.1].length) * 8 ≤ 140737488355328) then
        let v31 := s.2.2.2.2 ++ [s.2.2.1]
        let v32 := IntKind.i64.wrap (s.2.2.1 + 1)
        some (.inl ((s.1, s.2.1, (v32, s.2.2.2.1, v31))))
       else none
      else
       let v33 := IntKind.i64.wrap (s.2.2.1 + 1)
       some (.inl ((s.1, (s.2.1, v33, s.2.2.2))))
     else none
    else
     let v34 := IntKind.i64.wrap (s.2.2.1 + 1)
     some (.inl ((s.1, (s.2.1, v34, s.2.2.2))))
  else none
 else
  some (.inr ((s.2.2.2.2, s.2.2.2.1)))
def pat_spec_JoinEntries_1 : Pat := { tmps := .any :: .v (.slice TY30) :: an 5 (.own 1664 :: an 4 (.own 5440 :: an 47 (.own 1664 :: .v (.int .i64) :: .v (.int .i64) :: an 26 []))), blks := [(1664, .row true TY30), (5440, .row true (.int .i64))] }
def outs_spec_JoinEntries_1 : List (Exit × Pat) := [(.exit 2, { tmps := an 7 (.own 1664 :: an 4 (.own 5440 :: an 76 [])), blks := [(5440, .row true (.int .i64)), (1664, .row true TY30)] })]
noncomputable def F_spec_JoinEntries (x : (List DT30) × (List DT30)) : Option ((List DT30) × (List Int) × Bool) :=
 match F_spec_enGood (x.1) with
 | none => none
 | some y1 =>
  bif (!y1) then
   some (([], [], false))
  else
   match F_spec_enGood (x.2) with
   | none => none
   | some y2 =>
    bif (!y2) then
     some (([], [], false))
    else
     bif decide (x.1.length * 264 ≤ 140737488355328) then
      match runL step_spec_JoinEntries_0 ((x.2, x.2, ((x.2.length : Int), 0, x.1))) with
      | none => none
      | some o19 =>
       match F_spec_enGood (o19.2) with
       | none => none
       | some y20 =>
        bif (!y20) then
         some (([], [], false))
        else
         match runL step_spec_JoinEntries_1 ((o19.1, (o19.2.length : Int), (0, o19.2, []))) with
         | none => none
         | some o35 =>
          some ((o35.2, o35.1, true))
     else none
noncomputable def c_spec_JoinEntries : Con := { ps := [(.val, (.slice TY30)), (.val, (.slice TY30))], rs := [(.io true, (.slice TY30)), (.io true, (.slice (.int .i64))), (.val, .bool)], F := F_spec_JoinEntries }
noncomputable def env_spec_JoinEntries : Env := { par := [], dp := false, settle := [999999], con := fun f => match f with | 30 => some c_spec_enGood | 31 => some c_spec_enAt | 32 => some c_spec_enPut | 33 => some c_spec_l1Least | _ => none, clo := fun _ => none, T := tinf Tryz.prog }
noncomputable def loops_spec_JoinEntries : Nat → Option Loop := fun n => match n with | 5 => some { pat := pat_spec_JoinEntries_0, outs := outs_spec_JoinEntries_0, run := runL (step_spec_JoinEntries_0) } | 18 => some { pat := pat_spec_JoinEntries_1, outs := outs_spec_JoinEntries_1, run := runL (step_spec_JoinEntries_1) } | _ => none
theorem con_spec_JoinEntries : ConOK Tryz.prog 8 c_spec_JoinEntries := con_of_ev' (body := Tryz.f8.body.getD .skip) (Λ := loops_spec_JoinEntries) mixed Tryz.func8 (by kernel_rfl) (by kernel_rfl) (envOK_of (E := env_spec_JoinEntries) (fun f c h => by
  simp only [env_spec_JoinEntries] at h
  split at h
  · cases h; exact con_spec_enGood
  · cases h; exact con_spec_enAt
  · cases h; exact con_spec_enPut
  · cases h; exact con_spec_l1Least
  · cases h) (fun f c h => by cases h) rfl) (by kernel_rfl) (by kernel_rfl) (fun n L h => by
  unfold loops_spec_JoinEntries at h
  split at h
  · cases h; exact fun s o ho => loop_ok (stepF := stepEv env_spec_JoinEntries loops_spec_JoinEntries pat_spec_JoinEntries_0 outs_spec_JoinEntries_0 Tryz.f8 5) (fun _ => by kernel_rfl) ho
  · cases h; exact fun s o ho => loop_ok (stepF := stepEv env_spec_JoinEntries loops_spec_JoinEntries pat_spec_JoinEntries_1 outs_spec_JoinEntries_1 Tryz.f8 18) (fun _ => by kernel_rfl) ho
  · cases h) (fun _ => by kernel_rfl)

noncomputable def F_impl_within (x : Int × Int × Int) : Option (Bool) :=
 bif (decide (x.1 ≥ x.2.1)) then
  some ((decide (x.1 ≤ x.2.2)))
 else
  some (false)
noncomputable def c_impl_within : Con := { ps := [(.val, (.int .i64)), (.val, (.int .i64)), (.val, (.int .i64))], rs := [(.val, .bool)], F := F_impl_within }
noncomputable def env_impl_within : Env := { par := [], dp := false, settle := [], con := fun _ => none, clo := fun _ => none, T := tinf Tryz.prog }
noncomputable def loops_impl_within : Nat → Option Loop := fun n => none
theorem con_impl_within : ConOK Tryz.prog 119 c_impl_within := con_of_ev' (body := Tryz.f119.body.getD .skip) (Λ := loops_impl_within) mixed Tryz.func119 (by kernel_rfl) (by kernel_rfl) (envOK_of (E := env_impl_within) (fun f c h => by cases h) (fun f c h => by cases h) rfl) (by kernel_rfl) (by kernel_rfl) (fun n L h => by cases h) (fun _ => by kernel_rfl)

set_option maxHeartbeats 1000000 in
theorem calls_strings_IndexByte (s : ByteArray) (c : Int) (w : World) :
    Calls Tryz.prog 96 #[.string s, .int .u8 c] w fun e w' => e = .returned (.int .i64 (Lib.indexByte s.data.toList c.toNat.toUInt8)) ∧ w' = w := by
  go_enter Tryz.func96, Tryz.ntmps96
  go_wp2
  rw [run_callFunc_extern Tryz.func213 (by kernel_rfl) (by kernel_rfl) (by kernel_rfl) (e := Extern.BytealgIndexByte.indexByte) (by kernel_rfl), Lib.run_indexByteString]
  simp only [Result.andThen]
  rw [Oper.upon_value]
  go_wp2
  go_ret
  exact ⟨rfl, rfl⟩
def F_strings_IndexByte (x : ByteArray × Int) : Option Int := some (Lib.indexByte x.1.data.toList x.2.toNat.toUInt8)
def c_strings_IndexByte : Con := { ps := [(.val, .str), (.val, .int .u8)], rs := [(.val, .int .i64)], F := F_strings_IndexByte }
theorem con_strings_IndexByte : ConOK Tryz.prog 96 c_strings_IndexByte := con_of_pure ⟨Tryz.f96, Tryz.func96, by kernel_rfl, by kernel_rfl⟩ rfl rfl fun w x y hy _ => by
  have e : y = Lib.indexByte x.1.data.toList x.2.toNat.toUInt8 := (Option.some.inj hy).symm
  subst e
  refine (calls_strings_IndexByte x.1 x.2 w).mono ?_
  rintro e w' ⟨rfl, rfl⟩
  exact ⟨rfl, Fr.refl _ _⟩

noncomputable def step_impl_hasOnly_0 (s : ByteArray × ByteArray × Int × Int) : Option ((ByteArray × ByteArray × Int × Int) ⊕ ((Bool) ⊕ (Unit))) :=
 bif (decide (s.2.2.2 < s.2.2.1)) then
  bif decide (0 ≤ s.2.2.2) && decide (s.2.2.2 < (s.1.size : Int)) then
   match F_strings_IndexByte ((s.2.1, (byteAt s.1 (s.2.2.2).toNat))) with
   | none => none
   | some y3 =>
    bif (decide (y3 < 0)) then
     some (.inr (.inl (false)))
    else
     let v4 := IntKind.i64.wrap (s.2.2.2 + 1)
     some (.inl ((s.1, (s.2.1, s.2.2.1, v4))))
  else none
 else
  some (.inr (.inr (())))
def pat_impl_hasOnly_0 : Pat := { tmps := .v .str :: .v .str :: an 5 (.v (.int .i64) :: .v (.int .i64) :: an 9 []), blks := [] }
def outs_impl_hasOnly_0 : List (Exit × Pat) := [(.ret, { tmps := an 4 (.v .bool :: an 13 []), blks := [] }), (.exit 0, { tmps := an 18 [], blks := [] })]
noncomputable def F_impl_hasOnly (x : ByteArray × ByteArray) : Option (Bool) :=
 match runL step_impl_hasOnly_0 ((x.1, (x.2, (x.1.size : Int), 0))) with
 | none => none
 | some (.inl o5) =>
  some (o5)
 | some (.inr o5) =>
  some (true)
noncomputable def c_impl_hasOnly : Con := { ps := [(.val, .str), (.val, .str)], rs := [(.val, .bool)], F := F_impl_hasOnly }
noncomputable def env_impl_hasOnly : Env := { par := [], dp := false, settle := [], con := fun f => match f with | 96 => some c_strings_IndexByte | _ => none, clo := fun _ => none, T := tinf Tryz.prog }
noncomputable def loops_impl_hasOnly : Nat → Option Loop := fun n => match n with | 2 => some { pat := pat_impl_hasOnly_0, outs := outs_impl_hasOnly_0, run := runL (step_impl_hasOnly_0) } | _ => none
theorem con_impl_hasOnly : ConOK Tryz.prog 195 c_impl_hasOnly := con_of_ev' (body := Tryz.f195.body.getD .skip) (Λ := loops_impl_hasOnly) mixed Tryz.func195 (by kernel_rfl) (by kernel_rfl) (envOK_of (E := env_impl_hasOnly) (fun f c h => by
  simp only [env_impl_hasOnly] at h
  split at h
  · cases h; exact con_strings_IndexByte
  · cases h) (fun f c h => by cases h) rfl) (by kernel_rfl) (by kernel_rfl) (fun n L h => by
  unfold loops_impl_hasOnly at h
  split at h
  · cases h; exact fun s o ho => loop_ok (stepF := stepEv env_impl_hasOnly loops_impl_hasOnly pat_impl_hasOnly_0 outs_impl_hasOnly_0 Tryz.f195 2) (fun _ => by kernel_rfl) ho
  · cases h) (fun _ => by kernel_rfl)

noncomputable def F_impl_isWordOf (x : ByteArray × ByteArray) : Option (Bool) :=
 match F_impl_within (((x.1.size : Int), 1, 8)) with
 | none => none
 | some y1 =>
  bif y1 then
   match F_impl_hasOnly (x) with
   | none => none
   | some y2 =>
    some (y2)
  else
   some (false)
noncomputable def c_impl_isWordOf : Con := { ps := [(.val, .str), (.val, .str)], rs := [(.val, .bool)], F := F_impl_isWordOf }
noncomputable def env_impl_isWordOf : Env := { par := [], dp := false, settle := [], con := fun f => match f with | 119 => some c_impl_within | 195 => some c_impl_hasOnly | _ => none, clo := fun _ => none, T := tinf Tryz.prog }
noncomputable def loops_impl_isWordOf : Nat → Option Loop := fun n => none
theorem con_impl_isWordOf : ConOK Tryz.prog 170 c_impl_isWordOf := con_of_ev' (body := Tryz.f170.body.getD .skip) (Λ := loops_impl_isWordOf) mixed Tryz.func170 (by kernel_rfl) (by kernel_rfl) (envOK_of (E := env_impl_isWordOf) (fun f c h => by
  simp only [env_impl_isWordOf] at h
  split at h
  · cases h; exact con_impl_within
  · cases h; exact con_impl_hasOnly
  · cases h) (fun f c h => by cases h) rfl) (by kernel_rfl) (by kernel_rfl) (fun n L h => by cases h) (fun _ => by kernel_rfl)

noncomputable def F_impl_IsGloss (x : ByteArray) : Option (Bool) :=
 match F_impl_isWordOf ((x, (⟨#[65, 66, 67, 68, 69, 70, 71, 72, 73, 74, 75, 76, 77, 78, 79, 80, 81, 82, 83, 84, 85, 86, 87, 88, 89, 90]⟩ : ByteArray))) with
 | none => none
 | some y1 =>
  some (y1)
noncomputable def c_impl_IsGloss : Con := { ps := [(.val, .str)], rs := [(.val, .bool)], F := F_impl_IsGloss }
noncomputable def env_impl_IsGloss : Env := { par := [], dp := false, settle := [], con := fun f => match f with | 170 => some c_impl_isWordOf | _ => none, clo := fun _ => none, T := tinf Tryz.prog }
noncomputable def loops_impl_IsGloss : Nat → Option Loop := fun n => none
theorem con_impl_IsGloss : ConOK Tryz.prog 118 c_impl_IsGloss := con_of_ev' (body := Tryz.f118.body.getD .skip) (Λ := loops_impl_IsGloss) mixed Tryz.func118 (by kernel_rfl) (by kernel_rfl) (envOK_of (E := env_impl_IsGloss) (fun f c h => by
  simp only [env_impl_IsGloss] at h
  split at h
  · cases h; exact con_impl_isWordOf
  · cases h) (fun f c h => by cases h) rfl) (by kernel_rfl) (by kernel_rfl) (fun n L h => by cases h) (fun _ => by kernel_rfl)

noncomputable def F_impl_Shape_bends (x : (Int × (Int × (Int × (Int × (Int × Bool)))))) : Option ((List Int)) :=
 some ([x.2.1, x.2.2.1, x.2.2.2.1, x.2.2.2.2.1])
noncomputable def c_impl_Shape_bends : Con := { ps := [(.val, (.st (.pair (.int .i64) (.pair (.int .i64) (.pair (.int .i64) (.pair (.int .i64) (.pair (.int .i64) .bool)))))))], rs := [(.io true, (.slice (.int .i64)))], F := F_impl_Shape_bends }
noncomputable def env_impl_Shape_bends : Env := { par := [], dp := false, settle := [], con := fun _ => none, clo := fun _ => none, T := tinf Tryz.prog }
noncomputable def loops_impl_Shape_bends : Nat → Option Loop := fun n => none
theorem con_impl_Shape_bends : ConOK Tryz.prog 193 c_impl_Shape_bends := con_of_ev' (body := Tryz.f193.body.getD .skip) (Λ := loops_impl_Shape_bends) mixed Tryz.func193 (by kernel_rfl) (by kernel_rfl) (envOK_of (E := env_impl_Shape_bends) (fun f c h => by cases h) (fun f c h => by cases h) rfl) (by kernel_rfl) (by kernel_rfl) (fun n L h => by cases h) (fun _ => by kernel_rfl)

noncomputable def F_impl_allWithin_1 (x : Int × Int × Int) : Option (Bool) :=
 match F_impl_within (x) with
 | none => none
 | some y1 =>
  some ((!y1))
noncomputable def c_impl_allWithin_1 : Con := { ps := [(.val, (.int .i64)), (.val, (.ptr (.int .i64))), (.val, (.ptr (.int .i64)))], rs := [(.val, .bool)], F := F_impl_allWithin_1 }
noncomputable def env_impl_allWithin_1 : Env := { par := [], dp := false, settle := [], con := fun f => match f with | 119 => some c_impl_within | _ => none, clo := fun _ => none, T := tinf Tryz.prog }
noncomputable def loops_impl_allWithin_1 : Nat → Option Loop := fun n => none
theorem con_impl_allWithin_1 : ConOK Tryz.prog 229 c_impl_allWithin_1 := con_of_ev' (body := Tryz.f229.body.getD .skip) (Λ := loops_impl_allWithin_1) mixed Tryz.func229 (by kernel_rfl) (by kernel_rfl) (envOK_of (E := env_impl_allWithin_1) (fun f c h => by
  simp only [env_impl_allWithin_1] at h
  split at h
  · cases h; exact con_impl_within
  · cases h) (fun f c h => by cases h) rfl) (by kernel_rfl) (by kernel_rfl) (fun n L h => by cases h) (fun _ => by kernel_rfl)

noncomputable def step_slices_IndexFunc_int_int_0 (s : (List Int) × (Int → Option Bool) × Int × Int) : Option (((List Int) × (Int → Option Bool) × Int × Int) ⊕ ((Int) ⊕ (Unit))) :=
 bif (decide (s.2.2.2 < s.2.2.1)) then
  bif decide (0 ≤ s.2.2.2) && decide (s.2.2.2 < (s.1.length : Int)) then
   match s.2.1 ((s.1.getD (s.2.2.2).toNat 0)) with
   | none => none
   | some y3 =>
    bif y3 then
     some (.inr (.inl (s.2.2.2)))
    else
     let v4 := IntKind.i64.wrap (s.2.2.2 + 1)
     some (.inl ((s.1, (s.2.1, s.2.2.1, v4))))
  else none
 else
  some (.inr (.inr (())))
def pat_slices_IndexFunc_int_int_0 : Pat := { tmps := .v (.slice (.int .i64)) :: .v (.fn (.int .i64) .bool) :: an 5 (.v (.int .i64) :: .v (.int .i64) :: an 10 []), blks := [] }
def outs_slices_IndexFunc_int_int_0 : List (Exit × Pat) := [(.ret, { tmps := an 4 (.v (.int .i64) :: an 14 []), blks := [] }), (.exit 0, { tmps := an 19 [], blks := [] })]
noncomputable def F_slices_IndexFunc_int_int (x : (List Int) × (Int → Option Bool)) : Option (Int) :=
 match runL step_slices_IndexFunc_int_int_0 ((x.1, (x.2, (x.1.length : Int), 0))) with
 | none => none
 | some (.inl o5) =>
  some (o5)
 | some (.inr o5) =>
  some ((-1))
noncomputable def c_slices_IndexFunc_int_int : Con := { ps := [(.val, (.slice (.int .i64))), (.val, (.fn (.int .i64) .bool))], rs := [(.val, (.int .i64))], F := F_slices_IndexFunc_int_int }
noncomputable def env_slices_IndexFunc_int_int : Env := { par := [], dp := false, settle := [], con := fun _ => none, clo := fun _ => none, T := tinf Tryz.prog }
noncomputable def loops_slices_IndexFunc_int_int : Nat → Option Loop := fun n => match n with | 2 => some { pat := pat_slices_IndexFunc_int_int_0, outs := outs_slices_IndexFunc_int_int_0, run := runL (step_slices_IndexFunc_int_int_0) } | _ => none
theorem con_slices_IndexFunc_int_int : ConOK Tryz.prog 248 c_slices_IndexFunc_int_int := con_of_ev' (body := Tryz.f248.body.getD .skip) (Λ := loops_slices_IndexFunc_int_int) mixed Tryz.func248 (by kernel_rfl) (by kernel_rfl) (envOK_of (E := env_slices_IndexFunc_int_int) (fun f c h => by cases h) (fun f c h => by cases h) rfl) (by kernel_rfl) (by kernel_rfl) (fun n L h => by
  unfold loops_slices_IndexFunc_int_int at h
  split at h
  · cases h; exact fun s o ho => loop_ok (stepF := stepEv env_slices_IndexFunc_int_int loops_slices_IndexFunc_int_int pat_slices_IndexFunc_int_int_0 outs_slices_IndexFunc_int_int_0 Tryz.f248 2) (fun _ => by kernel_rfl) ho
  · cases h) (fun _ => by kernel_rfl)

noncomputable def F_slices_ContainsFunc_int_int (x : (List Int) × (Int → Option Bool)) : Option (Bool) :=
 match F_slices_IndexFunc_int_int (x) with
 | none => none
 | some y1 =>
  some ((decide (y1 ≥ 0)))
noncomputable def c_slices_ContainsFunc_int_int : Con := { ps := [(.val, (.slice (.int .i64))), (.val, (.fn (.int .i64) .bool))], rs := [(.val, .bool)], F := F_slices_ContainsFunc_int_int }
noncomputable def env_slices_ContainsFunc_int_int : Env := { par := [], dp := false, settle := [], con := fun f => match f with | 248 => some c_slices_IndexFunc_int_int | _ => none, clo := fun _ => none, T := tinf Tryz.prog }
noncomputable def loops_slices_ContainsFunc_int_int : Nat → Option Loop := fun n => none
theorem con_slices_ContainsFunc_int_int : ConOK Tryz.prog 228 c_slices_ContainsFunc_int_int := con_of_ev' (body := Tryz.f228.body.getD .skip) (Λ := loops_slices_ContainsFunc_int_int) mixed Tryz.func228 (by kernel_rfl) (by kernel_rfl) (envOK_of (E := env_slices_ContainsFunc_int_int) (fun f c h => by
  simp only [env_slices_ContainsFunc_int_int] at h
  split at h
  · cases h; exact con_slices_IndexFunc_int_int
  · cases h) (fun f c h => by cases h) rfl) (by kernel_rfl) (by kernel_rfl) (fun n L h => by cases h) (fun _ => by kernel_rfl)

noncomputable def K_impl_allWithin_1 (q : Int × Int) (x : Int) : Option (Bool) := F_impl_allWithin_1 (x, q)
noncomputable def k_impl_allWithin_1 : CloCon := { caps := [(.int .i64), (.int .i64)], a := (.int .i64), r := .bool, F := K_impl_allWithin_1 }
theorem clo_impl_allWithin_1 : CloOK Tryz.prog 229 k_impl_allWithin_1 := clo_of_con k_impl_allWithin_1 F_impl_allWithin_1 con_impl_allWithin_1 rfl (fun kx x y h => ⟨y, h, rfl⟩)
noncomputable def F_impl_allWithin (x : (List Int) × Int × Int) : Option (Bool) :=
 match F_slices_ContainsFunc_int_int ((x.1, (K_impl_allWithin_1 x.2))) with
 | none => none
 | some y1 =>
  some ((!y1))
noncomputable def c_impl_allWithin : Con := { ps := [(.val, (.slice (.int .i64))), (.val, (.int .i64)), (.val, (.int .i64))], rs := [(.val, .bool)], F := F_impl_allWithin }
noncomputable def env_impl_allWithin : Env := { par := [], dp := false, settle := [], con := fun f => match f with | 228 => some c_slices_ContainsFunc_int_int | _ => none, clo := fun f => match f with | 229 => some k_impl_allWithin_1 | _ => none, T := tinf Tryz.prog }
noncomputable def loops_impl_allWithin : Nat → Option Loop := fun n => none
theorem con_impl_allWithin : ConOK Tryz.prog 192 c_impl_allWithin := con_of_ev' (body := Tryz.f192.body.getD .skip) (Λ := loops_impl_allWithin) mixed Tryz.func192 (by kernel_rfl) (by kernel_rfl) (envOK_of (E := env_impl_allWithin) (fun f c h => by
  simp only [env_impl_allWithin] at h
  split at h
  · cases h; exact con_slices_ContainsFunc_int_int
  · cases h) (fun f c h => by
  simp only [env_impl_allWithin] at h
  split at h
  · cases h; exact clo_impl_allWithin_1
  · cases h) rfl) (by kernel_rfl) (by kernel_rfl) (fun n L h => by cases h) (fun _ => by kernel_rfl)

noncomputable def F_impl_Shape_maySpread (x : (Int × (Int × (Int × (Int × (Int × Bool)))))) : Option (Bool) :=
 bif ((x.2.2.1 == 0)) then
  bif ((x.2.1 == 0)) then
   some (true)
  else
   bif ((x.2.2.2.1 == 0)) then
    some (true)
   else
    bif ((x.2.2.2.1 == 0)) then
     some (((x.2.2.2.2.1 == 0)))
    else
     some (false)
 else
  bif ((x.2.2.2.1 == 0)) then
   some (((x.2.2.2.2.1 == 0)))
  else
   some (false)
noncomputable def c_impl_Shape_maySpread : Con := { ps := [(.val, (.st (.pair (.int .i64) (.pair (.int .i64) (.pair (.int .i64) (.pair (.int .i64) (.pair (.int .i64) .bool)))))))], rs := [(.val, .bool)], F := F_impl_Shape_maySpread }
noncomputable def env_impl_Shape_maySpread : Env := { par := [], dp := false, settle := [], con := fun _ => none, clo := fun _ => none, T := tinf Tryz.prog }
noncomputable def loops_impl_Shape_maySpread : Nat → Option Loop := fun n => none
theorem con_impl_Shape_maySpread : ConOK Tryz.prog 194 c_impl_Shape_maySpread := con_of_ev' (body := Tryz.f194.body.getD .skip) (Λ := loops_impl_Shape_maySpread) mixed Tryz.func194 (by kernel_rfl) (by kernel_rfl) (envOK_of (E := env_impl_Shape_maySpread) (fun f c h => by cases h) (fun f c h => by cases h) rfl) (by kernel_rfl) (by kernel_rfl) (fun n L h => by cases h) (fun _ => by kernel_rfl)

noncomputable def F_impl_IsShape (x : (Int × (Int × (Int × (Int × (Int × Bool)))))) : Option (Bool) :=
 match F_impl_Shape_bends (x) with
 | none => none
 | some y1 =>
  bif decide (([x.1].length + y1.length) * 8 ≤ 140737488355328) then
   let v2 := [x.1] ++ y1
   match F_impl_allWithin ((v2, 0, 2)) with
   | none => none
   | some y3 =>
    bif (!y3) then
     some (false)
    else
     bif (!x.2.2.2.2.2) then
      some (true)
     else
      match F_impl_Shape_maySpread (x) with
      | none => none
      | some y4 =>
       some (y4)
  else none
noncomputable def c_impl_IsShape : Con := { ps := [(.val, (.st (.pair (.int .i64) (.pair (.int .i64) (.pair (.int .i64) (.pair (.int .i64) (.pair (.int .i64) .bool)))))))], rs := [(.val, .bool)], F := F_impl_IsShape }
noncomputable def env_impl_IsShape : Env := { par := [], dp := false, settle := [], con := fun f => match f with | 192 => some c_impl_allWithin | 193 => some c_impl_Shape_bends | 194 => some c_impl_Shape_maySpread | _ => none, clo := fun _ => none, T := tinf Tryz.prog }
noncomputable def loops_impl_IsShape : Nat → Option Loop := fun n => none
theorem con_impl_IsShape : ConOK Tryz.prog 133 c_impl_IsShape := con_of_ev' (body := Tryz.f133.body.getD .skip) (Λ := loops_impl_IsShape) mixed Tryz.func133 (by kernel_rfl) (by kernel_rfl) (envOK_of (E := env_impl_IsShape) (fun f c h => by
  simp only [env_impl_IsShape] at h
  split at h
  · cases h; exact con_impl_allWithin
  · cases h; exact con_impl_Shape_bends
  · cases h; exact con_impl_Shape_maySpread
  · cases h) (fun f c h => by cases h) rfl) (by kernel_rfl) (by kernel_rfl) (fun n L h => by cases h) (fun _ => by kernel_rfl)

noncomputable def F_impl_IsOrient (x : (Int × Int)) : Option (Bool) :=
 match F_impl_within ((x.1, 0, 5)) with
 | none => none
 | some y1 =>
  bif y1 then
   match F_impl_within ((x.2, 0, 5)) with
   | none => none
   | some y2 =>
    bif y2 then
     bif !decide (2 = 0) then
      let v3 := IntKind.i64.wrap ((x.1).tdiv 2)
      bif !decide (2 = 0) then
       let v4 := IntKind.i64.wrap ((x.2).tdiv 2)
       some (((v3 != v4)))
      else none
     else none
    else
     some (false)
  else
   some (false)
noncomputable def c_impl_IsOrient : Con := { ps := [(.val, (.st (.pair (.int .i64) (.int .i64))))], rs := [(.val, .bool)], F := F_impl_IsOrient }
noncomputable def env_impl_IsOrient : Env := { par := [], dp := false, settle := [], con := fun f => match f with | 119 => some c_impl_within | _ => none, clo := fun _ => none, T := tinf Tryz.prog }
noncomputable def loops_impl_IsOrient : Nat → Option Loop := fun n => none
theorem con_impl_IsOrient : ConOK Tryz.prog 134 c_impl_IsOrient := con_of_ev' (body := Tryz.f134.body.getD .skip) (Λ := loops_impl_IsOrient) mixed Tryz.func134 (by kernel_rfl) (by kernel_rfl) (envOK_of (E := env_impl_IsOrient) (fun f c h => by
  simp only [env_impl_IsOrient] at h
  split at h
  · cases h; exact con_impl_within
  · cases h) (fun f c h => by cases h) rfl) (by kernel_rfl) (by kernel_rfl) (fun n L h => by cases h) (fun _ => by kernel_rfl)

noncomputable def F_impl_IsPlace (x : (Int × (Int × Bool))) : Option (Bool) :=
 match F_impl_within ((x.1, 0, 9)) with
 | none => none
 | some y1 =>
  bif y1 then
   match F_impl_within ((x.2.1, (-1), 1)) with
   | none => none
   | some y2 =>
    bif y2 then
     bif x.2.2 then
      some ((!((x.1 == 0))))
     else
      some ((!false))
    else
     some (false)
  else
   some (false)
noncomputable def c_impl_IsPlace : Con := { ps := [(.val, (.st (.pair (.int .i64) (.pair (.int .i64) .bool))))], rs := [(.val, .bool)], F := F_impl_IsPlace }
noncomputable def env_impl_IsPlace : Env := { par := [], dp := false, settle := [], con := fun f => match f with | 119 => some c_impl_within | _ => none, clo := fun _ => none, T := tinf Tryz.prog }
noncomputable def loops_impl_IsPlace : Nat → Option Loop := fun n => none
theorem con_impl_IsPlace : ConOK Tryz.prog 135 c_impl_IsPlace := con_of_ev' (body := Tryz.f135.body.getD .skip) (Λ := loops_impl_IsPlace) mixed Tryz.func135 (by kernel_rfl) (by kernel_rfl) (envOK_of (E := env_impl_IsPlace) (fun f c h => by
  simp only [env_impl_IsPlace] at h
  split at h
  · cases h; exact con_impl_within
  · cases h) (fun f c h => by cases h) rfl) (by kernel_rfl) (by kernel_rfl) (fun n L h => by cases h) (fun _ => by kernel_rfl)

noncomputable def F_impl_IsMove (x : (ByteArray × Int)) : Option (Bool) :=
 bif (decide ((x.1.size : Int) ≤ 6)) then
  match F_impl_hasOnly ((x.1, (⟨#[117, 100, 108, 114, 102, 98]⟩ : ByteArray))) with
  | none => none
  | some y1 =>
   bif y1 then
    match F_impl_within ((x.2, 1, 3)) with
    | none => none
    | some y2 =>
     bif y2 then
      bif (!(x.1.toList == (⟨#[]⟩ : ByteArray).toList)) then
       some (true)
      else
       some (((x.2 == 1)))
     else
      some (false)
   else
    some (false)
 else
  some (false)
noncomputable def c_impl_IsMove : Con := { ps := [(.val, (.st (.pair .str (.int .i64))))], rs := [(.val, .bool)], F := F_impl_IsMove }
noncomputable def env_impl_IsMove : Env := { par := [], dp := false, settle := [], con := fun f => match f with | 119 => some c_impl_within | 195 => some c_impl_hasOnly | _ => none, clo := fun _ => none, T := tinf Tryz.prog }
noncomputable def loops_impl_IsMove : Nat → Option Loop := fun n => none
theorem con_impl_IsMove : ConOK Tryz.prog 136 c_impl_IsMove := con_of_ev' (body := Tryz.f136.body.getD .skip) (Λ := loops_impl_IsMove) mixed Tryz.func136 (by kernel_rfl) (by kernel_rfl) (envOK_of (E := env_impl_IsMove) (fun f c h => by
  simp only [env_impl_IsMove] at h
  split at h
  · cases h; exact con_impl_within
  · cases h; exact con_impl_hasOnly
  · cases h) (fun f c h => by cases h) rfl) (by kernel_rfl) (by kernel_rfl) (fun n L h => by cases h) (fun _ => by kernel_rfl)

noncomputable def F_impl_IsHand (x : ((Int × (Int × (Int × (Int × (Int × Bool))))) × ((Int × Int) × ((Int × (Int × Bool)) × (ByteArray × Int))))) : Option (Bool) :=
 match F_impl_IsShape (x.1) with
 | none => none
 | some y1 =>
  bif y1 then
   match F_impl_IsOrient (x.2.1) with
   | none => none
   | some y2 =>
    bif y2 then
     match F_impl_IsPlace (x.2.2.1) with
     | none => none
     | some y3 =>
      bif y3 then
       match F_impl_IsMove (x.2.2.2) with
       | none => none
       | some y4 =>
        some (y4)
      else
       some (false)
    else
     some (false)
  else
   some (false)
noncomputable def c_impl_IsHand : Con := { ps := [(.val, (.st (.pair (.st (.pair (.int .i64) (.pair (.int .i64) (.pair (.int .i64) (.pair (.int .i64) (.pair (.int .i64) .bool)))))) (.pair (.st (.pair (.int .i64) (.int .i64))) (.pair (.st (.pair (.int .i64) (.pair (.int .i64) .bool))) (.st (.pair .str (.int .i64))))))))], rs := [(.val, .bool)], F := F_impl_IsHand }
noncomputable def env_impl_IsHand : Env := { par := [], dp := false, settle := [], con := fun f => match f with | 133 => some c_impl_IsShape | 134 => some c_impl_IsOrient | 135 => some c_impl_IsPlace | 136 => some c_impl_IsMove | _ => none, clo := fun _ => none, T := tinf Tryz.prog }
noncomputable def loops_impl_IsHand : Nat → Option Loop := fun n => none
theorem con_impl_IsHand : ConOK Tryz.prog 87 c_impl_IsHand := con_of_ev' (body := Tryz.f87.body.getD .skip) (Λ := loops_impl_IsHand) mixed Tryz.func87 (by kernel_rfl) (by kernel_rfl) (envOK_of (E := env_impl_IsHand) (fun f c h => by
  simp only [env_impl_IsHand] at h
  split at h
  · cases h; exact con_impl_IsShape
  · cases h; exact con_impl_IsOrient
  · cases h; exact con_impl_IsPlace
  · cases h; exact con_impl_IsMove
  · cases h) (fun f c h => by cases h) rfl) (by kernel_rfl) (by kernel_rfl) (fun n L h => by cases h) (fun _ => by kernel_rfl)

noncomputable def F_impl_Hand_moves (x : ((Int × (Int × (Int × (Int × (Int × Bool))))) × ((Int × Int) × ((Int × (Int × Bool)) × (ByteArray × Int))))) : Option (Bool) :=
 some ((!(x.2.2.2.1.toList == (⟨#[]⟩ : ByteArray).toList)))
noncomputable def c_impl_Hand_moves : Con := { ps := [(.val, (.st (.pair (.st (.pair (.int .i64) (.pair (.int .i64) (.pair (.int .i64) (.pair (.int .i64) (.pair (.int .i64) .bool)))))) (.pair (.st (.pair (.int .i64) (.int .i64))) (.pair (.st (.pair (.int .i64) (.pair (.int .i64) .bool))) (.st (.pair .str (.int .i64))))))))], rs := [(.val, .bool)], F := F_impl_Hand_moves }
noncomputable def env_impl_Hand_moves : Env := { par := [], dp := false, settle := [], con := fun _ => none, clo := fun _ => none, T := tinf Tryz.prog }
noncomputable def loops_impl_Hand_moves : Nat → Option Loop := fun n => none
theorem con_impl_Hand_moves : ConOK Tryz.prog 90 c_impl_Hand_moves := con_of_ev' (body := Tryz.f90.body.getD .skip) (Λ := loops_impl_Hand_moves) mixed Tryz.func90 (by kernel_rfl) (by kernel_rfl) (envOK_of (E := env_impl_Hand_moves) (fun f c h => by cases h) (fun f c h => by cases h) rfl) (by kernel_rfl) (by kernel_rfl) (fun n L h => by cases h) (fun _ => by kernel_rfl)

noncomputable def F_impl_Shape_with (x : (Int × (Int × (Int × (Int × (Int × Bool))))) × Int × Int) : Option ((Int × (Int × (Int × (Int × (Int × Bool)))))) :=
 bif ((x.2.1 == 0)) then
  bif x.1.2.2.2.2.2 then
   match F_impl_Shape_maySpread ((x.2.2, x.1.2)) with
   | none => none
   | some y1 =>
    some ((x.2.2, (x.1.2.1, x.1.2.2.1, (x.1.2.2.2.1, x.1.2.2.2.2.1, y1))))
  else
   some ((x.2.2, (x.1.2.1, x.1.2.2.1, (x.1.2.2.2.1, x.1.2.2.2.2.1, false))))
 else
  bif ((x.2.1 == 1)) then
   bif x.1.2.2.2.2.2 then
    match F_impl_Shape_maySpread ((x.1.1, x.2.2, x.1.2.2)) with
    | none => none
    | some y2 =>
     some ((x.1.1, (x.2.2, x.1.2.2.1, (x.1.2.2.2.1, x.1.2.2.2.2.1, y2))))
   else
    some ((x.1.1, (x.2.2, x.1.2.2.1, (x.1.2.2.2.1, x.1.2.2.2.2.1, false))))
  else
   bif ((x.2.1 == 2)) then
    bif x.1.2.2.2.2.2 then
     match F_impl_Shape_maySpread ((x.1.1, (x.1.2.1, x.2.2, x.1.2.2.2))) with
     | none => none
     | some y3 =>
      some ((x.1.1, (x.1.2.1, x.2.2, (x.1.2.2.2.1, x.1.2.2.2.2.1, y3))))
    else
     some ((x.1.1, (x.1.2.1, x.2.2, (x.1.2.2.2.1, x.1.2.2.2.2.1, false))))
   else
    bif ((x.2.1 == 3)) then
     bif x.1.2.2.2.2.2 then
      match F_impl_Shape_maySpread ((x.1.1, x.1.2.1, (x.1.2.2.1, x.2.2, x.1.2.2.2.2))) with
      | none => none
      | some y4 =>
       some ((x.1.1, (x.1.2.1, x.1.2.2.1, (x.2.2, x.1.2.2.2.2.1, y4))))
     else
      some ((x.1.1, (x.1.2.1, x.1.2.2.1, (x.2.2, x.1.2.2.2.2.1, false))))
    else
     bif x.1.2.2.2.2.2 then
      match F_impl_Shape_maySpread ((x.1.1, (x.1.2.1, x.1.2.2.1, (x.1.2.2.2.1, x.2.2, x.1.2.2.2.2.2)))) with
      | none => none
      | some y5 =>
       some ((x.1.1, (x.1.2.1, x.1.2.2.1, (x.1.2.2.2.1, x.2.2, y5))))
     else
      some ((x.1.1, (x.1.2.1, x.1.2.2.1, (x.1.2.2.2.1, x.2.2, false))))
noncomputable def c_impl_Shape_with : Con := { ps := [(.val, (.st (.pair (.int .i64) (.pair (.int .i64) (.pair (.int .i64) (.pair (.int .i64) (.pair (.int .i64) .bool))))))), (.val, (.int .i64)), (.val, (.int .i64))], rs := [(.val, (.st (.pair (.int .i64) (.pair (.int .i64) (.pair (.int .i64) (.pair (.int .i64) (.pair (.int .i64) .bool)))))))], F := F_impl_Shape_with }
noncomputable def env_impl_Shape_with : Env := { par := [], dp := false, settle := [], con := fun f => match f with | 194 => some c_impl_Shape_maySpread | _ => none, clo := fun _ => none, T := tinf Tryz.prog }
noncomputable def loops_impl_Shape_with : Nat → Option Loop := fun n => none
theorem con_impl_Shape_with : ConOK Tryz.prog 167 c_impl_Shape_with := con_of_ev' (body := Tryz.f167.body.getD .skip) (Λ := loops_impl_Shape_with) mixed Tryz.func167 (by kernel_rfl) (by kernel_rfl) (envOK_of (E := env_impl_Shape_with) (fun f c h => by
  simp only [env_impl_Shape_with] at h
  split at h
  · cases h; exact con_impl_Shape_maySpread
  · cases h) (fun f c h => by cases h) rfl) (by kernel_rfl) (by kernel_rfl) (fun n L h => by cases h) (fun _ => by kernel_rfl)

theorem fr_of_belowI {w w' : World} (h : Go.RowKit.Below w.heap.size w w') : Fr NoB w w' := ⟨h.os, h.tape, h.output, h.size, fun b hb _ => h.block b hb, fun b _ hb => h.block b hb⟩
theorem Itoa_ex : ∃ f : Int → Option ByteArray, f = fun n => bif decide (-9223372036854775808 ≤ n) && decide (n ≤ 9223372036854775807) then some ⟨(Lib.itoa n).toArray⟩ else none := ⟨_, rfl⟩
noncomputable def F_strconv_Itoa : Int → Option ByteArray := Classical.choose Itoa_ex
theorem F_strconv_Itoa_is (n : Int) : F_strconv_Itoa n = bif decide (-9223372036854775808 ≤ n) && decide (n ≤ 9223372036854775807) then some ⟨(Lib.itoa n).toArray⟩ else none := congrFun (Classical.choose_spec Itoa_ex) n
noncomputable def c_strconv_Itoa : Con := { ps := [(.val, .int .i64)], rs := [(.val, .str)], F := F_strconv_Itoa }
theorem calls_F_strconv_Itoa (w : World) (x : Int) (y : ByteArray) (hy : F_strconv_Itoa x = some y) (ht : Tabs Tryz.prog w) : Calls Tryz.prog 210 #[.int .i64 x] w fun e w' => e = .returned (.string y) ∧ Fr NoB w w' := by
  rw [F_strconv_Itoa_is] at hy
  obtain ⟨hg, hy⟩ := bif_none hy
  obtain ⟨h0, h1⟩ := and_b hg
  have h0 : -9223372036854775808 ≤ x := of_decide_eq_true h0
  have h1 : x ≤ 9223372036854775807 := of_decide_eq_true h1
  have e : y = ⟨(Lib.itoa x).toArray⟩ := (Option.some.inj hy).symm
  subst e
  refine (Tryz.strconv_Itoa x h0 h1 w (ht.1 _ (List.mem_cons_self ..)).2).mono ?_
  rintro e w' ⟨rfl, k, os, rfl⟩
  exact ⟨rfl, fr_of_belowI (Go.Lib.below_grow _ _ (Nat.le_refl _) k os)⟩
theorem con_strconv_Itoa : ConOK Tryz.prog 210 c_strconv_Itoa := con_of_pure ⟨Tryz.f210, Tryz.func210, by kernel_rfl, by kernel_rfl⟩ rfl rfl fun w x y hy ht => calls_F_strconv_Itoa w x y hy ht

noncomputable def step_impl_Shape_text_0 (s : ByteArray × Int × Int × (List Int) × Int × Int × Int × Int × Int × Bool) : Option ((ByteArray × Int × Int × (List Int) × Int × Int × Int × Int × Int × Bool) ⊕ ((ByteArray × Int × Int × Int × Int × Int × Bool))) :=
 bif (decide (s.2.2.1 < s.2.1)) then
  bif decide (0 ≤ s.2.2.1) && decide (s.2.2.1 < (s.2.2.2.1.length : Int)) then
   match F_strconv_Itoa ((s.2.2.2.1.getD (s.2.2.1).toNat 0)) with
   | none => none
   | some y5 =>
    bif decide (s.1.size + y5.size ≤ 9223372036854775807) then
     let v6 := IntKind.i64.wrap (s.2.2.1 + 1)
     some (.inl (((s.1 ++ y5), (s.2.1, v6, s.2.2.2))))
    else none
  else none
 else
  some (.inr ((s.1, s.2.2.2.2)))
def pat_impl_Shape_text_0 : Pat := { tmps := .any :: .ptr 64 0 :: .any :: .v .str :: an 6 (.own 640 :: .v (.int .i64) :: .v (.int .i64) :: an 13 []), blks := [(640, .row true (.int .i64)), (64, .box [.v (.int .i64), .v (.int .i64), .v (.int .i64), .v (.int .i64), .v (.int .i64), .v .bool])] }
def outs_impl_Shape_text_0 : List (Exit × Pat) := [(.exit 0, { tmps := .any :: .ptr 64 0 :: .any :: .v .str :: an 22 [], blks := [(64, .box [.v (.int .i64), .v (.int .i64), .v (.int .i64), .v (.int .i64), .v (.int .i64), .v .bool])] })]
noncomputable def F_impl_Shape_text (x : (Int × (Int × (Int × (Int × (Int × Bool)))))) : Option (ByteArray) :=
 match F_strconv_Itoa (x.1) with
 | none => none
 | some y1 =>
  match F_impl_Shape_bends (x) with
  | none => none
  | some y2 =>
   match runL step_impl_Shape_text_0 ((y1, (y2.length : Int), (0, y2, x))) with
   | none => none
   | some o7 =>
    bif o7.2.2.2.2.2.2 then
     bif decide (o7.1.size + (⟨#[115]⟩ : ByteArray).size ≤ 9223372036854775807) then
      some ((o7.1 ++ (⟨#[115]⟩ : ByteArray)))
     else none
    else
     some (o7.1)
noncomputable def c_impl_Shape_text : Con := { ps := [(.val, (.st (.pair (.int .i64) (.pair (.int .i64) (.pair (.int .i64) (.pair (.int .i64) (.pair (.int .i64) .bool)))))))], rs := [(.val, .str)], F := F_impl_Shape_text }
noncomputable def env_impl_Shape_text : Env := { par := [], dp := false, settle := [], con := fun f => match f with | 193 => some c_impl_Shape_bends | 210 => some c_strconv_Itoa | _ => none, clo := fun _ => none, T := tinf Tryz.prog }
noncomputable def loops_impl_Shape_text : Nat → Option Loop := fun n => match n with | 3 => some { pat := pat_impl_Shape_text_0, outs := outs_impl_Shape_text_0, run := runL (step_impl_Shape_text_0) } | _ => none
theorem con_impl_Shape_text : ConOK Tryz.prog 154 c_impl_Shape_text := con_of_ev' (body := Tryz.f154.body.getD .skip) (Λ := loops_impl_Shape_text) mixed Tryz.func154 (by kernel_rfl) (by kernel_rfl) (envOK_of (E := env_impl_Shape_text) (fun f c h => by
  simp only [env_impl_Shape_text] at h
  split at h
  · cases h; exact con_impl_Shape_bends
  · cases h; exact con_strconv_Itoa
  · cases h) (fun f c h => by cases h) rfl) (by kernel_rfl) (by kernel_rfl) (fun n L h => by
  unfold loops_impl_Shape_text at h
  split at h
  · cases h; exact fun s o ho => loop_ok (stepF := stepEv env_impl_Shape_text loops_impl_Shape_text pat_impl_Shape_text_0 outs_impl_Shape_text_0 Tryz.f154 3) (fun _ => by kernel_rfl) ho
  · cases h) (fun _ => by kernel_rfl)

noncomputable def step_impl_ParseShape_0 (s : ByteArray × Int × Int × Int × Int × Int × Int × Bool × Int × Int × Int × Int × Int × Bool) : Option ((ByteArray × Int × Int × Int × Int × Int × Int × Bool × Int × Int × Int × Int × Int × Bool) ⊕ ((ByteArray × Int × Int × Int × Int × Int × Bool × Int × Int × Int × Int × Int × Bool))) :=
 bif (decide (s.2.1 < 5)) then
  bif decide (0 ≤ s.2.1) && decide (s.2.1 < (s.1.size : Int)) then
   let v6 := IntKind.i64.wrap (byteAt s.1 (s.2.1).toNat)
   let v7 := IntKind.i64.wrap (v6 - 48)
   match F_impl_Shape_with (((s.2.2.1, (s.2.2.2.1, s.2.2.2.2.1, (s.2.2.2.2.2.1, s.2.2.2.2.2.2.1, s.2.2.2.2.2.2.2.1))), s.2.1, v7)) with
   | none => none
   | some y8 =>
    let v9 := IntKind.i64.wrap (s.2.1 + 1)
    some (.inl ((s.1, v9, (y8.1, y8.2.1, (y8.2.2.1, y8.2.2.2.1, (y8.2.2.2.2.1, y8.2.2.2.2.2, s.2.2.2.2.2.2.2.2))))))
  else none
 else
  some (.inr ((s.1, s.2.2)))
def pat_impl_ParseShape_0 : Pat := { tmps := .v .str :: .any :: .ptr 128 0 :: .any :: .ptr 256 0 :: an 6 (.v (.int .i64) :: an 26 []), blks := [(256, .box [.v (.int .i64), .v (.int .i64), .v (.int .i64), .v (.int .i64), .v (.int .i64), .v .bool]), (128, .box [.v (.int .i64), .v (.int .i64), .v (.int .i64), .v (.int .i64), .v (.int .i64), .v .bool])] }
def outs_impl_ParseShape_0 : List (Exit × Pat) := [(.exit 0, { tmps := .v .str :: .any :: .ptr 128 0 :: .any :: .ptr 256 0 :: an 33 [], blks := [(256, .box [.v (.int .i64), .v (.int .i64), .v (.int .i64), .v (.int .i64), .v (.int .i64), .v .bool]), (128, .box [.v (.int .i64), .v (.int .i64), .v (.int .i64), .v (.int .i64), .v (.int .i64), .v .bool])] })]
noncomputable def F_impl_ParseShape (x : ByteArray) : Option ((Int × (Int × (Int × (Int × (Int × Bool))))) × Bool) :=
 match F_impl_within (((x.size : Int), 5, 6)) with
 | none => none
 | some y1 =>
  bif (!y1) then
   some (((0, (0, 0, (0, 0, false))), false))
  else
   match runL step_impl_ParseShape_0 ((x, (0, 0, (0, 0, (0, 0, (false, 0, (0, 0, (0, 0, false)))))))) with
   | none => none
   | some o10 =>
    match F_impl_IsShape ((o10.2.1, (o10.2.2.1, o10.2.2.2.1, (o10.2.2.2.2.1, o10.2.2.2.2.2.1, (((o10.1.size : Int) == 6)))))) with
    | none => none
    | some y11 =>
     bif (!y11) then
      some (((0, (0, 0, (0, 0, false))), false))
     else
      match F_impl_Shape_text ((o10.2.1, (o10.2.2.1, o10.2.2.2.1, (o10.2.2.2.2.1, o10.2.2.2.2.2.1, (((o10.1.size : Int) == 6)))))) with
      | none => none
      | some y12 =>
       bif (!(y12.toList == o10.1.toList)) then
        some (((0, (0, 0, (0, 0, false))), false))
       else
        some (((o10.2.1, (o10.2.2.1, o10.2.2.2.1, (o10.2.2.2.2.1, o10.2.2.2.2.2.1, (((o10.1.size : Int) == 6))))), true))
noncomputable def c_impl_ParseShape : Con := { ps := [(.val, .str)], rs := [(.val, (.st (.pair (.int .i64) (.pair (.int .i64) (.pair (.int .i64) (.pair (.int .i64) (.pair (.int .i64) .bool))))))), (.val, .bool)], F := F_impl_ParseShape }
noncomputable def env_impl_ParseShape : Env := { par := [], dp := false, settle := [], con := fun f => match f with | 119 => some c_impl_within | 133 => some c_impl_IsShape | 154 => some c_impl_Shape_text | 167 => some c_impl_Shape_with | _ => none, clo := fun _ => none, T := tinf Tryz.prog }
noncomputable def loops_impl_ParseShape : Nat → Option Loop := fun n => match n with | 5 => some { pat := pat_impl_ParseShape_0, outs := outs_impl_ParseShape_0, run := runL (step_impl_ParseShape_0) } | _ => none
theorem con_impl_ParseShape : ConOK Tryz.prog 106 c_impl_ParseShape := con_of_ev' (body := Tryz.f106.body.getD .skip) (Λ := loops_impl_ParseShape) mixed Tryz.func106 (by kernel_rfl) (by kernel_rfl) (envOK_of (E := env_impl_ParseShape) (fun f c h => by
  simp only [env_impl_ParseShape] at h
  split at h
  · cases h; exact con_impl_within
  · cases h; exact con_impl_IsShape
  · cases h; exact con_impl_Shape_text
  · cases h; exact con_impl_Shape_with
  · cases h) (fun f c h => by cases h) rfl) (by kernel_rfl) (by kernel_rfl) (fun n L h => by
  unfold loops_impl_ParseShape at h
  split at h
  · cases h; exact fun s o ho => loop_ok (stepF := stepEv env_impl_ParseShape loops_impl_ParseShape pat_impl_ParseShape_0 outs_impl_ParseShape_0 Tryz.f106 5) (fun _ => by kernel_rfl) ho
  · cases h) (fun _ => by kernel_rfl)

noncomputable def step_impl_PlainShapes_0 (s : Int × Int × (List ByteArray) × (List (Int × (Int × (Int × (Int × (Int × Bool))))))) : Option ((Int × Int × (List ByteArray) × (List (Int × (Int × (Int × (Int × (Int × Bool))))))) ⊕ (((List (Int × (Int × (Int × (Int × (Int × Bool))))))))) :=
 bif (decide (s.2.1 < s.1)) then
  bif decide (0 ≤ s.2.1) && decide (s.2.1 < (s.2.2.1.length : Int)) then
   match F_impl_ParseShape ((s.2.2.1.getD (s.2.1).toNat ByteArray.empty)) with
   | none => none
   | some y6 =>
    bif decide ((s.2.2.2.length + [y6.1].length) * 48 ≤ 140737488355328) then
     let v7 := s.2.2.2 ++ [y6.1]
     let v8 := IntKind.i64.wrap (s.2.1 + 1)
     some (.inl ((s.1, (v8, s.2.2.1, v7))))
    else none
  else none
 else
  some (.inr (s.2.2.2))
def pat_impl_PlainShapes_0 : Pat := { tmps := .any :: .own 1280 :: an 4 (.own 384 :: .v (.int .i64) :: .v (.int .i64) :: an 14 []), blks := [(384, .row true .str), (1280, .row true (.st (.pair (.int .i64) (.pair (.int .i64) (.pair (.int .i64) (.pair (.int .i64) (.pair (.int .i64) .bool)))))))] }
def outs_impl_PlainShapes_0 : List (Exit × Pat) := [(.exit 0, { tmps := .any :: .own 1280 :: an 21 [], blks := [(1280, .row true (.st (.pair (.int .i64) (.pair (.int .i64) (.pair (.int .i64) (.pair (.int .i64) (.pair (.int .i64) .bool)))))))] })]
noncomputable def F_impl_PlainShapes (x : Unit) : Option ((List (Int × (Int × (Int × (Int × (Int × Bool))))))) :=
 match runL step_impl_PlainShapes_0 ((([(⟨#[48, 48, 48, 48, 48]⟩ : ByteArray), (⟨#[48, 48, 48, 48, 48, 115]⟩ : ByteArray), (⟨#[50, 50, 50, 50, 50]⟩ : ByteArray), (⟨#[49, 48, 48, 48, 48]⟩ : ByteArray), (⟨#[49, 48, 50, 50, 50]⟩ : ByteArray), (⟨#[48, 48, 50, 50, 50]⟩ : ByteArray)].length : Int), (0, [(⟨#[48, 48, 48, 48, 48]⟩ : ByteArray), (⟨#[48, 48, 48, 48, 48, 115]⟩ : ByteArray), (⟨#[50, 50, 50, 50, 50]⟩ : ByteArray), (⟨#[49, 48, 48, 48, 48]⟩ : ByteArray), (⟨#[49, 48, 50, 50, 50]⟩ : ByteArray), (⟨#[48, 48, 50, 50, 50]⟩ : ByteArray)], []))) with
 | none => none
 | some o9 =>
  some (o9)
noncomputable def c_impl_PlainShapes : Con := { ps := [], rs := [(.io true, (.slice (.st (.pair (.int .i64) (.pair (.int .i64) (.pair (.int .i64) (.pair (.int .i64) (.pair (.int .i64) .bool))))))))], F := F_impl_PlainShapes }
noncomputable def env_impl_PlainShapes : Env := { par := [], dp := false, settle := [], con := fun f => match f with | 106 => some c_impl_ParseShape | _ => none, clo := fun _ => none, T := tinf Tryz.prog }
noncomputable def loops_impl_PlainShapes : Nat → Option Loop := fun n => match n with | 3 => some { pat := pat_impl_PlainShapes_0, outs := outs_impl_PlainShapes_0, run := runL (step_impl_PlainShapes_0) } | _ => none
theorem con_impl_PlainShapes : ConOK Tryz.prog 138 c_impl_PlainShapes := con_of_ev' (body := Tryz.f138.body.getD .skip) (Λ := loops_impl_PlainShapes) mixed Tryz.func138 (by kernel_rfl) (by kernel_rfl) (envOK_of (E := env_impl_PlainShapes) (fun f c h => by
  simp only [env_impl_PlainShapes] at h
  split at h
  · cases h; exact con_impl_ParseShape
  · cases h) (fun f c h => by cases h) rfl) (by kernel_rfl) (by kernel_rfl) (fun n L h => by
  unfold loops_impl_PlainShapes at h
  split at h
  · cases h; exact fun s o ho => loop_ok (stepF := stepEv env_impl_PlainShapes loops_impl_PlainShapes pat_impl_PlainShapes_0 outs_impl_PlainShapes_0 Tryz.f138 3) (fun _ => by kernel_rfl) ho
  · cases h) (fun _ => by kernel_rfl)

noncomputable def step_slices_Index_impl_Shape_impl_Shape_0 (s : (List (Int × (Int × (Int × (Int × (Int × Bool)))))) × Int × Int × Int × Int × Int × Int × Int × Bool) : Option (((List (Int × (Int × (Int × (Int × (Int × Bool)))))) × Int × Int × Int × Int × Int × Int × Int × Bool) ⊕ ((Int) ⊕ (Unit))) :=
 bif (decide (s.2.2.1 < s.2.1)) then
  bif decide (0 ≤ s.2.2.1) && decide (s.2.2.1 < (s.1.length : Int)) then
   bif ((s.2.2.2.1 == (s.1.getD (s.2.2.1).toNat (0, (0, 0, (0, 0, false)))).1) && ((s.2.2.2.2.1 == (s.1.getD (s.2.2.1).toNat (0, (0, 0, (0, 0, false)))).2.1) && ((s.2.2.2.2.2.1 == (s.1.getD (s.2.2.1).toNat (0, (0, 0, (0, 0, false)))).2.2.1) && ((s.2.2.2.2.2.2.1 == (s.1.getD (s.2.2.1).toNat (0, (0, 0, (0, 0, false)))).2.2.2.1) && ((s.2.2.2.2.2.2.2.1 == (s.1.getD (s.2.2.1).toNat (0, (0, 0, (0, 0, false)))).2.2.2.2.1) && ((s.2.2.2.2.2.2.2.2 == (s.1.getD (s.2.2.1).toNat (0, (0, 0, (0, 0, false)))).2.2.2.2.2) && true)))))) then
    some (.inr (.inl (s.2.2.1)))
   else
    let v2 := IntKind.i64.wrap (s.2.2.1 + 1)
    some (.inl ((s.1, (s.2.1, v2, s.2.2.2))))
  else none
 else
  some (.inr (.inr (())))
def pat_slices_Index_impl_Shape_impl_Shape_0 : Pat := { tmps := .v (.slice (.st (.pair (.int .i64) (.pair (.int .i64) (.pair (.int .i64) (.pair (.int .i64) (.pair (.int .i64) .bool))))))) :: .any :: .any :: .ptr 192 0 :: .any :: .any :: .any :: .v (.int .i64) :: .v (.int .i64) :: an 10 [], blks := [(192, .box [.v (.int .i64), .v (.int .i64), .v (.int .i64), .v (.int .i64), .v (.int .i64), .v .bool])] }
def outs_slices_Index_impl_Shape_impl_Shape_0 : List (Exit × Pat) := [(.ret, { tmps := an 4 (.v (.int .i64) :: an 14 []), blks := [] }), (.exit 0, { tmps := an 19 [], blks := [] })]
noncomputable def F_slices_Index_impl_Shape_impl_Shape (x : (List (Int × (Int × (Int × (Int × (Int × Bool)))))) × (Int × (Int × (Int × (Int × (Int × Bool)))))) : Option (Int) :=
 match runL step_slices_Index_impl_Shape_impl_Shape_0 ((x.1, ((x.1.length : Int), 0, x.2))) with
 | none => none
 | some (.inl o3) =>
  some (o3)
 | some (.inr o3) =>
  some ((-1))
noncomputable def c_slices_Index_impl_Shape_impl_Shape : Con := { ps := [(.val, (.slice (.st (.pair (.int .i64) (.pair (.int .i64) (.pair (.int .i64) (.pair (.int .i64) (.pair (.int .i64) .bool)))))))), (.val, (.st (.pair (.int .i64) (.pair (.int .i64) (.pair (.int .i64) (.pair (.int .i64) (.pair (.int .i64) .bool)))))))], rs := [(.val, (.int .i64))], F := F_slices_Index_impl_Shape_impl_Shape }
noncomputable def env_slices_Index_impl_Shape_impl_Shape : Env := { par := [], dp := false, settle := [], con := fun _ => none, clo := fun _ => none, T := tinf Tryz.prog }
noncomputable def loops_slices_Index_impl_Shape_impl_Shape : Nat → Option Loop := fun n => match n with | 2 => some { pat := pat_slices_Index_impl_Shape_impl_Shape_0, outs := outs_slices_Index_impl_Shape_impl_Shape_0, run := runL (step_slices_Index_impl_Shape_impl_Shape_0) } | _ => none
theorem con_slices_Index_impl_Shape_impl_Shape : ConOK Tryz.prog 196 c_slices_Index_impl_Shape_impl_Shape := con_of_ev' (body := Tryz.f196.body.getD .skip) (Λ := loops_slices_Index_impl_Shape_impl_Shape) mixed Tryz.func196 (by kernel_rfl) (by kernel_rfl) (envOK_of (E := env_slices_Index_impl_Shape_impl_Shape) (fun f c h => by cases h) (fun f c h => by cases h) rfl) (by kernel_rfl) (by kernel_rfl) (fun n L h => by
  unfold loops_slices_Index_impl_Shape_impl_Shape at h
  split at h
  · cases h; exact fun s o ho => loop_ok (stepF := stepEv env_slices_Index_impl_Shape_impl_Shape loops_slices_Index_impl_Shape_impl_Shape pat_slices_Index_impl_Shape_impl_Shape_0 outs_slices_Index_impl_Shape_impl_Shape_0 Tryz.f196 2) (fun _ => by kernel_rfl) ho
  · cases h) (fun _ => by kernel_rfl)

noncomputable def F_slices_Contains_impl_Shape_impl_Shape (x : (List (Int × (Int × (Int × (Int × (Int × Bool)))))) × (Int × (Int × (Int × (Int × (Int × Bool)))))) : Option (Bool) :=
 match F_slices_Index_impl_Shape_impl_Shape (x) with
 | none => none
 | some y1 =>
  some ((decide (y1 ≥ 0)))
noncomputable def c_slices_Contains_impl_Shape_impl_Shape : Con := { ps := [(.val, (.slice (.st (.pair (.int .i64) (.pair (.int .i64) (.pair (.int .i64) (.pair (.int .i64) (.pair (.int .i64) .bool)))))))), (.val, (.st (.pair (.int .i64) (.pair (.int .i64) (.pair (.int .i64) (.pair (.int .i64) (.pair (.int .i64) .bool)))))))], rs := [(.val, .bool)], F := F_slices_Contains_impl_Shape_impl_Shape }
noncomputable def env_slices_Contains_impl_Shape_impl_Shape : Env := { par := [], dp := false, settle := [], con := fun f => match f with | 196 => some c_slices_Index_impl_Shape_impl_Shape | _ => none, clo := fun _ => none, T := tinf Tryz.prog }
noncomputable def loops_slices_Contains_impl_Shape_impl_Shape : Nat → Option Loop := fun n => none
theorem con_slices_Contains_impl_Shape_impl_Shape : ConOK Tryz.prog 137 c_slices_Contains_impl_Shape_impl_Shape := con_of_ev' (body := Tryz.f137.body.getD .skip) (Λ := loops_slices_Contains_impl_Shape_impl_Shape) mixed Tryz.func137 (by kernel_rfl) (by kernel_rfl) (envOK_of (E := env_slices_Contains_impl_Shape_impl_Shape) (fun f c h => by
  simp only [env_slices_Contains_impl_Shape_impl_Shape] at h
  split at h
  · cases h; exact con_slices_Index_impl_Shape_impl_Shape
  · cases h) (fun f c h => by cases h) rfl) (by kernel_rfl) (by kernel_rfl) (fun n L h => by cases h) (fun _ => by kernel_rfl)

noncomputable def F_impl_Orient_mirrored_1 (x : Int) : Option (Int) :=
 bif ((x == 2)) then
  let v1 := IntKind.i64.wrap ((BitVec.ofInt IntKind.i64.bits (x) ^^^ BitVec.ofInt IntKind.i64.bits (1)).toNat : Nat)
  some (v1)
 else
  bif ((x == 3)) then
   let v2 := IntKind.i64.wrap ((BitVec.ofInt IntKind.i64.bits (x) ^^^ BitVec.ofInt IntKind.i64.bits (1)).toNat : Nat)
   some (v2)
  else
   some (x)
noncomputable def c_impl_Orient_mirrored_1 : Con := { ps := [(.val, (.int .i64))], rs := [(.val, (.int .i64))], F := F_impl_Orient_mirrored_1 }
noncomputable def env_impl_Orient_mirrored_1 : Env := { par := [], dp := false, settle := [], con := fun _ => none, clo := fun _ => none, T := tinf Tryz.prog }
noncomputable def loops_impl_Orient_mirrored_1 : Nat → Option Loop := fun n => none
theorem con_impl_Orient_mirrored_1 : ConOK Tryz.prog 197 c_impl_Orient_mirrored_1 := con_of_ev' (body := Tryz.f197.body.getD .skip) (Λ := loops_impl_Orient_mirrored_1) mixed Tryz.func197 (by kernel_rfl) (by kernel_rfl) (envOK_of (E := env_impl_Orient_mirrored_1) (fun f c h => by cases h) (fun f c h => by cases h) rfl) (by kernel_rfl) (by kernel_rfl) (fun n L h => by cases h) (fun _ => by kernel_rfl)

noncomputable def F_impl_Orient_mirrored (x : (Int × Int)) : Option ((Int × Int)) :=
 match F_impl_Orient_mirrored_1 (x.1) with
 | none => none
 | some y1 =>
  match F_impl_Orient_mirrored_1 (x.2) with
  | none => none
  | some y2 =>
   some ((y1, y2))
noncomputable def c_impl_Orient_mirrored : Con := { ps := [(.val, (.st (.pair (.int .i64) (.int .i64))))], rs := [(.val, (.st (.pair (.int .i64) (.int .i64))))], F := F_impl_Orient_mirrored }
noncomputable def env_impl_Orient_mirrored : Env := { par := [], dp := false, settle := [], con := fun f => match f with | 197 => some c_impl_Orient_mirrored_1 | _ => none, clo := fun _ => none, T := tinf Tryz.prog }
noncomputable def loops_impl_Orient_mirrored : Nat → Option Loop := fun n => none
theorem con_impl_Orient_mirrored : ConOK Tryz.prog 139 c_impl_Orient_mirrored := con_of_ev' (body := Tryz.f139.body.getD .skip) (Λ := loops_impl_Orient_mirrored) mixed Tryz.func139 (by kernel_rfl) (by kernel_rfl) (envOK_of (E := env_impl_Orient_mirrored) (fun f c h => by
  simp only [env_impl_Orient_mirrored] at h
  split at h
  · cases h; exact con_impl_Orient_mirrored_1
  · cases h) (fun f c h => by cases h) rfl) (by kernel_rfl) (by kernel_rfl) (fun n L h => by cases h) (fun _ => by kernel_rfl)

theorem fr_of_belowR {w w' : World} (h : Go.RowKit.Below w.heap.size w w') : Fr NoB w w' := ⟨h.os, h.tape, h.output, h.size, fun b hb _ => h.block b hb, fun b _ hb => h.block b hb⟩
theorem Repeat_ex : ∃ f : ByteArray × Int → Option ByteArray, f = fun x => bif decide (0 ≤ x.2) && decide (x.2 ≤ 1024) && decide (x.1.size ≤ 1048576) then some ⟨(Lib.repeatL x.1.data.toList x.2.toNat).toArray⟩ else none := ⟨_, rfl⟩
noncomputable def F_strings_Repeat : ByteArray × Int → Option ByteArray := Classical.choose Repeat_ex
theorem F_strings_Repeat_is (x : ByteArray × Int) : F_strings_Repeat x = bif decide (0 ≤ x.2) && decide (x.2 ≤ 1024) && decide (x.1.size ≤ 1048576) then some ⟨(Lib.repeatL x.1.data.toList x.2.toNat).toArray⟩ else none := congrFun (Classical.choose_spec Repeat_ex) x
noncomputable def c_strings_Repeat : Con := { ps := [(.val, .str), (.val, .int .i64)], rs := [(.val, .str)], F := F_strings_Repeat }
theorem calls_F_strings_Repeat (w : World) (x : ByteArray × Int) (y : ByteArray) (hy : F_strings_Repeat x = some y) :
    Calls Tryz.prog 198 #[.string x.1, .int .i64 x.2] w fun e w' => e = .returned (.string y) ∧ Fr NoB w w' := by
  rw [F_strings_Repeat_is] at hy
  obtain ⟨hg, hy⟩ := bif_none hy
  obtain ⟨hg, h2⟩ := and_b hg
  obtain ⟨h0, h1⟩ := and_b hg
  have h0 := of_decide_eq_true h0
  have h1 := of_decide_eq_true h1
  have h2 := of_decide_eq_true h2
  obtain rfl := (Option.some.inj hy).symm
  obtain ⟨s, c⟩ := x
  obtain ⟨k, rfl⟩ : ∃ k : Nat, c = (k : Int) := ⟨c.toNat, (Int.toNat_of_nonneg h0).symm⟩
  have h1 : (k : Int) ≤ 1024 := h1
  have h2 : s.size ≤ 1048576 := h2
  have hm : s.size * k ≤ 140737488355328 := Nat.le_trans (Nat.mul_le_mul h2 (show k ≤ 1024 by omega)) (by decide)
  refine (Tryz.strings_Repeat s k w (by omega) hm).mono ?_
  rintro e' w' ⟨rfl, hb⟩
  exact ⟨rfl, fr_of_belowR hb⟩
theorem con_strings_Repeat : ConOK Tryz.prog 198 c_strings_Repeat := con_of_pure ⟨Tryz.f198, Tryz.func198, by kernel_rfl, by kernel_rfl⟩ rfl rfl fun w x y hy _ => calls_F_strings_Repeat w x y hy

noncomputable def F_impl_Move_all (x : (ByteArray × Int)) : Option (ByteArray) :=
 match F_strings_Repeat (x) with
 | none => none
 | some y1 =>
  some (y1)
noncomputable def c_impl_Move_all : Con := { ps := [(.val, (.st (.pair .str (.int .i64))))], rs := [(.val, .str)], F := F_impl_Move_all }
noncomputable def env_impl_Move_all : Env := { par := [], dp := false, settle := [], con := fun f => match f with | 198 => some c_strings_Repeat | _ => none, clo := fun _ => none, T := tinf Tryz.prog }
noncomputable def loops_impl_Move_all : Nat → Option Loop := fun n => none
theorem con_impl_Move_all : ConOK Tryz.prog 140 c_impl_Move_all := con_of_ev' (body := Tryz.f140.body.getD .skip) (Λ := loops_impl_Move_all) mixed Tryz.func140 (by kernel_rfl) (by kernel_rfl) (envOK_of (E := env_impl_Move_all) (fun f c h => by
  simp only [env_impl_Move_all] at h
  split at h
  · cases h; exact con_strings_Repeat
  · cases h) (fun f c h => by cases h) rfl) (by kernel_rfl) (by kernel_rfl) (fun n L h => by cases h) (fun _ => by kernel_rfl)

theorem fr_of_belowM {w w' : World} (h : Go.RowKit.Below w.heap.size w w') : Fr NoB w w' := ⟨h.os, h.tape, h.output, h.size, fun b hb _ => h.block b hb, fun b _ hb => h.block b hb⟩
theorem mirrored_ex : ∃ f : ByteArray × Int → Option (ByteArray × Int), f = fun x => bif decide (x.1.size ≤ 9223372036854775806) then some (rpStr x.1, x.2) else none := ⟨_, rfl⟩
noncomputable def F_impl_Move_mirrored : ByteArray × Int → Option (ByteArray × Int) := Classical.choose mirrored_ex
theorem F_impl_Move_mirrored_is (x : ByteArray × Int) : F_impl_Move_mirrored x = bif decide (x.1.size ≤ 9223372036854775806) then some (rpStr x.1, x.2) else none := congrFun (Classical.choose_spec mirrored_ex) x
noncomputable def c_impl_Move_mirrored : Con := { ps := [(.val, .st (.pair .str (.int .i64)))], rs := [(.val, .st (.pair .str (.int .i64)))], F := F_impl_Move_mirrored }
theorem calls_F_impl_Move_mirrored (w : World) (x y : ByteArray × Int) (hy : F_impl_Move_mirrored x = some y) :
    Calls Tryz.prog 141 #[.agg #[.string x.1, .int .i64 x.2]] w fun e w' => e = .returned (.agg #[.string y.1, .int .i64 y.2]) ∧ Fr NoB w w' := by
  rw [F_impl_Move_mirrored_is] at hy
  obtain ⟨hg, hy⟩ := bif_none hy
  have h0 := of_decide_eq_true hg
  obtain rfl := (Option.some.inj hy).symm
  refine (rp_mirrored x.1 x.2 w h0).mono ?_
  rintro e' w' ⟨rfl, hb⟩
  exact ⟨rfl, fr_of_belowM hb⟩
theorem con_impl_Move_mirrored : ConOK Tryz.prog 141 c_impl_Move_mirrored := con_of_pure ⟨Tryz.f141, Tryz.func141, by kernel_rfl, by kernel_rfl⟩ rfl rfl fun w x y hy _ => calls_F_impl_Move_mirrored w x y hy

noncomputable def F_impl_keepRules (x : ((Int × (Int × (Int × (Int × (Int × Bool))))) × ((Int × Int) × ((Int × (Int × Bool)) × (ByteArray × Int)))) × ((Int × (Int × (Int × (Int × (Int × Bool))))) × ((Int × Int) × ((Int × (Int × Bool)) × (ByteArray × Int))))) : Option (Bool) :=
 match F_impl_Hand_moves (x.2) with
 | none => none
 | some y1 =>
  bif (!y1) then
   bif ((x.2.1.1 == x.1.1.1) && ((x.2.1.2.1 == x.1.1.2.1) && ((x.2.1.2.2.1 == x.1.1.2.2.1) && ((x.2.1.2.2.2.1 == x.1.1.2.2.2.1) && ((x.2.1.2.2.2.2.1 == x.1.1.2.2.2.2.1) && ((x.2.1.2.2.2.2.2 == x.1.1.2.2.2.2.2) && true)))))) then
    some (true)
   else
    match F_impl_PlainShapes () with
    | none => none
    | some y2 =>
     match F_slices_Contains_impl_Shape_impl_Shape ((y2, x.2.1)) with
     | none => none
     | some y3 =>
      some (y3)
  else
   bif ((x.2.2.1.1 == x.1.2.1.1) && ((x.2.2.1.2 == x.1.2.1.2) && true)) then
    match F_impl_Move_all (x.2.2.2.2) with
    | none => none
    | some y4 =>
     match F_impl_Move_all (x.1.2.2.2) with
     | none => none
     | some y5 =>
      bif (y4.toList == y5.toList) then
       match F_impl_Hand_moves (x.1) with
       | none => none
       | some y6 =>
        bif y6 then
         bif ((x.1.1.1 == x.2.1.1) && ((x.1.1.2.1 == x.2.1.2.1) && ((x.1.1.2.2.1 == x.2.1.2.2.1) && ((x.1.1.2.2.2.1 == x.2.1.2.2.2.1) && ((x.1.1.2.2.2.2.1 == x.2.1.2.2.2.2.1) && ((x.1.1.2.2.2.2.2 == x.2.1.2.2.2.2.2) && true)))))) then
          some (true)
         else
          some (false)
        else
         some (false)
      else
       match F_impl_Move_all (x.2.2.2.2) with
       | none => none
       | some y7 =>
        match F_impl_Move_mirrored (x.1.2.2.2) with
        | none => none
        | some y8 =>
         match F_impl_Move_all (y8) with
         | none => none
         | some y9 =>
          match F_impl_Hand_moves (x.1) with
          | none => none
          | some y10 =>
           bif y10 then
            bif ((x.1.1.1 == x.2.1.1) && ((x.1.1.2.1 == x.2.1.2.1) && ((x.1.1.2.2.1 == x.2.1.2.2.1) && ((x.1.1.2.2.2.1 == x.2.1.2.2.2.1) && ((x.1.1.2.2.2.2.1 == x.2.1.2.2.2.2.1) && ((x.1.1.2.2.2.2.2 == x.2.1.2.2.2.2.2) && true)))))) then
             some ((y7.toList == y9.toList))
            else
             some (false)
           else
            some (false)
   else
    match F_impl_Orient_mirrored (x.1.2.1) with
    | none => none
    | some y11 =>
     match F_impl_Move_all (x.2.2.2.2) with
     | none => none
     | some y12 =>
      match F_impl_Move_all (x.1.2.2.2) with
      | none => none
      | some y13 =>
       bif (y12.toList == y13.toList) then
        match F_impl_Hand_moves (x.1) with
        | none => none
        | some y14 =>
         bif y14 then
          bif ((x.1.1.1 == x.2.1.1) && ((x.1.1.2.1 == x.2.1.2.1) && ((x.1.1.2.2.1 == x.2.1.2.2.1) && ((x.1.1.2.2.2.1 == x.2.1.2.2.2.1) && ((x.1.1.2.2.2.2.1 == x.2.1.2.2.2.2.1) && ((x.1.1.2.2.2.2.2 == x.2.1.2.2.2.2.2) && true)))))) then
           bif ((x.2.2.1.1 == y11.1) && ((x.2.2.1.2 == y11.2) && true)) then
            some (true)
           else
            some (false)
          else
           some (false)
         else
          some (false)
       else
        match F_impl_Move_all (x.2.2.2.2) with
        | none => none
        | some y15 =>
         match F_impl_Move_mirrored (x.1.2.2.2) with
         | none => none
         | some y16 =>
          match F_impl_Move_all (y16) with
          | none => none
          | some y17 =>
           match F_impl_Hand_moves (x.1) with
           | none => none
           | some y18 =>
            bif y18 then
             bif ((x.1.1.1 == x.2.1.1) && ((x.1.1.2.1 == x.2.1.2.1) && ((x.1.1.2.2.1 == x.2.1.2.2.1) && ((x.1.1.2.2.2.1 == x.2.1.2.2.2.1) && ((x.1.1.2.2.2.2.1 == x.2.1.2.2.2.2.1) && ((x.1.1.2.2.2.2.2 == x.2.1.2.2.2.2.2) && true)))))) then
              bif ((x.2.2.1.1 == y11.1) && ((x.2.2.1.2 == y11.2) && true)) then
               some ((y15.toList == y17.toList))
              else
               some (false)
             else
              some (false)
            else
             some (false)
noncomputable def c_impl_keepRules : Con := { ps := [(.val, (.st (.pair (.st (.pair (.int .i64) (.pair (.int .i64) (.pair (.int .i64) (.pair (.int .i64) (.pair (.int .i64) .bool)))))) (.pair (.st (.pair (.int .i64) (.int .i64))) (.pair (.st (.pair (.int .i64) (.pair (.int .i64) .bool))) (.st (.pair .str (.int .i64)))))))), (.val, (.st (.pair (.st (.pair (.int .i64) (.pair (.int .i64) (.pair (.int .i64) (.pair (.int .i64) (.pair (.int .i64) .bool)))))) (.pair (.st (.pair (.int .i64) (.int .i64))) (.pair (.st (.pair (.int .i64) (.pair (.int .i64) .bool))) (.st (.pair .str (.int .i64))))))))], rs := [(.val, .bool)], F := F_impl_keepRules }
noncomputable def env_impl_keepRules : Env := { par := [], dp := false, settle := [], con := fun f => match f with | 90 => some c_impl_Hand_moves | 137 => some c_slices_Contains_impl_Shape_impl_Shape | 138 => some c_impl_PlainShapes | 139 => some c_impl_Orient_mirrored | 140 => some c_impl_Move_all | 141 => some c_impl_Move_mirrored | _ => none, clo := fun _ => none, T := tinf Tryz.prog }
noncomputable def loops_impl_keepRules : Nat → Option Loop := fun n => none
theorem con_impl_keepRules : ConOK Tryz.prog 88 c_impl_keepRules := con_of_ev' (body := Tryz.f88.body.getD .skip) (Λ := loops_impl_keepRules) mixed Tryz.func88 (by kernel_rfl) (by kernel_rfl) (envOK_of (E := env_impl_keepRules) (fun f c h => by
  simp only [env_impl_keepRules] at h
  split at h
  · cases h; exact con_impl_Hand_moves
  · cases h; exact con_slices_Contains_impl_Shape_impl_Shape
  · cases h; exact con_impl_PlainShapes
  · cases h; exact con_impl_Orient_mirrored
  · cases h; exact con_impl_Move_all
  · cases h; exact con_impl_Move_mirrored
  · cases h) (fun f c h => by cases h) rfl) (by kernel_rfl) (by kernel_rfl) (fun n L h => by cases h) (fun _ => by kernel_rfl)

noncomputable def F_impl_IsSign (x : (((Int × (Int × (Int × (Int × (Int × Bool))))) × ((Int × Int) × ((Int × (Int × Bool)) × (ByteArray × Int)))) × (Bool × ((Int × (Int × (Int × (Int × (Int × Bool))))) × ((Int × Int) × ((Int × (Int × Bool)) × (ByteArray × Int))))))) : Option (Bool) :=
 match F_impl_IsHand (x.1) with
 | none => none
 | some y1 =>
  bif (!y1) then
   some (false)
  else
   bif (!x.2.1) then
    some ((((x.2.2.1.1 == 0) && ((x.2.2.1.2.1 == 0) && ((x.2.2.1.2.2.1 == 0) && ((x.2.2.1.2.2.2.1 == 0) && ((x.2.2.1.2.2.2.2.1 == 0) && ((x.2.2.1.2.2.2.2.2 == false) && true)))))) && (((x.2.2.2.1.1 == 0) && ((x.2.2.2.1.2 == 0) && true)) && (((x.2.2.2.2.1.1 == 0) && ((x.2.2.2.2.1.2.1 == 0) && ((x.2.2.2.2.1.2.2 == false) && true))) && (((x.2.2.2.2.2.1.toList == ByteArray.empty.toList) && ((x.2.2.2.2.2.2 == 0) && true)) && true)))))
   else
    match F_impl_IsHand (x.2.2) with
    | none => none
    | some y2 =>
     bif y2 then
      match F_impl_keepRules ((x.1, x.2.2)) with
      | none => none
      | some y3 =>
       some (y3)
     else
      some (false)
noncomputable def c_impl_IsSign : Con := { ps := [(.val, (.st (.pair (.st (.pair (.st (.pair (.int .i64) (.pair (.int .i64) (.pair (.int .i64) (.pair (.int .i64) (.pair (.int .i64) .bool)))))) (.pair (.st (.pair (.int .i64) (.int .i64))) (.pair (.st (.pair (.int .i64) (.pair (.int .i64) .bool))) (.st (.pair .str (.int .i64))))))) (.pair .bool (.st (.pair (.st (.pair (.int .i64) (.pair (.int .i64) (.pair (.int .i64) (.pair (.int .i64) (.pair (.int .i64) .bool)))))) (.pair (.st (.pair (.int .i64) (.int .i64))) (.pair (.st (.pair (.int .i64) (.pair (.int .i64) .bool))) (.st (.pair .str (.int .i64)))))))))))], rs := [(.val, .bool)], F := F_impl_IsSign }
noncomputable def env_impl_IsSign : Env := { par := [], dp := false, settle := [], con := fun f => match f with | 87 => some c_impl_IsHand | 88 => some c_impl_keepRules | _ => none, clo := fun _ => none, T := tinf Tryz.prog }
noncomputable def loops_impl_IsSign : Nat → Option Loop := fun n => none
theorem con_impl_IsSign : ConOK Tryz.prog 51 c_impl_IsSign := con_of_ev' (body := Tryz.f51.body.getD .skip) (Λ := loops_impl_IsSign) mixed Tryz.func51 (by kernel_rfl) (by kernel_rfl) (envOK_of (E := env_impl_IsSign) (fun f c h => by
  simp only [env_impl_IsSign] at h
  split at h
  · cases h; exact con_impl_IsHand
  · cases h; exact con_impl_keepRules
  · cases h) (fun f c h => by cases h) rfl) (by kernel_rfl) (by kernel_rfl) (fun n L h => by cases h) (fun _ => by kernel_rfl)

noncomputable def F_impl_isEntry (x : DT30) : Option (Bool) :=
 match F_impl_IsGloss (x.1) with
 | none => none
 | some y1 =>
  bif y1 then
   match F_impl_IsSign (x.2.1) with
   | none => none
   | some y2 =>
    bif y2 then
     match F_impl_within ((x.2.2.1, 0, 5)) with
     | none => none
     | some y3 =>
      bif y3 then
       match F_impl_within ((x.2.2.2, 0, 99999)) with
       | none => none
       | some y4 =>
        some (y4)
      else
       some (false)
    else
     some (false)
  else
   some (false)
noncomputable def c_impl_isEntry : Con := { ps := [(.val, TY30)], rs := [(.val, .bool)], F := F_impl_isEntry }
noncomputable def env_impl_isEntry : Env := { par := [], dp := false, settle := [], con := fun f => match f with | 51 => some c_impl_IsSign | 118 => some c_impl_IsGloss | 119 => some c_impl_within | _ => none, clo := fun _ => none, T := tinf Tryz.prog }
noncomputable def loops_impl_isEntry : Nat → Option Loop := fun n => none
theorem con_impl_isEntry : ConOK Tryz.prog 71 c_impl_isEntry := con_of_ev' (body := Tryz.f71.body.getD .skip) (Λ := loops_impl_isEntry) mixed Tryz.func71 (by kernel_rfl) (by kernel_rfl) (envOK_of (E := env_impl_isEntry) (fun f c h => by
  simp only [env_impl_isEntry] at h
  split at h
  · cases h; exact con_impl_IsSign
  · cases h; exact con_impl_IsGloss
  · cases h; exact con_impl_within
  · cases h) (fun f c h => by cases h) rfl) (by kernel_rfl) (by kernel_rfl) (fun n L h => by cases h) (fun _ => by kernel_rfl)

def F_strings_Compare (x : ByteArray × ByteArray) : Option Int := some (Lib.compareBytes x.1.data.toList x.2.data.toList)
def c_strings_Compare : Con := { ps := [(.val, .str), (.val, .str)], rs := [(.val, .int .i64)], F := F_strings_Compare }
theorem con_strings_Compare : ConOK Tryz.prog 73 c_strings_Compare := con_of_pure ⟨Tryz.f73, Tryz.func73, by kernel_rfl, by kernel_rfl⟩ rfl rfl fun w x y hy _ => by
  have e : y = Lib.compareBytes x.1.data.toList x.2.data.toList := (Option.some.inj hy).symm
  subst e
  refine (Tryz.strings_Compare x.1 x.2 w).mono ?_
  rintro e w' ⟨rfl, rfl⟩
  exact ⟨rfl, Fr.refl _ _⟩

noncomputable def F_cmp_isNaN_int (x : Int) : Option (Bool) :=
 some (((x != x)))
noncomputable def c_cmp_isNaN_int : Con := { ps := [(.val, (.int .i64))], rs := [(.val, .bool)], F := F_cmp_isNaN_int }
noncomputable def env_cmp_isNaN_int : Env := { par := [], dp := false, settle := [], con := fun _ => none, clo := fun _ => none, T := tinf Tryz.prog }
noncomputable def loops_cmp_isNaN_int : Nat → Option Loop := fun n => none
theorem con_cmp_isNaN_int : ConOK Tryz.prog 121 c_cmp_isNaN_int := con_of_ev' (body := Tryz.f121.body.getD .skip) (Λ := loops_cmp_isNaN_int) mixed Tryz.func121 (by kernel_rfl) (by kernel_rfl) (envOK_of (E := env_cmp_isNaN_int) (fun f c h => by cases h) (fun f c h => by cases h) rfl) (by kernel_rfl) (by kernel_rfl) (fun n L h => by cases h) (fun _ => by kernel_rfl)

noncomputable def F_cmp_Compare_int (x : Int × Int) : Option (Int) :=
 match F_cmp_isNaN_int (x.1) with
 | none => none
 | some y1 =>
  match F_cmp_isNaN_int (x.2) with
  | none => none
  | some y2 =>
   bif y1 then
    bif y2 then
     some (0)
    else
     some ((-1))
   else
    bif y2 then
     some (1)
    else
     bif (decide (x.1 < x.2)) then
      some ((-1))
     else
      bif (decide (x.1 > x.2)) then
       some (1)
      else
       some (0)
noncomputable def c_cmp_Compare_int : Con := { ps := [(.val, (.int .i64)), (.val, (.int .i64))], rs := [(.val, (.int .i64))], F := F_cmp_Compare_int }
noncomputable def env_cmp_Compare_int : Env := { par := [], dp := false, settle := [], con := fun f => match f with | 121 => some c_cmp_isNaN_int | _ => none, clo := fun _ => none, T := tinf Tryz.prog }
noncomputable def loops_cmp_Compare_int : Nat → Option Loop := fun n => none
theorem con_cmp_Compare_int : ConOK Tryz.prog 74 c_cmp_Compare_int := con_of_ev' (body := Tryz.f74.body.getD .skip) (Λ := loops_cmp_Compare_int) mixed Tryz.func74 (by kernel_rfl) (by kernel_rfl) (envOK_of (E := env_cmp_Compare_int) (fun f c h => by
  simp only [env_cmp_Compare_int] at h
  split at h
  · cases h; exact con_cmp_isNaN_int
  · cases h) (fun f c h => by cases h) rfl) (by kernel_rfl) (by kernel_rfl) (fun n L h => by cases h) (fun _ => by kernel_rfl)

noncomputable def step_cmp_Or_int_0 (s : Int × (List Int) × Int × Int) : Option ((Int × (List Int) × Int × Int) ⊕ ((Int) ⊕ (Int))) :=
 bif (decide (s.2.2.2 < s.2.2.1)) then
  bif decide (0 ≤ s.2.2.2) && decide (s.2.2.2 < (s.2.1.length : Int)) then
   bif (((s.2.1.getD (s.2.2.2).toNat 0) != s.1)) then
    some (.inr (.inl ((s.2.1.getD (s.2.2.2).toNat 0))))
   else
    let v2 := IntKind.i64.wrap (s.2.2.2 + 1)
    some (.inl ((s.1, (s.2.1, s.2.2.1, v2))))
  else none
 else
  some (.inr (.inr (s.1)))
def pat_cmp_Or_int_0 : Pat := { tmps := .any :: .any :: .any :: .v (.int .i64) :: .any :: .any :: .v (.slice (.int .i64)) :: .v (.int .i64) :: .v (.int .i64) :: an 9 [], blks := [] }
def outs_cmp_Or_int_0 : List (Exit × Pat) := [(.ret, { tmps := .any :: .any :: .v (.int .i64) :: an 15 [], blks := [] }), (.exit 0, { tmps := .any :: .any :: .any :: .v (.int .i64) :: an 14 [], blks := [] })]
noncomputable def F_cmp_Or_int (x : (List Int)) : Option (Int) :=
 match runL step_cmp_Or_int_0 ((0, (x, (x.length : Int), 0))) with
 | none => none
 | some (.inl o3) =>
  some (o3)
 | some (.inr o3) =>
  some (o3)
noncomputable def c_cmp_Or_int : Con := { ps := [(.val, (.slice (.int .i64)))], rs := [(.val, (.int .i64))], F := F_cmp_Or_int }
noncomputable def env_cmp_Or_int : Env := { par := [], dp := false, settle := [], con := fun _ => none, clo := fun _ => none, T := tinf Tryz.prog }
noncomputable def loops_cmp_Or_int : Nat → Option Loop := fun n => match n with | 3 => some { pat := pat_cmp_Or_int_0, outs := outs_cmp_Or_int_0, run := runL (step_cmp_Or_int_0) } | _ => none
theorem con_cmp_Or_int : ConOK Tryz.prog 72 c_cmp_Or_int := con_of_ev' (body := Tryz.f72.body.getD .skip) (Λ := loops_cmp_Or_int) mixed Tryz.func72 (by kernel_rfl) (by kernel_rfl) (envOK_of (E := env_cmp_Or_int) (fun f c h => by cases h) (fun f c h => by cases h) rfl) (by kernel_rfl) (by kernel_rfl) (fun n L h => by
  unfold loops_cmp_Or_int at h
  split at h
  · cases h; exact fun s o ho => loop_ok (stepF := stepEv env_cmp_Or_int loops_cmp_Or_int pat_cmp_Or_int_0 outs_cmp_Or_int_0 Tryz.f72 3) (fun _ => by kernel_rfl) ho
  · cases h) (fun _ => by kernel_rfl)

noncomputable def F_impl_compareEntries (x : DT30 × DT30) : Option (Int) :=
 match F_strings_Compare ((x.1.1, x.2.1)) with
 | none => none
 | some y1 =>
  match F_cmp_Compare_int ((x.1.2.2.1, x.2.2.2.1)) with
  | none => none
  | some y2 =>
   match F_cmp_Or_int ([y1, y2]) with
   | none => none
   | some y3 =>
    some (y3)
noncomputable def c_impl_compareEntries : Con := { ps := [(.val, TY30), (.val, TY30)], rs := [(.val, (.int .i64))], F := F_impl_compareEntries }
noncomputable def env_impl_compareEntries : Env := { par := [], dp := false, settle := [], con := fun f => match f with | 72 => some c_cmp_Or_int | 73 => some c_strings_Compare | 74 => some c_cmp_Compare_int | _ => none, clo := fun _ => none, T := tinf Tryz.prog }
noncomputable def loops_impl_compareEntries : Nat → Option Loop := fun n => none
theorem con_impl_compareEntries : ConOK Tryz.prog 38 c_impl_compareEntries := con_of_ev' (body := Tryz.f38.body.getD .skip) (Λ := loops_impl_compareEntries) mixed Tryz.func38 (by kernel_rfl) (by kernel_rfl) (envOK_of (E := env_impl_compareEntries) (fun f c h => by
  simp only [env_impl_compareEntries] at h
  split at h
  · cases h; exact con_cmp_Or_int
  · cases h; exact con_strings_Compare
  · cases h; exact con_cmp_Compare_int
  · cases h) (fun f c h => by cases h) rfl) (by kernel_rfl) (by kernel_rfl) (fun n L h => by cases h) (fun _ => by kernel_rfl)

noncomputable def step_impl_AreEntries_0 (s : (List DT30) × (List DT30) × Int × Int) : Option (((List DT30) × (List DT30) × Int × Int) ⊕ ((Bool) ⊕ ((List DT30)))) :=
 bif (decide (s.2.2.2 < s.2.2.1)) then
  bif decide (0 ≤ s.2.2.2) && decide (s.2.2.2 < (s.2.1.length : Int)) then
   match F_impl_isEntry ((s.2.1.getD (s.2.2.2).toNat dz30)) with
   | none => none
   | some y6 =>
    bif (!y6) then
     some (.inr (.inl (false)))
    else
     bif (decide (s.2.2.2 > 0)) then
      let v7 := IntKind.i64.wrap (s.2.2.2 - 1)
      bif decide (0 ≤ v7) && decide (v7 < (s.1.length : Int)) then
       match F_impl_compareEntries (((s.1.getD (v7).toNat dz30), (s.2.1.getD (s.2.2.2).toNat dz30))) with
       | none => none
       | some y8 =>
        bif (decide (y8 ≥ 0)) then
         some (.inr (.inl (false)))
        else
         let v9 := IntKind.i64.wrap (s.2.2.2 + 1)
         some (.inl ((s.1, (s.2.1, s.2.2.1, v9))))
      else none
     else
      let v10 := IntKind.i64.wrap (s.2.2.2 + 1)
      some (.inl ((s.1, (s.2.1, s.2.2.1, v10))))
  else none
 else
  some (.inr (.inr (s.1)))
def pat_impl_AreEntries_0 : Pat := { tmps := .v (.slice TY30) :: an 4 (.v (.slice TY30) :: .v (.int .i64) :: .v (.int .i64) :: an 25 []), blks := [] }
def outs_impl_AreEntries_0 : List (Exit × Pat) := [(.ret, { tmps := .any :: .any :: .v .bool :: an 30 [], blks := [] }), (.exit 0, { tmps := .v (.slice TY30) :: an 32 [], blks := [] })]
noncomputable def F_impl_AreEntries (x : (List DT30)) : Option (Bool) :=
 match runL step_impl_AreEntries_0 ((x, (x, (x.length : Int), 0))) with
 | none => none
 | some (.inl o11) =>
  some (o11)
 | some (.inr o11) =>
  some ((decide ((o11.length : Int) ≤ 16)))
noncomputable def c_impl_AreEntries : Con := { ps := [(.val, (.slice TY30))], rs := [(.val, .bool)], F := F_impl_AreEntries }
noncomputable def env_impl_AreEntries : Env := { par := [], dp := false, settle := [], con := fun f => match f with | 38 => some c_impl_compareEntries | 71 => some c_impl_isEntry | _ => none, clo := fun _ => none, T := tinf Tryz.prog }
noncomputable def loops_impl_AreEntries : Nat → Option Loop := fun n => match n with | 2 => some { pat := pat_impl_AreEntries_0, outs := outs_impl_AreEntries_0, run := runL (step_impl_AreEntries_0) } | _ => none
theorem con_impl_AreEntries : ConOK Tryz.prog 35 c_impl_AreEntries := con_of_ev' (body := Tryz.f35.body.getD .skip) (Λ := loops_impl_AreEntries) mixed Tryz.func35 (by kernel_rfl) (by kernel_rfl) (envOK_of (E := env_impl_AreEntries) (fun f c h => by
  simp only [env_impl_AreEntries] at h
  split at h
  · cases h; exact con_impl_compareEntries
  · cases h; exact con_impl_isEntry
  · cases h) (fun f c h => by cases h) rfl) (by kernel_rfl) (by kernel_rfl) (fun n L h => by
  unfold loops_impl_AreEntries at h
  split at h
  · cases h; exact fun s o ho => loop_ok (stepF := stepEv env_impl_AreEntries loops_impl_AreEntries pat_impl_AreEntries_0 outs_impl_AreEntries_0 Tryz.f35 2) (fun _ => by kernel_rfl) ho
  · cases h) (fun _ => by kernel_rfl)

section
open Go.RowKit
theorem nil_slices_Clone_impl_Entry_impl_Entry (n c : Nat) (w : World) : Calls Tryz.prog 36 #[.slice none n c] w fun e w' => e = .returned (.slice none 0 0) ∧ w' = w := by
  have q : ∀ (w : World) (a : Option Addr) (n c n' c' : Nat), (binOp .eql 24 (.slice a n c) (.slice none n' c')).run Tryz.prog w = .ok (.bool a.isNone) w := fun w a n c n' c' => Lib.run_eql_slice_nil w _ _ a n c n' c' (show Tryz.prog.underlying 24 = some (.slice 73) by kernel_rfl)
  go_enter Tryz.func36, Tryz.ntmps36
  go_wp2
  go_ret
  exact ⟨rfl, rfl⟩
set_option maxHeartbeats 2000000 in
theorem some_slices_Clone_impl_Entry_impl_Entry (ad : Addr) (n c : Nat) (news : List Value) (w : World) (hl : news.length = n * 30) (hc : ∀ j u, news[j]? = some u → w.cell? (ad.add j) = some u) (h1 : ∀ u ∈ news, u.oneCell' = true) (hbig : n * 264 ≤ 140737488355328) :
    Calls Tryz.prog 36 #[.slice (some ad) n c] w fun e w' => ∃ v', e = .returned v' ∧ w'.ownsRow w.heap.size 73 30 v' n news ∧ Below w.heap.size w w' := by
  have q : ∀ (w : World) (a : Option Addr) (n c n' c' : Nat), (binOp .eql 24 (.slice a n c) (.slice none n' c')).run Tryz.prog w = .ok (.bool a.isNone) w := fun w a n c n' c' => Lib.run_eql_slice_nil w _ _ a n c n' c' (show Tryz.prog.underlying 24 = some (.slice 73) by kernel_rfl)
  obtain ⟨i0, hi, hz0, hz1, hz2⟩ := info_parts (P := Tryz.prog) (e := 73) (z := (.agg #[(.string ⟨#[]⟩), (.int .i64 0), (.int .i64 0), (.int .i64 0), (.int .i64 0), (.int .i64 0), (.bool false), (.int .i64 0), (.int .i64 0), (.int .i64 0), (.int .i64 0), (.bool false), (.string ⟨#[]⟩), (.int .i64 0), (.bool false), (.int .i64 0), (.int .i64 0), (.int .i64 0), (.int .i64 0), (.int .i64 0), (.bool false), (.int .i64 0), (.int .i64 0), (.int .i64 0), (.int .i64 0), (.bool false), (.string ⟨#[]⟩), (.int .i64 0), (.int .i64 0), (.int .i64 0)])) (size := 30) (bytes := 264) (by kernel_rfl)
  have A : Aside (∀ j u, news[j]? = some u → w.cell? (ad.add j) = some u) := hc
  clear hc
  go_enter Tryz.func36, Tryz.ntmps36
  go_wp2_with (at_builtin; refine wpList_append_own _ rfl _ _ 24 rfl w.heap.size 73 i0 (.agg #[(.string ⟨#[]⟩), (.int .i64 0), (.int .i64 0), (.int .i64 0), (.int .i64 0), (.int .i64 0), (.bool false), (.int .i64 0), (.int .i64 0), (.int .i64 0), (.int .i64 0), (.bool false), (.string ⟨#[]⟩), (.int .i64 0), (.bool false), (.int .i64 0), (.int .i64 0), (.int .i64 0), (.int .i64 0), (.int .i64 0), (.bool false), (.int .i64 0), (.int .i64 0), (.int .i64 0), (.int .i64 0), (.bool false), (.string ⟨#[]⟩), (.int .i64 0), (.int .i64 0), (.int .i64 0)]) 30 264 (by kernel_rfl) hi hz0 hz1 hz2 rfl (by decide) _ _ _ rfl (World.ownsRow_made w #[] 0 (Nat.le_refl _) (Nat.zero_le _) rfl) ad n c news rfl ?qc1 ?qc2 ?qc3 ?qc4 ?qc5 ?qc6 ?_)
  case qc1 => exact hl
  case qc2 => exact fun j u hj => Lib.cell?_alloc_some _ (A.out j u hj)
  case qc3 => exact h1
  case qc4 => unfold maxLen; omega
  case qc5 => omega
  case qc6 => simp
  intro v' w1 hown hgrow hnil
  go_wp2
  go_ret
  refine ⟨v', rfl, by simpa using hown, ?_⟩
  exact ((Below.refl _ w).alloc (Nat.le_refl _) _).grown hgrow (by simp) (by intro k hk; simp [Value.ownBlock] at hk; omega)
def F_slices_Clone_impl_Entry_impl_Entry (x : List DT30) : Option (List DT30) := bif decide (x.length * 264 ≤ 140737488355328) then some x else none
noncomputable def c_slices_Clone_impl_Entry_impl_Entry : Con := { ps := [(.val, .slice TY30)], rs := [(.io true, .slice TY30)], F := F_slices_Clone_impl_Entry_impl_Entry }
theorem con_slices_Clone_impl_Entry_impl_Entry : ConOK Tryz.prog 36 c_slices_Clone_impl_Entry_impl_Entry := con_clone ⟨Tryz.f36, Tryz.func36, by kernel_rfl, by kernel_rfl⟩ TY30 true rfl 264 73 nil_slices_Clone_impl_Entry_impl_Entry some_slices_Clone_impl_Entry_impl_Entry
end

noncomputable def step_slices_BinarySearchFunc_impl_Entry_impl_Entry_impl_Entry_0 (s : (List DT30) × ((DT30 × DT30) → Option Int) × Int × Int × Int × ByteArray × Int × Int × Int × Int × Int × Bool × Int × Int × Int × Int × Bool × ByteArray × Int × Bool × Int × Int × Int × Int × Int × Bool × Int × Int × Int × Int × Bool × ByteArray × Int × Int × Int) : Option (((List DT30) × ((DT30 × DT30) → Option Int) × Int × Int × Int × ByteArray × Int × Int × Int × Int × Int × Bool × Int × Int × Int × Int × Bool × ByteArray × Int × Bool × Int × Int × Int × Int × Int × Bool × Int × Int × Int × Int × Bool × ByteArray × Int × Int × Int) ⊕ (((List DT30) × ((DT30 × DT30) → Option Int) × Int × Int × ByteArray × Int × Int × Int × Int × Int × Bool × Int × Int × Int × Int × Bool × ByteArray × Int × Bool × Int × Int × Int × Int × Int × Bool × Int × Int × Int × Int × Bool × ByteArray × Int × Int × Int))) :=
 bif (decide (s.2.2.2.1 < s.2.2.2.2.1)) then
  let v7 := IntKind.i64.wrap (s.2.2.2.1 + s.2.2.2.2.1)
  let v8 := IntKind.u64.wrap v7
  bif decide (0 ≤ (1 : Int)) then
   let v9 := (v8).fdiv (2 ^ (min (1 : Int).toNat IntKind.u64.bits))
   let v10 := IntKind.i64.wrap v9
   bif decide (0 ≤ v10) && decide (v10 < (s.1.length : Int)) then
    match s.2.1 (((s.1.getD (v10).toNat dz30), (s.2.2.2.2.2.1, (((s.2.2.2.2.2.2.1, (s.2.2.2.2.2.2.2.1, s.2.2.2.2.2.2.2.2.1, (s.2.2.2.2.2.2.2.2.2.1, s.2.2.2.2.2.2.2.2.2.2.1, s.2.2.2.2.2.2.2.2.2.2.2.1))), (s.2.2.2.2.2.2.2.2.2.2.2.2.1, s.2.2.2.2.2.2.2.2.2.2.2.2.2.1), ((s.2.2.2.2.2.2.2.2.2.2.2.2.2.2.1, s.2.2.2.2.2.2.2.2.2.2.2.2.2.2.2.1, s.2.2.2.2.2.2.2.2.2.2.2.2.2.2.2.2.1), s.2.2.2.2.2.2.2.2.2.2.2.2.2.2.2.2.2.1, s.2.2.2.2.2.2.2.2.2.2.2.2.2.2.2.2.2.2.1)), s.2.2.2.2.2.2.2.2.2.2.2.2.2.2.2.2.2.2.2.1, ((s.2.2.2.2.2.2.2.2.2.2.2.2.2.2.2.2.2.2.2.2.1, (s.2.2.2.2.2.2.2.2.2.2.2.2.2.2.2.2.2.2.2.2.2.1, s.2.2.2.2.2.2.2.2.2.2.2.2.2.2.2.2.2.2.2.2.2.2.1, (s.2.2.2.2.2.2.2.2.2.2.2.2.2.2.2.2.2.2.2.2.2.2.2.1, s.2.2.2.2.2.2.2.2.2.2.2.2.2.2.2.2.2.2.2.2.2.2.2.2.1, s.2.2.2.2.2.2.2.2.2.2.2.2.2.2.2.2.2.2.2.2.2.2.2.2.2.1))), (s.2.2.2.2.2.2.2.2.2.2.2.2.2.2.2.2.2.2.2.2.2.2.2.2.2.2.1, s.2.2.2.2.2.2.2.2.2.2.2.2.2.2.2.2.2.2.2.2.2.2.2.2.2.2.2.1), ((s.2.2.2.2.2.2.2.2.2.2.2.2.2.2.2.2.2.2.2.2.2.2.2.2.2.2.2.2.1, s.2.2.2.2.2.2.2.2.2.2.2.2.2.2.2.2.2.2.2.2.2.2.2.2.2.2.2.2.2.1, s.2.2.2.2.2.2.2.2.2.2.2.2.2.2.2.2.2.2.2.2.2.2.2.2.2.2.2.2.2.2.1), s.2.2.2.2.2.2.2.2.2.2.2.2.2.2.2.2.2.2.2.2.2.2.2.2.2.2.2.2.2.2.2.1, s.2.2.2.2.2.2.2.2.2.2.2.2.2.2.2.2.2.2.2.2.2.2.2.2.2.2.2.2.2.2.2.2.1))), s.2.2.2.2.2.2.2.2.2.2.2.2.2.2.2.2.2.2.2.2.2.2.2.2.2.2.2.2.2.2.2.2.2))) with
    | none => none
    | some y11 =>
     bif (decide (y11 < 0)) then
      let v12 := IntKind.i64.wrap (v10 + 1)
      some (.inl ((s.1, s.2.1, (s.2.2.1, v12, s.2.2.2.2))))
     else
      some (.inl ((s.1, (s.2.1, s.2.2.1, (s.2.2.2.1, v10, s.2.2.2.2.2)))))
   else none
  else none
 else
  some (.inr ((s.1, s.2.1, (s.2.2.1, s.2.2.2.1, s.2.2.2.2.2))))
def pat_slices_BinarySearchFunc_impl_Entry_impl_Entry_impl_Entry_0 : Pat := { tmps := .v (.slice TY30) :: .any :: .v (.fn (.pair TY30 TY30) (.int .i64)) :: .any :: .ptr 256 0 :: .any :: .any :: .any :: .v (.int .i64) :: .v (.int .i64) :: .v (.int .i64) :: an 38 [], blks := [(256, .box [.v .str, .v (.int .i64), .v (.int .i64), .v (.int .i64), .v (.int .i64), .v (.int .i64), .v .bool, .v (.int .i64), .v (.int .i64), .v (.int .i64), .v (.int .i64), .v .bool, .v .str, .v (.int .i64), .v .bool, .v (.int .i64), .v (.int .i64), .v (.int .i64), .v (.int .i64), .v (.int .i64), .v .bool, .v (.int .i64), .v (.int .i64), .v (.int .i64), .v (.int .i64), .v .bool, .v .str, .v (.int .i64), .v (.int .i64), .v (.int .i64)])] }
def outs_slices_BinarySearchFunc_impl_Entry_impl_Entry_impl_Entry_0 : List (Exit × Pat) := [(.exit 0, { tmps := .v (.slice TY30) :: .any :: .v (.fn (.pair TY30 TY30) (.int .i64)) :: .any :: .ptr 256 0 :: .any :: .any :: .any :: .v (.int .i64) :: .v (.int .i64) :: an 39 [], blks := [(256, .box [.v .str, .v (.int .i64), .v (.int .i64), .v (.int .i64), .v (.int .i64), .v (.int .i64), .v .bool, .v (.int .i64), .v (.int .i64), .v (.int .i64), .v (.int .i64), .v .bool, .v .str, .v (.int .i64), .v .bool, .v (.int .i64), .v (.int .i64), .v (.int .i64), .v (.int .i64), .v (.int .i64), .v .bool, .v (.int .i64), .v (.int .i64), .v (.int .i64), .v (.int .i64), .v .bool, .v .str, .v (.int .i64), .v (.int .i64), .v (.int .i64)])] })]
noncomputable def F_slices_BinarySearchFunc_impl_Entry_impl_Entry_impl_Entry (x : (List DT30) × DT30 × ((DT30 × DT30) → Option Int)) : Option (Int × Bool) :=
 match runL step_slices_BinarySearchFunc_impl_Entry_impl_Entry_impl_Entry_0 ((x.1, (x.2.2, (x.1.length : Int), (0, (x.1.length : Int), (x.2.1.1, x.2.1.2.1.1.1.1, (x.2.1.2.1.1.1.2.1, x.2.1.2.1.1.1.2.2.1, (x.2.1.2.1.1.1.2.2.2.1, x.2.1.2.1.1.1.2.2.2.2.1, (x.2.1.2.1.1.1.2.2.2.2.2, x.2.1.2.1.1.2.1.1, (x.2.1.2.1.1.2.1.2, x.2.1.2.1.1.2.2.1.1, (x.2.1.2.1.1.2.2.1.2.1, x.2.1.2.1.1.2.2.1.2.2, (x.2.1.2.1.1.2.2.2.1, x.2.1.2.1.1.2.2.2.2, (x.2.1.2.1.2.1, x.2.1.2.1.2.2.1.1, (x.2.1.2.1.2.2.1.2.1, x.2.1.2.1.2.2.1.2.2.1, (x.2.1.2.1.2.2.1.2.2.2.1, x.2.1.2.1.2.2.1.2.2.2.2.1, (x.2.1.2.1.2.2.1.2.2.2.2.2, x.2.1.2.1.2.2.2.1.1, (x.2.1.2.1.2.2.2.1.2, x.2.1.2.1.2.2.2.2.1.1, (x.2.1.2.1.2.2.2.2.1.2.1, x.2.1.2.1.2.2.2.2.1.2.2, (x.2.1.2.1.2.2.2.2.2.1, x.2.1.2.1.2.2.2.2.2.2, x.2.1.2.2)))))))))))))))))) with
 | none => none
 | some o13 =>
  bif (decide (o13.2.2.2.1 < o13.2.2.1)) then
   bif decide (0 ≤ o13.2.2.2.1) && decide (o13.2.2.2.1 < (o13.1.length : Int)) then
    match o13.2.1 (((o13.1.getD (o13.2.2.2.1).toNat dz30), (o13.2.2.2.2.1, (((o13.2.2.2.2.2.1, (o13.2.2.2.2.2.2.1, o13.2.2.2.2.2.2.2.1, (o13.2.2.2.2.2.2.2.2.1, o13.2.2.2.2.2.2.2.2.2.1, o13.2.2.2.2.2.2.2.2.2.2.1))), (o13.2.2.2.2.2.2.2.2.2.2.2.1, o13.2.2.2.2.2.2.2.2.2.2.2.2.1), ((o13.2.2.2.2.2.2.2.2.2.2.2.2.2.1, o13.2.2.2.2.2.2.2.2.2.2.2.2.2.2.1, o13.2.2.2.2.2.2.2.2.2.2.2.2.2.2.2.1), o13.2.2.2.2.2.2.2.2.2.2.2.2.2.2.2.2.1, o13.2.2.2.2.2.2.2.2.2.2.2.2.2.2.2.2.2.1)), o13.2.2.2.2.2.2.2.2.2.2.2.2.2.2.2.2.2.2.1, ((o13.2.2.2.2.2.2.2.2.2.2.2.2.2.2.2.2.2.2.2.1, (o13.2.2.2.2.2.2.2.2.2.2.2.2.2.2.2.2.2.2.2.2.1, o13.2.2.2.2.2.2.2.2.2.2.2.2.2.2.2.2.2.2.2.2.2.1, (o13.2.2.2.2.2.2.2.2.2.2.2.2.2.2.2.2.2.2.2.2.2.2.1, o13.2.2.2.2.2.2.2.2.2.2.2.2.2.2.2.2.2.2.2.2.2.2.2.1, o13.2.2.2.2.2.2.2.2.2.2.2.2.2.2.2.2.2.2.2.2.2.2.2.2.1))), (o13.2.2.2.2.2.2.2.2.2.2.2.2.2.2.2.2.2.2.2.2.2.2.2.2.2.1, o13.2.2.2.2.2.2.2.2.2.2.2.2.2.2.2.2.2.2.2.2.2.2.2.2.2.2.1), ((o13.2.2.2.2.2.2.2.2.2.2.2.2.2.2.2.2.2.2.2.2.2.2.2.2.2.2.2.1, o13.2.2.2.2.2.2.2.2.2.2.2.2.2.2.2.2.2.2.2.2.2.2.2.2.2.2.2.2.1, o13.2.2.2.2.2.2.2.2.2.2.2.2.2.2.2.2.2.2.2.2.2.2.2.2.2.2.2.2.2.1), o13.2.2.2.2.2.2.2.2.2.2.2.2.2.2.2.2.2.2.2.2.2.2.2.2.2.2.2.2.2.2.1, o13.2.2.2.2.2.2.2.2.2.2.2.2.2.2.2.2.2.2.2.2.2.2.2.2.2.2.2.2.2.2.2.1))), o13.2.2.2.2.2.2.2.2.2.2.2.2.2.2.2.2.2.2.2.2.2.2.2.2.2.2.2.2.2.2.2.2))) with
    | none => none
    | some y14 =>
     some ((o13.2.2.2.1, ((y14 == 0))))
   else none
  else
   some ((o13.2.2.2.1, false))
noncomputable def c_slices_BinarySearchFunc_impl_Entry_impl_Entry_impl_Entry : Con := { ps := [(.val, (.slice TY30)), (.val, TY30), (.val, (.fn (.pair TY30 TY30) (.int .i64)))], rs := [(.val, (.int .i64)), (.val, .bool)], F := F_slices_BinarySearchFunc_impl_Entry_impl_Entry_impl_Entry }
noncomputable def env_slices_BinarySearchFunc_impl_Entry_impl_Entry_impl_Entry : Env := { par := [], dp := false, settle := [], con := fun _ => none, clo := fun _ => none, T := tinf Tryz.prog }
noncomputable def loops_slices_BinarySearchFunc_impl_Entry_impl_Entry_impl_Entry : Nat → Option Loop := fun n => match n with | 3 => some { pat := pat_slices_BinarySearchFunc_impl_Entry_impl_Entry_impl_Entry_0, outs := outs_slices_BinarySearchFunc_impl_Entry_impl_Entry_impl_Entry_0, run := runL (step_slices_BinarySearchFunc_impl_Entry_impl_Entry_impl_Entry_0) } | _ => none
theorem con_slices_BinarySearchFunc_impl_Entry_impl_Entry_impl_Entry : ConOK Tryz.prog 37 c_slices_BinarySearchFunc_impl_Entry_impl_Entry_impl_Entry := con_of_ev' (body := Tryz.f37.body.getD .skip) (Λ := loops_slices_BinarySearchFunc_impl_Entry_impl_Entry_impl_Entry) mixed Tryz.func37 (by kernel_rfl) (by kernel_rfl) (envOK_of (E := env_slices_BinarySearchFunc_impl_Entry_impl_Entry_impl_Entry) (fun f c h => by cases h) (fun f c h => by cases h) rfl) (by kernel_rfl) (by kernel_rfl) (fun n L h => by
  unfold loops_slices_BinarySearchFunc_impl_Entry_impl_Entry_impl_Entry at h
  split at h
  · cases h; exact fun s o ho => loop_ok (stepF := stepEv env_slices_BinarySearchFunc_impl_Entry_impl_Entry_impl_Entry loops_slices_BinarySearchFunc_impl_Entry_impl_Entry_impl_Entry pat_slices_BinarySearchFunc_impl_Entry_impl_Entry_impl_Entry_0 outs_slices_BinarySearchFunc_impl_Entry_impl_Entry_impl_Entry_0 Tryz.f37 3) (fun _ => by kernel_rfl) ho
  · cases h) (fun _ => by kernel_rfl)

section
open Go.RowKit Go.Sort
instance inhEn : Inhabited tyEn.den := ⟨(ByteArray.empty, ((((0, 0, 0, 0, 0, false), (0, 0), (0, 0, false), ByteArray.empty, 0), false, ((0, 0, 0, 0, 0, false), (0, 0), (0, 0, false), ByteArray.empty, 0)), 0, 0))⟩
noncomputable def sortL (xs : List tyEn.den) : List tyEn.den := bif xs.isEmpty then [] else (pdq (ltOf cfE) xs.toArray 0 xs.length (Lib.bitLen xs.length) true true).toList
noncomputable def F_impl_sortedEntries (x : List EntryT) : Option (List EntryT × Bool) := bif decide (x.length < 4611686018427387904) then (match F_impl_AreEntries (sortL x) with | none => none | some b => some (bif b then sortL x else [], b)) else none
theorem sort_perm (xs : List tyEn.den) : (pdq (ltOf cfE) xs.toArray 0 xs.length (Lib.bitLen xs.length) true true).size = xs.length ∧ PermIn 0 xs.length xs.toArray (pdq (ltOf cfE) xs.toArray 0 xs.length (Lib.bitLen xs.length) true true) ∧ SortedIn (ltOf cfE) 0 xs.length (pdq (ltOf cfE) xs.toArray 0 xs.length (Lib.bitLen xs.length) true true) := by
  have h := pdq_sorts (ltOf cfE) swoE xs.toArray 0 xs.length (Lib.bitLen xs.length) true true (Nat.zero_le _) (by simp) (Or.inl (by simp))
  refine ⟨?_, h.1, h.2⟩
  have := h.1.1
  simpa using this
theorem cmpLaysE (g size : Nat) (w : World) : CmpLays Tryz.prog 38 #[] tyEn.vals tyEn.cells cfE g 0 size w := fun _ _ _ _ x y => cmpE x y _
theorem sortEn_calls (g cap : Nat) (xs : List tyEn.den) (w : World) (hH : HoldsK tyEn.vals tyEn.cells w g 0 xs.toArray) (hlt : g < w.heap.size) (hsz : xs.length < 4611686018427387904) :
    Calls Tryz.prog 75 #[.slice (some ⟨g, 0, none⟩) xs.length cap, .func (.func 38) #[] #[]] w fun e w' => e = .returned (.tuple #[]) ∧ ∃ n os, w' = sortWorldK tyEn.vals tyEn.cells w g 0 n (pdq (ltOf cfE) xs.toArray 0 xs.length (Lib.bitLen xs.length) true true) os := by
  have eg : ∀ args w, (callFunc 38 args).run Tryz.prog w = .ok (.enter 38 args) w := enters_of Tryz.func38 (by kernel_rfl) rfl
  have h := AnyQ.slices_SortFunc_eq Tryz.sortEn tyEn.cells Tryz.isAgg73 Tryz.sizeOf73 tyEn.vals (fun x => (vals_len (e := tyEn) rfl x).1) (fun x => (vals_len (e := tyEn) rfl x).2) cfE swoE 38 #[] g 0 cap xs.toArray w eg (cmpLaysE g _ w) hH hlt (by simpa using hsz)
  have e6 : Tryz.sortEn_ren.f 6 = 75 := rfl
  rw [e6] at h
  simpa using h
theorem sortEn_step {P : Program} (hP : P = Tryz.prog) {A : Option Addr} {cap : Nat} {x : List tyEn.den} {w : World} {Z F1 : Nat → Prop} (how : RowOf Tryz.prog false true tyEn w Z F1 (.slice A x.length cap) x) (hF : ∀ b, F1 b → nGlob ≤ b) (hsz : x.length < 4611686018427387904) :
    Calls Tryz.prog 75 #[.slice A x.length cap, .func (.func 38) #[] #[]] w fun e w' => e = .returned (.tuple #[]) ∧ Fr F1 w w' ∧ RowOf Tryz.prog false true tyEn w' (fun _ => True) F1 (.slice A x.length cap) (sortL x) := by
  have none_case : x.length = 0 → Calls Tryz.prog 75 #[.slice A x.length cap, .func (.func 38) #[] #[]] w fun e w' => e = .returned (.tuple #[]) ∧ Fr F1 w w' ∧ RowOf Tryz.prog false true tyEn w' (fun _ => True) F1 (.slice A x.length cap) (sortL x) := by
    intro h0
    have hx : x = [] := List.eq_nil_of_length_eq_zero h0
    subst hx
    refine (AnyF.slices_SortFunc_none Tryz.sortEn A cap (.func (.func 38) #[] #[]) w).mono ?_
    rintro e' w' ⟨rfl, rfl⟩
    exact ⟨rfl, Fr.refl _ _, how.agree (fun _ _ _ => trivial) (Agree.refl _ _) (fun _ h => h) (Agree.refl _ _)⟩
  by_cases h0 : x.length = 0
  · exact none_case h0
  obtain ⟨A', cap', e, hcap, hm⟩ := row_holdsK (e := tyEn) rfl how
  simp only [Value.slice.injEq] at e
  obtain ⟨rfl, _, rfl⟩ := e
  rcases hm with hc0 | ⟨g, cur, ety, rfl, hFg, hh, hcs, hH⟩
  · omega
  · refine (sortEn_calls g cap x w hH (lt_of_block hh) hsz).mono ?_
    rintro e' w' ⟨rfl, n, os, rfl⟩
    obtain ⟨hfr, hh'⟩ := laid_rowK (enc := tyEn.vals) (k := tyEn.cells) (n := n) (os := os) (d := pdq (ltOf cfE) x.toArray 0 x.length (Lib.bitLen x.length) true true) hh (hF g hFg)
    obtain ⟨z1, _, _⟩ := sort_perm x
    have hr := row_of_laid (P := Tryz.prog) (e := tyEn) rfl (Z := fun _ => True) hFg hh' (by rw [z1]; exact hcap) hcs
    have hs : sortL x = (pdq (ltOf cfE) x.toArray 0 x.length (Lib.bitLen x.length) true true).toList := by
      unfold sortL
      cases x with
      | nil => exact absurd rfl h0
      | cons _ _ => rfl
    rw [z1, ← hs] at hr
    exact ⟨rfl, ⟨hfr.os, hfr.tape, hfr.output, hfr.size, fun b hb hn => hfr.block b hb fun e => hn (by subst e; exact hFg), hfr.glob⟩, hr⟩
noncomputable def c_impl_sortedEntries : Con := { ps := [(.eat true, .slice tyEn)], rs := [(.io true, .slice tyEn), (.val, .bool)], F := F_impl_sortedEntries }
set_option maxHeartbeats 2000000 in
theorem con_impl_sortedEntries : ConOK Tryz.prog 39 c_impl_sortedEntries := by
  refine ⟨⟨Tryz.f39, Tryz.func39, by kernel_rfl, by kernel_rfl⟩, fun w Z X vals (x : List EntryT) (y : List EntryT × Bool) hy hXZ hXlt hold ht hXbig => ?_⟩
  have hy : F_impl_sortedEntries x = some y := hy
  unfold F_impl_sortedEntries at hy
  obtain ⟨hg, hy⟩ := bif_none hy
  have hsz : x.length < 4611686018427387904 := of_decide_eq_true hg
  cases hA : F_impl_AreEntries (sortL x) with
  | none => rw [hA] at hy; cases hy
  | some b =>
  rw [hA] at hy
  obtain rfl : y = (bif b then sortL x else [], b) := (Option.some.inj hy).symm
  obtain ⟨v, r, F1, F2, rfl, s1, s2, s3, how, hr⟩ := hold
  obtain rfl : r = [] := hr
  have how : RowOf Tryz.prog false true tyEn w Z F1 v x := how
  obtain ⟨A, cap, rfl, hcap0, hm0⟩ := id how
  have hsort := sortEn_step (P := Tryz.prog) rfl how (fun b hb => hXbig b (s1 b hb)) hsz
  have hare : ∀ w', Fr F1 w w' → RowOf Tryz.prog false true tyEn w' (fun _ => True) F1 (.slice A x.length cap) (sortL x) → Calls Tryz.prog 35 #[.slice A x.length cap] w' fun e w'' => e = .returned (.bool b) ∧ Fr NoB w' w'' := by
    intro w' hfr hrow
    have hh : Holds Tryz.prog w' (fun _ => True) NoB c_impl_AreEntries.ps [.slice A x.length cap] (sortL x) := ⟨_, [], rfl, ⟨[.slice A x.length cap], rfl, RowOf.read hrow (fun _ _ _ => trivial) (fun _ _ _ => trivial)⟩, rfl⟩
    refine (con_impl_AreEntries.calls w' (fun _ => True) NoB [.slice A x.length cap] (sortL x) b hA (fun _ f => f.elim) (fun _ f => f.elim) hh (hfr.tabs ht) (fun _ f => f.elim)).mono ?_
    rintro e w'' ⟨v, vs, F, G, rfl, htup, hlen, hf, _, _, _, _, hres⟩
    obtain ⟨v1, r1, rfl, ⟨cs, hb1, hb2⟩, hr1⟩ := hres
    obtain rfl : r1 = [] := hr1
    have hb1 : cs = [v1] := hb1
    subst hb1
    obtain rfl : v1 = .bool b := by
      have : [v1] = [Value.bool b] := hb2
      exact (List.cons.inj this).1
    exact ⟨by rw [show v = Value.bool b from htup], hf⟩
  have key : Calls Tryz.prog 39 #[.slice A x.length cap] w fun e w' => e = .returned (.tuple #[bif b then .slice A x.length cap else .slice none 0 0, .bool b]) ∧ Fr F1 w w' ∧ RowOf Tryz.prog false true tyEn w' (fun _ => True) F1 (.slice A x.length cap) (sortL x) := by
    clear hm0 how hcap0
    cases b with
    | true =>
      go_enter Tryz.func39, Tryz.ntmps39
      go_wp2_with (first
        | (go_at_call 75; refine hsort.mono ?_; rintro e w1 ⟨rfl, hfr1, hrow1⟩)
        | (go_at_call 35; refine (hare _ hfr1 hrow1).mono ?_; rintro e w2 ⟨rfl, hfr2⟩))
      go_ret2
      exact ⟨rfl, hfr1.trans hfr2 (fun _ _ f => f.elim), hrow1.agree (fun _ _ h => h) (hfr2.agree _ fun _ _ _ f => f) (fun _ h => h) (hfr2.agree _ fun _ _ _ f => f)⟩
    | false =>
      go_enter Tryz.func39, Tryz.ntmps39
      go_wp2_with (first
        | (go_at_call 75; refine hsort.mono ?_; rintro e w1 ⟨rfl, hfr1, hrow1⟩)
        | (go_at_call 35; refine (hare _ hfr1 hrow1).mono ?_; rintro e w2 ⟨rfl, hfr2⟩))
      go_ret2
      exact ⟨rfl, hfr1.trans hfr2 (fun _ _ f => f.elim), hrow1.agree (fun _ _ h => h) (hfr2.agree _ fun _ _ _ f => f) (fun _ h => h) (hfr2.agree _ fun _ _ _ f => f)⟩
  refine key.mono ?_
  rintro e w' ⟨rfl, hfr, hrow⟩
  have hlb : ∀ b, F1 b → b < w'.heap.size := fun b hb => Nat.lt_of_lt_of_le (hXlt b (s1 b hb)) hfr.size
  have hfrX : Fr X w w' := ⟨hfr.os, hfr.tape, hfr.output, hfr.size, fun b hb hn => hfr.block b hb fun hf => hn (s1 b hf), hfr.glob⟩
  cases b with
  | true =>
    refine ⟨_, [.slice A x.length cap, .bool true], F1, NoB, rfl, rfl, rfl, hfrX, fun b hb => ⟨.inr ⟨s1 b hb, rfl⟩, hlb b hb⟩, fun _ f => f.elim, fun _ _ f => f, holds_nil rfl _, ?_⟩
    refine ⟨_, _, F1, NoB, rfl, fun _ h => h, fun _ f => f.elim, fun _ _ f => f, ?_, _, [], rfl, ⟨[.bool true], rfl, rfl⟩, rfl⟩
    have hz : RowOf Tryz.prog false true tyEn w' (fun _ => True) F1 (.slice A x.length cap) (sortL x) := hrow
    exact RowOwn.map hz (fun _ h => h) (fun _ _ _ => rfl) fun _ G us y _ hy => (OwC.scal tyEn rfl us y).2 ((OwC.scal tyEn rfl us y).1 hy)
  | false =>
    refine ⟨_, [.slice none 0 0, .bool false], NoB, NoB, rfl, rfl, rfl, hfrX, fun _ f => f.elim, fun _ f => f.elim, fun _ _ f => f, holds_nil rfl _, ?_⟩
    exact ⟨_, _, NoB, NoB, rfl, fun _ h => h, fun _ f => f.elim, fun _ _ f => f, ⟨none, 0, rfl, Nat.le_refl _, .inl rfl⟩, _, [], rfl, ⟨[.bool false], rfl, rfl⟩, rfl⟩
end

noncomputable def step_slices_Index_impl_Entry_impl_Entry_0 (s : (List DT30) × Int × Int × ByteArray × Int × Int × Int × Int × Int × Bool × Int × Int × Int × Int × Bool × ByteArray × Int × Bool × Int × Int × Int × Int × Int × Bool × Int × Int × Int × Int × Bool × ByteArray × Int × Int × Int) : Option (((List DT30) × Int × Int × ByteArray × Int × Int × Int × Int × Int × Bool × Int × Int × Int × Int × Bool × ByteArray × Int × Bool × Int × Int × Int × Int × Int × Bool × Int × Int × Int × Int × Bool × ByteArray × Int × Int × Int) ⊕ ((Int) ⊕ (Unit))) :=
 bif (decide (s.2.2.1 < s.2.1)) then
  bif decide (0 ≤ s.2.2.1) && decide (s.2.2.1 < (s.1.length : Int)) then
   bif ((s.2.2.2.1.toList == (s.1.getD (s.2.2.1).toNat dz30).1.toList) && (((((s.2.2.2.2.1 == (s.1.getD (s.2.2.1).toNat dz30).2.1.1.1.1) && ((s.2.2.2.2.2.1 == (s.1.getD (s.2.2.1).toNat dz30).2.1.1.1.2.1) && ((s.2.2.2.2.2.2.1 == (s.1.getD (s.2.2.1).toNat dz30).2.1.1.1.2.2.1) && ((s.2.2.2.2.2.2.2.1 == (s.1.getD (s.2.2.1).toNat dz30).2.1.1.1.2.2.2.1) && ((s.2.2.2.2.2.2.2.2.1 == (s.1.getD (s.2.2.1).toNat dz30).2.1.1.1.2.2.2.2.1) && ((s.2.2.2.2.2.2.2.2.2.1 == (s.1.getD (s.2.2.1).toNat dz30).2.1.1.1.2.2.2.2.2) && true)))))) && (((s.2.2.2.2.2.2.2.2.2.2.1 == (s.1.getD (s.2.2.1).toNat dz30).2.1.1.2.1.1) && ((s.2.2.2.2.2.2.2.2.2.2.2.1 == (s.1.getD (s.2.2.1).toNat dz30).2.1.1.2.1.2) && true)) && (((s.2.2.2.2.2.2.2.2.2.2.2.2.1 == (s.1.getD (s.2.2.1).toNat dz30).2.1.1.2.2.1.1) && ((s.2.2.2.2.2.2.2.2.2.2.2.2.2.1 == (s.1.getD (s.2.2.1).toNat dz30).2.1.1.2.2.1.2.1) && ((s.2.2.2.2.2.2.2.2.2.2.2.2.2.2.1 == (s.1.getD (s.2.2.1).toNat dz30).2.1.1.2.2.1.2.2) && true))) && (((s.2.2.2.2.2.2.2.2.2.2.2.2.2.2.2.1.toList == (s.1.getD (s.2.2.1).toNat dz30).2.1.1.2.2.2.1.toList) && ((s.2.2.2.2.2.2.2.2.2.2.2.2.2.2.2.2.1 == (s.1.getD (s.2.2.1).toNat dz30).2.1.1.2.2.2.2) && true)) && true)))) && ((s.2.2.2.2.2.2.2.2.2.2.2.2.2.2.2.2.2.1 == (s.1.getD (s.2.2.1).toNat dz30).2.1.2.1) && ((((s.2.2.2.2.2.2.2.2.2.2.2.2.2.2.2.2.2.2.1 == (s.1.getD (s.2.2.1).toNat dz30).2.1.2.2.1.1) && ((s.2.2.2.2.2.2.2.2.2.2.2.2.2.2.2.2.2.2.2.1 == (s.1.getD (s.2.2.1).toNat dz30).2.1.2.2.1.2.1) && ((s.2.2.2.2.2.2.2.2.2.2.2.2.2.2.2.2.2.2.2.2.1 == (s.1.getD (s.2.2.1).toNat dz30).2.1.2.2.1.2.2.1) && ((s.2.2.2.2.2.2.2.2.2.2.2.2.2.2.2.2.2.2.2.2.2.1 == (s.1.getD (s.2.2.1).toNat dz30).2.1.2.2.1.2.2.2.1) && ((s.2.2.2.2.2.2.2.2.2.2.2.2.2.2.2.2.2.2.2.2.2.2.1 == (s.1.getD (s.2.2.1).toNat dz30).2.1.2.2.1.2.2.2.2.1) && ((s.2.2.2.2.2.2.2.2.2.2.2.2.2.2.2.2.2.2.2.2.2.2.2.1 == (s.1.getD (s.2.2.1).toNat dz30).2.1.2.2.1.2.2.2.2.2) && true)))))) && (((s.2.2.2.2.2.2.2.2.2.2.2.2.2.2.2.2.2.2.2.2.2.2.2.2.1 == (s.1.getD (s.2.2.1).toNat dz30).2.1.2.2.2.1.1) && ((s.2.2.2.2.2.2.2.2.2.2.2.2.2.2.2.2.2.2.2.2.2.2.2.2.2.1 == (s.1.getD (s.2.2.1).toNat dz30).2.1.2.2.2.1.2) && true)) && (((s.2.2.2.2.2.2.2.2.2.2.2.2.2.2.2.2.2.2.2.2.2.2.2.2.2.2.1 == (s.1.getD (s.2.2.1).toNat dz30).2.1.2.2.2.2.1.1) && ((s.2.2.2.2.2.2.2.2.2.2.2.2.2.2.2.2.2.2.2.2.2.2.2.2.2.2.2.1 == (s.1.getD (s.2.2.1).toNat dz30).2.1.2.2.2.2.1.2.1) && ((s.2.2.2.2.2.2.2.2.2.2.2.2.2.2.2.2.2.2.2.2.2.2.2.2.2.2.2.2.1 == (s.1.getD (s.2.2.1).toNat dz30).2.1.2.2.2.2.1.2.2) && true))) && (((s.2.2.2.2.2.2.2.2.2.2.2.2.2.2.2.2.2.2.2.2.2.2.2.2.2.2.2.2.2.1.toList == (s.1.getD (s.2.2.1).toNat dz30).2.1.2.2.2.2.2.1.toList) && ((s.2.2.2.2.2.2.2.2.2.2.2.2.2.2.2.2.2.2.2.2.2.2.2.2.2.2.2.2.2.2.1 == (s.1.getD (s.2.2.1).toNat dz30).2.1.2.2.2.2.2.2) && true)) && true)))) && true))) && ((s.2.2.2.2.2.2.2.2.2.2.2.2.2.2.2.2.2.2.2.2.2.2.2.2.2.2.2.2.2.2.2.1 == (s.1.getD (s.2.2.1).toNat dz30).2.2.1) && ((s.2.2.2.2.2.2.2.2.2.2.2.2.2.2.2.2.2.2.2.2.2.2.2.2.2.2.2.2.2.2.2.2 == (s.1.getD (s.2.2.1).toNat dz30).2.2.2) && true)))) then
    some (.inr (.inl (s.2.2.1)))
   else
    let v2 := IntKind.i64.wrap (s.2.2.1 + 1)
    some (.inl ((s.1, (s.2.1, v2, s.2.2.2))))
  else none
 else
  some (.inr (.inr (())))
def pat_slices_Index_impl_Entry_impl_Entry_0 : Pat := { tmps := .v (.slice TY30) :: .any :: .any :: .ptr 192 0 :: .any :: .any :: .any :: .v (.int .i64) :: .v (.int .i64) :: an 10 [], blks := [(192, .box [.v .str, .v (.int .i64), .v (.int .i64), .v (.int .i64), .v (.int .i64), .v (.int .i64), .v .bool, .v (.int .i64), .v (.int .i64), .v (.int .i64), .v (.int .i64), .v .bool, .v .str, .v (.int .i64), .v .bool, .v (.int .i64), .v (.int .i64), .v (.int .i64), .v (.int .i64), .v (.int .i64), .v .bool, .v (.int .i64), .v (.int .i64), .v (.int .i64), .v (.int .i64), .v .bool, .v .str, .v (.int .i64), .v (.int .i64), .v (.int .i64)])] }
def outs_slices_Index_impl_Entry_impl_Entry_0 : List (Exit × Pat) := [(.ret, { tmps := an 4 (.v (.int .i64) :: an 14 []), blks := [] }), (.exit 0, { tmps := an 19 [], blks := [] })]
noncomputable def F_slices_Index_impl_Entry_impl_Entry (x : (List DT30) × DT30) : Option (Int) :=
 match runL step_slices_Index_impl_Entry_impl_Entry_0 ((x.1, ((x.1.length : Int), 0, (x.2.1, x.2.2.1.1.1.1, (x.2.2.1.1.1.2.1, x.2.2.1.1.1.2.2.1, (x.2.2.1.1.1.2.2.2.1, x.2.2.1.1.1.2.2.2.2.1, (x.2.2.1.1.1.2.2.2.2.2, x.2.2.1.1.2.1.1, (x.2.2.1.1.2.1.2, x.2.2.1.1.2.2.1.1, (x.2.2.1.1.2.2.1.2.1, x.2.2.1.1.2.2.1.2.2, (x.2.2.1.1.2.2.2.1, x.2.2.1.1.2.2.2.2, (x.2.2.1.2.1, x.2.2.1.2.2.1.1, (x.2.2.1.2.2.1.2.1, x.2.2.1.2.2.1.2.2.1, (x.2.2.1.2.2.1.2.2.2.1, x.2.2.1.2.2.1.2.2.2.2.1, (x.2.2.1.2.2.1.2.2.2.2.2, x.2.2.1.2.2.2.1.1, (x.2.2.1.2.2.2.1.2, x.2.2.1.2.2.2.2.1.1, (x.2.2.1.2.2.2.2.1.2.1, x.2.2.1.2.2.2.2.1.2.2, (x.2.2.1.2.2.2.2.2.1, x.2.2.1.2.2.2.2.2.2, x.2.2.2))))))))))))))))) with
 | none => none
 | some (.inl o3) =>
  some (o3)
 | some (.inr o3) =>
  some ((-1))
noncomputable def c_slices_Index_impl_Entry_impl_Entry : Con := { ps := [(.val, (.slice TY30)), (.val, TY30)], rs := [(.val, (.int .i64))], F := F_slices_Index_impl_Entry_impl_Entry }
noncomputable def env_slices_Index_impl_Entry_impl_Entry : Env := { par := [], dp := false, settle := [], con := fun _ => none, clo := fun _ => none, T := tinf Tryz.prog }
noncomputable def loops_slices_Index_impl_Entry_impl_Entry : Nat → Option Loop := fun n => match n with | 2 => some { pat := pat_slices_Index_impl_Entry_impl_Entry_0, outs := outs_slices_Index_impl_Entry_impl_Entry_0, run := runL (step_slices_Index_impl_Entry_impl_Entry_0) } | _ => none
theorem con_slices_Index_impl_Entry_impl_Entry : ConOK Tryz.prog 76 c_slices_Index_impl_Entry_impl_Entry := con_of_ev' (body := Tryz.f76.body.getD .skip) (Λ := loops_slices_Index_impl_Entry_impl_Entry) mixed Tryz.func76 (by kernel_rfl) (by kernel_rfl) (envOK_of (E := env_slices_Index_impl_Entry_impl_Entry) (fun f c h => by cases h) (fun f c h => by cases h) rfl) (by kernel_rfl) (by kernel_rfl) (fun n L h => by
  unfold loops_slices_Index_impl_Entry_impl_Entry at h
  split at h
  · cases h; exact fun s o ho => loop_ok (stepF := stepEv env_slices_Index_impl_Entry_impl_Entry loops_slices_Index_impl_Entry_impl_Entry pat_slices_Index_impl_Entry_impl_Entry_0 outs_slices_Index_impl_Entry_impl_Entry_0 Tryz.f76 2) (fun _ => by kernel_rfl) ho
  · cases h) (fun _ => by kernel_rfl)

noncomputable def F_slices_Contains_impl_Entry_impl_Entry (x : (List DT30) × DT30) : Option (Bool) :=
 match F_slices_Index_impl_Entry_impl_Entry (x) with
 | none => none
 | some y1 =>
  some ((decide (y1 ≥ 0)))
noncomputable def c_slices_Contains_impl_Entry_impl_Entry : Con := { ps := [(.val, (.slice TY30)), (.val, TY30)], rs := [(.val, .bool)], F := F_slices_Contains_impl_Entry_impl_Entry }
noncomputable def env_slices_Contains_impl_Entry_impl_Entry : Env := { par := [], dp := false, settle := [], con := fun f => match f with | 76 => some c_slices_Index_impl_Entry_impl_Entry | _ => none, clo := fun _ => none, T := tinf Tryz.prog }
noncomputable def loops_slices_Contains_impl_Entry_impl_Entry : Nat → Option Loop := fun n => none
theorem con_slices_Contains_impl_Entry_impl_Entry : ConOK Tryz.prog 42 c_slices_Contains_impl_Entry_impl_Entry := con_of_ev' (body := Tryz.f42.body.getD .skip) (Λ := loops_slices_Contains_impl_Entry_impl_Entry) mixed Tryz.func42 (by kernel_rfl) (by kernel_rfl) (envOK_of (E := env_slices_Contains_impl_Entry_impl_Entry) (fun f c h => by
  simp only [env_slices_Contains_impl_Entry_impl_Entry] at h
  split at h
  · cases h; exact con_slices_Index_impl_Entry_impl_Entry
  · cases h) (fun f c h => by cases h) rfl) (by kernel_rfl) (by kernel_rfl) (fun n L h => by cases h) (fun _ => by kernel_rfl)

noncomputable def F_impl_JoinEntries_1 (x : DT30 × (List DT30)) : Option (Bool) :=
 match F_slices_Contains_impl_Entry_impl_Entry ((x.2, x.1)) with
 | none => none
 | some y1 =>
  some (y1)
noncomputable def c_impl_JoinEntries_1 : Con := { ps := [(.val, TY30), (.val, (.ptr (.slice TY30)))], rs := [(.val, .bool)], F := F_impl_JoinEntries_1 }
noncomputable def env_impl_JoinEntries_1 : Env := { par := [], dp := false, settle := [], con := fun f => match f with | 42 => some c_slices_Contains_impl_Entry_impl_Entry | _ => none, clo := fun _ => none, T := tinf Tryz.prog }
noncomputable def loops_impl_JoinEntries_1 : Nat → Option Loop := fun n => none
theorem con_impl_JoinEntries_1 : ConOK Tryz.prog 41 c_impl_JoinEntries_1 := con_of_ev' (body := Tryz.f41.body.getD .skip) (Λ := loops_impl_JoinEntries_1) mixed Tryz.func41 (by kernel_rfl) (by kernel_rfl) (envOK_of (E := env_impl_JoinEntries_1) (fun f c h => by
  simp only [env_impl_JoinEntries_1] at h
  split at h
  · cases h; exact con_slices_Contains_impl_Entry_impl_Entry
  · cases h) (fun f c h => by cases h) rfl) (by kernel_rfl) (by kernel_rfl) (fun n L h => by cases h) (fun _ => by kernel_rfl)

noncomputable def step_impl_those_impl_Entry_0 (s : (DT30 → Option Bool) × (List DT30) × Int × Int × (List Int)) : Option (((DT30 → Option Bool) × (List DT30) × Int × Int × (List Int)) ⊕ (((List Int)))) :=
 bif (decide (s.2.2.2.1 < s.2.2.1)) then
  bif decide (0 ≤ s.2.2.2.1) && decide (s.2.2.2.1 < (s.2.1.length : Int)) then
   match s.1 ((s.2.1.getD (s.2.2.2.1).toNat dz30)) with
   | none => none
   | some y8 =>
    bif y8 then
     bif decide ((s.2.2.2.2.length + [s.2.2.2.1].length) * 8 ≤ 140737488355328) then
      let v9 := s.2.2.2.2 ++ [s.2.2.2.1]
      let v10 := IntKind.i64.wrap (s.2.2.2.1 + 1)
      some (.inl ((s.1, s.2.1, (s.2.2.1, v10, v9))))
     else none
    else
     let v11 := IntKind.i64.wrap (s.2.2.2.1 + 1)
     some (.inl ((s.1, s.2.1, (s.2.2.1, v11, s.2.2.2.2))))
  else none
 else
  some (.inr (s.2.2.2.2))
def pat_impl_those_impl_Entry_0 : Pat := { tmps := .any :: .v (.fn TY30 .bool) :: .any :: .any :: .any :: .own 1344 :: .any :: .any :: .v (.slice TY30) :: .v (.int .i64) :: .v (.int .i64) :: an 13 [], blks := [(1344, .row true (.int .i64))] }
def outs_impl_those_impl_Entry_0 : List (Exit × Pat) := [(.exit 0, { tmps := an 5 (.own 1344 :: an 18 []), blks := [(1344, .row true (.int .i64))] })]
noncomputable def F_impl_those_impl_Entry (x : (List DT30) × (DT30 → Option Bool)) : Option ((List Int)) :=
 match runL step_impl_those_impl_Entry_0 ((x.2, x.1, ((x.1.length : Int), 0, []))) with
 | none => none
 | some o12 =>
  some (o12)
noncomputable def c_impl_those_impl_Entry : Con := { ps := [(.val, (.slice TY30)), (.val, (.fn TY30 .bool))], rs := [(.io true, (.slice (.int .i64)))], F := F_impl_those_impl_Entry }
noncomputable def env_impl_those_impl_Entry : Env := { par := [], dp := false, settle := [], con := fun _ => none, clo := fun _ => none, T := tinf Tryz.prog }
noncomputable def loops_impl_those_impl_Entry : Nat → Option Loop := fun n => match n with | 3 => some { pat := pat_impl_those_impl_Entry_0, outs := outs_impl_those_impl_Entry_0, run := runL (step_impl_those_impl_Entry_0) } | _ => none
theorem con_impl_those_impl_Entry : ConOK Tryz.prog 40 c_impl_those_impl_Entry := con_of_ev' (body := Tryz.f40.body.getD .skip) (Λ := loops_impl_those_impl_Entry) mixed Tryz.func40 (by kernel_rfl) (by kernel_rfl) (envOK_of (E := env_impl_those_impl_Entry) (fun f c h => by cases h) (fun f c h => by cases h) rfl) (by kernel_rfl) (by kernel_rfl) (fun n L h => by
  unfold loops_impl_those_impl_Entry at h
  split at h
  · cases h; exact fun s o ho => loop_ok (stepF := stepEv env_impl_those_impl_Entry loops_impl_those_impl_Entry pat_impl_those_impl_Entry_0 outs_impl_those_impl_Entry_0 Tryz.f40 3) (fun _ => by kernel_rfl) ho
  · cases h) (fun _ => by kernel_rfl)

end Go.Proofs.YtklfnbckoaphpaaGreatDoor
