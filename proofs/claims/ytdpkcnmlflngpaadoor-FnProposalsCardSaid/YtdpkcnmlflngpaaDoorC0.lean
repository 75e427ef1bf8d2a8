/- Contracts of functions of the program, written by a program of this claim. No conditions. -/
import Derived.Test.YtdpkcnmlflngpaaDoorEvZk
import Derived.Test.YtdpkcnmlflngpaaDoorRows
import Derived.Shelf.Strings.Search1
import Derived.Test.YtdpkcnmlflngpaaDoorEvZl
import Derived.OwnWalk
import Derived.Lib.SliceRun
import Derived.WalkKit
import Derived.Deep.LoopGhost
import Derived.Lib.Walk
import Derived.Test.YtdpkcnmlflngpaaDoorEvZn
import Derived.Deep.RegionLaw
import Derived.Shelf.RegionOpenPlain
import Derived.Sort.WalkB12
import Derived.Lib.AppendIntMem
import Derived.Test.YtdpkcnmlflngpaaDoorShelf
import Derived.Test.YtdpkcnmlflngpaaDoorNu
set_option linter.unusedVariables false
set_option maxRecDepth 100000
namespace Go.Proofs.YtdpkcnmlflngpaaDoor
open Go
theorem mixed : Tryd.prog.follows .mixedOrders = true := by kernel_rfl
noncomputable def F_laws_big (x : (List Int) × (List Int)) : Option (Bool) :=
  bif (decide ((x.1.length : Int) > 1048576)) then
    some (true)
  else
    let v1 := IntKind.i64.wrap (1048576 - (x.1.length : Int))
    some ((decide ((x.2.length : Int) > v1)))
noncomputable def c_laws_big : Con := { ps := [(.val, (.slice (.int .u8))), (.val, (.slice (.int .u8)))], rs := [(.val, .bool)], F := F_laws_big }
noncomputable def env_laws_big : Env := { par := [], dp := false, settle := [], con := fun _ => none, clo := fun _ => none, T := tinf Tryd.prog }
noncomputable def loops_laws_big : Nat → Option Loop := fun n => none
theorem F_laws_big_eq (x : (List Int) × (List Int)) : Fev env_laws_big loops_laws_big c_laws_big.ps c_laws_big.rs Tryd.f4 x = F_laws_big x := by kernel_rfl
theorem env_laws_big_ok : EnvOK Tryd.prog env_laws_big := envOK_of (fun f c h => by cases h) (fun f c h => by cases h) rfl
theorem con_laws_big : ConOK Tryd.prog 4 c_laws_big := con_of_ev' (body := Tryd.f4.body.getD .skip) (Λ := loops_laws_big) mixed Tryd.func4 (by kernel_rfl) (by kernel_rfl) env_laws_big_ok (by kernel_rfl) (by kernel_rfl) (fun n L h => by cases h) F_laws_big_eq

noncomputable def F_spec_l1Cur_next (x : ((List Int) × (Int × Int))) : Option (((List Int) × (Int × Int)) × Int) :=
  bif (decide (x.2.1 < (x.1.length : Int))) then
    bif decide (0 ≤ x.2.1) && decide (x.2.1 < (x.1.length : Int)) then
      let v1 := IntKind.i64.wrap (x.1.getD (x.2.1).toNat 0)
      let v2 := IntKind.i64.wrap (x.2.1 + 1)
      let v3 := IntKind.u64.wrap (x.2.2 * 6364136223846793005)
      let v4 := IntKind.u64.wrap v1
      let v5 := IntKind.u64.wrap (v3 + v4)
      let v6 := IntKind.u64.wrap (v5 + 1442695040888963407)
      bif (decide (v2 ≤ (x.1.length : Int))) then
        some (((x.1, v2, v6), v1))
      else
        bif decide (0 ≤ (40 : Int)) then
          let v7 := (v6).fdiv (2 ^ (min (40 : Int).toNat IntKind.u64.bits))
          let v8 := IntKind.u64.wrap ((BitVec.ofInt IntKind.u64.bits (v7) &&& BitVec.ofInt IntKind.u64.bits (255)).toNat : Nat)
          let v9 := IntKind.i64.wrap v8
          some (((x.1, v2, v6), v9))
        else none
    else none
  else
    let v10 := IntKind.i64.wrap (x.2.1 + 1)
    let v11 := IntKind.u64.wrap (x.2.2 * 6364136223846793005)
    let v12 := IntKind.u64.wrap 0
    let v13 := IntKind.u64.wrap (v11 + v12)
    let v14 := IntKind.u64.wrap (v13 + 1442695040888963407)
    bif (decide (v10 ≤ (x.1.length : Int))) then
      some (((x.1, v10, v14), 0))
    else
      bif decide (0 ≤ (40 : Int)) then
        let v15 := (v14).fdiv (2 ^ (min (40 : Int).toNat IntKind.u64.bits))
        let v16 := IntKind.u64.wrap ((BitVec.ofInt IntKind.u64.bits (v15) &&& BitVec.ofInt IntKind.u64.bits (255)).toNat : Nat)
        let v17 := IntKind.i64.wrap v16
        some (((x.1, v10, v14), v17))
      else none
noncomputable def c_spec_l1Cur_next : Con := { ps := [(.io false, (.ptr (.st (.pair (.slice (.int .u8)) (.pair (.int .i64) (.int .u64))))))], rs := [(.val, (.int .i64))], F := F_spec_l1Cur_next }
noncomputable def env_spec_l1Cur_next : Env := { par := [63], dp := false, settle := [], con := fun _ => none, clo := fun _ => none, T := tinf Tryd.prog }
noncomputable def loops_spec_l1Cur_next : Nat → Option Loop := fun n => none
theorem F_spec_l1Cur_next_eq (x : ((List Int) × (Int × Int))) : Fev env_spec_l1Cur_next loops_spec_l1Cur_next c_spec_l1Cur_next.ps c_spec_l1Cur_next.rs Tryd.f64 x = F_spec_l1Cur_next x := by kernel_rfl
theorem env_spec_l1Cur_next_ok : EnvOK Tryd.prog env_spec_l1Cur_next := envOK_of (fun f c h => by cases h) (fun f c h => by cases h) rfl
theorem con_spec_l1Cur_next : ConOK Tryd.prog 64 c_spec_l1Cur_next := con_of_ev' (body := Tryd.f64.body.getD .skip) (Λ := loops_spec_l1Cur_next) mixed Tryd.func64 (by kernel_rfl) (by kernel_rfl) env_spec_l1Cur_next_ok (by kernel_rfl) (by kernel_rfl) (fun n L h => by cases h) F_spec_l1Cur_next_eq

noncomputable def F_spec_l1Cur_pick (x : ((List Int) × (Int × Int)) × Int) : Option (((List Int) × (Int × Int)) × Int) :=
  bif (decide (x.2 ≤ 1)) then
    some ((x.1, 0))
  else
    match F_spec_l1Cur_next (x.1) with
    | none => none
    | some y1 =>
      bif (decide (x.2 > 200)) then
        let v2 := IntKind.i64.wrap (y1.2 * 256)
        match F_spec_l1Cur_next (y1.1) with
        | none => none
        | some y3 =>
          let v4 := IntKind.i64.wrap (v2 + y3.2)
          bif !decide (x.2 = 0) then
            let v5 := (v4).tmod x.2
            some ((y3.1, v5))
          else none
      else
        bif !decide (x.2 = 0) then
          let v6 := (y1.2).tmod x.2
          some ((y1.1, v6))
        else none
noncomputable def c_spec_l1Cur_pick : Con := { ps := [(.io false, (.ptr (.st (.pair (.slice (.int .u8)) (.pair (.int .i64) (.int .u64)))))), (.val, (.int .i64))], rs := [(.val, (.int .i64))], F := F_spec_l1Cur_pick }
noncomputable def env_spec_l1Cur_pick : Env := { par := [63], dp := false, settle := [], con := fun f => match f with | 64 => some c_spec_l1Cur_next | _ => none, clo := fun _ => none, T := tinf Tryd.prog }
noncomputable def loops_spec_l1Cur_pick : Nat → Option Loop := fun n => none
theorem F_spec_l1Cur_pick_eq (x : ((List Int) × (Int × Int)) × Int) : Fev env_spec_l1Cur_pick loops_spec_l1Cur_pick c_spec_l1Cur_pick.ps c_spec_l1Cur_pick.rs Tryd.f47 x = F_spec_l1Cur_pick x := by kernel_rfl
theorem env_spec_l1Cur_pick_ok : EnvOK Tryd.prog env_spec_l1Cur_pick := envOK_of (fun f c h => by
  simp only [env_spec_l1Cur_pick] at h
  split at h
  · cases h; exact con_spec_l1Cur_next
  · cases h) (fun f c h => by cases h) rfl
theorem con_spec_l1Cur_pick : ConOK Tryd.prog 47 c_spec_l1Cur_pick := con_of_ev' (body := Tryd.f47.body.getD .skip) (Λ := loops_spec_l1Cur_pick) mixed Tryd.func47 (by kernel_rfl) (by kernel_rfl) env_spec_l1Cur_pick_ok (by kernel_rfl) (by kernel_rfl) (fun n L h => by cases h) F_spec_l1Cur_pick_eq

noncomputable def F_spec_l1Cur_among (x : ((List Int) × (Int × Int)) × (List Int)) : Option (((List Int) × (Int × Int)) × Int) :=
  match F_spec_l1Cur_pick ((x.1, (x.2.length : Int))) with
  | none => none
  | some y1 =>
    bif decide (0 ≤ y1.2) && decide (y1.2 < (x.2.length : Int)) then
      some ((y1.1, (x.2.getD (y1.2).toNat 0)))
    else none
noncomputable def c_spec_l1Cur_among : Con := { ps := [(.io false, (.ptr (.st (.pair (.slice (.int .u8)) (.pair (.int .i64) (.int .u64)))))), (.val, (.slice (.int .i64)))], rs := [(.val, (.int .i64))], F := F_spec_l1Cur_among }
noncomputable def env_spec_l1Cur_among : Env := { par := [63], dp := false, settle := [], con := fun f => match f with | 47 => some c_spec_l1Cur_pick | _ => none, clo := fun _ => none, T := tinf Tryd.prog }
noncomputable def loops_spec_l1Cur_among : Nat → Option Loop := fun n => none
theorem F_spec_l1Cur_among_eq (x : ((List Int) × (Int × Int)) × (List Int)) : Fev env_spec_l1Cur_among loops_spec_l1Cur_among c_spec_l1Cur_among.ps c_spec_l1Cur_among.rs Tryd.f23 x = F_spec_l1Cur_among x := by kernel_rfl
theorem env_spec_l1Cur_among_ok : EnvOK Tryd.prog env_spec_l1Cur_among := envOK_of (fun f c h => by
  simp only [env_spec_l1Cur_among] at h
  split at h
  · cases h; exact con_spec_l1Cur_pick
  · cases h) (fun f c h => by cases h) rfl
theorem con_spec_l1Cur_among : ConOK Tryd.prog 23 c_spec_l1Cur_among := con_of_ev' (body := Tryd.f23.body.getD .skip) (Λ := loops_spec_l1Cur_among) mixed Tryd.func23 (by kernel_rfl) (by kernel_rfl) env_spec_l1Cur_among_ok (by kernel_rfl) (by kernel_rfl) (fun n L h => by cases h) F_spec_l1Cur_among_eq

noncomputable def F_spec_l1Cur_one (x : ((List Int) × (Int × Int)) × Int) : Option (((List Int) × (Int × Int)) × Bool) :=
  match F_spec_l1Cur_pick (x) with
  | none => none
  | some y1 =>
    some ((y1.1, ((y1.2 == 0))))
noncomputable def c_spec_l1Cur_one : Con := { ps := [(.io false, (.ptr (.st (.pair (.slice (.int .u8)) (.pair (.int .i64) (.int .u64)))))), (.val, (.int .i64))], rs := [(.val, .bool)], F := F_spec_l1Cur_one }
noncomputable def env_spec_l1Cur_one : Env := { par := [63], dp := false, settle := [], con := fun f => match f with | 47 => some c_spec_l1Cur_pick | _ => none, clo := fun _ => none, T := tinf Tryd.prog }
noncomputable def loops_spec_l1Cur_one : Nat → Option Loop := fun n => none
theorem F_spec_l1Cur_one_eq (x : ((List Int) × (Int × Int)) × Int) : Fev env_spec_l1Cur_one loops_spec_l1Cur_one c_spec_l1Cur_one.ps c_spec_l1Cur_one.rs Tryd.f39 x = F_spec_l1Cur_one x := by kernel_rfl
theorem env_spec_l1Cur_one_ok : EnvOK Tryd.prog env_spec_l1Cur_one := envOK_of (fun f c h => by
  simp only [env_spec_l1Cur_one] at h
  split at h
  · cases h; exact con_spec_l1Cur_pick
  · cases h) (fun f c h => by cases h) rfl
theorem con_spec_l1Cur_one : ConOK Tryd.prog 39 c_spec_l1Cur_one := con_of_ev' (body := Tryd.f39.body.getD .skip) (Λ := loops_spec_l1Cur_one) mixed Tryd.func39 (by kernel_rfl) (by kernel_rfl) env_spec_l1Cur_one_ok (by kernel_rfl) (by kernel_rfl) (fun n L h => by cases h) F_spec_l1Cur_one_eq

noncomputable def F_spec_l1Cur_of (x : ((List Int) × (Int × Int)) × (List ByteArray)) : Option (((List Int) × (Int × Int)) × ByteArray) :=
  match F_spec_l1Cur_pick ((x.1, (x.2.length : Int))) with
  | none => none
  | some y1 =>
    bif decide (0 ≤ y1.2) && decide (y1.2 < (x.2.length : Int)) then
      some ((y1.1, (x.2.getD (y1.2).toNat ByteArray.empty)))
    else none
noncomputable def c_spec_l1Cur_of : Con := { ps := [(.io false, (.ptr (.st (.pair (.slice (.int .u8)) (.pair (.int .i64) (.int .u64)))))), (.val, (.slice .str))], rs := [(.val, .str)], F := F_spec_l1Cur_of }
noncomputable def env_spec_l1Cur_of : Env := { par := [63], dp := false, settle := [], con := fun f => match f with | 47 => some c_spec_l1Cur_pick | _ => none, clo := fun _ => none, T := tinf Tryd.prog }
noncomputable def loops_spec_l1Cur_of : Nat → Option Loop := fun n => none
theorem F_spec_l1Cur_of_eq (x : ((List Int) × (Int × Int)) × (List ByteArray)) : Fev env_spec_l1Cur_of loops_spec_l1Cur_of c_spec_l1Cur_of.ps c_spec_l1Cur_of.rs Tryd.f67 x = F_spec_l1Cur_of x := by kernel_rfl
theorem env_spec_l1Cur_of_ok : EnvOK Tryd.prog env_spec_l1Cur_of := envOK_of (fun f c h => by
  simp only [env_spec_l1Cur_of] at h
  split at h
  · cases h; exact con_spec_l1Cur_pick
  · cases h) (fun f c h => by cases h) rfl
theorem con_spec_l1Cur_of : ConOK Tryd.prog 67 c_spec_l1Cur_of := con_of_ev' (body := Tryd.f67.body.getD .skip) (Λ := loops_spec_l1Cur_of) mixed Tryd.func67 (by kernel_rfl) (by kernel_rfl) env_spec_l1Cur_of_ok (by kernel_rfl) (by kernel_rfl) (fun n L h => by cases h) F_spec_l1Cur_of_eq

noncomputable def F_spec_l1Cur_gloss (x : ((List Int) × (Int × Int))) : Option (((List Int) × (Int × Int)) × ByteArray) :=
  match F_spec_l1Cur_of ((x, [(⟨#[83, 85, 78]⟩ : ByteArray), (⟨#[72, 79, 85, 83, 69]⟩ : ByteArray), (⟨#[84, 82, 69, 69]⟩ : ByteArray), (⟨#[82, 65, 73, 78]⟩ : ByteArray), (⟨#[66, 79, 79, 75]⟩ : ByteArray), (⟨#[69, 73, 71, 72, 84, 76, 69, 84]⟩ : ByteArray)])) with
  | none => none
  | some y1 =>
    some (y1)
noncomputable def c_spec_l1Cur_gloss : Con := { ps := [(.io false, (.ptr (.st (.pair (.slice (.int .u8)) (.pair (.int .i64) (.int .u64))))))], rs := [(.val, .str)], F := F_spec_l1Cur_gloss }
noncomputable def env_spec_l1Cur_gloss : Env := { par := [63], dp := false, settle := [], con := fun f => match f with | 67 => some c_spec_l1Cur_of | _ => none, clo := fun _ => none, T := tinf Tryd.prog }
noncomputable def loops_spec_l1Cur_gloss : Nat → Option Loop := fun n => none
theorem F_spec_l1Cur_gloss_eq (x : ((List Int) × (Int × Int))) : Fev env_spec_l1Cur_gloss loops_spec_l1Cur_gloss c_spec_l1Cur_gloss.ps c_spec_l1Cur_gloss.rs Tryd.f59 x = F_spec_l1Cur_gloss x := by kernel_rfl
theorem env_spec_l1Cur_gloss_ok : EnvOK Tryd.prog env_spec_l1Cur_gloss := envOK_of (fun f c h => by
  simp only [env_spec_l1Cur_gloss] at h
  split at h
  · cases h; exact con_spec_l1Cur_of
  · cases h) (fun f c h => by cases h) rfl
theorem con_spec_l1Cur_gloss : ConOK Tryd.prog 59 c_spec_l1Cur_gloss := con_of_ev' (body := Tryd.f59.body.getD .skip) (Λ := loops_spec_l1Cur_gloss) mixed Tryd.func59 (by kernel_rfl) (by kernel_rfl) env_spec_l1Cur_gloss_ok (by kernel_rfl) (by kernel_rfl) (fun n L h => by cases h) F_spec_l1Cur_gloss_eq

noncomputable def F_spec_l1Cur_anyGloss (x : ((List Int) × (Int × Int))) : Option (((List Int) × (Int × Int)) × ByteArray) :=
  match F_spec_l1Cur_of ((x, [(⟨#[]⟩ : ByteArray), (⟨#[115, 117, 110]⟩ : ByteArray), (⟨#[78, 73, 78, 69, 76, 69, 84, 84, 69]⟩ : ByteArray), (⟨#[65, 49]⟩ : ByteArray), (⟨#[90, 79, 79]⟩ : ByteArray), (⟨#[65]⟩ : ByteArray)])) with
  | none => none
  | some y1 =>
    match F_spec_l1Cur_of ((y1.1, [(⟨#[83, 85, 78]⟩ : ByteArray), (⟨#[72, 79, 85, 83, 69]⟩ : ByteArray), (⟨#[84, 82, 69, 69]⟩ : ByteArray), (⟨#[82, 65, 73, 78]⟩ : ByteArray), (⟨#[66, 79, 79, 75]⟩ : ByteArray), (⟨#[83, 85, 78]⟩ : ByteArray), y1.2])) with
    | none => none
    | some y2 =>
      some (y2)
noncomputable def c_spec_l1Cur_anyGloss : Con := { ps := [(.io false, (.ptr (.st (.pair (.slice (.int .u8)) (.pair (.int .i64) (.int .u64))))))], rs := [(.val, .str)], F := F_spec_l1Cur_anyGloss }
noncomputable def env_spec_l1Cur_anyGloss : Env := { par := [63], dp := false, settle := [], con := fun f => match f with | 67 => some c_spec_l1Cur_of | _ => none, clo := fun _ => none, T := tinf Tryd.prog }
noncomputable def loops_spec_l1Cur_anyGloss : Nat → Option Loop := fun n => none
theorem F_spec_l1Cur_anyGloss_eq (x : ((List Int) × (Int × Int))) : Fev env_spec_l1Cur_anyGloss loops_spec_l1Cur_anyGloss c_spec_l1Cur_anyGloss.ps c_spec_l1Cur_anyGloss.rs Tryd.f60 x = F_spec_l1Cur_anyGloss x := by kernel_rfl
theorem env_spec_l1Cur_anyGloss_ok : EnvOK Tryd.prog env_spec_l1Cur_anyGloss := envOK_of (fun f c h => by
  simp only [env_spec_l1Cur_anyGloss] at h
  split at h
  · cases h; exact con_spec_l1Cur_of
  · cases h) (fun f c h => by cases h) rfl
theorem con_spec_l1Cur_anyGloss : ConOK Tryd.prog 60 c_spec_l1Cur_anyGloss := con_of_ev' (body := Tryd.f60.body.getD .skip) (Λ := loops_spec_l1Cur_anyGloss) mixed Tryd.func60 (by kernel_rfl) (by kernel_rfl) env_spec_l1Cur_anyGloss_ok (by kernel_rfl) (by kernel_rfl) (fun n L h => by cases h) F_spec_l1Cur_anyGloss_eq

noncomputable def step_spec_l1Cur_proposal_0 (s : Int × Bool × Int × Int × ByteArray × Int × Int × ByteArray × (List Int) × Int × Int × (List Int)) : Option ((Int × Bool × Int × Int × ByteArray × Int × Int × ByteArray × (List Int) × Int × Int × (List Int)) ⊕ ((Int × Int × Int × ByteArray × (List Int) × Int × Int × ByteArray × (List Int) × Int × Int))) :=
  bif (decide ((s.2.2.2.2.2.2.2.2.2.2.2.length : Int) < s.1)) then
    match F_spec_l1Cur_among (((s.2.2.2.2.2.2.2.2.1, s.2.2.2.2.2.2.2.2.2.1, s.2.2.2.2.2.2.2.2.2.2.1), [(-1), 0, 1])) with
    | none => none
    | some y11 =>
      bif s.2.1 then
        match F_spec_l1Cur_one ((y11.1, 2)) with
        | none => none
        | some y12 =>
          bif y12.2 then
            bif decide ((s.2.2.2.2.2.2.2.2.2.2.2.length + [1].length) * 8 ≤ 140737488355328) then
              let v13 := s.2.2.2.2.2.2.2.2.2.2.2 ++ [1]
              some (.inl ((s.1, (s.2.1, s.2.2.1, (s.2.2.2.1, s.2.2.2.2.1, (s.2.2.2.2.2.1, s.2.2.2.2.2.2.1, (s.2.2.2.2.2.2.2.1, y12.1.1, (y12.1.2.1, y12.1.2.2, v13))))))))
            else none
          else
            bif decide ((s.2.2.2.2.2.2.2.2.2.2.2.length + [y11.2].length) * 8 ≤ 140737488355328) then
              let v14 := s.2.2.2.2.2.2.2.2.2.2.2 ++ [y11.2]
              some (.inl ((s.1, (s.2.1, s.2.2.1, (s.2.2.2.1, s.2.2.2.2.1, (s.2.2.2.2.2.1, s.2.2.2.2.2.2.1, (s.2.2.2.2.2.2.2.1, y12.1.1, (y12.1.2.1, y12.1.2.2, v14))))))))
            else none
      else
        bif decide ((s.2.2.2.2.2.2.2.2.2.2.2.length + [y11.2].length) * 8 ≤ 140737488355328) then
          let v15 := s.2.2.2.2.2.2.2.2.2.2.2 ++ [y11.2]
          some (.inl ((s.1, (s.2.1, s.2.2.1, (s.2.2.2.1, s.2.2.2.2.1, (s.2.2.2.2.2.1, s.2.2.2.2.2.2.1, (s.2.2.2.2.2.2.2.1, y11.1.1, (y11.1.2.1, y11.1.2.2, v15))))))))
        else none
  else
    some (.inr ((s.1, s.2.2.1, (s.2.2.2.1, s.2.2.2.2.1, (s.2.2.2.2.2.2.2.2.2.2.2, s.2.2.2.2.2.1, (s.2.2.2.2.2.2.1, s.2.2.2.2.2.2.2.1, (s.2.2.2.2.2.2.2.2.1, s.2.2.2.2.2.2.2.2.2.1, s.2.2.2.2.2.2.2.2.2.2.1)))))))
def pat_spec_l1Cur_proposal_0 : Pat := { tmps := [.ptr 63 0, .any, .v (.int .i64), .any, .any, .any, .ptr 384 0, .ptr 448 0, .v .bool, .any, .any, .any, .any, .any, .any, .any, .any, .any, .any, .any, .any, .any, .any, .any, .any, .any, .any, .any, .any, .any, .any, .any, .any, .any, .any, .any, .any, .any, .any, .any, .any, .any, .any, .any, .any, .any, .any, .any, .any, .any, .any, .any, .any, .any, .any, .any, .any, .any, .any, .any, .any, .any, .any, .any, .any, .any, .any, .any, .any, .any, .any, .any], blks := [(448, .box [.v (.int .i64), .v (.int .i64), .v .str, .own 2240]), (384, .box [.v (.int .i64), .v (.int .i64), .v .str, .any]), (63, .box [.v (.slice (.int .u8)), .v (.int .i64), .v (.int .u64)]), (2240, .row true (.int .i64))] }
def outs_spec_l1Cur_proposal_0 : List (Exit × Pat) := [(.exit 0, { tmps := [.ptr 63 0, .any, .v (.int .i64), .any, .any, .any, .ptr 384 0, .ptr 448 0, .any, .any, .any, .any, .any, .any, .any, .any, .any, .any, .any, .any, .any, .any, .any, .any, .any, .any, .any, .any, .any, .any, .any, .any, .any, .any, .any, .any, .any, .any, .any, .any, .any, .any, .any, .any, .any, .any, .any, .any, .any, .any, .any, .any, .any, .any, .any, .any, .any, .any, .any, .any, .any, .any, .any, .any, .any, .any, .any, .any, .any, .any, .any, .any], blks := [(448, .box [.v (.int .i64), .v (.int .i64), .v .str, .own 2240]), (2240, .row true (.int .i64)), (384, .box [.v (.int .i64), .v (.int .i64), .v .str, .any]), (63, .box [.v (.slice (.int .u8)), .v (.int .i64), .v (.int .u64)])] })]
noncomputable def F_spec_l1Cur_proposal (x : ((List Int) × (Int × Int)) × Int × Int) : Option (((List Int) × (Int × Int)) × (Int × (Int × (ByteArray × (List Int))))) :=
  match F_spec_l1Cur_pick ((x.1, 2)) with
  | none => none
  | some y1 =>
    match F_spec_l1Cur_gloss (y1.1) with
    | none => none
    | some y2 =>
      match F_spec_l1Cur_one ((y2.1, 2)) with
      | none => none
      | some y3 =>
        match runL step_spec_l1Cur_proposal_0 ((x.2.2, (y3.2, x.2.1, (y1.2, y2.2, (0, 0, (ByteArray.empty, y3.1.1, (y3.1.2.1, y3.1.2.2, []))))))) with
        | none => none
        | some o16 =>
          match F_spec_l1Cur_one ((o16.2.2.2.2.2.2.2.2, 5)) with
          | none => none
          | some y17 =>
            bif y17.2 then
              bif decide (0 ≤ o16.1) && decide (o16.1 ≤ o16.1) && decide (o16.1 * (8 : Int) ≤ 140737488355328) then
                match F_spec_l1Cur_pick ((y17.1, 60)) with
                | none => none
                | some y18 =>
                  bif ((y18.2 == 0)) then
                    match F_spec_l1Cur_among ((y18.1, [0, 999, 1000])) with
                    | none => none
                    | some y19 =>
                      some ((y19.1, y19.2, (o16.2.2.1, o16.2.2.2.1, (List.replicate (o16.1).toNat ((0) : Int)))))
                  else
                    bif ((y18.2 == 1)) then
                      match F_spec_l1Cur_among ((y18.1, [(-1), 2])) with
                      | none => none
                      | some y20 =>
                        some ((y20.1, o16.2.1, (y20.2, o16.2.2.2.1, (List.replicate (o16.1).toNat ((0) : Int)))))
                    else
                      bif ((y18.2 == 2)) then
                        match F_spec_l1Cur_anyGloss (y18.1) with
                        | none => none
                        | some y21 =>
                          some ((y21.1, o16.2.1, (o16.2.2.1, y21.2, (List.replicate (o16.1).toNat ((0) : Int)))))
                      else
                        bif ((y18.2 == 3)) then
                          match F_spec_l1Cur_pick ((y18.1, 4)) with
                          | none => none
                          | some y22 =>
                            let v23 := IntKind.i64.wrap (y22.2 - 1)
                            bif decide (((List.replicate (o16.1).toNat ((0) : Int)).length + [v23].length) * 8 ≤ 140737488355328) then
                              let v24 := (List.replicate (o16.1).toNat ((0) : Int)) ++ [v23]
                              some ((y22.1, o16.2.1, (o16.2.2.1, o16.2.2.2.1, v24)))
                            else none
                        else
                          some ((y18.1, o16.2.1, (o16.2.2.1, o16.2.2.2.1, (List.replicate (o16.1).toNat ((0) : Int)))))
              else none
            else
              match F_spec_l1Cur_pick ((y17.1, 60)) with
              | none => none
              | some y25 =>
                bif ((y25.2 == 0)) then
                  match F_spec_l1Cur_among ((y25.1, [0, 999, 1000])) with
                  | none => none
                  | some y26 =>
                    some ((y26.1, y26.2, (o16.2.2.1, o16.2.2.2.1, o16.2.2.2.2.1)))
                else
                  bif ((y25.2 == 1)) then
                    match F_spec_l1Cur_among ((y25.1, [(-1), 2])) with
                    | none => none
                    | some y27 =>
                      some ((y27.1, o16.2.1, (y27.2, o16.2.2.2.1, o16.2.2.2.2.1)))
                  else
                    bif ((y25.2 == 2)) then
                      match F_spec_l1Cur_anyGloss (y25.1) with
                      | none => none
                      | some y28 =>
                        some ((y28.1, o16.2.1, (o16.2.2.1, y28.2, o16.2.2.2.2.1)))
                    else
                      bif ((y25.2 == 3)) then
                        match F_spec_l1Cur_pick ((y25.1, 4)) with
                        | none => none
                        | some y29 =>
                          let v30 := IntKind.i64.wrap (y29.2 - 1)
                          bif decide ((o16.2.2.2.2.1.length + [v30].length) * 8 ≤ 140737488355328) then
                            let v31 := o16.2.2.2.2.1 ++ [v30]
                            some ((y29.1, o16.2.1, (o16.2.2.1, o16.2.2.2.1, v31)))
                          else none
                      else
                        some ((y25.1, o16.2.1, (o16.2.2.1, o16.2.2.2.1, o16.2.2.2.2.1)))
noncomputable def c_spec_l1Cur_proposal : Con := { ps := [(.io false, (.ptr (.st (.pair (.slice (.int .u8)) (.pair (.int .i64) (.int .u64)))))), (.val, (.int .i64)), (.val, (.int .i64))], rs := [(.io true, (.st (.pair (.int .i64) (.pair (.int .i64) (.pair .str (.slice (.int .i64)))))))], F := F_spec_l1Cur_proposal }
noncomputable def env_spec_l1Cur_proposal : Env := { par := [63], dp := false, settle := [], con := fun f => match f with | 23 => some c_spec_l1Cur_among | 39 => some c_spec_l1Cur_one | 47 => some c_spec_l1Cur_pick | 59 => some c_spec_l1Cur_gloss | 60 => some c_spec_l1Cur_anyGloss | _ => none, clo := fun _ => none, T := tinf Tryd.prog }
noncomputable def loops_spec_l1Cur_proposal : Nat → Option Loop := fun n => match n with | 3 => some { pat := pat_spec_l1Cur_proposal_0, outs := outs_spec_l1Cur_proposal_0, run := runL (step_spec_l1Cur_proposal_0) } | _ => none
theorem step_spec_l1Cur_proposal_0_eq (s : Int × Bool × Int × Int × ByteArray × Int × Int × ByteArray × (List Int) × Int × Int × (List Int)) : stepEv env_spec_l1Cur_proposal loops_spec_l1Cur_proposal pat_spec_l1Cur_proposal_0 outs_spec_l1Cur_proposal_0 Tryd.f43 3 s = step_spec_l1Cur_proposal_0 s := by kernel_rfl
theorem F_spec_l1Cur_proposal_eq (x : ((List Int) × (Int × Int)) × Int × Int) : Fev env_spec_l1Cur_proposal loops_spec_l1Cur_proposal c_spec_l1Cur_proposal.ps c_spec_l1Cur_proposal.rs Tryd.f43 x = F_spec_l1Cur_proposal x := by kernel_rfl
theorem env_spec_l1Cur_proposal_ok : EnvOK Tryd.prog env_spec_l1Cur_proposal := envOK_of (fun f c h => by
  simp only [env_spec_l1Cur_proposal] at h
  split at h
  · cases h; exact con_spec_l1Cur_among
  · cases h; exact con_spec_l1Cur_one
  · cases h; exact con_spec_l1Cur_pick
  · cases h; exact con_spec_l1Cur_gloss
  · cases h; exact con_spec_l1Cur_anyGloss
  · cases h) (fun f c h => by cases h) rfl
theorem con_spec_l1Cur_proposal : ConOK Tryd.prog 43 c_spec_l1Cur_proposal := con_of_ev' (body := Tryd.f43.body.getD .skip) (Λ := loops_spec_l1Cur_proposal) mixed Tryd.func43 (by kernel_rfl) (by kernel_rfl) env_spec_l1Cur_proposal_ok (by kernel_rfl) (by kernel_rfl) (fun n L h => by
  unfold loops_spec_l1Cur_proposal at h
  split at h
  · cases h; exact fun s o ho => loop_ok (stepF := stepEv env_spec_l1Cur_proposal loops_spec_l1Cur_proposal pat_spec_l1Cur_proposal_0 outs_spec_l1Cur_proposal_0 Tryd.f43 3) (step_spec_l1Cur_proposal_0_eq) ho
  · cases h) F_spec_l1Cur_proposal_eq

noncomputable def step_spec_l1Cur_proposals_0 (s : Int × Int × Int × (List Int) × Int × Int × (List (Int × (Int × (ByteArray × (List Int)))))) : Option ((Int × Int × Int × (List Int) × Int × Int × (List (Int × (Int × (ByteArray × (List Int)))))) ⊕ ((Int × Int × (List (Int × (Int × (ByteArray × (List Int))))) × (List Int) × Int × Int))) :=
  bif (decide ((s.2.2.2.2.2.2.length : Int) < s.2.1)) then
    match F_spec_l1Cur_proposal (((s.2.2.2.1, s.2.2.2.2.1, s.2.2.2.2.2.1), s.2.2.1, s.1)) with
    | none => none
    | some y36 =>
      bif decide ((s.2.2.2.2.2.2.length + ([y36.2] : List ((Int × (Int × (ByteArray × (List Int)))))).length) * 56 ≤ 140737488355328) && true && true then
        let v37 := s.2.2.2.2.2.2 ++ ([y36.2] : List ((Int × (Int × (ByteArray × (List Int))))))
        match F_spec_l1Cur_pick ((y36.1, 3)) with
        | none => none
        | some y38 =>
          let v39 := IntKind.i64.wrap (1 + y38.2)
          let v40 := IntKind.i64.wrap (s.2.2.1 + v39)
          some (.inl ((s.1, s.2.1, (v40, y38.1.1, (y38.1.2.1, y38.1.2.2, v37)))))
      else none
  else
    some (.inr ((s.1, (s.2.1, s.2.2.2.2.2.2, (s.2.2.2.1, s.2.2.2.2.1, s.2.2.2.2.2.1)))))
def pat_spec_l1Cur_proposals_0 : Pat := { tmps := [.ptr 63 0, .any, .any, .any, .v (.int .i64), .own 2112, .v (.int .i64), .v (.int .i64), .any, .any, .any, .any, .any, .any, .any, .any, .any, .any, .any, .any, .any, .any, .any, .any, .any, .any, .any, .any, .any, .any, .any, .any, .any, .any, .any, .any, .any, .any, .any, .any, .any, .any, .any, .any, .any, .any, .any, .any, .any, .any, .any, .any, .any, .any, .any, .any], blks := [(63, .box [.v (.slice (.int .u8)), .v (.int .i64), .v (.int .u64)]), (2112, .row true (.st (.pair (.int .i64) (.pair (.int .i64) (.pair .str (.slice (.int .i64)))))))] }
def outs_spec_l1Cur_proposals_0 : List (Exit × Pat) := [(.exit 0, { tmps := [.ptr 63 0, .any, .any, .any, .v (.int .i64), .own 2112, .v (.int .i64), .any, .any, .any, .any, .any, .any, .any, .any, .any, .any, .any, .any, .any, .any, .any, .any, .any, .any, .any, .any, .any, .any, .any, .any, .any, .any, .any, .any, .any, .any, .any, .any, .any, .any, .any, .any, .any, .any, .any, .any, .any, .any, .any, .any, .any, .any, .any, .any, .any], blks := [(2112, .row true (.st (.pair (.int .i64) (.pair (.int .i64) (.pair .str (.slice (.int .i64))))))), (63, .box [.v (.slice (.int .u8)), .v (.int .i64), .v (.int .u64)])] })]
noncomputable def F_spec_l1Cur_proposals (x : ((List Int) × (Int × Int))) : Option (((List Int) × (Int × Int)) × (List (Int × (Int × (ByteArray × (List Int))))) × Int) :=
  match F_spec_l1Cur_among ((x, [1, 2, 3, 3, 5, 7])) with
  | none => none
  | some y1 =>
    match F_spec_l1Cur_pick ((y1.1, 6)) with
    | none => none
    | some y2 =>
      match F_spec_l1Cur_one ((y2.1, 12)) with
      | none => none
      | some y3 =>
        bif y3.2 then
          match F_spec_l1Cur_pick ((y3.1, 2)) with
          | none => none
          | some y4 =>
            let v5 := IntKind.i64.wrap (12 + y4.2)
            match runL step_spec_l1Cur_proposals_0 ((y1.2, v5, (1, y4.1.1, (y4.1.2.1, y4.1.2.2, [])))) with
            | none => none
            | some o20 =>
              match F_spec_l1Cur_pick ((o20.2.2.2, 24)) with
              | none => none
              | some y21 =>
                bif ((y21.2 == 0)) then
                  bif (decide (o20.2.1 > 0)) then
                    let v22 := IntKind.i64.wrap (o20.2.1 - 1)
                    match F_spec_l1Cur_proposal ((y21.1, 999, o20.1)) with
                    | none => none
                    | some y23 =>
                      bif decide (0 ≤ v22) && decide (v22 < (o20.2.2.1.length : Int)) then
                        let v24 := o20.2.2.1.set (v22).toNat (y23.2)
                        some ((y23.1, v24, o20.1))
                      else none
                  else
                    some ((y21.1, o20.2.2.1, o20.1))
                else
                  bif ((y21.2 == 1)) then
                    let v25 := IntKind.i64.wrap (o20.1 + 1)
                    match F_spec_l1Cur_among ((y21.1, [0, 8, v25, (-1)])) with
                    | none => none
                    | some y26 =>
                      some ((y26.1, o20.2.2.1, y26.2))
                  else
                    some ((y21.1, o20.2.2.1, o20.1))
        else
          match runL step_spec_l1Cur_proposals_0 ((y1.2, y2.2, (1, y3.1.1, (y3.1.2.1, y3.1.2.2, [])))) with
          | none => none
          | some o41 =>
            match F_spec_l1Cur_pick ((o41.2.2.2, 24)) with
            | none => none
            | some y42 =>
              bif ((y42.2 == 0)) then
                bif (decide (o41.2.1 > 0)) then
                  let v43 := IntKind.i64.wrap (o41.2.1 - 1)
                  match F_spec_l1Cur_proposal ((y42.1, 999, o41.1)) with
                  | none => none
                  | some y44 =>
                    bif decide (0 ≤ v43) && decide (v43 < (o41.2.2.1.length : Int)) then
                      let v45 := o41.2.2.1.set (v43).toNat (y44.2)
                      some ((y44.1, v45, o41.1))
                    else none
                else
                  some ((y42.1, o41.2.2.1, o41.1))
              else
                bif ((y42.2 == 1)) then
                  let v46 := IntKind.i64.wrap (o41.1 + 1)
                  match F_spec_l1Cur_among ((y42.1, [0, 8, v46, (-1)])) with
                  | none => none
                  | some y47 =>
                    some ((y47.1, o41.2.2.1, y47.2))
                else
                  some ((y42.1, o41.2.2.1, o41.1))
noncomputable def c_spec_l1Cur_proposals : Con := { ps := [(.io false, (.ptr (.st (.pair (.slice (.int .u8)) (.pair (.int .i64) (.int .u64))))))], rs := [(.val, (.slice (.st (.pair (.int .i64) (.pair (.int .i64) (.pair .str (.slice (.int .i64)))))))), (.val, (.int .i64))], F := F_spec_l1Cur_proposals }
noncomputable def env_spec_l1Cur_proposals : Env := { par := [63], dp := true, settle := [], con := fun f => match f with | 23 => some c_spec_l1Cur_among | 39 => some c_spec_l1Cur_one | 43 => some c_spec_l1Cur_proposal | 47 => some c_spec_l1Cur_pick | _ => none, clo := fun _ => none, T := tinf Tryd.prog }
noncomputable def loops_spec_l1Cur_proposals : Nat → Option Loop := fun n => match n with | 7 => some { pat := pat_spec_l1Cur_proposals_0, outs := outs_spec_l1Cur_proposals_0, run := runL (step_spec_l1Cur_proposals_0) } | _ => none
theorem step_spec_l1Cur_proposals_0_eq (s : Int × Int × Int × (List Int) × Int × Int × (List (Int × (Int × (ByteArray × (List Int)))))) : stepEv env_spec_l1Cur_proposals loops_spec_l1Cur_proposals pat_spec_l1Cur_proposals_0 outs_spec_l1Cur_proposals_0 Tryd.f21 7 s = step_spec_l1Cur_proposals_0 s := by kernel_rfl
theorem F_spec_l1Cur_proposals_eq (x : ((List Int) × (Int × Int))) : Fev env_spec_l1Cur_proposals loops_spec_l1Cur_proposals c_spec_l1Cur_proposals.ps c_spec_l1Cur_proposals.rs Tryd.f21 x = F_spec_l1Cur_proposals x := by kernel_rfl
theorem env_spec_l1Cur_proposals_ok : EnvOK Tryd.prog env_spec_l1Cur_proposals := envOK_of (fun f c h => by
  simp only [env_spec_l1Cur_proposals] at h
  split at h
  · cases h; exact con_spec_l1Cur_among
  · cases h; exact con_spec_l1Cur_one
  · cases h; exact con_spec_l1Cur_proposal
  · cases h; exact con_spec_l1Cur_pick
  · cases h) (fun f c h => by cases h) rfl
theorem con_spec_l1Cur_proposals : ConOK Tryd.prog 21 c_spec_l1Cur_proposals := con_of_ev' (body := Tryd.f21.body.getD .skip) (Λ := loops_spec_l1Cur_proposals) mixed Tryd.func21 (by kernel_rfl) (by kernel_rfl) env_spec_l1Cur_proposals_ok (by kernel_rfl) (by kernel_rfl) (fun n L h => by
  unfold loops_spec_l1Cur_proposals at h
  split at h
  · cases h; exact fun s o ho => loop_ok (stepF := stepEv env_spec_l1Cur_proposals loops_spec_l1Cur_proposals pat_spec_l1Cur_proposals_0 outs_spec_l1Cur_proposals_0 Tryd.f21 7) (step_spec_l1Cur_proposals_0_eq) ho
  · cases h) F_spec_l1Cur_proposals_eq

noncomputable def F_spec_l1Cur_numberIn (x : ((List Int) × (Int × Int)) × (List (Int × (Int × (ByteArray × (List Int)))))) : Option (((List Int) × (Int × Int)) × Int) :=
  bif (decide ((x.2.length : Int) > 0)) then
    match F_spec_l1Cur_one ((x.1, 8)) with
    | none => none
    | some y1 =>
      bif (!y1.2) then
        match F_spec_l1Cur_pick ((y1.1, (x.2.length : Int))) with
        | none => none
        | some y2 =>
          bif decide (0 ≤ y2.2) && decide (y2.2 < (x.2.length : Int)) then
            some ((y2.1, (x.2.getD (y2.2).toNat (0, (0, ByteArray.empty, []))).1))
          else none
      else
        match F_spec_l1Cur_among ((y1.1, [1, 0, 50, (-1)])) with
        | none => none
        | some y3 =>
          some (y3)
  else
    match F_spec_l1Cur_among ((x.1, [1, 0, 50, (-1)])) with
    | none => none
    | some y4 =>
      some (y4)
noncomputable def c_spec_l1Cur_numberIn : Con := { ps := [(.io false, (.ptr (.st (.pair (.slice (.int .u8)) (.pair (.int .i64) (.int .u64)))))), (.val, (.slice (.st (.pair (.int .i64) (.pair (.int .i64) (.pair .str (.slice (.int .i64))))))))], rs := [(.val, (.int .i64))], F := F_spec_l1Cur_numberIn }
noncomputable def env_spec_l1Cur_numberIn : Env := { par := [63], dp := false, settle := [], con := fun f => match f with | 23 => some c_spec_l1Cur_among | 39 => some c_spec_l1Cur_one | 47 => some c_spec_l1Cur_pick | _ => none, clo := fun _ => none, T := tinf Tryd.prog }
noncomputable def loops_spec_l1Cur_numberIn : Nat → Option Loop := fun n => none
theorem F_spec_l1Cur_numberIn_eq (x : ((List Int) × (Int × Int)) × (List (Int × (Int × (ByteArray × (List Int)))))) : Fev env_spec_l1Cur_numberIn loops_spec_l1Cur_numberIn c_spec_l1Cur_numberIn.ps c_spec_l1Cur_numberIn.rs Tryd.f22 x = F_spec_l1Cur_numberIn x := by kernel_rfl
theorem env_spec_l1Cur_numberIn_ok : EnvOK Tryd.prog env_spec_l1Cur_numberIn := envOK_of (fun f c h => by
  simp only [env_spec_l1Cur_numberIn] at h
  split at h
  · cases h; exact con_spec_l1Cur_among
  · cases h; exact con_spec_l1Cur_one
  · cases h; exact con_spec_l1Cur_pick
  · cases h) (fun f c h => by cases h) rfl
theorem con_spec_l1Cur_numberIn : ConOK Tryd.prog 22 c_spec_l1Cur_numberIn := con_of_ev' (body := Tryd.f22.body.getD .skip) (Λ := loops_spec_l1Cur_numberIn) mixed Tryd.func22 (by kernel_rfl) (by kernel_rfl) env_spec_l1Cur_numberIn_ok (by kernel_rfl) (by kernel_rfl) (fun n L h => by cases h) F_spec_l1Cur_numberIn_eq

noncomputable def F_spec_DrawCastVote (x : (List Int)) : Option ((List (Int × (Int × (ByteArray × (List Int))))) × Int × Int × Int × Int) :=
  match F_spec_l1Cur_proposals ((x, 0, 0)) with
  | none => none
  | some y1 =>
    match F_spec_l1Cur_numberIn ((y1.1, y1.2.1)) with
    | none => none
    | some y2 =>
      let v3 := IntKind.i64.wrap (y1.2.2 - 1)
      match F_spec_l1Cur_among ((y2.1, [0, y1.2.2, (-1)])) with
      | none => none
      | some y4 =>
        match F_spec_l1Cur_among ((y4.1, [0, 1, v3, y4.2])) with
        | none => none
        | some y5 =>
          match F_spec_l1Cur_among ((y5.1, [(-1), 0, 2])) with
          | none => none
          | some y6 =>
            match F_spec_l1Cur_among ((y6.1, [1, (-1), 1, y6.2])) with
            | none => none
            | some y7 =>
              some ((y1.2.1, y1.2.2, (y2.2, y5.2, y7.2)))
noncomputable def c_spec_DrawCastVote : Con := { ps := [(.val, (.slice (.int .u8)))], rs := [(.val, (.slice (.st (.pair (.int .i64) (.pair (.int .i64) (.pair .str (.slice (.int .i64)))))))), (.val, (.int .i64)), (.val, (.int .i64)), (.val, (.int .i64)), (.val, (.int .i64))], F := F_spec_DrawCastVote }
noncomputable def env_spec_DrawCastVote : Env := { par := [], dp := false, settle := [], con := fun f => match f with | 21 => some c_spec_l1Cur_proposals | 22 => some c_spec_l1Cur_numberIn | 23 => some c_spec_l1Cur_among | _ => none, clo := fun _ => none, T := tinf Tryd.prog }
noncomputable def loops_spec_DrawCastVote : Nat → Option Loop := fun n => none
theorem F_spec_DrawCastVote_eq (x : (List Int)) : Fev env_spec_DrawCastVote loops_spec_DrawCastVote c_spec_DrawCastVote.ps c_spec_DrawCastVote.rs Tryd.f5 x = F_spec_DrawCastVote x := by kernel_rfl
theorem env_spec_DrawCastVote_ok : EnvOK Tryd.prog env_spec_DrawCastVote := envOK_of (fun f c h => by
  simp only [env_spec_DrawCastVote] at h
  split at h
  · cases h; exact con_spec_l1Cur_proposals
  · cases h; exact con_spec_l1Cur_numberIn
  · cases h; exact con_spec_l1Cur_among
  · cases h) (fun f c h => by cases h) rfl
theorem con_spec_DrawCastVote : ConOK Tryd.prog 5 c_spec_DrawCastVote := con_of_ev' (body := Tryd.f5.body.getD .skip) (Λ := loops_spec_DrawCastVote) mixed Tryd.func5 (by kernel_rfl) (by kernel_rfl) env_spec_DrawCastVote_ok (by kernel_rfl) (by kernel_rfl) (fun n L h => by cases h) F_spec_DrawCastVote_eq

noncomputable def F_impl_proposalAt_1 (x : (Int × (Int × (ByteArray × (List Int)))) × Int) : Option (Bool) :=
  some (((x.1.1 == x.2)))
noncomputable def c_impl_proposalAt_1 : Con := { ps := [(.val, (.st (.pair (.int .i64) (.pair (.int .i64) (.pair .str (.slice (.int .i64))))))), (.val, (.ptr (.int .i64)))], rs := [(.val, .bool)], F := F_impl_proposalAt_1 }
noncomputable def env_impl_proposalAt_1 : Env := { par := [], dp := false, settle := [], con := fun _ => none, clo := fun _ => none, T := tinf Tryd.prog }
noncomputable def loops_impl_proposalAt_1 : Nat → Option Loop := fun n => none
theorem F_impl_proposalAt_1_eq (x : (Int × (Int × (ByteArray × (List Int)))) × Int) : Fev env_impl_proposalAt_1 loops_impl_proposalAt_1 c_impl_proposalAt_1.ps c_impl_proposalAt_1.rs Tryd.f49 x = F_impl_proposalAt_1 x := by kernel_rfl
theorem env_impl_proposalAt_1_ok : EnvOK Tryd.prog env_impl_proposalAt_1 := envOK_of (fun f c h => by cases h) (fun f c h => by cases h) rfl
theorem con_impl_proposalAt_1 : ConOK Tryd.prog 49 c_impl_proposalAt_1 := con_of_ev' (body := Tryd.f49.body.getD .skip) (Λ := loops_impl_proposalAt_1) mixed Tryd.func49 (by kernel_rfl) (by kernel_rfl) env_impl_proposalAt_1_ok (by kernel_rfl) (by kernel_rfl) (fun n L h => by cases h) F_impl_proposalAt_1_eq

noncomputable def step_slices_IndexFunc_impl_Proposal_impl_Proposal_0 (s : (List (Int × (Int × (ByteArray × (List Int))))) × ((Int × (Int × (ByteArray × (List Int)))) → Option Bool) × Int × Int) : Option (((List (Int × (Int × (ByteArray × (List Int))))) × ((Int × (Int × (ByteArray × (List Int)))) → Option Bool) × Int × Int) ⊕ ((Int) ⊕ (Unit))) :=
  bif (decide (s.2.2.2 < s.2.2.1)) then
    bif decide (0 ≤ s.2.2.2) && decide (s.2.2.2 < (s.1.length : Int)) then
      match s.2.1 ((s.1.getD (s.2.2.2).toNat (0, (0, ByteArray.empty, [])))) with
      | none => none
      | some y3 =>
        bif y3 then
          some (.inr (.inl (s.2.2.2)))
        else
          let v4 := IntKind.i64.wrap (s.2.2.2 + 1)
          some (.inl ((s.1, (s.2.1, s.2.2.1, v4))))
    else none
  else
    some (.inr (.inr (())))
def pat_slices_IndexFunc_impl_Proposal_impl_Proposal_0 : Pat := { tmps := [.v (.slice (.st (.pair (.int .i64) (.pair (.int .i64) (.pair .str (.slice (.int .i64))))))), .v (.fn (.st (.pair (.int .i64) (.pair (.int .i64) (.pair .str (.slice (.int .i64)))))) .bool), .any, .any, .any, .any, .any, .v (.int .i64), .v (.int .i64), .any, .any, .any, .any, .any, .any, .any, .any, .any, .any], blks := [] }
def outs_slices_IndexFunc_impl_Proposal_impl_Proposal_0 : List (Exit × Pat) := [(.ret, { tmps := [.any, .any, .any, .any, .v (.int .i64), .any, .any, .any, .any, .any, .any, .any, .any, .any, .any, .any, .any, .any, .any], blks := [] }), (.exit 0, { tmps := [.any, .any, .any, .any, .any, .any, .any, .any, .any, .any, .any, .any, .any, .any, .any, .any, .any, .any, .any], blks := [] })]
noncomputable def F_slices_IndexFunc_impl_Proposal_impl_Proposal (x : (List (Int × (Int × (ByteArray × (List Int))))) × ((Int × (Int × (ByteArray × (List Int)))) → Option Bool)) : Option (Int) :=
  match runL step_slices_IndexFunc_impl_Proposal_impl_Proposal_0 ((x.1, (x.2, (x.1.length : Int), 0))) with
  | none => none
  | some (.inl o5) =>
    some (o5)
  | some (.inr o5) =>
    some ((-1))
noncomputable def c_slices_IndexFunc_impl_Proposal_impl_Proposal : Con := { ps := [(.val, (.slice (.st (.pair (.int .i64) (.pair (.int .i64) (.pair .str (.slice (.int .i64)))))))), (.val, (.fn (.st (.pair (.int .i64) (.pair (.int .i64) (.pair .str (.slice (.int .i64)))))) .bool))], rs := [(.val, (.int .i64))], F := F_slices_IndexFunc_impl_Proposal_impl_Proposal }
noncomputable def env_slices_IndexFunc_impl_Proposal_impl_Proposal : Env := { par := [], dp := false, settle := [], con := fun _ => none, clo := fun _ => none, T := tinf Tryd.prog }
noncomputable def loops_slices_IndexFunc_impl_Proposal_impl_Proposal : Nat → Option Loop := fun n => match n with | 2 => some { pat := pat_slices_IndexFunc_impl_Proposal_impl_Proposal_0, outs := outs_slices_IndexFunc_impl_Proposal_impl_Proposal_0, run := runL (step_slices_IndexFunc_impl_Proposal_impl_Proposal_0) } | _ => none
theorem step_slices_IndexFunc_impl_Proposal_impl_Proposal_0_eq (s : (List (Int × (Int × (ByteArray × (List Int))))) × ((Int × (Int × (ByteArray × (List Int)))) → Option Bool) × Int × Int) : stepEv env_slices_IndexFunc_impl_Proposal_impl_Proposal loops_slices_IndexFunc_impl_Proposal_impl_Proposal pat_slices_IndexFunc_impl_Proposal_impl_Proposal_0 outs_slices_IndexFunc_impl_Proposal_impl_Proposal_0 Tryd.f48 2 s = step_slices_IndexFunc_impl_Proposal_impl_Proposal_0 s := by kernel_rfl
theorem F_slices_IndexFunc_impl_Proposal_impl_Proposal_eq (x : (List (Int × (Int × (ByteArray × (List Int))))) × ((Int × (Int × (ByteArray × (List Int)))) → Option Bool)) : Fev env_slices_IndexFunc_impl_Proposal_impl_Proposal loops_slices_IndexFunc_impl_Proposal_impl_Proposal c_slices_IndexFunc_impl_Proposal_impl_Proposal.ps c_slices_IndexFunc_impl_Proposal_impl_Proposal.rs Tryd.f48 x = F_slices_IndexFunc_impl_Proposal_impl_Proposal x := by kernel_rfl
theorem env_slices_IndexFunc_impl_Proposal_impl_Proposal_ok : EnvOK Tryd.prog env_slices_IndexFunc_impl_Proposal_impl_Proposal := envOK_of (fun f c h => by cases h) (fun f c h => by cases h) rfl
theorem con_slices_IndexFunc_impl_Proposal_impl_Proposal : ConOK Tryd.prog 48 c_slices_IndexFunc_impl_Proposal_impl_Proposal := con_of_ev' (body := Tryd.f48.body.getD .skip) (Λ := loops_slices_IndexFunc_impl_Proposal_impl_Proposal) mixed Tryd.func48 (by kernel_rfl) (by kernel_rfl) env_slices_IndexFunc_impl_Proposal_impl_Proposal_ok (by kernel_rfl) (by kernel_rfl) (fun n L h => by
  unfold loops_slices_IndexFunc_impl_Proposal_impl_Proposal at h
  split at h
  · cases h; exact fun s o ho => loop_ok (stepF := stepEv env_slices_IndexFunc_impl_Proposal_impl_Proposal loops_slices_IndexFunc_impl_Proposal_impl_Proposal pat_slices_IndexFunc_impl_Proposal_impl_Proposal_0 outs_slices_IndexFunc_impl_Proposal_impl_Proposal_0 Tryd.f48 2) (step_slices_IndexFunc_impl_Proposal_impl_Proposal_0_eq) ho
  · cases h) F_slices_IndexFunc_impl_Proposal_impl_Proposal_eq

noncomputable def K_impl_proposalAt_1 (q : Int) (x : (Int × (Int × (ByteArray × (List Int))))) : Option (Bool) := F_impl_proposalAt_1 (x, q)
noncomputable def k_impl_proposalAt_1 : CloCon := { caps := [(.int .i64)], a := (.st (.pair (.int .i64) (.pair (.int .i64) (.pair .str (.slice (.int .i64)))))), r := .bool, F := K_impl_proposalAt_1 }
theorem clo_impl_proposalAt_1 : CloOK Tryd.prog 49 k_impl_proposalAt_1 := clo_of_con k_impl_proposalAt_1 F_impl_proposalAt_1 con_impl_proposalAt_1 rfl (fun kx x y h => ⟨y, h, rfl⟩)
noncomputable def F_impl_proposalAt (x : (List (Int × (Int × (ByteArray × (List Int))))) × Int) : Option (Int) :=
  match F_slices_IndexFunc_impl_Proposal_impl_Proposal ((x.1, (K_impl_proposalAt_1 x.2))) with
  | none => none
  | some y1 =>
    some (y1)
noncomputable def c_impl_proposalAt : Con := { ps := [(.val, (.slice (.st (.pair (.int .i64) (.pair (.int .i64) (.pair .str (.slice (.int .i64)))))))), (.val, (.int .i64))], rs := [(.val, (.int .i64))], F := F_impl_proposalAt }
noncomputable def env_impl_proposalAt : Env := { par := [], dp := false, settle := [], con := fun f => match f with | 48 => some c_slices_IndexFunc_impl_Proposal_impl_Proposal | _ => none, clo := fun f => match f with | 49 => some k_impl_proposalAt_1 | _ => none, T := tinf Tryd.prog }
noncomputable def loops_impl_proposalAt : Nat → Option Loop := fun n => none
theorem F_impl_proposalAt_eq (x : (List (Int × (Int × (ByteArray × (List Int))))) × Int) : Fev env_impl_proposalAt loops_impl_proposalAt c_impl_proposalAt.ps c_impl_proposalAt.rs Tryd.f24 x = F_impl_proposalAt x := by kernel_rfl
theorem env_impl_proposalAt_ok : EnvOK Tryd.prog env_impl_proposalAt := envOK_of (fun f c h => by
  simp only [env_impl_proposalAt] at h
  split at h
  · cases h; exact con_slices_IndexFunc_impl_Proposal_impl_Proposal
  · cases h) (fun f c h => by
  simp only [env_impl_proposalAt] at h
  split at h
  · cases h; exact clo_impl_proposalAt_1
  · cases h) rfl
theorem con_impl_proposalAt : ConOK Tryd.prog 24 c_impl_proposalAt := con_of_ev' (body := Tryd.f24.body.getD .skip) (Λ := loops_impl_proposalAt) mixed Tryd.func24 (by kernel_rfl) (by kernel_rfl) env_impl_proposalAt_ok (by kernel_rfl) (by kernel_rfl) (fun n L h => by cases h) F_impl_proposalAt_eq

noncomputable def F_impl_within (x : Int × Int × Int) : Option (Bool) :=
  bif (decide (x.1 ≥ x.2.1)) then
    some ((decide (x.1 ≤ x.2.2)))
  else
    some (false)
noncomputable def c_impl_within : Con := { ps := [(.val, (.int .i64)), (.val, (.int .i64)), (.val, (.int .i64))], rs := [(.val, .bool)], F := F_impl_within }
noncomputable def env_impl_within : Env := { par := [], dp := false, settle := [], con := fun _ => none, clo := fun _ => none, T := tinf Tryd.prog }
noncomputable def loops_impl_within : Nat → Option Loop := fun n => none
theorem F_impl_within_eq (x : Int × Int × Int) : Fev env_impl_within loops_impl_within c_impl_within.ps c_impl_within.rs Tryd.f25 x = F_impl_within x := by kernel_rfl
theorem env_impl_within_ok : EnvOK Tryd.prog env_impl_within := envOK_of (fun f c h => by cases h) (fun f c h => by cases h) rfl
theorem con_impl_within : ConOK Tryd.prog 25 c_impl_within := con_of_ev' (body := Tryd.f25.body.getD .skip) (Λ := loops_impl_within) mixed Tryd.func25 (by kernel_rfl) (by kernel_rfl) env_impl_within_ok (by kernel_rfl) (by kernel_rfl) (fun n L h => by cases h) F_impl_within_eq

set_option maxHeartbeats 1000000 in
theorem calls_strings_IndexByte (s : ByteArray) (c : Int) (w : World) :
    Calls Tryd.prog 74 #[.string s, .int .u8 c] w fun e w' => e = .returned (.int .i64 (Lib.indexByte s.data.toList c.toNat.toUInt8)) ∧ w' = w := by
  go_enter Tryd.func74, Tryd.ntmps74
  go_wp2
  rw [run_callFunc_extern Tryd.func83 (by kernel_rfl) (by kernel_rfl) (by kernel_rfl) (e := Extern.BytealgIndexByte.indexByte) (by kernel_rfl), Lib.run_indexByteString]
  simp only [Result.andThen]
  rw [Oper.upon_value]
  go_wp2
  go_ret
  exact ⟨rfl, rfl⟩
def F_strings_IndexByte (x : ByteArray × Int) : Option Int := some (Lib.indexByte x.1.data.toList x.2.toNat.toUInt8)
def c_strings_IndexByte : Con := { ps := [(.val, .str), (.val, .int .u8)], rs := [(.val, .int .i64)], F := F_strings_IndexByte }
theorem con_strings_IndexByte : ConOK Tryd.prog 74 c_strings_IndexByte := con_of_pure ⟨Tryd.f74, Tryd.func74, by kernel_rfl, by kernel_rfl⟩ rfl rfl fun w x y hy _ => by
  have e : y = Lib.indexByte x.1.data.toList x.2.toNat.toUInt8 := (Option.some.inj hy).symm
  subst e
  refine (calls_strings_IndexByte x.1 x.2 w).mono ?_
  rintro e w' ⟨rfl, rfl⟩
  exact ⟨rfl, Fr.refl _ _⟩

noncomputable def step_impl_hasOnly_0 (s : ByteArray × ByteArray × Int × Int) : Option ((ByteArray × ByteArray × Int × Int) ⊕ ((Bool) ⊕ (Unit))) :=
  bif (decide (s.2.2.2 < s.2.2.1)) then
    bif decide (0 ≤ s.2.2.2) && decide (s.2.2.2 < (s.1.size : Int)) then
      match F_strings_IndexByte ((s.2.1, (byteAt s.1 (s.2.2.2).toNat))) with
      | none => none
      | some y3 =>
        bif (decide (y3 < 0)) then
          some (.inr (.inl (false)))
        else
          let v4 := IntKind.i64.wrap (s.2.2.2 + 1)
          some (.inl ((s.1, (s.2.1, s.2.2.1, v4))))
    else none
  else
    some (.inr (.inr (())))
def pat_impl_hasOnly_0 : Pat := { tmps := [.v .str, .v .str, .any, .any, .any, .any, .any, .v (.int .i64), .v (.int .i64), .any, .any, .any, .any, .any, .any, .any, .any, .any], blks := [] }
def outs_impl_hasOnly_0 : List (Exit × Pat) := [(.ret, { tmps := [.any, .any, .any, .any, .v .bool, .any, .any, .any, .any, .any, .any, .any, .any, .any, .any, .any, .any, .any], blks := [] }), (.exit 0, { tmps := [.any, .any, .any, .any, .any, .any, .any, .any, .any, .any, .any, .any, .any, .any, .any, .any, .any, .any], blks := [] })]
noncomputable def F_impl_hasOnly (x : ByteArray × ByteArray) : Option (Bool) :=
  match runL step_impl_hasOnly_0 ((x.1, (x.2, (x.1.size : Int), 0))) with
  | none => none
  | some (.inl o5) =>
    some (o5)
  | some (.inr o5) =>
    some (true)
noncomputable def c_impl_hasOnly : Con := { ps := [(.val, .str), (.val, .str)], rs := [(.val, .bool)], F := F_impl_hasOnly }
noncomputable def env_impl_hasOnly : Env := { par := [], dp := false, settle := [], con := fun f => match f with | 74 => some c_strings_IndexByte | _ => none, clo := fun _ => none, T := tinf Tryd.prog }
noncomputable def loops_impl_hasOnly : Nat → Option Loop := fun n => match n with | 2 => some { pat := pat_impl_hasOnly_0, outs := outs_impl_hasOnly_0, run := runL (step_impl_hasOnly_0) } | _ => none
theorem step_impl_hasOnly_0_eq (s : ByteArray × ByteArray × Int × Int) : stepEv env_impl_hasOnly loops_impl_hasOnly pat_impl_hasOnly_0 outs_impl_hasOnly_0 Tryd.f69 2 s = step_impl_hasOnly_0 s := by kernel_rfl
theorem F_impl_hasOnly_eq (x : ByteArray × ByteArray) : Fev env_impl_hasOnly loops_impl_hasOnly c_impl_hasOnly.ps c_impl_hasOnly.rs Tryd.f69 x = F_impl_hasOnly x := by kernel_rfl
theorem env_impl_hasOnly_ok : EnvOK Tryd.prog env_impl_hasOnly := envOK_of (fun f c h => by
  simp only [env_impl_hasOnly] at h
  split at h
  · cases h; exact con_strings_IndexByte
  · cases h) (fun f c h => by cases h) rfl
theorem con_impl_hasOnly : ConOK Tryd.prog 69 c_impl_hasOnly := con_of_ev' (body := Tryd.f69.body.getD .skip) (Λ := loops_impl_hasOnly) mixed Tryd.func69 (by kernel_rfl) (by kernel_rfl) env_impl_hasOnly_ok (by kernel_rfl) (by kernel_rfl) (fun n L h => by
  unfold loops_impl_hasOnly at h
  split at h
  · cases h; exact fun s o ho => loop_ok (stepF := stepEv env_impl_hasOnly loops_impl_hasOnly pat_impl_hasOnly_0 outs_impl_hasOnly_0 Tryd.f69 2) (step_impl_hasOnly_0_eq) ho
  · cases h) F_impl_hasOnly_eq

noncomputable def F_impl_isWordOf (x : ByteArray × ByteArray) : Option (Bool) :=
  match F_impl_within (((x.1.size : Int), 1, 8)) with
  | none => none
  | some y1 =>
    bif y1 then
      match F_impl_hasOnly (x) with
      | none => none
      | some y2 =>
        some (y2)
    else
      some (false)
noncomputable def c_impl_isWordOf : Con := { ps := [(.val, .str), (.val, .str)], rs := [(.val, .bool)], F := F_impl_isWordOf }
noncomputable def env_impl_isWordOf : Env := { par := [], dp := false, settle := [], con := fun f => match f with | 25 => some c_impl_within | 69 => some c_impl_hasOnly | _ => none, clo := fun _ => none, T := tinf Tryd.prog }
noncomputable def loops_impl_isWordOf : Nat → Option Loop := fun n => none
theorem F_impl_isWordOf_eq (x : ByteArray × ByteArray) : Fev env_impl_isWordOf loops_impl_isWordOf c_impl_isWordOf.ps c_impl_isWordOf.rs Tryd.f65 x = F_impl_isWordOf x := by kernel_rfl
theorem env_impl_isWordOf_ok : EnvOK Tryd.prog env_impl_isWordOf := envOK_of (fun f c h => by
  simp only [env_impl_isWordOf] at h
  split at h
  · cases h; exact con_impl_within
  · cases h; exact con_impl_hasOnly
  · cases h) (fun f c h => by cases h) rfl
theorem con_impl_isWordOf : ConOK Tryd.prog 65 c_impl_isWordOf := con_of_ev' (body := Tryd.f65.body.getD .skip) (Λ := loops_impl_isWordOf) mixed Tryd.func65 (by kernel_rfl) (by kernel_rfl) env_impl_isWordOf_ok (by kernel_rfl) (by kernel_rfl) (fun n L h => by cases h) F_impl_isWordOf_eq

noncomputable def F_impl_IsGloss (x : ByteArray) : Option (Bool) :=
  match F_impl_isWordOf ((x, (⟨#[65, 66, 67, 68, 69, 70, 71, 72, 73, 74, 75, 76, 77, 78, 79, 80, 81, 82, 83, 84, 85, 86, 87, 88, 89, 90]⟩ : ByteArray))) with
  | none => none
  | some y1 =>
    some (y1)
noncomputable def c_impl_IsGloss : Con := { ps := [(.val, .str)], rs := [(.val, .bool)], F := F_impl_IsGloss }
noncomputable def env_impl_IsGloss : Env := { par := [], dp := false, settle := [], con := fun f => match f with | 65 => some c_impl_isWordOf | _ => none, clo := fun _ => none, T := tinf Tryd.prog }
noncomputable def loops_impl_IsGloss : Nat → Option Loop := fun n => none
theorem F_impl_IsGloss_eq (x : ByteArray) : Fev env_impl_IsGloss loops_impl_IsGloss c_impl_IsGloss.ps c_impl_IsGloss.rs Tryd.f54 x = F_impl_IsGloss x := by kernel_rfl
theorem env_impl_IsGloss_ok : EnvOK Tryd.prog env_impl_IsGloss := envOK_of (fun f c h => by
  simp only [env_impl_IsGloss] at h
  split at h
  · cases h; exact con_impl_isWordOf
  · cases h) (fun f c h => by cases h) rfl
theorem con_impl_IsGloss : ConOK Tryd.prog 54 c_impl_IsGloss := con_of_ev' (body := Tryd.f54.body.getD .skip) (Λ := loops_impl_IsGloss) mixed Tryd.func54 (by kernel_rfl) (by kernel_rfl) env_impl_IsGloss_ok (by kernel_rfl) (by kernel_rfl) (fun n L h => by cases h) F_impl_IsGloss_eq

noncomputable def F_impl_allWithin_1 (x : Int × Int × Int) : Option (Bool) :=
  match F_impl_within (x) with
  | none => none
  | some y1 =>
    some ((!y1))
noncomputable def c_impl_allWithin_1 : Con := { ps := [(.val, (.int .i64)), (.val, (.ptr (.int .i64))), (.val, (.ptr (.int .i64)))], rs := [(.val, .bool)], F := F_impl_allWithin_1 }
noncomputable def env_impl_allWithin_1 : Env := { par := [], dp := false, settle := [], con := fun f => match f with | 25 => some c_impl_within | _ => none, clo := fun _ => none, T := tinf Tryd.prog }
noncomputable def loops_impl_allWithin_1 : Nat → Option Loop := fun n => none
theorem F_impl_allWithin_1_eq (x : Int × Int × Int) : Fev env_impl_allWithin_1 loops_impl_allWithin_1 c_impl_allWithin_1.ps c_impl_allWithin_1.rs Tryd.f66 x = F_impl_allWithin_1 x := by kernel_rfl
theorem env_impl_allWithin_1_ok : EnvOK Tryd.prog env_impl_allWithin_1 := envOK_of (fun f c h => by
  simp only [env_impl_allWithin_1] at h
  split at h
  · cases h; exact con_impl_within
  · cases h) (fun f c h => by cases h) rfl
theorem con_impl_allWithin_1 : ConOK Tryd.prog 66 c_impl_allWithin_1 := con_of_ev' (body := Tryd.f66.body.getD .skip) (Λ := loops_impl_allWithin_1) mixed Tryd.func66 (by kernel_rfl) (by kernel_rfl) env_impl_allWithin_1_ok (by kernel_rfl) (by kernel_rfl) (fun n L h => by cases h) F_impl_allWithin_1_eq

noncomputable def step_slices_IndexFunc_int_int_0 (s : (List Int) × (Int → Option Bool) × Int × Int) : Option (((List Int) × (Int → Option Bool) × Int × Int) ⊕ ((Int) ⊕ (Unit))) :=
  bif (decide (s.2.2.2 < s.2.2.1)) then
    bif decide (0 ≤ s.2.2.2) && decide (s.2.2.2 < (s.1.length : Int)) then
      match s.2.1 ((s.1.getD (s.2.2.2).toNat 0)) with
      | none => none
      | some y3 =>
        bif y3 then
          some (.inr (.inl (s.2.2.2)))
        else
          let v4 := IntKind.i64.wrap (s.2.2.2 + 1)
          some (.inl ((s.1, (s.2.1, s.2.2.1, v4))))
    else none
  else
    some (.inr (.inr (())))
def pat_slices_IndexFunc_int_int_0 : Pat := { tmps := [.v (.slice (.int .i64)), .v (.fn (.int .i64) .bool), .any, .any, .any, .any, .any, .v (.int .i64), .v (.int .i64), .any, .any, .any, .any, .any, .any, .any, .any, .any, .any], blks := [] }
def outs_slices_IndexFunc_int_int_0 : List (Exit × Pat) := [(.ret, { tmps := [.any, .any, .any, .any, .v (.int .i64), .any, .any, .any, .any, .any, .any, .any, .any, .any, .any, .any, .any, .any, .any], blks := [] }), (.exit 0, { tmps := [.any, .any, .any, .any, .any, .any, .any, .any, .any, .any, .any, .any, .any, .any, .any, .any, .any, .any, .any], blks := [] })]
noncomputable def F_slices_IndexFunc_int_int (x : (List Int) × (Int → Option Bool)) : Option (Int) :=
  match runL step_slices_IndexFunc_int_int_0 ((x.1, (x.2, (x.1.length : Int), 0))) with
  | none => none
  | some (.inl o5) =>
    some (o5)
  | some (.inr o5) =>
    some ((-1))
noncomputable def c_slices_IndexFunc_int_int : Con := { ps := [(.val, (.slice (.int .i64))), (.val, (.fn (.int .i64) .bool))], rs := [(.val, (.int .i64))], F := F_slices_IndexFunc_int_int }
noncomputable def env_slices_IndexFunc_int_int : Env := { par := [], dp := false, settle := [], con := fun _ => none, clo := fun _ => none, T := tinf Tryd.prog }
noncomputable def loops_slices_IndexFunc_int_int : Nat → Option Loop := fun n => match n with | 2 => some { pat := pat_slices_IndexFunc_int_int_0, outs := outs_slices_IndexFunc_int_int_0, run := runL (step_slices_IndexFunc_int_int_0) } | _ => none
theorem step_slices_IndexFunc_int_int_0_eq (s : (List Int) × (Int → Option Bool) × Int × Int) : stepEv env_slices_IndexFunc_int_int loops_slices_IndexFunc_int_int pat_slices_IndexFunc_int_int_0 outs_slices_IndexFunc_int_int_0 Tryd.f58 2 s = step_slices_IndexFunc_int_int_0 s := by kernel_rfl
theorem F_slices_IndexFunc_int_int_eq (x : (List Int) × (Int → Option Bool)) : Fev env_slices_IndexFunc_int_int loops_slices_IndexFunc_int_int c_slices_IndexFunc_int_int.ps c_slices_IndexFunc_int_int.rs Tryd.f58 x = F_slices_IndexFunc_int_int x := by kernel_rfl
theorem env_slices_IndexFunc_int_int_ok : EnvOK Tryd.prog env_slices_IndexFunc_int_int := envOK_of (fun f c h => by cases h) (fun f c h => by cases h) rfl
theorem con_slices_IndexFunc_int_int : ConOK Tryd.prog 58 c_slices_IndexFunc_int_int := con_of_ev' (body := Tryd.f58.body.getD .skip) (Λ := loops_slices_IndexFunc_int_int) mixed Tryd.func58 (by kernel_rfl) (by kernel_rfl) env_slices_IndexFunc_int_int_ok (by kernel_rfl) (by kernel_rfl) (fun n L h => by
  unfold loops_slices_IndexFunc_int_int at h
  split at h
  · cases h; exact fun s o ho => loop_ok (stepF := stepEv env_slices_IndexFunc_int_int loops_slices_IndexFunc_int_int pat_slices_IndexFunc_int_int_0 outs_slices_IndexFunc_int_int_0 Tryd.f58 2) (step_slices_IndexFunc_int_int_0_eq) ho
  · cases h) F_slices_IndexFunc_int_int_eq

noncomputable def F_slices_ContainsFunc_int_int (x : (List Int) × (Int → Option Bool)) : Option (Bool) :=
  match F_slices_IndexFunc_int_int (x) with
  | none => none
  | some y1 =>
    some ((decide (y1 ≥ 0)))
noncomputable def c_slices_ContainsFunc_int_int : Con := { ps := [(.val, (.slice (.int .i64))), (.val, (.fn (.int .i64) .bool))], rs := [(.val, .bool)], F := F_slices_ContainsFunc_int_int }
noncomputable def env_slices_ContainsFunc_int_int : Env := { par := [], dp := false, settle := [], con := fun f => match f with | 58 => some c_slices_IndexFunc_int_int | _ => none, clo := fun _ => none, T := tinf Tryd.prog }
noncomputable def loops_slices_ContainsFunc_int_int : Nat → Option Loop := fun n => none
theorem F_slices_ContainsFunc_int_int_eq (x : (List Int) × (Int → Option Bool)) : Fev env_slices_ContainsFunc_int_int loops_slices_ContainsFunc_int_int c_slices_ContainsFunc_int_int.ps c_slices_ContainsFunc_int_int.rs Tryd.f40 x = F_slices_ContainsFunc_int_int x := by kernel_rfl
theorem env_slices_ContainsFunc_int_int_ok : EnvOK Tryd.prog env_slices_ContainsFunc_int_int := envOK_of (fun f c h => by
  simp only [env_slices_ContainsFunc_int_int] at h
  split at h
  · cases h; exact con_slices_IndexFunc_int_int
  · cases h) (fun f c h => by cases h) rfl
theorem con_slices_ContainsFunc_int_int : ConOK Tryd.prog 40 c_slices_ContainsFunc_int_int := con_of_ev' (body := Tryd.f40.body.getD .skip) (Λ := loops_slices_ContainsFunc_int_int) mixed Tryd.func40 (by kernel_rfl) (by kernel_rfl) env_slices_ContainsFunc_int_int_ok (by kernel_rfl) (by kernel_rfl) (fun n L h => by cases h) F_slices_ContainsFunc_int_int_eq

noncomputable def K_impl_allWithin_1 (q : Int × Int) (x : Int) : Option (Bool) := F_impl_allWithin_1 (x, q)
noncomputable def k_impl_allWithin_1 : CloCon := { caps := [(.int .i64), (.int .i64)], a := (.int .i64), r := .bool, F := K_impl_allWithin_1 }
theorem clo_impl_allWithin_1 : CloOK Tryd.prog 66 k_impl_allWithin_1 := clo_of_con k_impl_allWithin_1 F_impl_allWithin_1 con_impl_allWithin_1 rfl (fun kx x y h => ⟨y, h, rfl⟩)
noncomputable def F_impl_allWithin (x : (List Int) × Int × Int) : Option (Bool) :=
  match F_slices_ContainsFunc_int_int ((x.1, (K_impl_allWithin_1 x.2))) with
  | none => none
  | some y1 =>
    some ((!y1))
noncomputable def c_impl_allWithin : Con := { ps := [(.val, (.slice (.int .i64))), (.val, (.int .i64)), (.val, (.int .i64))], rs := [(.val, .bool)], F := F_impl_allWithin }
noncomputable def env_impl_allWithin : Env := { par := [], dp := false, settle := [], con := fun f => match f with | 40 => some c_slices_ContainsFunc_int_int | _ => none, clo := fun f => match f with | 66 => some k_impl_allWithin_1 | _ => none, T := tinf Tryd.prog }
noncomputable def loops_impl_allWithin : Nat → Option Loop := fun n => none
theorem F_impl_allWithin_eq (x : (List Int) × Int × Int) : Fev env_impl_allWithin loops_impl_allWithin c_impl_allWithin.ps c_impl_allWithin.rs Tryd.f55 x = F_impl_allWithin x := by kernel_rfl
theorem env_impl_allWithin_ok : EnvOK Tryd.prog env_impl_allWithin := envOK_of (fun f c h => by
  simp only [env_impl_allWithin] at h
  split at h
  · cases h; exact con_slices_ContainsFunc_int_int
  · cases h) (fun f c h => by
  simp only [env_impl_allWithin] at h
  split at h
  · cases h; exact clo_impl_allWithin_1
  · cases h) rfl
theorem con_impl_allWithin : ConOK Tryd.prog 55 c_impl_allWithin := con_of_ev' (body := Tryd.f55.body.getD .skip) (Λ := loops_impl_allWithin) mixed Tryd.func55 (by kernel_rfl) (by kernel_rfl) env_impl_allWithin_ok (by kernel_rfl) (by kernel_rfl) (fun n L h => by cases h) F_impl_allWithin_eq

noncomputable def F_impl_isProposal (x : (Int × (Int × (ByteArray × (List Int))))) : Option (Bool) :=
  match F_impl_within ((x.1, 1, 999)) with
  | none => none
  | some y1 =>
    bif y1 then
      match F_impl_within ((x.2.1, 0, 1)) with
      | none => none
      | some y2 =>
        bif y2 then
          match F_impl_IsGloss (x.2.2.1) with
          | none => none
          | some y3 =>
            bif y3 then
              bif (decide ((x.2.2.2.length : Int) ≤ 7)) then
                match F_impl_allWithin ((x.2.2.2, (-1), 1)) with
                | none => none
                | some y4 =>
                  some (y4)
              else
                some (false)
            else
              some (false)
        else
          some (false)
    else
      some (false)
noncomputable def c_impl_isProposal : Con := { ps := [(.val, (.st (.pair (.int .i64) (.pair (.int .i64) (.pair .str (.slice (.int .i64)))))))], rs := [(.val, .bool)], F := F_impl_isProposal }
noncomputable def env_impl_isProposal : Env := { par := [], dp := false, settle := [], con := fun f => match f with | 25 => some c_impl_within | 54 => some c_impl_IsGloss | 55 => some c_impl_allWithin | _ => none, clo := fun _ => none, T := tinf Tryd.prog }
noncomputable def loops_impl_isProposal : Nat → Option Loop := fun n => none
theorem F_impl_isProposal_eq (x : (Int × (Int × (ByteArray × (List Int))))) : Fev env_impl_isProposal loops_impl_isProposal c_impl_isProposal.ps c_impl_isProposal.rs Tryd.f32 x = F_impl_isProposal x := by kernel_rfl
theorem env_impl_isProposal_ok : EnvOK Tryd.prog env_impl_isProposal := envOK_of (fun f c h => by
  simp only [env_impl_isProposal] at h
  split at h
  · cases h; exact con_impl_within
  · cases h; exact con_impl_IsGloss
  · cases h; exact con_impl_allWithin
  · cases h) (fun f c h => by cases h) rfl
theorem con_impl_isProposal : ConOK Tryd.prog 32 c_impl_isProposal := con_of_ev' (body := Tryd.f32.body.getD .skip) (Λ := loops_impl_isProposal) mixed Tryd.func32 (by kernel_rfl) (by kernel_rfl) env_impl_isProposal_ok (by kernel_rfl) (by kernel_rfl) (fun n L h => by cases h) F_impl_isProposal_eq

noncomputable def step_impl_AreProposals_0 (s : (List (Int × (Int × (ByteArray × (List Int))))) × Int × (List (Int × (Int × (ByteArray × (List Int))))) × Int × Int) : Option (((List (Int × (Int × (ByteArray × (List Int))))) × Int × (List (Int × (Int × (ByteArray × (List Int))))) × Int × Int) ⊕ ((Bool) ⊕ ((List (Int × (Int × (ByteArray × (List Int))))) × Int))) :=
  bif (decide (s.2.2.2.2 < s.2.2.2.1)) then
    bif decide (0 ≤ s.2.2.2.2) && decide (s.2.2.2.2 < (s.2.2.1.length : Int)) then
      match F_impl_isProposal ((s.2.2.1.getD (s.2.2.2.2).toNat (0, (0, ByteArray.empty, [])))) with
      | none => none
      | some y5 =>
        bif (!y5) then
          some (.inr (.inl (false)))
        else
          bif ((((s.2.2.1.getD (s.2.2.2.2).toNat (0, (0, ByteArray.empty, []))).2.2.2.length : Int) != s.2.1)) then
            some (.inr (.inl (false)))
          else
            bif (decide (s.2.2.2.2 > 0)) then
              let v6 := IntKind.i64.wrap (s.2.2.2.2 - 1)
              bif decide (0 ≤ v6) && decide (v6 < (s.1.length : Int)) then
                bif (decide ((s.2.2.1.getD (s.2.2.2.2).toNat (0, (0, ByteArray.empty, []))).1 ≤ (s.1.getD (v6).toNat (0, (0, ByteArray.empty, []))).1)) then
                  some (.inr (.inl (false)))
                else
                  let v7 := IntKind.i64.wrap (s.2.2.2.2 + 1)
                  some (.inl ((s.1, s.2.1, (s.2.2.1, s.2.2.2.1, v7))))
              else none
            else
              let v8 := IntKind.i64.wrap (s.2.2.2.2 + 1)
              some (.inl ((s.1, s.2.1, (s.2.2.1, s.2.2.2.1, v8))))
    else none
  else
    some (.inr (.inr ((s.1, s.2.1))))
def pat_impl_AreProposals_0 : Pat := { tmps := [.v (.slice (.st (.pair (.int .i64) (.pair (.int .i64) (.pair .str (.slice (.int .i64))))))), .v (.int .i64), .any, .any, .any, .any, .any, .v (.slice (.st (.pair (.int .i64) (.pair (.int .i64) (.pair .str (.slice (.int .i64))))))), .v (.int .i64), .v (.int .i64), .any, .any, .any, .any, .any, .any, .any, .any, .any, .any, .any, .any, .any, .any, .any, .any, .any, .any, .any, .any, .any, .any, .any, .any, .any, .any, .any, .any, .any, .any, .any, .any, .any, .any, .any, .any, .any], blks := [] }
def outs_impl_AreProposals_0 : List (Exit × Pat) := [(.ret, { tmps := [.any, .any, .any, .any, .v .bool, .any, .any, .any, .any, .any, .any, .any, .any, .any, .any, .any, .any, .any, .any, .any, .any, .any, .any, .any, .any, .any, .any, .any, .any, .any, .any, .any, .any, .any, .any, .any, .any, .any, .any, .any, .any, .any, .any, .any, .any, .any, .any], blks := [] }), (.exit 0, { tmps := [.v (.slice (.st (.pair (.int .i64) (.pair (.int .i64) (.pair .str (.slice (.int .i64))))))), .v (.int .i64), .any, .any, .any, .any, .any, .any, .any, .any, .any, .any, .any, .any, .any, .any, .any, .any, .any, .any, .any, .any, .any, .any, .any, .any, .any, .any, .any, .any, .any, .any, .any, .any, .any, .any, .any, .any, .any, .any, .any, .any, .any, .any, .any, .any, .any], blks := [] })]
noncomputable def F_impl_AreProposals (x : (List (Int × (Int × (ByteArray × (List Int))))) × Int) : Option (Bool) :=
  match runL step_impl_AreProposals_0 ((x.1, x.2, (x.1, (x.1.length : Int), 0))) with
  | none => none
  | some (.inl o9) =>
    some (o9)
  | some (.inr o9) =>
    match F_impl_within ((o9.2, 1, 7)) with
    | none => none
    | some y10 =>
      bif y10 then
        some ((decide ((o9.1.length : Int) ≤ 12)))
      else
        some (false)
noncomputable def c_impl_AreProposals : Con := { ps := [(.val, (.slice (.st (.pair (.int .i64) (.pair (.int .i64) (.pair .str (.slice (.int .i64)))))))), (.val, (.int .i64))], rs := [(.val, .bool)], F := F_impl_AreProposals }
noncomputable def env_impl_AreProposals : Env := { par := [], dp := false, settle := [], con := fun f => match f with | 25 => some c_impl_within | 32 => some c_impl_isProposal | _ => none, clo := fun _ => none, T := tinf Tryd.prog }
noncomputable def loops_impl_AreProposals : Nat → Option Loop := fun n => match n with | 2 => some { pat := pat_impl_AreProposals_0, outs := outs_impl_AreProposals_0, run := runL (step_impl_AreProposals_0) } | _ => none
theorem step_impl_AreProposals_0_eq (s : (List (Int × (Int × (ByteArray × (List Int))))) × Int × (List (Int × (Int × (ByteArray × (List Int))))) × Int × Int) : stepEv env_impl_AreProposals loops_impl_AreProposals pat_impl_AreProposals_0 outs_impl_AreProposals_0 Tryd.f9 2 s = step_impl_AreProposals_0 s := by kernel_rfl
theorem F_impl_AreProposals_eq (x : (List (Int × (Int × (ByteArray × (List Int))))) × Int) : Fev env_impl_AreProposals loops_impl_AreProposals c_impl_AreProposals.ps c_impl_AreProposals.rs Tryd.f9 x = F_impl_AreProposals x := by kernel_rfl
theorem env_impl_AreProposals_ok : EnvOK Tryd.prog env_impl_AreProposals := envOK_of (fun f c h => by
  simp only [env_impl_AreProposals] at h
  split at h
  · cases h; exact con_impl_within
  · cases h; exact con_impl_isProposal
  · cases h) (fun f c h => by cases h) rfl
theorem con_impl_AreProposals : ConOK Tryd.prog 9 c_impl_AreProposals := con_of_ev' (body := Tryd.f9.body.getD .skip) (Λ := loops_impl_AreProposals) mixed Tryd.func9 (by kernel_rfl) (by kernel_rfl) env_impl_AreProposals_ok (by kernel_rfl) (by kernel_rfl) (fun n L h => by
  unfold loops_impl_AreProposals at h
  split at h
  · cases h; exact fun s o ho => loop_ok (stepF := stepEv env_impl_AreProposals loops_impl_AreProposals pat_impl_AreProposals_0 outs_impl_AreProposals_0 Tryd.f9 2) (step_impl_AreProposals_0_eq) ho
  · cases h) F_impl_AreProposals_eq

section
open Go.RowKit
theorem nil_slices_Clone_impl_Proposal_impl_Proposal (n c : Nat) (w : World) : Calls Tryd.prog 50 #[.slice none n c] w fun e w' => e = .returned (.slice none 0 0) ∧ w' = w := by
  have q : ∀ (w : World) (a : Option Addr) (n c n' c' : Nat), (binOp .eql 24 (.slice a n c) (.slice none n' c')).run Tryd.prog w = .ok (.bool a.isNone) w := fun w a n c n' c' => Lib.run_eql_slice_nil w _ _ a n c n' c' (show Tryd.prog.underlying 24 = some (.slice 32) by kernel_rfl)
  go_enter Tryd.func50, Tryd.ntmps50
  go_wp2
  go_ret
  exact ⟨rfl, rfl⟩
set_option maxHeartbeats 2000000 in
theorem some_slices_Clone_impl_Proposal_impl_Proposal (ad : Addr) (n c : Nat) (news : List Value) (w : World) (hl : news.length = n * 4) (hc : ∀ j u, news[j]? = some u → w.cell? (ad.add j) = some u) (h1 : ∀ u ∈ news, u.oneCell' = true) (hbig : n * 56 ≤ 140737488355328) :
    Calls Tryd.prog 50 #[.slice (some ad) n c] w fun e w' => ∃ v', e = .returned v' ∧ w'.ownsRow w.heap.size 32 4 v' n news ∧ Below w.heap.size w w' := by
  have q : ∀ (w : World) (a : Option Addr) (n c n' c' : Nat), (binOp .eql 24 (.slice a n c) (.slice none n' c')).run Tryd.prog w = .ok (.bool a.isNone) w := fun w a n c n' c' => Lib.run_eql_slice_nil w _ _ a n c n' c' (show Tryd.prog.underlying 24 = some (.slice 32) by kernel_rfl)
  obtain ⟨i0, hi, hz0, hz1, hz2⟩ := info_parts (P := Tryd.prog) (e := 32) (z := (.agg #[(.int .i64 0), (.int .i64 0), (.string ⟨#[]⟩), (.slice none 0 0)])) (size := 4) (bytes := 56) (by kernel_rfl)
  have A : Aside (∀ j u, news[j]? = some u → w.cell? (ad.add j) = some u) := hc
  clear hc
  go_enter Tryd.func50, Tryd.ntmps50
  go_wp2_with (at_builtin; refine wpList_append_own _ rfl _ _ 24 rfl w.heap.size 32 i0 (.agg #[(.int .i64 0), (.int .i64 0), (.string ⟨#[]⟩), (.slice none 0 0)]) 4 56 (by kernel_rfl) hi hz0 hz1 hz2 rfl (by decide) _ _ _ rfl (World.ownsRow_made w #[] 0 (Nat.le_refl _) (Nat.zero_le _) rfl) ad n c news rfl ?qc1 ?qc2 ?qc3 ?qc4 ?qc5 ?qc6 ?_)
  case qc1 => exact hl
  case qc2 => exact fun j u hj => Lib.cell?_alloc_some _ (A.out j u hj)
  case qc3 => exact h1
  case qc4 => unfold maxLen; omega
  case qc5 => omega
  case qc6 => simp
  intro v' w1 hown hgrow hnil
  go_wp2
  go_ret
  refine ⟨v', rfl, by simpa using hown, ?_⟩
  exact ((Below.refl _ w).alloc (Nat.le_refl _) _).grown hgrow (by simp) (by intro k hk; simp [Value.ownBlock] at hk; omega)
def F_slices_Clone_impl_Proposal_impl_Proposal (x : List (Int × (Int × (ByteArray × (List Int))))) : Option (List (Int × (Int × (ByteArray × (List Int))))) := bif decide (x.length * 56 ≤ 140737488355328) then some x else none
noncomputable def c_slices_Clone_impl_Proposal_impl_Proposal : Con := { ps := [(.val, .slice (.st (.pair (.int .i64) (.pair (.int .i64) (.pair .str (.slice (.int .i64)))))))], rs := [(.io false, .slice (.st (.pair (.int .i64) (.pair (.int .i64) (.pair .str (.slice (.int .i64)))))))], F := F_slices_Clone_impl_Proposal_impl_Proposal }
theorem con_slices_Clone_impl_Proposal_impl_Proposal : ConOK Tryd.prog 50 c_slices_Clone_impl_Proposal_impl_Proposal := con_clone ⟨Tryd.f50, Tryd.func50, by kernel_rfl, by kernel_rfl⟩ (.st (.pair (.int .i64) (.pair (.int .i64) (.pair .str (.slice (.int .i64)))))) false rfl 56 32 nil_slices_Clone_impl_Proposal_impl_Proposal some_slices_Clone_impl_Proposal_impl_Proposal
end

section
open Go.RowKit
theorem nil_slices_Clone_int_int (n c : Nat) (w : World) : Calls Tryd.prog 51 #[.slice none n c] w fun e w' => e = .returned (.slice none 0 0) ∧ w' = w := by
  have q : ∀ (w : World) (a : Option Addr) (n c n' c' : Nat), (binOp .eql 30 (.slice a n c) (.slice none n' c')).run Tryd.prog w = .ok (.bool a.isNone) w := fun w a n c n' c' => Lib.run_eql_slice_nil w _ _ a n c n' c' (show Tryd.prog.underlying 30 = some (.slice 3) by kernel_rfl)
  go_enter Tryd.func51, Tryd.ntmps51
  go_wp2
  go_ret
  exact ⟨rfl, rfl⟩
set_option maxHeartbeats 2000000 in
theorem some_slices_Clone_int_int (ad : Addr) (n c : Nat) (news : List Value) (w : World) (hl : news.length = n * 1) (hc : ∀ j u, news[j]? = some u → w.cell? (ad.add j) = some u) (h1 : ∀ u ∈ news, u.oneCell' = true) (hbig : n * 8 ≤ 140737488355328) :
    Calls Tryd.prog 51 #[.slice (some ad) n c] w fun e w' => ∃ v', e = .returned v' ∧ w'.ownsRow w.heap.size 3 1 v' n news ∧ Below w.heap.size w w' := by
  have q : ∀ (w : World) (a : Option Addr) (n c n' c' : Nat), (binOp .eql 30 (.slice a n c) (.slice none n' c')).run Tryd.prog w = .ok (.bool a.isNone) w := fun w a n c n' c' => Lib.run_eql_slice_nil w _ _ a n c n' c' (show Tryd.prog.underlying 30 = some (.slice 3) by kernel_rfl)
  obtain ⟨i0, hi, hz0, hz1, hz2⟩ := info_parts (P := Tryd.prog) (e := 3) (z := (.int .i64 0)) (size := 1) (bytes := 8) (by kernel_rfl)
  have A : Aside (∀ j u, news[j]? = some u → w.cell? (ad.add j) = some u) := hc
  clear hc
  go_enter Tryd.func51, Tryd.ntmps51
  go_wp2_with (at_builtin; refine wpList_append_own _ rfl _ _ 30 rfl w.heap.size 3 i0 (.int .i64 0) 1 8 (by kernel_rfl) hi hz0 hz1 hz2 rfl (by decide) _ _ _ rfl (World.ownsRow_made w #[] 0 (Nat.le_refl _) (Nat.zero_le _) rfl) ad n c news rfl ?qc1 ?qc2 ?qc3 ?qc4 ?qc5 ?qc6 ?_)
  case qc1 => exact hl
  case qc2 => exact fun j u hj => Lib.cell?_alloc_some _ (A.out j u hj)
  case qc3 => exact h1
  case qc4 => unfold maxLen; omega
  case qc5 => omega
  case qc6 => simp
  intro v' w1 hown hgrow hnil
  go_wp2
  go_ret
  refine ⟨v', rfl, by simpa using hown, ?_⟩
  exact ((Below.refl _ w).alloc (Nat.le_refl _) _).grown hgrow (by simp) (by intro k hk; simp [Value.ownBlock] at hk; omega)
def F_slices_Clone_int_int (x : List Int) : Option (List Int) := bif decide (x.length * 8 ≤ 140737488355328) then some x else none
noncomputable def c_slices_Clone_int_int : Con := { ps := [(.val, .slice (.int .i64))], rs := [(.io true, .slice (.int .i64))], F := F_slices_Clone_int_int }
theorem con_slices_Clone_int_int : ConOK Tryd.prog 51 c_slices_Clone_int_int := con_clone ⟨Tryd.f51, Tryd.func51, by kernel_rfl, by kernel_rfl⟩ (.int .i64) true rfl 8 3 nil_slices_Clone_int_int some_slices_Clone_int_int
end

noncomputable def step_impl_copyProposals_0 (s : Int × Int × (List (Int × (Int × (ByteArray × (List Int))))) × Int) : Option ((Int × Int × (List (Int × (Int × (ByteArray × (List Int))))) × Int) ⊕ (((List (Int × (Int × (ByteArray × (List Int))))) × Int))) :=
  bif (decide (s.2.1 < s.1)) then
    bif decide (0 ≤ s.2.1) && decide (s.2.1 < (s.2.2.1.length : Int)) then
      bif decide ((s.2.2.2).toNat ≤ (s.2.1).toNat) then
        match F_slices_Clone_int_int ((s.2.2.1.getD (s.2.1).toNat (0, (0, ByteArray.empty, []))).2.2.2) with
        | none => none
        | some y6 =>
          bif decide (0 ≤ s.2.1) && decide (s.2.1 < (s.2.2.1.length : Int)) then
            bif decide ((s.2.1).toNat = (s.2.1).toNat) then
              bif decide ((s.2.2.2).toNat = (s.2.1).toNat) then
                let v7 := s.2.2.1.set (s.2.1).toNat (((s.2.2.1.getD (s.2.1).toNat (0, (0, ByteArray.empty, []))).1, ((s.2.2.1.getD (s.2.1).toNat (0, (0, ByteArray.empty, []))).2.1, (s.2.2.1.getD (s.2.1).toNat (0, (0, ByteArray.empty, []))).2.2.1, y6)))
                let v8 := IntKind.i64.wrap (s.2.1 + 1)
                some (.inl ((s.1, (v8, v7, ((((s.2.2.2).toNat + 1) : Nat) : Int)))))
              else none
            else none
          else none
      else none
    else none
  else
    some (.inr ((s.2.2.1, (((s.2.2.2).toNat : Nat) : Int))))
def pat_impl_copyProposals_0 : Pat := { tmps := [.any, .any, .any, .own 384, .any, .any, .any, .any, .v (.int .i64), .v (.int .i64), .any, .any, .any, .any, .any, .any, .any, .any, .any, .any, .any, .any, .any, .any], blks := [(384, .mix (.st (.pair (.int .i64) (.pair (.int .i64) (.pair .str (.slice (.int .i64)))))))] }
def outs_impl_copyProposals_0 : List (Exit × Pat) := [(.exit 0, { tmps := [.any, .any, .any, .own 384, .any, .any, .any, .any, .any, .any, .any, .any, .any, .any, .any, .any, .any, .any, .any, .any, .any, .any, .any, .any], blks := [(384, .mix (.st (.pair (.int .i64) (.pair (.int .i64) (.pair .str (.slice (.int .i64)))))))] })]
noncomputable def F_impl_copyProposals (x : (List (Int × (Int × (ByteArray × (List Int)))))) : Option ((List (Int × (Int × (ByteArray × (List Int)))))) :=
  match F_slices_Clone_impl_Proposal_impl_Proposal (x) with
  | none => none
  | some y1 =>
    match runL step_impl_copyProposals_0 (((y1.length : Int), (0, y1, 0))) with
    | none => none
    | some o9 =>
      bif decide ((o9.2).toNat = o9.1.length) then
        some (o9.1)
      else none
noncomputable def c_impl_copyProposals : Con := { ps := [(.val, (.slice (.st (.pair (.int .i64) (.pair (.int .i64) (.pair .str (.slice (.int .i64))))))))], rs := [(.io true, (.slice (.st (.pair (.int .i64) (.pair (.int .i64) (.pair .str (.slice (.int .i64))))))))], F := F_impl_copyProposals }
noncomputable def env_impl_copyProposals : Env := { par := [], dp := true, settle := [0, 1, 2, 7], con := fun f => match f with | 50 => some c_slices_Clone_impl_Proposal_impl_Proposal | 51 => some c_slices_Clone_int_int | _ => none, clo := fun _ => none, T := tinf Tryd.prog }
noncomputable def loops_impl_copyProposals : Nat → Option Loop := fun n => match n with | 3 => some { pat := pat_impl_copyProposals_0, outs := outs_impl_copyProposals_0, run := runL (step_impl_copyProposals_0) } | _ => none
theorem step_impl_copyProposals_0_eq (s : Int × Int × (List (Int × (Int × (ByteArray × (List Int))))) × Int) : stepEv env_impl_copyProposals loops_impl_copyProposals pat_impl_copyProposals_0 outs_impl_copyProposals_0 Tryd.f26 3 s = step_impl_copyProposals_0 s := by kernel_rfl
theorem F_impl_copyProposals_eq (x : (List (Int × (Int × (ByteArray × (List Int)))))) : Fev env_impl_copyProposals loops_impl_copyProposals c_impl_copyProposals.ps c_impl_copyProposals.rs Tryd.f26 x = F_impl_copyProposals x := by kernel_rfl
theorem env_impl_copyProposals_ok : EnvOK Tryd.prog env_impl_copyProposals := envOK_of (fun f c h => by
  simp only [env_impl_copyProposals] at h
  split at h
  · cases h; exact con_slices_Clone_impl_Proposal_impl_Proposal
  · cases h; exact con_slices_Clone_int_int
  · cases h) (fun f c h => by cases h) rfl
theorem con_impl_copyProposals : ConOK Tryd.prog 26 c_impl_copyProposals := con_of_ev' (body := Tryd.f26.body.getD .skip) (Λ := loops_impl_copyProposals) mixed Tryd.func26 (by kernel_rfl) (by kernel_rfl) env_impl_copyProposals_ok (by kernel_rfl) (by kernel_rfl) (fun n L h => by
  unfold loops_impl_copyProposals at h
  split at h
  · cases h; exact fun s o ho => loop_ok (stepF := stepEv env_impl_copyProposals loops_impl_copyProposals pat_impl_copyProposals_0 outs_impl_copyProposals_0 Tryd.f26 3) (step_impl_copyProposals_0_eq) ho
  · cases h) F_impl_copyProposals_eq

noncomputable def F_impl_CastVote (x : (List (Int × (Int × (ByteArray × (List Int))))) × Int × Int × Int × Int) : Option ((List (Int × (Int × (ByteArray × (List Int))))) × Bool) :=
  match F_impl_proposalAt ((x.1, x.2.2.1)) with
  | none => none
  | some y1 =>
    match F_impl_AreProposals ((x.1, x.2.1)) with
    | none => none
    | some y2 =>
      bif (!y2) then
        some (([], false))
      else
        bif (decide (y1 < 0)) then
          some (([], false))
        else
          let v3 := IntKind.i64.wrap (x.2.1 - 1)
          match F_impl_within ((x.2.2.2.1, 0, v3)) with
          | none => none
          | some y4 =>
            bif (!y4) then
              some (([], false))
            else
              bif ((x.2.2.2.2 != 1)) then
                bif ((x.2.2.2.2 != (-1))) then
                  some (([], false))
                else
                  match F_impl_copyProposals (x.1) with
                  | none => none
                  | some y5 =>
                    bif decide (0 ≤ y1) && decide (y1 < (y5.length : Int)) then
                      bif decide (0 ≤ x.2.2.2.1) && decide (x.2.2.2.1 < ((y5.getD (y1).toNat (0, (0, ByteArray.empty, []))).2.2.2.length : Int)) then
                        let v6 := (y5.getD (y1).toNat (0, (0, ByteArray.empty, []))).2.2.2.set (x.2.2.2.1).toNat (x.2.2.2.2)
                        let v7 := y5.set (y1).toNat (((y5.getD (y1).toNat (0, (0, ByteArray.empty, []))).1, ((y5.getD (y1).toNat (0, (0, ByteArray.empty, []))).2.1, (y5.getD (y1).toNat (0, (0, ByteArray.empty, []))).2.2.1, v6)))
                        some ((v7, true))
                      else none
                    else none
              else
                match F_impl_copyProposals (x.1) with
                | none => none
                | some y8 =>
                  bif decide (0 ≤ y1) && decide (y1 < (y8.length : Int)) then
                    bif decide (0 ≤ x.2.2.2.1) && decide (x.2.2.2.1 < ((y8.getD (y1).toNat (0, (0, ByteArray.empty, []))).2.2.2.length : Int)) then
                      let v9 := (y8.getD (y1).toNat (0, (0, ByteArray.empty, []))).2.2.2.set (x.2.2.2.1).toNat (x.2.2.2.2)
                      let v10 := y8.set (y1).toNat (((y8.getD (y1).toNat (0, (0, ByteArray.empty, []))).1, ((y8.getD (y1).toNat (0, (0, ByteArray.empty, []))).2.1, (y8.getD (y1).toNat (0, (0, ByteArray.empty, []))).2.2.1, v9)))
                      some ((v10, true))
                    else none
                  else none
noncomputable def c_impl_CastVote : Con := { ps := [(.val, (.slice (.st (.pair (.int .i64) (.pair (.int .i64) (.pair .str (.slice (.int .i64)))))))), (.val, (.int .i64)), (.val, (.int .i64)), (.val, (.int .i64)), (.val, (.int .i64))], rs := [(.val, (.slice (.st (.pair (.int .i64) (.pair (.int .i64) (.pair .str (.slice (.int .i64)))))))), (.val, .bool)], F := F_impl_CastVote }
noncomputable def env_impl_CastVote : Env := { par := [], dp := true, settle := [], con := fun f => match f with | 9 => some c_impl_AreProposals | 24 => some c_impl_proposalAt | 25 => some c_impl_within | 26 => some c_impl_copyProposals | _ => none, clo := fun _ => none, T := tinf Tryd.prog }
noncomputable def loops_impl_CastVote : Nat → Option Loop := fun n => none
theorem F_impl_CastVote_eq (x : (List (Int × (Int × (ByteArray × (List Int))))) × Int × Int × Int × Int) : Fev env_impl_CastVote loops_impl_CastVote c_impl_CastVote.ps c_impl_CastVote.rs Tryd.f6 x = F_impl_CastVote x := by kernel_rfl
theorem env_impl_CastVote_ok : EnvOK Tryd.prog env_impl_CastVote := envOK_of (fun f c h => by
  simp only [env_impl_CastVote] at h
  split at h
  · cases h; exact con_impl_AreProposals
  · cases h; exact con_impl_proposalAt
  · cases h; exact con_impl_within
  · cases h; exact con_impl_copyProposals
  · cases h) (fun f c h => by cases h) rfl
theorem con_impl_CastVote : ConOK Tryd.prog 6 c_impl_CastVote := con_of_ev' (body := Tryd.f6.body.getD .skip) (Λ := loops_impl_CastVote) mixed Tryd.func6 (by kernel_rfl) (by kernel_rfl) env_impl_CastVote_ok (by kernel_rfl) (by kernel_rfl) (fun n L h => by cases h) F_impl_CastVote_eq

noncomputable def step_spec_ofFind_0 (s : Int × (List (Int × (Int × (ByteArray × (List Int))))) × Int × Int) : Option ((Int × (List (Int × (Int × (ByteArray × (List Int))))) × Int × Int) ⊕ ((Int) ⊕ (Unit))) :=
  bif (decide (s.2.2.2 < s.2.2.1)) then
    bif decide (0 ≤ s.2.2.2) && decide (s.2.2.2 < (s.2.1.length : Int)) then
      bif (((s.2.1.getD (s.2.2.2).toNat (0, (0, ByteArray.empty, []))).1 == s.1)) then
        some (.inr (.inl (s.2.2.2)))
      else
        let v2 := IntKind.i64.wrap (s.2.2.2 + 1)
        some (.inl ((s.1, (s.2.1, s.2.2.1, v2))))
    else none
  else
    some (.inr (.inr (())))
def pat_spec_ofFind_0 : Pat := { tmps := [.any, .v (.int .i64), .any, .any, .any, .any, .any, .v (.slice (.st (.pair (.int .i64) (.pair (.int .i64) (.pair .str (.slice (.int .i64))))))), .v (.int .i64), .v (.int .i64), .any, .any, .any, .any, .any, .any, .any, .any, .any, .any], blks := [] }
def outs_spec_ofFind_0 : List (Exit × Pat) := [(.ret, { tmps := [.any, .any, .any, .any, .v (.int .i64), .any, .any, .any, .any, .any, .any, .any, .any, .any, .any, .any, .any, .any, .any, .any], blks := [] }), (.exit 0, { tmps := [.any, .any, .any, .any, .any, .any, .any, .any, .any, .any, .any, .any, .any, .any, .any, .any, .any, .any, .any, .any], blks := [] })]
noncomputable def F_spec_ofFind (x : (List (Int × (Int × (ByteArray × (List Int))))) × Int) : Option (Int) :=
  match runL step_spec_ofFind_0 ((x.2, (x.1, (x.1.length : Int), 0))) with
  | none => none
  | some (.inl o3) =>
    some (o3)
  | some (.inr o3) =>
    some ((-1))
noncomputable def c_spec_ofFind : Con := { ps := [(.val, (.slice (.st (.pair (.int .i64) (.pair (.int .i64) (.pair .str (.slice (.int .i64)))))))), (.val, (.int .i64))], rs := [(.val, (.int .i64))], F := F_spec_ofFind }
noncomputable def env_spec_ofFind : Env := { par := [], dp := false, settle := [], con := fun _ => none, clo := fun _ => none, T := tinf Tryd.prog }
noncomputable def loops_spec_ofFind : Nat → Option Loop := fun n => match n with | 2 => some { pat := pat_spec_ofFind_0, outs := outs_spec_ofFind_0, run := runL (step_spec_ofFind_0) } | _ => none
theorem step_spec_ofFind_0_eq (s : Int × (List (Int × (Int × (ByteArray × (List Int))))) × Int × Int) : stepEv env_spec_ofFind loops_spec_ofFind pat_spec_ofFind_0 outs_spec_ofFind_0 Tryd.f27 2 s = step_spec_ofFind_0 s := by kernel_rfl
theorem F_spec_ofFind_eq (x : (List (Int × (Int × (ByteArray × (List Int))))) × Int) : Fev env_spec_ofFind loops_spec_ofFind c_spec_ofFind.ps c_spec_ofFind.rs Tryd.f27 x = F_spec_ofFind x := by kernel_rfl
theorem env_spec_ofFind_ok : EnvOK Tryd.prog env_spec_ofFind := envOK_of (fun f c h => by cases h) (fun f c h => by cases h) rfl
theorem con_spec_ofFind : ConOK Tryd.prog 27 c_spec_ofFind := con_of_ev' (body := Tryd.f27.body.getD .skip) (Λ := loops_spec_ofFind) mixed Tryd.func27 (by kernel_rfl) (by kernel_rfl) env_spec_ofFind_ok (by kernel_rfl) (by kernel_rfl) (fun n L h => by
  unfold loops_spec_ofFind at h
  split at h
  · cases h; exact fun s o ho => loop_ok (stepF := stepEv env_spec_ofFind loops_spec_ofFind pat_spec_ofFind_0 outs_spec_ofFind_0 Tryd.f27 2) (step_spec_ofFind_0_eq) ho
  · cases h) F_spec_ofFind_eq

noncomputable def F_spec_l1In (x : Int × Int × Int) : Option (Bool) :=
  bif (decide (x.1 ≥ x.2.1)) then
    some ((decide (x.1 ≤ x.2.2)))
  else
    some (false)
noncomputable def c_spec_l1In : Con := { ps := [(.val, (.int .i64)), (.val, (.int .i64)), (.val, (.int .i64))], rs := [(.val, .bool)], F := F_spec_l1In }
noncomputable def env_spec_l1In : Env := { par := [], dp := false, settle := [], con := fun _ => none, clo := fun _ => none, T := tinf Tryd.prog }
noncomputable def loops_spec_l1In : Nat → Option Loop := fun n => none
theorem F_spec_l1In_eq (x : Int × Int × Int) : Fev env_spec_l1In loops_spec_l1In c_spec_l1In.ps c_spec_l1In.rs Tryd.f29 x = F_spec_l1In x := by kernel_rfl
theorem env_spec_l1In_ok : EnvOK Tryd.prog env_spec_l1In := envOK_of (fun f c h => by cases h) (fun f c h => by cases h) rfl
theorem con_spec_l1In : ConOK Tryd.prog 29 c_spec_l1In := con_of_ev' (body := Tryd.f29.body.getD .skip) (Λ := loops_spec_l1In) mixed Tryd.func29 (by kernel_rfl) (by kernel_rfl) env_spec_l1In_ok (by kernel_rfl) (by kernel_rfl) (fun n L h => by cases h) F_spec_l1In_eq

noncomputable def step_spec_enGloss_0 (s : ByteArray × Int) : Option ((ByteArray × Int) ⊕ ((Bool) ⊕ (ByteArray))) :=
  bif (decide (s.2 < (s.1.size : Int))) then
    bif decide (0 ≤ s.2) && decide (s.2 < (s.1.size : Int)) then
      bif (decide ((byteAt s.1 (s.2).toNat) < 65)) then
        some (.inr (.inl (false)))
      else
        bif decide (0 ≤ s.2) && decide (s.2 < (s.1.size : Int)) then
          bif (decide ((byteAt s.1 (s.2).toNat) > 90)) then
            some (.inr (.inl (false)))
          else
            let v2 := IntKind.i64.wrap (s.2 + 1)
            some (.inl ((s.1, v2)))
        else none
    else none
  else
    some (.inr (.inr (s.1)))
def pat_spec_enGloss_0 : Pat := { tmps := [.v .str, .any, .any, .v (.int .i64), .any, .any, .any, .any, .any, .any, .any, .any, .any, .any, .any, .any, .any, .any, .any, .any, .any, .any, .any], blks := [] }
def outs_spec_enGloss_0 : List (Exit × Pat) := [(.ret, { tmps := [.any, .any, .v .bool, .any, .any, .any, .any, .any, .any, .any, .any, .any, .any, .any, .any, .any, .any, .any, .any, .any, .any, .any, .any], blks := [] }), (.exit 0, { tmps := [.v .str, .any, .any, .any, .any, .any, .any, .any, .any, .any, .any, .any, .any, .any, .any, .any, .any, .any, .any, .any, .any, .any, .any], blks := [] })]
noncomputable def F_spec_enGloss (x : ByteArray) : Option (Bool) :=
  match runL step_spec_enGloss_0 ((x, 0)) with
  | none => none
  | some (.inl o3) =>
    some (o3)
  | some (.inr o3) =>
    match F_spec_l1In (((o3.size : Int), 1, 8)) with
    | none => none
    | some y4 =>
      some (y4)
noncomputable def c_spec_enGloss : Con := { ps := [(.val, .str)], rs := [(.val, .bool)], F := F_spec_enGloss }
noncomputable def env_spec_enGloss : Env := { par := [], dp := false, settle := [], con := fun f => match f with | 29 => some c_spec_l1In | _ => none, clo := fun _ => none, T := tinf Tryd.prog }
noncomputable def loops_spec_enGloss : Nat → Option Loop := fun n => match n with | 2 => some { pat := pat_spec_enGloss_0, outs := outs_spec_enGloss_0, run := runL (step_spec_enGloss_0) } | _ => none
theorem step_spec_enGloss_0_eq (s : ByteArray × Int) : stepEv env_spec_enGloss loops_spec_enGloss pat_spec_enGloss_0 outs_spec_enGloss_0 Tryd.f62 2 s = step_spec_enGloss_0 s := by kernel_rfl
theorem F_spec_enGloss_eq (x : ByteArray) : Fev env_spec_enGloss loops_spec_enGloss c_spec_enGloss.ps c_spec_enGloss.rs Tryd.f62 x = F_spec_enGloss x := by kernel_rfl
theorem env_spec_enGloss_ok : EnvOK Tryd.prog env_spec_enGloss := envOK_of (fun f c h => by
  simp only [env_spec_enGloss] at h
  split at h
  · cases h; exact con_spec_l1In
  · cases h) (fun f c h => by cases h) rfl
theorem con_spec_enGloss : ConOK Tryd.prog 62 c_spec_enGloss := con_of_ev' (body := Tryd.f62.body.getD .skip) (Λ := loops_spec_enGloss) mixed Tryd.func62 (by kernel_rfl) (by kernel_rfl) env_spec_enGloss_ok (by kernel_rfl) (by kernel_rfl) (fun n L h => by
  unfold loops_spec_enGloss at h
  split at h
  · cases h; exact fun s o ho => loop_ok (stepF := stepEv env_spec_enGloss loops_spec_enGloss pat_spec_enGloss_0 outs_spec_enGloss_0 Tryd.f62 2) (step_spec_enGloss_0_eq) ho
  · cases h) F_spec_enGloss_eq

noncomputable def step_spec_l1All_0 (s : Int × Int × (List Int) × Int × Int) : Option ((Int × Int × (List Int) × Int × Int) ⊕ ((Bool) ⊕ (Unit))) :=
  bif (decide (s.2.2.2.2 < s.2.2.2.1)) then
    bif decide (0 ≤ s.2.2.2.2) && decide (s.2.2.2.2 < (s.2.2.1.length : Int)) then
      match F_spec_l1In (((s.2.2.1.getD (s.2.2.2.2).toNat 0), s.1, s.2.1)) with
      | none => none
      | some y3 =>
        bif (!y3) then
          some (.inr (.inl (false)))
        else
          let v4 := IntKind.i64.wrap (s.2.2.2.2 + 1)
          some (.inl ((s.1, s.2.1, (s.2.2.1, s.2.2.2.1, v4))))
    else none
  else
    some (.inr (.inr (())))
def pat_spec_l1All_0 : Pat := { tmps := [.any, .v (.int .i64), .v (.int .i64), .any, .any, .any, .any, .any, .any, .v (.slice (.int .i64)), .v (.int .i64), .v (.int .i64), .any, .any, .any, .any, .any, .any, .any, .any, .any], blks := [] }
def outs_spec_l1All_0 : List (Exit × Pat) := [(.ret, { tmps := [.any, .any, .any, .any, .any, .any, .v .bool, .any, .any, .any, .any, .any, .any, .any, .any, .any, .any, .any, .any, .any, .any], blks := [] }), (.exit 0, { tmps := [.any, .any, .any, .any, .any, .any, .any, .any, .any, .any, .any, .any, .any, .any, .any, .any, .any, .any, .any, .any, .any], blks := [] })]
noncomputable def F_spec_l1All (x : (List Int) × Int × Int) : Option (Bool) :=
  match runL step_spec_l1All_0 ((x.2.1, x.2.2, (x.1, (x.1.length : Int), 0))) with
  | none => none
  | some (.inl o5) =>
    some (o5)
  | some (.inr o5) =>
    some (true)
noncomputable def c_spec_l1All : Con := { ps := [(.val, (.slice (.int .i64))), (.val, (.int .i64)), (.val, (.int .i64))], rs := [(.val, .bool)], F := F_spec_l1All }
noncomputable def env_spec_l1All : Env := { par := [], dp := false, settle := [], con := fun f => match f with | 29 => some c_spec_l1In | _ => none, clo := fun _ => none, T := tinf Tryd.prog }
noncomputable def loops_spec_l1All : Nat → Option Loop := fun n => match n with | 2 => some { pat := pat_spec_l1All_0, outs := outs_spec_l1All_0, run := runL (step_spec_l1All_0) } | _ => none
theorem step_spec_l1All_0_eq (s : Int × Int × (List Int) × Int × Int) : stepEv env_spec_l1All loops_spec_l1All pat_spec_l1All_0 outs_spec_l1All_0 Tryd.f63 2 s = step_spec_l1All_0 s := by kernel_rfl
theorem F_spec_l1All_eq (x : (List Int) × Int × Int) : Fev env_spec_l1All loops_spec_l1All c_spec_l1All.ps c_spec_l1All.rs Tryd.f63 x = F_spec_l1All x := by kernel_rfl
theorem env_spec_l1All_ok : EnvOK Tryd.prog env_spec_l1All := envOK_of (fun f c h => by
  simp only [env_spec_l1All] at h
  split at h
  · cases h; exact con_spec_l1In
  · cases h) (fun f c h => by cases h) rfl
theorem con_spec_l1All : ConOK Tryd.prog 63 c_spec_l1All := con_of_ev' (body := Tryd.f63.body.getD .skip) (Λ := loops_spec_l1All) mixed Tryd.func63 (by kernel_rfl) (by kernel_rfl) env_spec_l1All_ok (by kernel_rfl) (by kernel_rfl) (fun n L h => by
  unfold loops_spec_l1All at h
  split at h
  · cases h; exact fun s o ho => loop_ok (stepF := stepEv env_spec_l1All loops_spec_l1All pat_spec_l1All_0 outs_spec_l1All_0 Tryd.f63 2) (step_spec_l1All_0_eq) ho
  · cases h) F_spec_l1All_eq

noncomputable def F_spec_ofOne (x : (Int × (Int × (ByteArray × (List Int)))) × Int) : Option (Bool) :=
  match F_spec_l1In ((x.1.1, 1, 999)) with
  | none => none
  | some y1 =>
    bif y1 then
      match F_spec_l1In ((x.1.2.1, 0, 1)) with
      | none => none
      | some y2 =>
        bif y2 then
          match F_spec_enGloss (x.1.2.2.1) with
          | none => none
          | some y3 =>
            bif y3 then
              bif (((x.1.2.2.2.length : Int) == x.2)) then
                match F_spec_l1All ((x.1.2.2.2, (-1), 1)) with
                | none => none
                | some y4 =>
                  some (y4)
              else
                some (false)
            else
              some (false)
        else
          some (false)
    else
      some (false)
noncomputable def c_spec_ofOne : Con := { ps := [(.val, (.st (.pair (.int .i64) (.pair (.int .i64) (.pair .str (.slice (.int .i64))))))), (.val, (.int .i64))], rs := [(.val, .bool)], F := F_spec_ofOne }
noncomputable def env_spec_ofOne : Env := { par := [], dp := false, settle := [], con := fun f => match f with | 29 => some c_spec_l1In | 62 => some c_spec_enGloss | 63 => some c_spec_l1All | _ => none, clo := fun _ => none, T := tinf Tryd.prog }
noncomputable def loops_spec_ofOne : Nat → Option Loop := fun n => none
theorem F_spec_ofOne_eq (x : (Int × (Int × (ByteArray × (List Int)))) × Int) : Fev env_spec_ofOne loops_spec_ofOne c_spec_ofOne.ps c_spec_ofOne.rs Tryd.f45 x = F_spec_ofOne x := by kernel_rfl
theorem env_spec_ofOne_ok : EnvOK Tryd.prog env_spec_ofOne := envOK_of (fun f c h => by
  simp only [env_spec_ofOne] at h
  split at h
  · cases h; exact con_spec_l1In
  · cases h; exact con_spec_enGloss
  · cases h; exact con_spec_l1All
  · cases h) (fun f c h => by cases h) rfl
theorem con_spec_ofOne : ConOK Tryd.prog 45 c_spec_ofOne := con_of_ev' (body := Tryd.f45.body.getD .skip) (Λ := loops_spec_ofOne) mixed Tryd.func45 (by kernel_rfl) (by kernel_rfl) env_spec_ofOne_ok (by kernel_rfl) (by kernel_rfl) (fun n L h => by cases h) F_spec_ofOne_eq

noncomputable def F_spec_ofMembers (x : Int) : Option (Bool) :=
  match F_spec_l1In ((x, 1, 7)) with
  | none => none
  | some y1 =>
    some (y1)
noncomputable def c_spec_ofMembers : Con := { ps := [(.val, (.int .i64))], rs := [(.val, .bool)], F := F_spec_ofMembers }
noncomputable def env_spec_ofMembers : Env := { par := [], dp := false, settle := [], con := fun f => match f with | 29 => some c_spec_l1In | _ => none, clo := fun _ => none, T := tinf Tryd.prog }
noncomputable def loops_spec_ofMembers : Nat → Option Loop := fun n => none
theorem F_spec_ofMembers_eq (x : Int) : Fev env_spec_ofMembers loops_spec_ofMembers c_spec_ofMembers.ps c_spec_ofMembers.rs Tryd.f52 x = F_spec_ofMembers x := by kernel_rfl
theorem env_spec_ofMembers_ok : EnvOK Tryd.prog env_spec_ofMembers := envOK_of (fun f c h => by
  simp only [env_spec_ofMembers] at h
  split at h
  · cases h; exact con_spec_l1In
  · cases h) (fun f c h => by cases h) rfl
theorem con_spec_ofMembers : ConOK Tryd.prog 52 c_spec_ofMembers := con_of_ev' (body := Tryd.f52.body.getD .skip) (Λ := loops_spec_ofMembers) mixed Tryd.func52 (by kernel_rfl) (by kernel_rfl) env_spec_ofMembers_ok (by kernel_rfl) (by kernel_rfl) (fun n L h => by cases h) F_spec_ofMembers_eq

noncomputable def step_spec_ofGood_0 (s : (List (Int × (Int × (ByteArray × (List Int))))) × Int × (List (Int × (Int × (ByteArray × (List Int))))) × Int × Int) : Option (((List (Int × (Int × (ByteArray × (List Int))))) × Int × (List (Int × (Int × (ByteArray × (List Int))))) × Int × Int) ⊕ ((Bool) ⊕ ((List (Int × (Int × (ByteArray × (List Int))))) × Int))) :=
  bif (decide (s.2.2.2.2 < s.2.2.2.1)) then
    bif decide (0 ≤ s.2.2.2.2) && decide (s.2.2.2.2 < (s.2.2.1.length : Int)) then
      match F_spec_ofOne (((s.2.2.1.getD (s.2.2.2.2).toNat (0, (0, ByteArray.empty, []))), s.2.1)) with
      | none => none
      | some y5 =>
        bif (!y5) then
          some (.inr (.inl (false)))
        else
          bif (decide (s.2.2.2.2 > 0)) then
            let v6 := IntKind.i64.wrap (s.2.2.2.2 - 1)
            bif decide (0 ≤ v6) && decide (v6 < (s.1.length : Int)) then
              bif (decide ((s.1.getD (v6).toNat (0, (0, ByteArray.empty, []))).1 ≥ (s.2.2.1.getD (s.2.2.2.2).toNat (0, (0, ByteArray.empty, []))).1)) then
                some (.inr (.inl (false)))
              else
                let v7 := IntKind.i64.wrap (s.2.2.2.2 + 1)
                some (.inl ((s.1, s.2.1, (s.2.2.1, s.2.2.2.1, v7))))
            else none
          else
            let v8 := IntKind.i64.wrap (s.2.2.2.2 + 1)
            some (.inl ((s.1, s.2.1, (s.2.2.1, s.2.2.2.1, v8))))
    else none
  else
    some (.inr (.inr ((s.1, s.2.1))))
def pat_spec_ofGood_0 : Pat := { tmps := [.v (.slice (.st (.pair (.int .i64) (.pair (.int .i64) (.pair .str (.slice (.int .i64))))))), .v (.int .i64), .any, .any, .any, .any, .any, .v (.slice (.st (.pair (.int .i64) (.pair (.int .i64) (.pair .str (.slice (.int .i64))))))), .v (.int .i64), .v (.int .i64), .any, .any, .any, .any, .any, .any, .any, .any, .any, .any, .any, .any, .any, .any, .any, .any, .any, .any, .any, .any, .any, .any, .any, .any, .any, .any, .any, .any, .any, .any, .any], blks := [] }
def outs_spec_ofGood_0 : List (Exit × Pat) := [(.ret, { tmps := [.any, .any, .any, .any, .v .bool, .any, .any, .any, .any, .any, .any, .any, .any, .any, .any, .any, .any, .any, .any, .any, .any, .any, .any, .any, .any, .any, .any, .any, .any, .any, .any, .any, .any, .any, .any, .any, .any, .any, .any, .any, .any], blks := [] }), (.exit 0, { tmps := [.v (.slice (.st (.pair (.int .i64) (.pair (.int .i64) (.pair .str (.slice (.int .i64))))))), .v (.int .i64), .any, .any, .any, .any, .any, .any, .any, .any, .any, .any, .any, .any, .any, .any, .any, .any, .any, .any, .any, .any, .any, .any, .any, .any, .any, .any, .any, .any, .any, .any, .any, .any, .any, .any, .any, .any, .any, .any, .any], blks := [] })]
noncomputable def F_spec_ofGood (x : (List (Int × (Int × (ByteArray × (List Int))))) × Int) : Option (Bool) :=
  match runL step_spec_ofGood_0 ((x.1, x.2, (x.1, (x.1.length : Int), 0))) with
  | none => none
  | some (.inl o9) =>
    some (o9)
  | some (.inr o9) =>
    match F_spec_ofMembers (o9.2) with
    | none => none
    | some y10 =>
      bif y10 then
        some ((decide ((o9.1.length : Int) ≤ 12)))
      else
        some (false)
noncomputable def c_spec_ofGood : Con := { ps := [(.val, (.slice (.st (.pair (.int .i64) (.pair (.int .i64) (.pair .str (.slice (.int .i64)))))))), (.val, (.int .i64))], rs := [(.val, .bool)], F := F_spec_ofGood }
noncomputable def env_spec_ofGood : Env := { par := [], dp := false, settle := [], con := fun f => match f with | 45 => some c_spec_ofOne | 52 => some c_spec_ofMembers | _ => none, clo := fun _ => none, T := tinf Tryd.prog }
noncomputable def loops_spec_ofGood : Nat → Option Loop := fun n => match n with | 2 => some { pat := pat_spec_ofGood_0, outs := outs_spec_ofGood_0, run := runL (step_spec_ofGood_0) } | _ => none
theorem step_spec_ofGood_0_eq (s : (List (Int × (Int × (ByteArray × (List Int))))) × Int × (List (Int × (Int × (ByteArray × (List Int))))) × Int × Int) : stepEv env_spec_ofGood loops_spec_ofGood pat_spec_ofGood_0 outs_spec_ofGood_0 Tryd.f28 2 s = step_spec_ofGood_0 s := by kernel_rfl
theorem F_spec_ofGood_eq (x : (List (Int × (Int × (ByteArray × (List Int))))) × Int) : Fev env_spec_ofGood loops_spec_ofGood c_spec_ofGood.ps c_spec_ofGood.rs Tryd.f28 x = F_spec_ofGood x := by kernel_rfl
theorem env_spec_ofGood_ok : EnvOK Tryd.prog env_spec_ofGood := envOK_of (fun f c h => by
  simp only [env_spec_ofGood] at h
  split at h
  · cases h; exact con_spec_ofOne
  · cases h; exact con_spec_ofMembers
  · cases h) (fun f c h => by cases h) rfl
theorem con_spec_ofGood : ConOK Tryd.prog 28 c_spec_ofGood := con_of_ev' (body := Tryd.f28.body.getD .skip) (Λ := loops_spec_ofGood) mixed Tryd.func28 (by kernel_rfl) (by kernel_rfl) env_spec_ofGood_ok (by kernel_rfl) (by kernel_rfl) (fun n L h => by
  unfold loops_spec_ofGood at h
  split at h
  · cases h; exact fun s o ho => loop_ok (stepF := stepEv env_spec_ofGood loops_spec_ofGood pat_spec_ofGood_0 outs_spec_ofGood_0 Tryd.f28 2) (step_spec_ofGood_0_eq) ho
  · cases h) F_spec_ofGood_eq

noncomputable def F_spec_l1Own (x : (List Int)) : Option ((List Int)) :=
  bif decide ((([] : List Int).length + x.length) * 8 ≤ 140737488355328) then
    let v1 := ([] : List Int) ++ x
    some (v1)
  else none
noncomputable def c_spec_l1Own : Con := { ps := [(.val, (.slice (.int .i64)))], rs := [(.io true, (.slice (.int .i64)))], F := F_spec_l1Own }
noncomputable def env_spec_l1Own : Env := { par := [], dp := false, settle := [], con := fun _ => none, clo := fun _ => none, T := tinf Tryd.prog }
noncomputable def loops_spec_l1Own : Nat → Option Loop := fun n => none
theorem F_spec_l1Own_eq (x : (List Int)) : Fev env_spec_l1Own loops_spec_l1Own c_spec_l1Own.ps c_spec_l1Own.rs Tryd.f53 x = F_spec_l1Own x := by kernel_rfl
theorem env_spec_l1Own_ok : EnvOK Tryd.prog env_spec_l1Own := envOK_of (fun f c h => by cases h) (fun f c h => by cases h) rfl
theorem con_spec_l1Own : ConOK Tryd.prog 53 c_spec_l1Own := con_of_ev' (body := Tryd.f53.body.getD .skip) (Λ := loops_spec_l1Own) mixed Tryd.func53 (by kernel_rfl) (by kernel_rfl) env_spec_l1Own_ok (by kernel_rfl) (by kernel_rfl) (fun n L h => by cases h) F_spec_l1Own_eq

noncomputable def step_spec_ofOwn_0 (s : (List (Int × (Int × (ByteArray × (List Int))))) × Int × Int × (List (Int × (Int × (ByteArray × (List Int)))))) : Option (((List (Int × (Int × (ByteArray × (List Int))))) × Int × Int × (List (Int × (Int × (ByteArray × (List Int)))))) ⊕ (((List (Int × (Int × (ByteArray × (List Int)))))))) :=
  bif (decide (s.2.2.1 < s.2.1)) then
    bif decide (0 ≤ s.2.2.1) && decide (s.2.2.1 < (s.1.length : Int)) then
      match F_spec_l1Own ((s.1.getD (s.2.2.1).toNat (0, (0, ByteArray.empty, []))).2.2.2) with
      | none => none
      | some y6 =>
        bif decide ((s.2.2.2.length + ([((s.1.getD (s.2.2.1).toNat (0, (0, ByteArray.empty, []))).1, ((s.1.getD (s.2.2.1).toNat (0, (0, ByteArray.empty, []))).2.1, (s.1.getD (s.2.2.1).toNat (0, (0, ByteArray.empty, []))).2.2.1, y6))] : List ((Int × (Int × (ByteArray × (List Int)))))).length) * 56 ≤ 140737488355328) && true && true then
          let v7 := s.2.2.2 ++ ([((s.1.getD (s.2.2.1).toNat (0, (0, ByteArray.empty, []))).1, ((s.1.getD (s.2.2.1).toNat (0, (0, ByteArray.empty, []))).2.1, (s.1.getD (s.2.2.1).toNat (0, (0, ByteArray.empty, []))).2.2.1, y6))] : List ((Int × (Int × (ByteArray × (List Int))))))
          let v8 := IntKind.i64.wrap (s.2.2.1 + 1)
          some (.inl ((s.1, (s.2.1, v8, v7))))
        else none
    else none
  else
    some (.inr (s.2.2.2))
def pat_spec_ofOwn_0 : Pat := { tmps := [.any, .any, .any, .own 1216, .any, .any, .v (.slice (.st (.pair (.int .i64) (.pair (.int .i64) (.pair .str (.slice (.int .i64))))))), .v (.int .i64), .v (.int .i64), .any, .any, .any, .any, .any, .any, .any, .any, .any, .any, .any, .any, .any], blks := [(1216, .row true (.st (.pair (.int .i64) (.pair (.int .i64) (.pair .str (.slice (.int .i64)))))))] }
def outs_spec_ofOwn_0 : List (Exit × Pat) := [(.exit 0, { tmps := [.any, .any, .any, .own 1216, .any, .any, .any, .any, .any, .any, .any, .any, .any, .any, .any, .any, .any, .any, .any, .any, .any, .any], blks := [(1216, .row true (.st (.pair (.int .i64) (.pair (.int .i64) (.pair .str (.slice (.int .i64)))))))] })]
noncomputable def F_spec_ofOwn (x : (List (Int × (Int × (ByteArray × (List Int)))))) : Option ((List (Int × (Int × (ByteArray × (List Int)))))) :=
  match runL step_spec_ofOwn_0 ((x, ((x.length : Int), 0, []))) with
  | none => none
  | some o9 =>
    some (o9)
noncomputable def c_spec_ofOwn : Con := { ps := [(.val, (.slice (.st (.pair (.int .i64) (.pair (.int .i64) (.pair .str (.slice (.int .i64))))))))], rs := [(.io true, (.slice (.st (.pair (.int .i64) (.pair (.int .i64) (.pair .str (.slice (.int .i64))))))))], F := F_spec_ofOwn }
noncomputable def env_spec_ofOwn : Env := { par := [], dp := true, settle := [], con := fun f => match f with | 53 => some c_spec_l1Own | _ => none, clo := fun _ => none, T := tinf Tryd.prog }
noncomputable def loops_spec_ofOwn : Nat → Option Loop := fun n => match n with | 3 => some { pat := pat_spec_ofOwn_0, outs := outs_spec_ofOwn_0, run := runL (step_spec_ofOwn_0) } | _ => none
theorem step_spec_ofOwn_0_eq (s : (List (Int × (Int × (ByteArray × (List Int))))) × Int × Int × (List (Int × (Int × (ByteArray × (List Int)))))) : stepEv env_spec_ofOwn loops_spec_ofOwn pat_spec_ofOwn_0 outs_spec_ofOwn_0 Tryd.f30 3 s = step_spec_ofOwn_0 s := by kernel_rfl
theorem F_spec_ofOwn_eq (x : (List (Int × (Int × (ByteArray × (List Int)))))) : Fev env_spec_ofOwn loops_spec_ofOwn c_spec_ofOwn.ps c_spec_ofOwn.rs Tryd.f30 x = F_spec_ofOwn x := by kernel_rfl
theorem env_spec_ofOwn_ok : EnvOK Tryd.prog env_spec_ofOwn := envOK_of (fun f c h => by
  simp only [env_spec_ofOwn] at h
  split at h
  · cases h; exact con_spec_l1Own
  · cases h) (fun f c h => by cases h) rfl
theorem con_spec_ofOwn : ConOK Tryd.prog 30 c_spec_ofOwn := con_of_ev' (body := Tryd.f30.body.getD .skip) (Λ := loops_spec_ofOwn) mixed Tryd.func30 (by kernel_rfl) (by kernel_rfl) env_spec_ofOwn_ok (by kernel_rfl) (by kernel_rfl) (fun n L h => by
  unfold loops_spec_ofOwn at h
  split at h
  · cases h; exact fun s o ho => loop_ok (stepF := stepEv env_spec_ofOwn loops_spec_ofOwn pat_spec_ofOwn_0 outs_spec_ofOwn_0 Tryd.f30 3) (step_spec_ofOwn_0_eq) ho
  · cases h) F_spec_ofOwn_eq

noncomputable def F_spec_CastVote (x : (List (Int × (Int × (ByteArray × (List Int))))) × Int × Int × Int × Int) : Option ((List (Int × (Int × (ByteArray × (List Int))))) × Bool) :=
  match F_spec_ofFind ((x.1, x.2.2.1)) with
  | none => none
  | some y1 =>
    match F_spec_ofGood ((x.1, x.2.1)) with
    | none => none
    | some y2 =>
      bif (!y2) then
        some (([], false))
      else
        bif (decide (y1 < 0)) then
          some (([], false))
        else
          let v3 := IntKind.i64.wrap (x.2.1 - 1)
          match F_spec_l1In ((x.2.2.2.1, 0, v3)) with
          | none => none
          | some y4 =>
            bif (!y4) then
              some (([], false))
            else
              bif ((x.2.2.2.2 != 1)) then
                bif ((x.2.2.2.2 != (-1))) then
                  some (([], false))
                else
                  match F_spec_ofOwn (x.1) with
                  | none => none
                  | some y5 =>
                    bif decide (0 ≤ y1) && decide (y1 < (y5.length : Int)) then
                      bif decide (0 ≤ x.2.2.2.1) && decide (x.2.2.2.1 < ((y5.getD (y1).toNat (0, (0, ByteArray.empty, []))).2.2.2.length : Int)) then
                        let v6 := (y5.getD (y1).toNat (0, (0, ByteArray.empty, []))).2.2.2.set (x.2.2.2.1).toNat (x.2.2.2.2)
                        let v7 := y5.set (y1).toNat (((y5.getD (y1).toNat (0, (0, ByteArray.empty, []))).1, ((y5.getD (y1).toNat (0, (0, ByteArray.empty, []))).2.1, (y5.getD (y1).toNat (0, (0, ByteArray.empty, []))).2.2.1, v6)))
                        some ((v7, true))
                      else none
                    else none
              else
                match F_spec_ofOwn (x.1) with
                | none => none
                | some y8 =>
                  bif decide (0 ≤ y1) && decide (y1 < (y8.length : Int)) then
                    bif decide (0 ≤ x.2.2.2.1) && decide (x.2.2.2.1 < ((y8.getD (y1).toNat (0, (0, ByteArray.empty, []))).2.2.2.length : Int)) then
                      let v9 := (y8.getD (y1).toNat (0, (0, ByteArray.empty, []))).2.2.2.set (x.2.2.2.1).toNat (x.2.2.2.2)
                      let v10 := y8.set (y1).toNat (((y8.getD (y1).toNat (0, (0, ByteArray.empty, []))).1, ((y8.getD (y1).toNat (0, (0, ByteArray.empty, []))).2.1, (y8.getD (y1).toNat (0, (0, ByteArray.empty, []))).2.2.1, v9)))
                      some ((v10, true))
                    else none
                  else none
noncomputable def c_spec_CastVote : Con := { ps := [(.val, (.slice (.st (.pair (.int .i64) (.pair (.int .i64) (.pair .str (.slice (.int .i64)))))))), (.val, (.int .i64)), (.val, (.int .i64)), (.val, (.int .i64)), (.val, (.int .i64))], rs := [(.val, (.slice (.st (.pair (.int .i64) (.pair (.int .i64) (.pair .str (.slice (.int .i64)))))))), (.val, .bool)], F := F_spec_CastVote }
noncomputable def env_spec_CastVote : Env := { par := [], dp := true, settle := [], con := fun f => match f with | 27 => some c_spec_ofFind | 28 => some c_spec_ofGood | 29 => some c_spec_l1In | 30 => some c_spec_ofOwn | _ => none, clo := fun _ => none, T := tinf Tryd.prog }
noncomputable def loops_spec_CastVote : Nat → Option Loop := fun n => none
theorem F_spec_CastVote_eq (x : (List (Int × (Int × (ByteArray × (List Int))))) × Int × Int × Int × Int) : Fev env_spec_CastVote loops_spec_CastVote c_spec_CastVote.ps c_spec_CastVote.rs Tryd.f7 x = F_spec_CastVote x := by kernel_rfl
theorem env_spec_CastVote_ok : EnvOK Tryd.prog env_spec_CastVote := envOK_of (fun f c h => by
  simp only [env_spec_CastVote] at h
  split at h
  · cases h; exact con_spec_ofFind
  · cases h; exact con_spec_ofGood
  · cases h; exact con_spec_l1In
  · cases h; exact con_spec_ofOwn
  · cases h) (fun f c h => by cases h) rfl
theorem con_spec_CastVote : ConOK Tryd.prog 7 c_spec_CastVote := con_of_ev' (body := Tryd.f7.body.getD .skip) (Λ := loops_spec_CastVote) mixed Tryd.func7 (by kernel_rfl) (by kernel_rfl) env_spec_CastVote_ok (by kernel_rfl) (by kernel_rfl) (fun n L h => by cases h) F_spec_CastVote_eq

noncomputable def step_laws_sameInts_0 (s : (List Int) × (List Int) × Int × Int) : Option (((List Int) × (List Int) × Int × Int) ⊕ ((Bool) ⊕ (Unit))) :=
  bif (decide (s.2.2.2 < s.2.2.1)) then
    bif decide (0 ≤ s.2.2.2) && decide (s.2.2.2 < (s.1.length : Int)) then
      bif decide (0 ≤ s.2.2.2) && decide (s.2.2.2 < (s.2.1.length : Int)) then
        bif (((s.1.getD (s.2.2.2).toNat 0) != (s.2.1.getD (s.2.2.2).toNat 0))) then
          some (.inr (.inl (false)))
        else
          let v2 := IntKind.i64.wrap (s.2.2.2 + 1)
          some (.inl ((s.1, (s.2.1, s.2.2.1, v2))))
      else none
    else none
  else
    some (.inr (.inr (())))
def pat_laws_sameInts_0 : Pat := { tmps := [.v (.slice (.int .i64)), .v (.slice (.int .i64)), .any, .any, .any, .any, .any, .any, .any, .any, .any, .any, .v (.int .i64), .v (.int .i64), .any, .any, .any, .any, .any, .any, .any, .any, .any, .any, .any, .any], blks := [] }
def outs_laws_sameInts_0 : List (Exit × Pat) := [(.ret, { tmps := [.any, .any, .any, .any, .v .bool, .any, .any, .any, .any, .any, .any, .any, .any, .any, .any, .any, .any, .any, .any, .any, .any, .any, .any, .any, .any, .any], blks := [] }), (.exit 0, { tmps := [.any, .any, .any, .any, .any, .any, .any, .any, .any, .any, .any, .any, .any, .any, .any, .any, .any, .any, .any, .any, .any, .any, .any, .any, .any, .any], blks := [] })]
noncomputable def F_laws_sameInts (x : (List Int) × (List Int)) : Option (Bool) :=
  bif (((x.1.length : Int) != (x.2.length : Int))) then
    some (false)
  else
    match runL step_laws_sameInts_0 ((x.1, (x.2, (x.1.length : Int), 0))) with
    | none => none
    | some (.inl o3) =>
      some (o3)
    | some (.inr o3) =>
      some (true)
noncomputable def c_laws_sameInts : Con := { ps := [(.val, (.slice (.int .i64))), (.val, (.slice (.int .i64)))], rs := [(.val, .bool)], F := F_laws_sameInts }
noncomputable def env_laws_sameInts : Env := { par := [], dp := false, settle := [], con := fun _ => none, clo := fun _ => none, T := tinf Tryd.prog }
noncomputable def loops_laws_sameInts : Nat → Option Loop := fun n => match n with | 4 => some { pat := pat_laws_sameInts_0, outs := outs_laws_sameInts_0, run := runL (step_laws_sameInts_0) } | _ => none
theorem step_laws_sameInts_0_eq (s : (List Int) × (List Int) × Int × Int) : stepEv env_laws_sameInts loops_laws_sameInts pat_laws_sameInts_0 outs_laws_sameInts_0 Tryd.f31 4 s = step_laws_sameInts_0 s := by kernel_rfl
theorem F_laws_sameInts_eq (x : (List Int) × (List Int)) : Fev env_laws_sameInts loops_laws_sameInts c_laws_sameInts.ps c_laws_sameInts.rs Tryd.f31 x = F_laws_sameInts x := by kernel_rfl
theorem env_laws_sameInts_ok : EnvOK Tryd.prog env_laws_sameInts := envOK_of (fun f c h => by cases h) (fun f c h => by cases h) rfl
theorem con_laws_sameInts : ConOK Tryd.prog 31 c_laws_sameInts := con_of_ev' (body := Tryd.f31.body.getD .skip) (Λ := loops_laws_sameInts) mixed Tryd.func31 (by kernel_rfl) (by kernel_rfl) env_laws_sameInts_ok (by kernel_rfl) (by kernel_rfl) (fun n L h => by
  unfold loops_laws_sameInts at h
  split at h
  · cases h; exact fun s o ho => loop_ok (stepF := stepEv env_laws_sameInts loops_laws_sameInts pat_laws_sameInts_0 outs_laws_sameInts_0 Tryd.f31 4) (step_laws_sameInts_0_eq) ho
  · cases h) F_laws_sameInts_eq

noncomputable def step_laws_pSameProposals_0 (s : (List (Int × (Int × (ByteArray × (List Int))))) × (List (Int × (Int × (ByteArray × (List Int))))) × Int × Int) : Option (((List (Int × (Int × (ByteArray × (List Int))))) × (List (Int × (Int × (ByteArray × (List Int))))) × Int × Int) ⊕ ((Bool) ⊕ (Unit))) :=
  bif (decide (s.2.2.2 < s.2.2.1)) then
    bif decide (0 ≤ s.2.2.2) && decide (s.2.2.2 < (s.1.length : Int)) then
      bif decide (0 ≤ s.2.2.2) && decide (s.2.2.2 < (s.2.1.length : Int)) then
        bif (((s.1.getD (s.2.2.2).toNat (0, (0, ByteArray.empty, []))).1 != (s.2.1.getD (s.2.2.2).toNat (0, (0, ByteArray.empty, []))).1)) then
          some (.inr (.inl (false)))
        else
          bif decide (0 ≤ s.2.2.2) && decide (s.2.2.2 < (s.1.length : Int)) then
            bif decide (0 ≤ s.2.2.2) && decide (s.2.2.2 < (s.2.1.length : Int)) then
              bif (((s.1.getD (s.2.2.2).toNat (0, (0, ByteArray.empty, []))).2.1 != (s.2.1.getD (s.2.2.2).toNat (0, (0, ByteArray.empty, []))).2.1)) then
                some (.inr (.inl (false)))
              else
                bif decide (0 ≤ s.2.2.2) && decide (s.2.2.2 < (s.1.length : Int)) then
                  bif decide (0 ≤ s.2.2.2) && decide (s.2.2.2 < (s.2.1.length : Int)) then
                    bif (!((s.1.getD (s.2.2.2).toNat (0, (0, ByteArray.empty, []))).2.2.1.toList == (s.2.1.getD (s.2.2.2).toNat (0, (0, ByteArray.empty, []))).2.2.1.toList)) then
                      some (.inr (.inl (false)))
                    else
                      bif decide (0 ≤ s.2.2.2) && decide (s.2.2.2 < (s.1.length : Int)) then
                        bif decide (0 ≤ s.2.2.2) && decide (s.2.2.2 < (s.2.1.length : Int)) then
                          match F_laws_sameInts (((s.1.getD (s.2.2.2).toNat (0, (0, ByteArray.empty, []))).2.2.2, (s.2.1.getD (s.2.2.2).toNat (0, (0, ByteArray.empty, []))).2.2.2)) with
                          | none => none
                          | some y3 =>
                            bif (!y3) then
                              some (.inr (.inl (false)))
                            else
                              let v4 := IntKind.i64.wrap (s.2.2.2 + 1)
                              some (.inl ((s.1, (s.2.1, s.2.2.1, v4))))
                        else none
                      else none
                  else none
                else none
            else none
          else none
      else none
    else none
  else
    some (.inr (.inr (())))
def pat_laws_pSameProposals_0 : Pat := { tmps := [.v (.slice (.st (.pair (.int .i64) (.pair (.int .i64) (.pair .str (.slice (.int .i64))))))), .v (.slice (.st (.pair (.int .i64) (.pair (.int .i64) (.pair .str (.slice (.int .i64))))))), .any, .any, .any, .any, .any, .any, .any, .any, .any, .any, .v (.int .i64), .v (.int .i64), .any, .any, .any, .any, .any, .any, .any, .any, .any, .any, .any, .any, .any, .any, .any, .any, .any, .any, .any, .any, .any, .any, .any, .any, .any, .any, .any, .any, .any, .any, .any, .any, .any, .any, .any, .any, .any, .any, .any, .any, .any, .any, .any, .any, .any, .any, .any, .any, .any, .any, .any, .any, .any, .any], blks := [] }
def outs_laws_pSameProposals_0 : List (Exit × Pat) := [(.ret, { tmps := [.any, .any, .any, .any, .v .bool, .any, .any, .any, .any, .any, .any, .any, .any, .any, .any, .any, .any, .any, .any, .any, .any, .any, .any, .any, .any, .any, .any, .any, .any, .any, .any, .any, .any, .any, .any, .any, .any, .any, .any, .any, .any, .any, .any, .any, .any, .any, .any, .any, .any, .any, .any, .any, .any, .any, .any, .any, .any, .any, .any, .any, .any, .any, .any, .any, .any, .any, .any, .any], blks := [] }), (.exit 0, { tmps := [.any, .any, .any, .any, .any, .any, .any, .any, .any, .any, .any, .any, .any, .any, .any, .any, .any, .any, .any, .any, .any, .any, .any, .any, .any, .any, .any, .any, .any, .any, .any, .any, .any, .any, .any, .any, .any, .any, .any, .any, .any, .any, .any, .any, .any, .any, .any, .any, .any, .any, .any, .any, .any, .any, .any, .any, .any, .any, .any, .any, .any, .any, .any, .any, .any, .any, .any, .any], blks := [] })]
noncomputable def F_laws_pSameProposals (x : (List (Int × (Int × (ByteArray × (List Int))))) × (List (Int × (Int × (ByteArray × (List Int)))))) : Option (Bool) :=
  bif (((x.1.length : Int) != (x.2.length : Int))) then
    some (false)
  else
    match runL step_laws_pSameProposals_0 ((x.1, (x.2, (x.1.length : Int), 0))) with
    | none => none
    | some (.inl o5) =>
      some (o5)
    | some (.inr o5) =>
      some (true)
noncomputable def c_laws_pSameProposals : Con := { ps := [(.val, (.slice (.st (.pair (.int .i64) (.pair (.int .i64) (.pair .str (.slice (.int .i64)))))))), (.val, (.slice (.st (.pair (.int .i64) (.pair (.int .i64) (.pair .str (.slice (.int .i64))))))))], rs := [(.val, .bool)], F := F_laws_pSameProposals }
noncomputable def env_laws_pSameProposals : Env := { par := [], dp := false, settle := [], con := fun f => match f with | 31 => some c_laws_sameInts | _ => none, clo := fun _ => none, T := tinf Tryd.prog }
noncomputable def loops_laws_pSameProposals : Nat → Option Loop := fun n => match n with | 4 => some { pat := pat_laws_pSameProposals_0, outs := outs_laws_pSameProposals_0, run := runL (step_laws_pSameProposals_0) } | _ => none
theorem step_laws_pSameProposals_0_eq (s : (List (Int × (Int × (ByteArray × (List Int))))) × (List (Int × (Int × (ByteArray × (List Int))))) × Int × Int) : stepEv env_laws_pSameProposals loops_laws_pSameProposals pat_laws_pSameProposals_0 outs_laws_pSameProposals_0 Tryd.f8 4 s = step_laws_pSameProposals_0 s := by kernel_rfl
theorem F_laws_pSameProposals_eq (x : (List (Int × (Int × (ByteArray × (List Int))))) × (List (Int × (Int × (ByteArray × (List Int)))))) : Fev env_laws_pSameProposals loops_laws_pSameProposals c_laws_pSameProposals.ps c_laws_pSameProposals.rs Tryd.f8 x = F_laws_pSameProposals x := by kernel_rfl
theorem env_laws_pSameProposals_ok : EnvOK Tryd.prog env_laws_pSameProposals := envOK_of (fun f c h => by
  simp only [env_laws_pSameProposals] at h
  split at h
  · cases h; exact con_laws_sameInts
  · cases h) (fun f c h => by cases h) rfl
theorem con_laws_pSameProposals : ConOK Tryd.prog 8 c_laws_pSameProposals := con_of_ev' (body := Tryd.f8.body.getD .skip) (Λ := loops_laws_pSameProposals) mixed Tryd.func8 (by kernel_rfl) (by kernel_rfl) env_laws_pSameProposals_ok (by kernel_rfl) (by kernel_rfl) (fun n L h => by
  unfold loops_laws_pSameProposals at h
  split at h
  · cases h; exact fun s o ho => loop_ok (stepF := stepEv env_laws_pSameProposals loops_laws_pSameProposals pat_laws_pSameProposals_0 outs_laws_pSameProposals_0 Tryd.f8 4) (step_laws_pSameProposals_0_eq) ho
  · cases h) F_laws_pSameProposals_eq

noncomputable def F_spec_DrawIsPassed (x : (List Int)) : Option ((List (Int × (Int × (ByteArray × (List Int))))) × Int × Int) :=
  match F_spec_l1Cur_proposals ((x, 0, 0)) with
  | none => none
  | some y1 =>
    match F_spec_l1Cur_numberIn ((y1.1, y1.2.1)) with
    | none => none
    | some y2 =>
      some ((y1.2.1, y1.2.2, y2.2))
noncomputable def c_spec_DrawIsPassed : Con := { ps := [(.val, (.slice (.int .u8)))], rs := [(.val, (.slice (.st (.pair (.int .i64) (.pair (.int .i64) (.pair .str (.slice (.int .i64)))))))), (.val, (.int .i64)), (.val, (.int .i64))], F := F_spec_DrawIsPassed }
noncomputable def env_spec_DrawIsPassed : Env := { par := [], dp := false, settle := [], con := fun f => match f with | 21 => some c_spec_l1Cur_proposals | 22 => some c_spec_l1Cur_numberIn | _ => none, clo := fun _ => none, T := tinf Tryd.prog }
noncomputable def loops_spec_DrawIsPassed : Nat → Option Loop := fun n => none
theorem F_spec_DrawIsPassed_eq (x : (List Int)) : Fev env_spec_DrawIsPassed loops_spec_DrawIsPassed c_spec_DrawIsPassed.ps c_spec_DrawIsPassed.rs Tryd.f33 x = F_spec_DrawIsPassed x := by kernel_rfl
theorem env_spec_DrawIsPassed_ok : EnvOK Tryd.prog env_spec_DrawIsPassed := envOK_of (fun f c h => by
  simp only [env_spec_DrawIsPassed] at h
  split at h
  · cases h; exact con_spec_l1Cur_proposals
  · cases h; exact con_spec_l1Cur_numberIn
  · cases h) (fun f c h => by cases h) rfl
theorem con_spec_DrawIsPassed : ConOK Tryd.prog 33 c_spec_DrawIsPassed := con_of_ev' (body := Tryd.f33.body.getD .skip) (Λ := loops_spec_DrawIsPassed) mixed Tryd.func33 (by kernel_rfl) (by kernel_rfl) env_spec_DrawIsPassed_ok (by kernel_rfl) (by kernel_rfl) (fun n L h => by cases h) F_spec_DrawIsPassed_eq

noncomputable def F_spec_DrawVotesMissing (x : (List Int)) : Option ((List (Int × (Int × (ByteArray × (List Int))))) × Int × Int) :=
  match F_spec_DrawIsPassed (x) with
  | none => none
  | some y1 =>
    some (y1)
noncomputable def c_spec_DrawVotesMissing : Con := { ps := [(.val, (.slice (.int .u8)))], rs := [(.val, (.slice (.st (.pair (.int .i64) (.pair (.int .i64) (.pair .str (.slice (.int .i64)))))))), (.val, (.int .i64)), (.val, (.int .i64))], F := F_spec_DrawVotesMissing }
noncomputable def env_spec_DrawVotesMissing : Env := { par := [], dp := false, settle := [], con := fun f => match f with | 33 => some c_spec_DrawIsPassed | _ => none, clo := fun _ => none, T := tinf Tryd.prog }
noncomputable def loops_spec_DrawVotesMissing : Nat → Option Loop := fun n => none
theorem F_spec_DrawVotesMissing_eq (x : (List Int)) : Fev env_spec_DrawVotesMissing loops_spec_DrawVotesMissing c_spec_DrawVotesMissing.ps c_spec_DrawVotesMissing.rs Tryd.f10 x = F_spec_DrawVotesMissing x := by kernel_rfl
theorem env_spec_DrawVotesMissing_ok : EnvOK Tryd.prog env_spec_DrawVotesMissing := envOK_of (fun f c h => by
  simp only [env_spec_DrawVotesMissing] at h
  split at h
  · cases h; exact con_spec_DrawIsPassed
  · cases h) (fun f c h => by cases h) rfl
theorem con_spec_DrawVotesMissing : ConOK Tryd.prog 10 c_spec_DrawVotesMissing := con_of_ev' (body := Tryd.f10.body.getD .skip) (Λ := loops_spec_DrawVotesMissing) mixed Tryd.func10 (by kernel_rfl) (by kernel_rfl) env_spec_DrawVotesMissing_ok (by kernel_rfl) (by kernel_rfl) (fun n L h => by cases h) F_spec_DrawVotesMissing_eq

noncomputable def step_impl_those_int_0 (s : (Int → Option Bool) × (List Int) × Int × Int × (List Int)) : Option (((Int → Option Bool) × (List Int) × Int × Int × (List Int)) ⊕ (((List Int)))) :=
  bif (decide (s.2.2.2.1 < s.2.2.1)) then
    bif decide (0 ≤ s.2.2.2.1) && decide (s.2.2.2.1 < (s.2.1.length : Int)) then
      match s.1 ((s.2.1.getD (s.2.2.2.1).toNat 0)) with
      | none => none
      | some y8 =>
        bif y8 then
          bif decide ((s.2.2.2.2.length + [s.2.2.2.1].length) * 8 ≤ 140737488355328) then
            let v9 := s.2.2.2.2 ++ [s.2.2.2.1]
            let v10 := IntKind.i64.wrap (s.2.2.2.1 + 1)
            some (.inl ((s.1, s.2.1, (s.2.2.1, v10, v9))))
          else none
        else
          let v11 := IntKind.i64.wrap (s.2.2.2.1 + 1)
          some (.inl ((s.1, s.2.1, (s.2.2.1, v11, s.2.2.2.2))))
    else none
  else
    some (.inr (s.2.2.2.2))
def pat_impl_those_int_0 : Pat := { tmps := [.any, .v (.fn (.int .i64) .bool), .any, .any, .any, .own 1344, .any, .any, .v (.slice (.int .i64)), .v (.int .i64), .v (.int .i64), .any, .any, .any, .any, .any, .any, .any, .any, .any, .any, .any, .any, .any], blks := [(1344, .row true (.int .i64))] }
def outs_impl_those_int_0 : List (Exit × Pat) := [(.exit 0, { tmps := [.any, .any, .any, .any, .any, .own 1344, .any, .any, .any, .any, .any, .any, .any, .any, .any, .any, .any, .any, .any, .any, .any, .any, .any, .any], blks := [(1344, .row true (.int .i64))] })]
noncomputable def F_impl_those_int (x : (List Int) × (Int → Option Bool)) : Option ((List Int)) :=
  match runL step_impl_those_int_0 ((x.2, x.1, ((x.1.length : Int), 0, []))) with
  | none => none
  | some o12 =>
    some (o12)
noncomputable def c_impl_those_int : Con := { ps := [(.val, (.slice (.int .i64))), (.val, (.fn (.int .i64) .bool))], rs := [(.io true, (.slice (.int .i64)))], F := F_impl_those_int }
noncomputable def env_impl_those_int : Env := { par := [], dp := false, settle := [], con := fun _ => none, clo := fun _ => none, T := tinf Tryd.prog }
noncomputable def loops_impl_those_int : Nat → Option Loop := fun n => match n with | 3 => some { pat := pat_impl_those_int_0, outs := outs_impl_those_int_0, run := runL (step_impl_those_int_0) } | _ => none
theorem step_impl_those_int_0_eq (s : (Int → Option Bool) × (List Int) × Int × Int × (List Int)) : stepEv env_impl_those_int loops_impl_those_int pat_impl_those_int_0 outs_impl_those_int_0 Tryd.f34 3 s = step_impl_those_int_0 s := by kernel_rfl
theorem F_impl_those_int_eq (x : (List Int) × (Int → Option Bool)) : Fev env_impl_those_int loops_impl_those_int c_impl_those_int.ps c_impl_those_int.rs Tryd.f34 x = F_impl_those_int x := by kernel_rfl
theorem env_impl_those_int_ok : EnvOK Tryd.prog env_impl_those_int := envOK_of (fun f c h => by cases h) (fun f c h => by cases h) rfl
theorem con_impl_those_int : ConOK Tryd.prog 34 c_impl_those_int := con_of_ev' (body := Tryd.f34.body.getD .skip) (Λ := loops_impl_those_int) mixed Tryd.func34 (by kernel_rfl) (by kernel_rfl) env_impl_those_int_ok (by kernel_rfl) (by kernel_rfl) (fun n L h => by
  unfold loops_impl_those_int at h
  split at h
  · cases h; exact fun s o ho => loop_ok (stepF := stepEv env_impl_those_int loops_impl_those_int pat_impl_those_int_0 outs_impl_those_int_0 Tryd.f34 3) (step_impl_those_int_0_eq) ho
  · cases h) F_impl_those_int_eq

noncomputable def F_impl_VotesMissing_1 (x : Int) : Option (Bool) :=
  some (((x == 0)))
noncomputable def c_impl_VotesMissing_1 : Con := { ps := [(.val, (.int .i64))], rs := [(.val, .bool)], F := F_impl_VotesMissing_1 }
noncomputable def env_impl_VotesMissing_1 : Env := { par := [], dp := false, settle := [], con := fun _ => none, clo := fun _ => none, T := tinf Tryd.prog }
noncomputable def loops_impl_VotesMissing_1 : Nat → Option Loop := fun n => none
theorem F_impl_VotesMissing_1_eq (x : Int) : Fev env_impl_VotesMissing_1 loops_impl_VotesMissing_1 c_impl_VotesMissing_1.ps c_impl_VotesMissing_1.rs Tryd.f35 x = F_impl_VotesMissing_1 x := by kernel_rfl
theorem env_impl_VotesMissing_1_ok : EnvOK Tryd.prog env_impl_VotesMissing_1 := envOK_of (fun f c h => by cases h) (fun f c h => by cases h) rfl
theorem con_impl_VotesMissing_1 : ConOK Tryd.prog 35 c_impl_VotesMissing_1 := con_of_ev' (body := Tryd.f35.body.getD .skip) (Λ := loops_impl_VotesMissing_1) mixed Tryd.func35 (by kernel_rfl) (by kernel_rfl) env_impl_VotesMissing_1_ok (by kernel_rfl) (by kernel_rfl) (fun n L h => by cases h) F_impl_VotesMissing_1_eq

noncomputable def F_impl_Proposal_passed_1 (x : Int) : Option (Bool) :=
  some (((x != 0)))
noncomputable def c_impl_Proposal_passed_1 : Con := { ps := [(.val, (.int .i64))], rs := [(.val, .bool)], F := F_impl_Proposal_passed_1 }
noncomputable def env_impl_Proposal_passed_1 : Env := { par := [], dp := false, settle := [], con := fun _ => none, clo := fun _ => none, T := tinf Tryd.prog }
noncomputable def loops_impl_Proposal_passed_1 : Nat → Option Loop := fun n => none
theorem F_impl_Proposal_passed_1_eq (x : Int) : Fev env_impl_Proposal_passed_1 loops_impl_Proposal_passed_1 c_impl_Proposal_passed_1.ps c_impl_Proposal_passed_1.rs Tryd.f56 x = F_impl_Proposal_passed_1 x := by kernel_rfl
theorem env_impl_Proposal_passed_1_ok : EnvOK Tryd.prog env_impl_Proposal_passed_1 := envOK_of (fun f c h => by cases h) (fun f c h => by cases h) rfl
theorem con_impl_Proposal_passed_1 : ConOK Tryd.prog 56 c_impl_Proposal_passed_1 := con_of_ev' (body := Tryd.f56.body.getD .skip) (Λ := loops_impl_Proposal_passed_1) mixed Tryd.func56 (by kernel_rfl) (by kernel_rfl) env_impl_Proposal_passed_1_ok (by kernel_rfl) (by kernel_rfl) (fun n L h => by cases h) F_impl_Proposal_passed_1_eq

noncomputable def step_impl_sumOf_0 (s : Int × (List Int) × Int × Int) : Option ((Int × (List Int) × Int × Int) ⊕ ((Int))) :=
  bif (decide (s.2.2.2 < s.2.2.1)) then
    bif decide (0 ≤ s.2.2.2) && decide (s.2.2.2 < (s.2.1.length : Int)) then
      let v3 := IntKind.i64.wrap (s.1 + (s.2.1.getD (s.2.2.2).toNat 0))
      let v4 := IntKind.i64.wrap (s.2.2.2 + 1)
      some (.inl ((v3, (s.2.1, s.2.2.1, v4))))
    else none
  else
    some (.inr (s.1))
def pat_impl_sumOf_0 : Pat := { tmps := [.any, .any, .any, .v (.int .i64), .any, .any, .v (.slice (.int .i64)), .v (.int .i64), .v (.int .i64), .any, .any, .any, .any, .any, .any, .any, .any], blks := [] }
def outs_impl_sumOf_0 : List (Exit × Pat) := [(.exit 0, { tmps := [.any, .any, .any, .v (.int .i64), .any, .any, .any, .any, .any, .any, .any, .any, .any, .any, .any, .any, .any], blks := [] })]
noncomputable def F_impl_sumOf (x : (List Int)) : Option (Int) :=
  match runL step_impl_sumOf_0 ((0, (x, (x.length : Int), 0))) with
  | none => none
  | some o5 =>
    some (o5)
noncomputable def c_impl_sumOf : Con := { ps := [(.val, (.slice (.int .i64)))], rs := [(.val, (.int .i64))], F := F_impl_sumOf }
noncomputable def env_impl_sumOf : Env := { par := [], dp := false, settle := [], con := fun _ => none, clo := fun _ => none, T := tinf Tryd.prog }
noncomputable def loops_impl_sumOf : Nat → Option Loop := fun n => match n with | 3 => some { pat := pat_impl_sumOf_0, outs := outs_impl_sumOf_0, run := runL (step_impl_sumOf_0) } | _ => none
theorem step_impl_sumOf_0_eq (s : Int × (List Int) × Int × Int) : stepEv env_impl_sumOf loops_impl_sumOf pat_impl_sumOf_0 outs_impl_sumOf_0 Tryd.f57 3 s = step_impl_sumOf_0 s := by kernel_rfl
theorem F_impl_sumOf_eq (x : (List Int)) : Fev env_impl_sumOf loops_impl_sumOf c_impl_sumOf.ps c_impl_sumOf.rs Tryd.f57 x = F_impl_sumOf x := by kernel_rfl
theorem env_impl_sumOf_ok : EnvOK Tryd.prog env_impl_sumOf := envOK_of (fun f c h => by cases h) (fun f c h => by cases h) rfl
theorem con_impl_sumOf : ConOK Tryd.prog 57 c_impl_sumOf := con_of_ev' (body := Tryd.f57.body.getD .skip) (Λ := loops_impl_sumOf) mixed Tryd.func57 (by kernel_rfl) (by kernel_rfl) env_impl_sumOf_ok (by kernel_rfl) (by kernel_rfl) (fun n L h => by
  unfold loops_impl_sumOf at h
  split at h
  · cases h; exact fun s o ho => loop_ok (stepF := stepEv env_impl_sumOf loops_impl_sumOf pat_impl_sumOf_0 outs_impl_sumOf_0 Tryd.f57 3) (step_impl_sumOf_0_eq) ho
  · cases h) F_impl_sumOf_eq

noncomputable def K_impl_Proposal_passed_1 (q : Unit) (x : Int) : Option (Bool) := F_impl_Proposal_passed_1 x
noncomputable def k_impl_Proposal_passed_1 : CloCon := { caps := [], a := (.int .i64), r := .bool, F := K_impl_Proposal_passed_1 }
theorem clo_impl_Proposal_passed_1 : CloOK Tryd.prog 56 k_impl_Proposal_passed_1 := clo_of_con k_impl_Proposal_passed_1 F_impl_Proposal_passed_1 con_impl_Proposal_passed_1 rfl (fun kx x y h => ⟨y, h, rfl⟩)
noncomputable def F_impl_Proposal_passed (x : (Int × (Int × (ByteArray × (List Int)))) × Int) : Option (Bool) :=
  match F_impl_those_int ((x.1.2.2.2, (K_impl_Proposal_passed_1 ()))) with
  | none => none
  | some y1 =>
    let v2 := IntKind.i64.wrap (x.2 + (y1.length : Int))
    let v3 := IntKind.i64.wrap (2 * v2)
    bif (decide (v3 > (x.1.2.2.2.length : Int))) then
      match F_impl_sumOf (x.1.2.2.2) with
      | none => none
      | some y4 =>
        let v5 := IntKind.i64.wrap (y4 + x.2)
        some ((decide (v5 > 0)))
    else
      some (false)
noncomputable def c_impl_Proposal_passed : Con := { ps := [(.val, (.st (.pair (.int .i64) (.pair (.int .i64) (.pair .str (.slice (.int .i64))))))), (.val, (.int .i64))], rs := [(.val, .bool)], F := F_impl_Proposal_passed }
noncomputable def env_impl_Proposal_passed : Env := { par := [], dp := false, settle := [], con := fun f => match f with | 34 => some c_impl_those_int | 57 => some c_impl_sumOf | _ => none, clo := fun f => match f with | 56 => some k_impl_Proposal_passed_1 | _ => none, T := tinf Tryd.prog }
noncomputable def loops_impl_Proposal_passed : Nat → Option Loop := fun n => none
theorem F_impl_Proposal_passed_eq (x : (Int × (Int × (ByteArray × (List Int)))) × Int) : Fev env_impl_Proposal_passed loops_impl_Proposal_passed c_impl_Proposal_passed.ps c_impl_Proposal_passed.rs Tryd.f36 x = F_impl_Proposal_passed x := by kernel_rfl
theorem env_impl_Proposal_passed_ok : EnvOK Tryd.prog env_impl_Proposal_passed := envOK_of (fun f c h => by
  simp only [env_impl_Proposal_passed] at h
  split at h
  · cases h; exact con_impl_those_int
  · cases h; exact con_impl_sumOf
  · cases h) (fun f c h => by
  simp only [env_impl_Proposal_passed] at h
  split at h
  · cases h; exact clo_impl_Proposal_passed_1
  · cases h) rfl
theorem con_impl_Proposal_passed : ConOK Tryd.prog 36 c_impl_Proposal_passed := con_of_ev' (body := Tryd.f36.body.getD .skip) (Λ := loops_impl_Proposal_passed) mixed Tryd.func36 (by kernel_rfl) (by kernel_rfl) env_impl_Proposal_passed_ok (by kernel_rfl) (by kernel_rfl) (fun n L h => by cases h) F_impl_Proposal_passed_eq

noncomputable def K_impl_VotesMissing_1 (q : Unit) (x : Int) : Option (Bool) := F_impl_VotesMissing_1 x
noncomputable def k_impl_VotesMissing_1 : CloCon := { caps := [], a := (.int .i64), r := .bool, F := K_impl_VotesMissing_1 }
theorem clo_impl_VotesMissing_1 : CloOK Tryd.prog 35 k_impl_VotesMissing_1 := clo_of_con k_impl_VotesMissing_1 F_impl_VotesMissing_1 con_impl_VotesMissing_1 rfl (fun kx x y h => ⟨y, h, rfl⟩)
noncomputable def step_impl_VotesMissing_0 (s : (List (Int × (Int × (ByteArray × (List Int))))) × Int × Int × Int) : Option (((List (Int × (Int × (ByteArray × (List Int))))) × Int × Int × Int) ⊕ ((Int × Bool) ⊕ (Unit))) :=
  bif (decide (s.2.2.2 < s.2.2.1)) then
    bif decide (0 ≤ s.2.1) && decide (s.2.1 < (s.1.length : Int)) then
      match F_impl_Proposal_passed (((s.1.getD (s.2.1).toNat (0, (0, ByteArray.empty, []))), s.2.2.2)) with
      | none => none
      | some y7 =>
        bif y7 then
          some (.inr (.inl ((s.2.2.2, true))))
        else
          let v8 := IntKind.i64.wrap (s.2.2.2 + 1)
          some (.inl ((s.1, (s.2.1, s.2.2.1, v8))))
    else none
  else
    some (.inr (.inr (())))
def pat_impl_VotesMissing_0 : Pat := { tmps := [.v (.slice (.st (.pair (.int .i64) (.pair (.int .i64) (.pair .str (.slice (.int .i64))))))), .any, .any, .any, .any, .any, .any, .any, .v (.int .i64), .any, .any, .any, .any, .any, .any, .any, .any, .any, .any, .any, .any, .any, .any, .any, .any, .any, .any, .any, .any, .any, .v (.int .i64), .v (.int .i64), .any, .any, .any, .any, .any, .any, .any, .any, .any, .any], blks := [] }
def outs_impl_VotesMissing_0 : List (Exit × Pat) := [(.ret, { tmps := [.any, .any, .any, .any, .any, .any, .v (.int .i64), .v .bool, .any, .any, .any, .any, .any, .any, .any, .any, .any, .any, .any, .any, .any, .any, .any, .any, .any, .any, .any, .any, .any, .any, .any, .any, .any, .any, .any, .any, .any, .any, .any, .any, .any, .any], blks := [] }), (.exit 0, { tmps := [.any, .any, .any, .any, .any, .any, .any, .any, .any, .any, .any, .any, .any, .any, .any, .any, .any, .any, .any, .any, .any, .any, .any, .any, .any, .any, .any, .any, .any, .any, .any, .any, .any, .any, .any, .any, .any, .any, .any, .any, .any, .any], blks := [] })]
noncomputable def F_impl_VotesMissing (x : (List (Int × (Int × (ByteArray × (List Int))))) × Int × Int) : Option (Int × Bool) :=
  match F_impl_proposalAt ((x.1, x.2.2)) with
  | none => none
  | some y1 =>
    match F_impl_AreProposals ((x.1, x.2.1)) with
    | none => none
    | some y2 =>
      bif (!y2) then
        some ((0, false))
      else
        bif (decide (y1 < 0)) then
          some ((0, false))
        else
          bif decide (0 ≤ y1) && decide (y1 < (x.1.length : Int)) then
            match F_impl_those_int (((x.1.getD (y1).toNat (0, (0, ByteArray.empty, []))).2.2.2, (K_impl_VotesMissing_1 ()))) with
            | none => none
            | some y3 =>
              let v4 := IntKind.i64.wrap ((y3.length : Int) + 1)
              match runL step_impl_VotesMissing_0 ((x.1, (y1, v4, 0))) with
              | none => none
              | some (.inl o9) =>
                some (o9)
              | some (.inr o9) =>
                some ((0, false))
          else none
noncomputable def c_impl_VotesMissing : Con := { ps := [(.val, (.slice (.st (.pair (.int .i64) (.pair (.int .i64) (.pair .str (.slice (.int .i64)))))))), (.val, (.int .i64)), (.val, (.int .i64))], rs := [(.val, (.int .i64)), (.val, .bool)], F := F_impl_VotesMissing }
noncomputable def env_impl_VotesMissing : Env := { par := [], dp := false, settle := [], con := fun f => match f with | 9 => some c_impl_AreProposals | 24 => some c_impl_proposalAt | 34 => some c_impl_those_int | 36 => some c_impl_Proposal_passed | _ => none, clo := fun f => match f with | 35 => some k_impl_VotesMissing_1 | _ => none, T := tinf Tryd.prog }
noncomputable def loops_impl_VotesMissing : Nat → Option Loop := fun n => match n with | 6 => some { pat := pat_impl_VotesMissing_0, outs := outs_impl_VotesMissing_0, run := runL (step_impl_VotesMissing_0) } | _ => none
theorem step_impl_VotesMissing_0_eq (s : (List (Int × (Int × (ByteArray × (List Int))))) × Int × Int × Int) : stepEv env_impl_VotesMissing loops_impl_VotesMissing pat_impl_VotesMissing_0 outs_impl_VotesMissing_0 Tryd.f11 6 s = step_impl_VotesMissing_0 s := by kernel_rfl
theorem F_impl_VotesMissing_eq (x : (List (Int × (Int × (ByteArray × (List Int))))) × Int × Int) : Fev env_impl_VotesMissing loops_impl_VotesMissing c_impl_VotesMissing.ps c_impl_VotesMissing.rs Tryd.f11 x = F_impl_VotesMissing x := by kernel_rfl
theorem env_impl_VotesMissing_ok : EnvOK Tryd.prog env_impl_VotesMissing := envOK_of (fun f c h => by
  simp only [env_impl_VotesMissing] at h
  split at h
  · cases h; exact con_impl_AreProposals
  · cases h; exact con_impl_proposalAt
  · cases h; exact con_impl_those_int
  · cases h; exact con_impl_Proposal_passed
  · cases h) (fun f c h => by
  simp only [env_impl_VotesMissing] at h
  split at h
  · cases h; exact clo_impl_VotesMissing_1
  · cases h) rfl
theorem con_impl_VotesMissing : ConOK Tryd.prog 11 c_impl_VotesMissing := con_of_ev' (body := Tryd.f11.body.getD .skip) (Λ := loops_impl_VotesMissing) mixed Tryd.func11 (by kernel_rfl) (by kernel_rfl) env_impl_VotesMissing_ok (by kernel_rfl) (by kernel_rfl) (fun n L h => by
  unfold loops_impl_VotesMissing at h
  split at h
  · cases h; exact fun s o ho => loop_ok (stepF := stepEv env_impl_VotesMissing loops_impl_VotesMissing pat_impl_VotesMissing_0 outs_impl_VotesMissing_0 Tryd.f11 6) (step_impl_VotesMissing_0_eq) ho
  · cases h) F_impl_VotesMissing_eq

noncomputable def step_spec_ofCount_0 (s : Int × Int × (List Int) × Int × Int) : Option ((Int × Int × (List Int) × Int × Int) ⊕ ((Int))) :=
  bif (decide (s.2.2.2.2 < s.2.2.2.1)) then
    bif decide (0 ≤ s.2.2.2.2) && decide (s.2.2.2.2 < (s.2.2.1.length : Int)) then
      bif (((s.2.2.1.getD (s.2.2.2.2).toNat 0) == s.1)) then
        let v4 := IntKind.i64.wrap (s.2.1 + 1)
        let v5 := IntKind.i64.wrap (s.2.2.2.2 + 1)
        some (.inl ((s.1, v4, (s.2.2.1, s.2.2.2.1, v5))))
      else
        let v6 := IntKind.i64.wrap (s.2.2.2.2 + 1)
        some (.inl ((s.1, s.2.1, (s.2.2.1, s.2.2.2.1, v6))))
    else none
  else
    some (.inr (s.2.1))
def pat_spec_ofCount_0 : Pat := { tmps := [.any, .v (.int .i64), .any, .any, .any, .v (.int .i64), .any, .any, .any, .v (.slice (.int .i64)), .v (.int .i64), .v (.int .i64), .any, .any, .any, .any, .any, .any, .any, .any, .any, .any], blks := [] }
def outs_spec_ofCount_0 : List (Exit × Pat) := [(.exit 0, { tmps := [.any, .any, .any, .any, .any, .v (.int .i64), .any, .any, .any, .any, .any, .any, .any, .any, .any, .any, .any, .any, .any, .any, .any, .any], blks := [] })]
noncomputable def F_spec_ofCount (x : (Int × (Int × (ByteArray × (List Int)))) × Int) : Option (Int) :=
  match runL step_spec_ofCount_0 ((x.2, 0, (x.1.2.2.2, (x.1.2.2.2.length : Int), 0))) with
  | none => none
  | some o7 =>
    some (o7)
noncomputable def c_spec_ofCount : Con := { ps := [(.val, (.st (.pair (.int .i64) (.pair (.int .i64) (.pair .str (.slice (.int .i64))))))), (.val, (.int .i64))], rs := [(.val, (.int .i64))], F := F_spec_ofCount }
noncomputable def env_spec_ofCount : Env := { par := [], dp := false, settle := [], con := fun _ => none, clo := fun _ => none, T := tinf Tryd.prog }
noncomputable def loops_spec_ofCount : Nat → Option Loop := fun n => match n with | 3 => some { pat := pat_spec_ofCount_0, outs := outs_spec_ofCount_0, run := runL (step_spec_ofCount_0) } | _ => none
theorem step_spec_ofCount_0_eq (s : Int × Int × (List Int) × Int × Int) : stepEv env_spec_ofCount loops_spec_ofCount pat_spec_ofCount_0 outs_spec_ofCount_0 Tryd.f37 3 s = step_spec_ofCount_0 s := by kernel_rfl
theorem F_spec_ofCount_eq (x : (Int × (Int × (ByteArray × (List Int)))) × Int) : Fev env_spec_ofCount loops_spec_ofCount c_spec_ofCount.ps c_spec_ofCount.rs Tryd.f37 x = F_spec_ofCount x := by kernel_rfl
theorem env_spec_ofCount_ok : EnvOK Tryd.prog env_spec_ofCount := envOK_of (fun f c h => by cases h) (fun f c h => by cases h) rfl
theorem con_spec_ofCount : ConOK Tryd.prog 37 c_spec_ofCount := con_of_ev' (body := Tryd.f37.body.getD .skip) (Λ := loops_spec_ofCount) mixed Tryd.func37 (by kernel_rfl) (by kernel_rfl) env_spec_ofCount_ok (by kernel_rfl) (by kernel_rfl) (fun n L h => by
  unfold loops_spec_ofCount at h
  split at h
  · cases h; exact fun s o ho => loop_ok (stepF := stepEv env_spec_ofCount loops_spec_ofCount pat_spec_ofCount_0 outs_spec_ofCount_0 Tryd.f37 3) (step_spec_ofCount_0_eq) ho
  · cases h) F_spec_ofCount_eq

noncomputable def F_spec_ofPassed (x : (Int × (Int × (ByteArray × (List Int)))) × Int) : Option (Bool) :=
  match F_spec_ofCount ((x.1, 1)) with
  | none => none
  | some y1 =>
    let v2 := IntKind.i64.wrap (y1 + x.2)
    match F_spec_ofCount ((x.1, (-1))) with
    | none => none
    | some y3 =>
      let v4 := IntKind.i64.wrap (v2 + y3)
      let v5 := IntKind.i64.wrap (2 * v4)
      bif (decide (v5 > (x.1.2.2.2.length : Int))) then
        some ((decide (v2 > y3)))
      else
        some (false)
noncomputable def c_spec_ofPassed : Con := { ps := [(.val, (.st (.pair (.int .i64) (.pair (.int .i64) (.pair .str (.slice (.int .i64))))))), (.val, (.int .i64))], rs := [(.val, .bool)], F := F_spec_ofPassed }
noncomputable def env_spec_ofPassed : Env := { par := [], dp := false, settle := [], con := fun f => match f with | 37 => some c_spec_ofCount | _ => none, clo := fun _ => none, T := tinf Tryd.prog }
noncomputable def loops_spec_ofPassed : Nat → Option Loop := fun n => none
theorem F_spec_ofPassed_eq (x : (Int × (Int × (ByteArray × (List Int)))) × Int) : Fev env_spec_ofPassed loops_spec_ofPassed c_spec_ofPassed.ps c_spec_ofPassed.rs Tryd.f38 x = F_spec_ofPassed x := by kernel_rfl
theorem env_spec_ofPassed_ok : EnvOK Tryd.prog env_spec_ofPassed := envOK_of (fun f c h => by
  simp only [env_spec_ofPassed] at h
  split at h
  · cases h; exact con_spec_ofCount
  · cases h) (fun f c h => by cases h) rfl
theorem con_spec_ofPassed : ConOK Tryd.prog 38 c_spec_ofPassed := con_of_ev' (body := Tryd.f38.body.getD .skip) (Λ := loops_spec_ofPassed) mixed Tryd.func38 (by kernel_rfl) (by kernel_rfl) env_spec_ofPassed_ok (by kernel_rfl) (by kernel_rfl) (fun n L h => by cases h) F_spec_ofPassed_eq

noncomputable def step_spec_VotesMissing_0 (s : (List (Int × (Int × (ByteArray × (List Int))))) × Int × Int) : Option (((List (Int × (Int × (ByteArray × (List Int))))) × Int × Int) ⊕ ((Int × Bool) ⊕ (Unit))) :=
  bif decide (0 ≤ s.2.1) && decide (s.2.1 < (s.1.length : Int)) then
    match F_spec_ofCount (((s.1.getD (s.2.1).toNat (0, (0, ByteArray.empty, []))), 0)) with
    | none => none
    | some y6 =>
      bif (decide (s.2.2 ≤ y6)) then
        bif decide (0 ≤ s.2.1) && decide (s.2.1 < (s.1.length : Int)) then
          match F_spec_ofPassed (((s.1.getD (s.2.1).toNat (0, (0, ByteArray.empty, []))), s.2.2)) with
          | none => none
          | some y7 =>
            bif y7 then
              some (.inr (.inl ((s.2.2, true))))
            else
              let v8 := IntKind.i64.wrap (s.2.2 + 1)
              some (.inl ((s.1, s.2.1, v8)))
        else none
      else
        some (.inr (.inr (())))
  else none
def pat_spec_VotesMissing_0 : Pat := { tmps := [.v (.slice (.st (.pair (.int .i64) (.pair (.int .i64) (.pair .str (.slice (.int .i64))))))), .any, .any, .any, .any, .any, .any, .any, .v (.int .i64), .v (.int .i64), .any, .any, .any, .any, .any, .any, .any, .any, .any, .any, .any, .any, .any, .any, .any, .any, .any, .any, .any, .any, .any, .any, .any, .any, .any, .any, .any], blks := [] }
def outs_spec_VotesMissing_0 : List (Exit × Pat) := [(.ret, { tmps := [.any, .any, .any, .any, .any, .any, .v (.int .i64), .v .bool, .any, .any, .any, .any, .any, .any, .any, .any, .any, .any, .any, .any, .any, .any, .any, .any, .any, .any, .any, .any, .any, .any, .any, .any, .any, .any, .any, .any, .any], blks := [] }), (.exit 0, { tmps := [.any, .any, .any, .any, .any, .any, .any, .any, .any, .any, .any, .any, .any, .any, .any, .any, .any, .any, .any, .any, .any, .any, .any, .any, .any, .any, .any, .any, .any, .any, .any, .any, .any, .any, .any, .any, .any], blks := [] })]
noncomputable def F_spec_VotesMissing (x : (List (Int × (Int × (ByteArray × (List Int))))) × Int × Int) : Option (Int × Bool) :=
  match F_spec_ofFind ((x.1, x.2.2)) with
  | none => none
  | some y1 =>
    match F_spec_ofGood ((x.1, x.2.1)) with
    | none => none
    | some y2 =>
      bif (!y2) then
        some ((0, false))
      else
        bif (decide (y1 < 0)) then
          some ((0, false))
        else
          match runL step_spec_VotesMissing_0 ((x.1, y1, 0)) with
          | none => none
          | some (.inl o9) =>
            some (o9)
          | some (.inr o9) =>
            some ((0, false))
noncomputable def c_spec_VotesMissing : Con := { ps := [(.val, (.slice (.st (.pair (.int .i64) (.pair (.int .i64) (.pair .str (.slice (.int .i64)))))))), (.val, (.int .i64)), (.val, (.int .i64))], rs := [(.val, (.int .i64)), (.val, .bool)], F := F_spec_VotesMissing }
noncomputable def env_spec_VotesMissing : Env := { par := [], dp := false, settle := [], con := fun f => match f with | 27 => some c_spec_ofFind | 28 => some c_spec_ofGood | 37 => some c_spec_ofCount | 38 => some c_spec_ofPassed | _ => none, clo := fun _ => none, T := tinf Tryd.prog }
noncomputable def loops_spec_VotesMissing : Nat → Option Loop := fun n => match n with | 5 => some { pat := pat_spec_VotesMissing_0, outs := outs_spec_VotesMissing_0, run := runL (step_spec_VotesMissing_0) } | _ => none
theorem step_spec_VotesMissing_0_eq (s : (List (Int × (Int × (ByteArray × (List Int))))) × Int × Int) : stepEv env_spec_VotesMissing loops_spec_VotesMissing pat_spec_VotesMissing_0 outs_spec_VotesMissing_0 Tryd.f12 5 s = step_spec_VotesMissing_0 s := by kernel_rfl
theorem F_spec_VotesMissing_eq (x : (List (Int × (Int × (ByteArray × (List Int))))) × Int × Int) : Fev env_spec_VotesMissing loops_spec_VotesMissing c_spec_VotesMissing.ps c_spec_VotesMissing.rs Tryd.f12 x = F_spec_VotesMissing x := by kernel_rfl
theorem env_spec_VotesMissing_ok : EnvOK Tryd.prog env_spec_VotesMissing := envOK_of (fun f c h => by
  simp only [env_spec_VotesMissing] at h
  split at h
  · cases h; exact con_spec_ofFind
  · cases h; exact con_spec_ofGood
  · cases h; exact con_spec_ofCount
  · cases h; exact con_spec_ofPassed
  · cases h) (fun f c h => by cases h) rfl
theorem con_spec_VotesMissing : ConOK Tryd.prog 12 c_spec_VotesMissing := con_of_ev' (body := Tryd.f12.body.getD .skip) (Λ := loops_spec_VotesMissing) mixed Tryd.func12 (by kernel_rfl) (by kernel_rfl) env_spec_VotesMissing_ok (by kernel_rfl) (by kernel_rfl) (fun n L h => by
  unfold loops_spec_VotesMissing at h
  split at h
  · cases h; exact fun s o ho => loop_ok (stepF := stepEv env_spec_VotesMissing loops_spec_VotesMissing pat_spec_VotesMissing_0 outs_spec_VotesMissing_0 Tryd.f12 5) (step_spec_VotesMissing_0_eq) ho
  · cases h) F_spec_VotesMissing_eq

noncomputable def F_impl_IsPassed (x : (List (Int × (Int × (ByteArray × (List Int))))) × Int × Int) : Option (Bool × Bool) :=
  match F_impl_proposalAt ((x.1, x.2.2)) with
  | none => none
  | some y1 =>
    match F_impl_AreProposals ((x.1, x.2.1)) with
    | none => none
    | some y2 =>
      bif (!y2) then
        some ((false, false))
      else
        bif (decide (y1 < 0)) then
          some ((false, false))
        else
          bif decide (0 ≤ y1) && decide (y1 < (x.1.length : Int)) then
            match F_impl_Proposal_passed (((x.1.getD (y1).toNat (0, (0, ByteArray.empty, []))), 0)) with
            | none => none
            | some y3 =>
              some ((y3, true))
          else none
noncomputable def c_impl_IsPassed : Con := { ps := [(.val, (.slice (.st (.pair (.int .i64) (.pair (.int .i64) (.pair .str (.slice (.int .i64)))))))), (.val, (.int .i64)), (.val, (.int .i64))], rs := [(.val, .bool), (.val, .bool)], F := F_impl_IsPassed }
noncomputable def env_impl_IsPassed : Env := { par := [], dp := false, settle := [], con := fun f => match f with | 9 => some c_impl_AreProposals | 24 => some c_impl_proposalAt | 36 => some c_impl_Proposal_passed | _ => none, clo := fun _ => none, T := tinf Tryd.prog }
noncomputable def loops_impl_IsPassed : Nat → Option Loop := fun n => none
theorem F_impl_IsPassed_eq (x : (List (Int × (Int × (ByteArray × (List Int))))) × Int × Int) : Fev env_impl_IsPassed loops_impl_IsPassed c_impl_IsPassed.ps c_impl_IsPassed.rs Tryd.f13 x = F_impl_IsPassed x := by kernel_rfl
theorem env_impl_IsPassed_ok : EnvOK Tryd.prog env_impl_IsPassed := envOK_of (fun f c h => by
  simp only [env_impl_IsPassed] at h
  split at h
  · cases h; exact con_impl_AreProposals
  · cases h; exact con_impl_proposalAt
  · cases h; exact con_impl_Proposal_passed
  · cases h) (fun f c h => by cases h) rfl
theorem con_impl_IsPassed : ConOK Tryd.prog 13 c_impl_IsPassed := con_of_ev' (body := Tryd.f13.body.getD .skip) (Λ := loops_impl_IsPassed) mixed Tryd.func13 (by kernel_rfl) (by kernel_rfl) env_impl_IsPassed_ok (by kernel_rfl) (by kernel_rfl) (fun n L h => by cases h) F_impl_IsPassed_eq

noncomputable def F_spec_IsPassed (x : (List (Int × (Int × (ByteArray × (List Int))))) × Int × Int) : Option (Bool × Bool) :=
  match F_spec_ofFind ((x.1, x.2.2)) with
  | none => none
  | some y1 =>
    match F_spec_ofGood ((x.1, x.2.1)) with
    | none => none
    | some y2 =>
      bif (!y2) then
        some ((false, false))
      else
        bif (decide (y1 < 0)) then
          some ((false, false))
        else
          bif decide (0 ≤ y1) && decide (y1 < (x.1.length : Int)) then
            match F_spec_ofPassed (((x.1.getD (y1).toNat (0, (0, ByteArray.empty, []))), 0)) with
            | none => none
            | some y3 =>
              some ((y3, true))
          else none
noncomputable def c_spec_IsPassed : Con := { ps := [(.val, (.slice (.st (.pair (.int .i64) (.pair (.int .i64) (.pair .str (.slice (.int .i64)))))))), (.val, (.int .i64)), (.val, (.int .i64))], rs := [(.val, .bool), (.val, .bool)], F := F_spec_IsPassed }
noncomputable def env_spec_IsPassed : Env := { par := [], dp := false, settle := [], con := fun f => match f with | 27 => some c_spec_ofFind | 28 => some c_spec_ofGood | 38 => some c_spec_ofPassed | _ => none, clo := fun _ => none, T := tinf Tryd.prog }
noncomputable def loops_spec_IsPassed : Nat → Option Loop := fun n => none
theorem F_spec_IsPassed_eq (x : (List (Int × (Int × (ByteArray × (List Int))))) × Int × Int) : Fev env_spec_IsPassed loops_spec_IsPassed c_spec_IsPassed.ps c_spec_IsPassed.rs Tryd.f14 x = F_spec_IsPassed x := by kernel_rfl
theorem env_spec_IsPassed_ok : EnvOK Tryd.prog env_spec_IsPassed := envOK_of (fun f c h => by
  simp only [env_spec_IsPassed] at h
  split at h
  · cases h; exact con_spec_ofFind
  · cases h; exact con_spec_ofGood
  · cases h; exact con_spec_ofPassed
  · cases h) (fun f c h => by cases h) rfl
theorem con_spec_IsPassed : ConOK Tryd.prog 14 c_spec_IsPassed := con_of_ev' (body := Tryd.f14.body.getD .skip) (Λ := loops_spec_IsPassed) mixed Tryd.func14 (by kernel_rfl) (by kernel_rfl) env_spec_IsPassed_ok (by kernel_rfl) (by kernel_rfl) (fun n L h => by cases h) F_spec_IsPassed_eq

noncomputable def step_spec_DrawWithdrawProposal_0 (s : (List (Int × (Int × (ByteArray × (List Int))))) × Int × (List (Int × (Int × (ByteArray × (List Int))))) × Int × Int × (List Int) × Int × Int) : Option (((List (Int × (Int × (ByteArray × (List Int))))) × Int × (List (Int × (Int × (ByteArray × (List Int))))) × Int × Int × (List Int) × Int × Int) ⊕ (((List (Int × (Int × (ByteArray × (List Int))))) × Int × Int) ⊕ ((List (Int × (Int × (ByteArray × (List Int))))) × Int × (List Int) × Int × Int))) :=
  bif (decide (s.2.2.2.2.1 < s.2.2.2.1)) then
    bif decide (0 ≤ s.2.2.2.2.1) && decide (s.2.2.2.2.1 < (s.2.2.1.length : Int)) then
      match F_spec_ofCount (((s.2.2.1.getD (s.2.2.2.2.1).toNat (0, (0, ByteArray.empty, []))), 0)) with
      | none => none
      | some y6 =>
        bif ((y6 == ((s.2.2.1.getD (s.2.2.2.2.1).toNat (0, (0, ByteArray.empty, []))).2.2.2.length : Int))) then
          match F_spec_l1Cur_one ((s.2.2.2.2.2, 2)) with
          | none => none
          | some y7 =>
            bif y7.2 then
              some (.inr (.inl ((s.1, s.2.1, (s.2.2.1.getD (s.2.2.2.2.1).toNat (0, (0, ByteArray.empty, []))).1))))
            else
              let v8 := IntKind.i64.wrap (s.2.2.2.2.1 + 1)
              some (.inl ((s.1, (s.2.1, s.2.2.1, (s.2.2.2.1, v8, y7.1)))))
        else
          let v9 := IntKind.i64.wrap (s.2.2.2.2.1 + 1)
          some (.inl ((s.1, (s.2.1, s.2.2.1, (s.2.2.2.1, v9, s.2.2.2.2.2)))))
    else none
  else
    some (.inr (.inr ((s.1, s.2.1, s.2.2.2.2.2))))
def pat_spec_DrawWithdrawProposal_0 : Pat := { tmps := [.any, .any, .any, .any, .any, .ptr 768 0, .v (.slice (.st (.pair (.int .i64) (.pair (.int .i64) (.pair .str (.slice (.int .i64))))))), .v (.int .i64), .any, .any, .any, .any, .any, .any, .any, .any, .any, .any, .v (.slice (.st (.pair (.int .i64) (.pair (.int .i64) (.pair .str (.slice (.int .i64))))))), .v (.int .i64), .v (.int .i64), .any, .any, .any, .any, .any, .any, .any, .any, .any, .any, .any, .any, .any, .any, .any, .any, .any, .any, .any, .any, .any, .any, .any], blks := [(768, .box [.v (.slice (.int .u8)), .v (.int .i64), .v (.int .u64)])] }
def outs_spec_DrawWithdrawProposal_0 : List (Exit × Pat) := [(.ret, { tmps := [.any, .any, .v (.slice (.st (.pair (.int .i64) (.pair (.int .i64) (.pair .str (.slice (.int .i64))))))), .v (.int .i64), .v (.int .i64), .any, .any, .any, .any, .any, .any, .any, .any, .any, .any, .any, .any, .any, .any, .any, .any, .any, .any, .any, .any, .any, .any, .any, .any, .any, .any, .any, .any, .any, .any, .any, .any, .any, .any, .any, .any, .any, .any, .any], blks := [] }), (.exit 0, { tmps := [.any, .any, .any, .any, .any, .ptr 768 0, .v (.slice (.st (.pair (.int .i64) (.pair (.int .i64) (.pair .str (.slice (.int .i64))))))), .v (.int .i64), .any, .any, .any, .any, .any, .any, .any, .any, .any, .any, .any, .any, .any, .any, .any, .any, .any, .any, .any, .any, .any, .any, .any, .any, .any, .any, .any, .any, .any, .any, .any, .any, .any, .any, .any, .any], blks := [(768, .box [.v (.slice (.int .u8)), .v (.int .i64), .v (.int .u64)])] })]
noncomputable def F_spec_DrawWithdrawProposal (x : (List Int)) : Option ((List (Int × (Int × (ByteArray × (List Int))))) × Int × Int) :=
  match F_spec_l1Cur_proposals ((x, 0, 0)) with
  | none => none
  | some y1 =>
    match runL step_spec_DrawWithdrawProposal_0 ((y1.2.1, (y1.2.2, y1.2.1, ((y1.2.1.length : Int), 0, y1.1)))) with
    | none => none
    | some (.inl o10) =>
      some (o10)
    | some (.inr o10) =>
      match F_spec_l1Cur_numberIn ((o10.2.2, o10.1)) with
      | none => none
      | some y11 =>
        some ((o10.1, o10.2.1, y11.2))
noncomputable def c_spec_DrawWithdrawProposal : Con := { ps := [(.val, (.slice (.int .u8)))], rs := [(.val, (.slice (.st (.pair (.int .i64) (.pair (.int .i64) (.pair .str (.slice (.int .i64)))))))), (.val, (.int .i64)), (.val, (.int .i64))], F := F_spec_DrawWithdrawProposal }
noncomputable def env_spec_DrawWithdrawProposal : Env := { par := [], dp := false, settle := [], con := fun f => match f with | 21 => some c_spec_l1Cur_proposals | 22 => some c_spec_l1Cur_numberIn | 37 => some c_spec_ofCount | 39 => some c_spec_l1Cur_one | _ => none, clo := fun _ => none, T := tinf Tryd.prog }
noncomputable def loops_spec_DrawWithdrawProposal : Nat → Option Loop := fun n => match n with | 4 => some { pat := pat_spec_DrawWithdrawProposal_0, outs := outs_spec_DrawWithdrawProposal_0, run := runL (step_spec_DrawWithdrawProposal_0) } | _ => none
theorem step_spec_DrawWithdrawProposal_0_eq (s : (List (Int × (Int × (ByteArray × (List Int))))) × Int × (List (Int × (Int × (ByteArray × (List Int))))) × Int × Int × (List Int) × Int × Int) : stepEv env_spec_DrawWithdrawProposal loops_spec_DrawWithdrawProposal pat_spec_DrawWithdrawProposal_0 outs_spec_DrawWithdrawProposal_0 Tryd.f15 4 s = step_spec_DrawWithdrawProposal_0 s := by kernel_rfl
theorem F_spec_DrawWithdrawProposal_eq (x : (List Int)) : Fev env_spec_DrawWithdrawProposal loops_spec_DrawWithdrawProposal c_spec_DrawWithdrawProposal.ps c_spec_DrawWithdrawProposal.rs Tryd.f15 x = F_spec_DrawWithdrawProposal x := by kernel_rfl
theorem env_spec_DrawWithdrawProposal_ok : EnvOK Tryd.prog env_spec_DrawWithdrawProposal := envOK_of (fun f c h => by
  simp only [env_spec_DrawWithdrawProposal] at h
  split at h
  · cases h; exact con_spec_l1Cur_proposals
  · cases h; exact con_spec_l1Cur_numberIn
  · cases h; exact con_spec_ofCount
  · cases h; exact con_spec_l1Cur_one
  · cases h) (fun f c h => by cases h) rfl
theorem con_spec_DrawWithdrawProposal : ConOK Tryd.prog 15 c_spec_DrawWithdrawProposal := con_of_ev' (body := Tryd.f15.body.getD .skip) (Λ := loops_spec_DrawWithdrawProposal) mixed Tryd.func15 (by kernel_rfl) (by kernel_rfl) env_spec_DrawWithdrawProposal_ok (by kernel_rfl) (by kernel_rfl) (fun n L h => by
  unfold loops_spec_DrawWithdrawProposal at h
  split at h
  · cases h; exact fun s o ho => loop_ok (stepF := stepEv env_spec_DrawWithdrawProposal loops_spec_DrawWithdrawProposal pat_spec_DrawWithdrawProposal_0 outs_spec_DrawWithdrawProposal_0 Tryd.f15 4) (step_spec_DrawWithdrawProposal_0_eq) ho
  · cases h) F_spec_DrawWithdrawProposal_eq

noncomputable def F_impl_WithdrawProposal_1 (x : Int) : Option (Bool) :=
  some (((x != 0)))
noncomputable def c_impl_WithdrawProposal_1 : Con := { ps := [(.val, (.int .i64))], rs := [(.val, .bool)], F := F_impl_WithdrawProposal_1 }
noncomputable def env_impl_WithdrawProposal_1 : Env := { par := [], dp := false, settle := [], con := fun _ => none, clo := fun _ => none, T := tinf Tryd.prog }
noncomputable def loops_impl_WithdrawProposal_1 : Nat → Option Loop := fun n => none
theorem F_impl_WithdrawProposal_1_eq (x : Int) : Fev env_impl_WithdrawProposal_1 loops_impl_WithdrawProposal_1 c_impl_WithdrawProposal_1.ps c_impl_WithdrawProposal_1.rs Tryd.f41 x = F_impl_WithdrawProposal_1 x := by kernel_rfl
theorem env_impl_WithdrawProposal_1_ok : EnvOK Tryd.prog env_impl_WithdrawProposal_1 := envOK_of (fun f c h => by cases h) (fun f c h => by cases h) rfl
theorem con_impl_WithdrawProposal_1 : ConOK Tryd.prog 41 c_impl_WithdrawProposal_1 := con_of_ev' (body := Tryd.f41.body.getD .skip) (Λ := loops_impl_WithdrawProposal_1) mixed Tryd.func41 (by kernel_rfl) (by kernel_rfl) env_impl_WithdrawProposal_1_ok (by kernel_rfl) (by kernel_rfl) (fun n L h => by cases h) F_impl_WithdrawProposal_1_eq

section
open Go.RowKit
set_option maxHeartbeats 2000000 in
theorem same_slices_Delete_impl_Proposal_impl_Proposal (A : Option Addr) (n cap i : Nat) (w : World) (h1 : i ≤ n) (h2 : n ≤ cap) (h3 : n ≤ 9223372036854775807) : Calls Tryd.prog 42 #[.slice A n cap, .int .i64 i, .int .i64 i] w fun e w' => e = .returned (.slice A n cap) ∧ w' = w := by
  cases A <;>
  · go_enter Tryd.func42, Tryd.ntmps42
    go_wp2
    all_goals (go_ret; exact ⟨rfl, rfl⟩)
set_option maxHeartbeats 4000000 in
set_option maxRecDepth 1000000 in
theorem cut_slices_Delete_impl_Proposal_impl_Proposal (g cap n i j : Nat) (cur : Array Value) (ety : TypeId) (w : World) (hh : w.heap[g]? = some (.cells cur ety (0, 0))) (h1 : n ≤ cap) (h2 : cap * 4 ≤ cur.size) (h3 : n ≤ 9223372036854775807) (hij : i < j) (hj : j ≤ n) (hone : ∀ u ∈ cur.toList.take (n * 4), u.oneCell' = true) :
    Calls Tryd.prog 42 #[.slice (some ⟨g, 0, none⟩) n cap, .int .i64 i, .int .i64 j] w fun e' w' => e' = .returned (.slice (some ⟨g, 0, none⟩) (i + (n - j)) cap) ∧ w' = w.drew.setRow g (cutRow cur 4 n i j (repV (Value.cells (.agg #[(.int .i64 0), (.int .i64 0), (.string ⟨#[]⟩), (.slice none 0 0)])) (j - i) 4)) := by
  obtain ⟨i0, hi, hz0, hz1, hz2⟩ := info_parts (P := Tryd.prog) (e := 32) (z := (.agg #[(.int .i64 0), (.int .i64 0), (.string ⟨#[]⟩), (.slice none 0 0)])) (size := 4) (bytes := 56) (by kernel_rfl)
  obtain ⟨A, hA⟩ : ∃ A : Addr, (if cap = j then (⟨g, 0, none⟩ : Addr) else ⟨g, j * 4, none⟩) = A := ⟨_, rfl⟩
  obtain ⟨W1, happ, hcl⟩ := run_cut (P := Tryd.prog) (w := w.drew) (ts := 24) (te := 32) (ty := 0) (ty' := 0) (zv := (.agg #[(.int .i64 0), (.int .i64 0), (.string ⟨#[]⟩), (.slice none 0 0)])) (k := 4) (show Tryd.prog.underlying 24 = some (.slice 32) by kernel_rfl) hi hz1 (fun w => Tryd.zeroValue32 w) rfl (by decide) (g := g) (cap := cap) (n := n) (i := i) (j := j) (cur := cur) (ety := ety) hh h1 h2 hij hj hone (A := A) hA
  have hA2 : (if cap = j then some (⟨g, 0, none⟩ : Addr) else some ⟨g, j * 4, none⟩) = some A := by rw [← hA]; split <;> rfl
  have mixed := mixed
  have X1 : Hid (∀ ty, (Builtin.append_ #[24, 24] ty #[.slice (some ⟨g, 0, none⟩) i cap, .slice (some A) (n - j) (cap - j)]).run Tryd.prog w.drew = .ok (.slice (some ⟨g, 0, none⟩) (i + (n - j)) cap) W1) := happ
  have hic : i ≤ cap := by omega
  have hjc : j ≤ cap := by omega
  have hne : ¬ i = j := by omega
  have hcl' := hcl
  clear hh hone happ hcl hA hz0 hz2
  go_enter Tryd.func42, Tryd.ntmps42
  go_wp2_with fail
  go_region_law_o (refine step_append_by rfl (.tmp 22) (.tmp 25) 24 rfl (w' := W1) X1.out ?_)
  go_wp2
  go_ret
  exact ⟨rfl, rfl⟩
def F_slices_Delete_impl_Proposal_impl_Proposal (x : List (Int × (Int × (ByteArray × (List Int)))) × Int × Int) : Option (List (Int × (Int × (ByteArray × (List Int))))) := bif (decide (0 ≤ x.2.1) && decide (x.2.1 ≤ x.2.2) && decide (x.2.2 ≤ (x.1.length : Int)) && decide (x.1.length ≤ 9223372036854775807)) then some (x.1.take x.2.1.toNat ++ x.1.drop x.2.2.toNat) else none
noncomputable def c_slices_Delete_impl_Proposal_impl_Proposal : Con := { ps := [(.eat true, .slice (.st (.pair (.int .i64) (.pair (.int .i64) (.pair .str (.slice (.int .i64))))))), (.val, .int .i64), (.val, .int .i64)], rs := [(.io true, .slice (.st (.pair (.int .i64) (.pair (.int .i64) (.pair .str (.slice (.int .i64)))))))], F := F_slices_Delete_impl_Proposal_impl_Proposal }
theorem con_slices_Delete_impl_Proposal_impl_Proposal : ConOK Tryd.prog 42 c_slices_Delete_impl_Proposal_impl_Proposal := con_delete ⟨Tryd.f42, Tryd.func42, by kernel_rfl, by kernel_rfl⟩ (.st (.pair (.int .i64) (.pair (.int .i64) (.pair .str (.slice (.int .i64)))))) (Value.cells (.agg #[(.int .i64 0), (.int .i64 0), (.string ⟨#[]⟩), (.slice none 0 0)])).toList same_slices_Delete_impl_Proposal_impl_Proposal cut_slices_Delete_impl_Proposal_impl_Proposal
end

noncomputable def K_impl_WithdrawProposal_1 (q : Unit) (x : Int) : Option (Bool) := F_impl_WithdrawProposal_1 x
noncomputable def k_impl_WithdrawProposal_1 : CloCon := { caps := [], a := (.int .i64), r := .bool, F := K_impl_WithdrawProposal_1 }
theorem clo_impl_WithdrawProposal_1 : CloOK Tryd.prog 41 k_impl_WithdrawProposal_1 := clo_of_con k_impl_WithdrawProposal_1 F_impl_WithdrawProposal_1 con_impl_WithdrawProposal_1 rfl (fun kx x y h => ⟨y, h, rfl⟩)
noncomputable def F_impl_WithdrawProposal (x : (List (Int × (Int × (ByteArray × (List Int))))) × Int × Int) : Option ((List (Int × (Int × (ByteArray × (List Int))))) × Bool) :=
  match F_impl_proposalAt ((x.1, x.2.2)) with
  | none => none
  | some y1 =>
    match F_impl_AreProposals ((x.1, x.2.1)) with
    | none => none
    | some y2 =>
      bif (!y2) then
        some (([], false))
      else
        bif (decide (y1 < 0)) then
          some (([], false))
        else
          bif decide (0 ≤ y1) && decide (y1 < (x.1.length : Int)) then
            match F_slices_ContainsFunc_int_int (((x.1.getD (y1).toNat (0, (0, ByteArray.empty, []))).2.2.2, (K_impl_WithdrawProposal_1 ()))) with
            | none => none
            | some y3 =>
              bif y3 then
                some (([], false))
              else
                match F_impl_copyProposals (x.1) with
                | none => none
                | some y4 =>
                  let v5 := IntKind.i64.wrap (y1 + 1)
                  match F_slices_Delete_impl_Proposal_impl_Proposal ((y4, y1, v5)) with
                  | none => none
                  | some y6 =>
                    some ((y6, true))
          else none
noncomputable def c_impl_WithdrawProposal : Con := { ps := [(.val, (.slice (.st (.pair (.int .i64) (.pair (.int .i64) (.pair .str (.slice (.int .i64)))))))), (.val, (.int .i64)), (.val, (.int .i64))], rs := [(.val, (.slice (.st (.pair (.int .i64) (.pair (.int .i64) (.pair .str (.slice (.int .i64)))))))), (.val, .bool)], F := F_impl_WithdrawProposal }
noncomputable def env_impl_WithdrawProposal : Env := { par := [], dp := true, settle := [], con := fun f => match f with | 9 => some c_impl_AreProposals | 24 => some c_impl_proposalAt | 26 => some c_impl_copyProposals | 40 => some c_slices_ContainsFunc_int_int | 42 => some c_slices_Delete_impl_Proposal_impl_Proposal | _ => none, clo := fun f => match f with | 41 => some k_impl_WithdrawProposal_1 | _ => none, T := tinf Tryd.prog }
noncomputable def loops_impl_WithdrawProposal : Nat → Option Loop := fun n => none
theorem F_impl_WithdrawProposal_eq (x : (List (Int × (Int × (ByteArray × (List Int))))) × Int × Int) : Fev env_impl_WithdrawProposal loops_impl_WithdrawProposal c_impl_WithdrawProposal.ps c_impl_WithdrawProposal.rs Tryd.f16 x = F_impl_WithdrawProposal x := by kernel_rfl
theorem env_impl_WithdrawProposal_ok : EnvOK Tryd.prog env_impl_WithdrawProposal := envOK_of (fun f c h => by
  simp only [env_impl_WithdrawProposal] at h
  split at h
  · cases h; exact con_impl_AreProposals
  · cases h; exact con_impl_proposalAt
  · cases h; exact con_impl_copyProposals
  · cases h; exact con_slices_ContainsFunc_int_int
  · cases h; exact con_slices_Delete_impl_Proposal_impl_Proposal
  · cases h) (fun f c h => by
  simp only [env_impl_WithdrawProposal] at h
  split at h
  · cases h; exact clo_impl_WithdrawProposal_1
  · cases h) rfl
theorem con_impl_WithdrawProposal : ConOK Tryd.prog 16 c_impl_WithdrawProposal := con_of_ev' (body := Tryd.f16.body.getD .skip) (Λ := loops_impl_WithdrawProposal) mixed Tryd.func16 (by kernel_rfl) (by kernel_rfl) env_impl_WithdrawProposal_ok (by kernel_rfl) (by kernel_rfl) (fun n L h => by cases h) F_impl_WithdrawProposal_eq

noncomputable def F_spec_WithdrawProposal (x : (List (Int × (Int × (ByteArray × (List Int))))) × Int × Int) : Option ((List (Int × (Int × (ByteArray × (List Int))))) × Bool) :=
  match F_spec_ofFind ((x.1, x.2.2)) with
  | none => none
  | some y1 =>
    match F_spec_ofGood ((x.1, x.2.1)) with
    | none => none
    | some y2 =>
      bif (!y2) then
        some (([], false))
      else
        bif (decide (y1 < 0)) then
          some (([], false))
        else
          bif decide (0 ≤ y1) && decide (y1 < (x.1.length : Int)) then
            match F_spec_ofCount (((x.1.getD (y1).toNat (0, (0, ByteArray.empty, []))), 0)) with
            | none => none
            | some y3 =>
              bif (decide (y3 < x.2.1)) then
                some (([], false))
              else
                bif decide (0 ≤ (0 : Int)) && decide ((0 : Int) ≤ y1) && decide (y1 ≤ (x.1.length : Int)) then
                  let v4 := IntKind.i64.wrap (y1 + 1)
                  bif decide (0 ≤ v4) && decide (v4 ≤ (x.1.length : Int)) && decide ((x.1.length : Int) ≤ (x.1.length : Int)) then
                    match F_spec_ofOwn (((x.1.drop ((0 : Int)).toNat).take ((y1).toNat - ((0 : Int)).toNat))) with
                    | none => none
                    | some y5 =>
                      match F_spec_ofOwn (((x.1.drop (v4).toNat).take (((x.1.length : Int)).toNat - (v4).toNat))) with
                      | none => none
                      | some y6 =>
                        bif decide ((y5.length + y6.length) * 56 ≤ 140737488355328) && true && true then
                          let v7 := y5 ++ y6
                          some ((v7, true))
                        else none
                  else none
                else none
          else none
noncomputable def c_spec_WithdrawProposal : Con := { ps := [(.val, (.slice (.st (.pair (.int .i64) (.pair (.int .i64) (.pair .str (.slice (.int .i64)))))))), (.val, (.int .i64)), (.val, (.int .i64))], rs := [(.val, (.slice (.st (.pair (.int .i64) (.pair (.int .i64) (.pair .str (.slice (.int .i64)))))))), (.val, .bool)], F := F_spec_WithdrawProposal }
noncomputable def env_spec_WithdrawProposal : Env := { par := [], dp := true, settle := [], con := fun f => match f with | 27 => some c_spec_ofFind | 28 => some c_spec_ofGood | 30 => some c_spec_ofOwn | 37 => some c_spec_ofCount | _ => none, clo := fun _ => none, T := tinf Tryd.prog }
noncomputable def loops_spec_WithdrawProposal : Nat → Option Loop := fun n => none
theorem F_spec_WithdrawProposal_eq (x : (List (Int × (Int × (ByteArray × (List Int))))) × Int × Int) : Fev env_spec_WithdrawProposal loops_spec_WithdrawProposal c_spec_WithdrawProposal.ps c_spec_WithdrawProposal.rs Tryd.f17 x = F_spec_WithdrawProposal x := by kernel_rfl
theorem env_spec_WithdrawProposal_ok : EnvOK Tryd.prog env_spec_WithdrawProposal := envOK_of (fun f c h => by
  simp only [env_spec_WithdrawProposal] at h
  split at h
  · cases h; exact con_spec_ofFind
  · cases h; exact con_spec_ofGood
  · cases h; exact con_spec_ofOwn
  · cases h; exact con_spec_ofCount
  · cases h) (fun f c h => by cases h) rfl
theorem con_spec_WithdrawProposal : ConOK Tryd.prog 17 c_spec_WithdrawProposal := con_of_ev' (body := Tryd.f17.body.getD .skip) (Λ := loops_spec_WithdrawProposal) mixed Tryd.func17 (by kernel_rfl) (by kernel_rfl) env_spec_WithdrawProposal_ok (by kernel_rfl) (by kernel_rfl) (fun n L h => by cases h) F_spec_WithdrawProposal_eq

noncomputable def F_spec_DrawProposalText (x : (List Int)) : Option ((Int × (Int × (ByteArray × (List Int))))) :=
  match F_spec_l1Cur_among (((x, 0, 0), [1, 12, 999])) with
  | none => none
  | some y1 =>
    match F_spec_l1Cur_among ((y1.1, [0, 8])) with
    | none => none
    | some y2 =>
      match F_spec_l1Cur_among ((y2.1, [1, 3, 7, y2.2])) with
      | none => none
      | some y3 =>
        match F_spec_l1Cur_proposal ((y3.1, y1.2, y3.2)) with
        | none => none
        | some y4 =>
          some (y4.2)
noncomputable def c_spec_DrawProposalText : Con := { ps := [(.val, (.slice (.int .u8)))], rs := [(.io true, (.st (.pair (.int .i64) (.pair (.int .i64) (.pair .str (.slice (.int .i64)))))))], F := F_spec_DrawProposalText }
noncomputable def env_spec_DrawProposalText : Env := { par := [], dp := false, settle := [], con := fun f => match f with | 23 => some c_spec_l1Cur_among | 43 => some c_spec_l1Cur_proposal | _ => none, clo := fun _ => none, T := tinf Tryd.prog }
noncomputable def loops_spec_DrawProposalText : Nat → Option Loop := fun n => none
theorem F_spec_DrawProposalText_eq (x : (List Int)) : Fev env_spec_DrawProposalText loops_spec_DrawProposalText c_spec_DrawProposalText.ps c_spec_DrawProposalText.rs Tryd.f18 x = F_spec_DrawProposalText x := by kernel_rfl
theorem env_spec_DrawProposalText_ok : EnvOK Tryd.prog env_spec_DrawProposalText := envOK_of (fun f c h => by
  simp only [env_spec_DrawProposalText] at h
  split at h
  · cases h; exact con_spec_l1Cur_among
  · cases h; exact con_spec_l1Cur_proposal
  · cases h) (fun f c h => by cases h) rfl
theorem con_spec_DrawProposalText : ConOK Tryd.prog 18 c_spec_DrawProposalText := con_of_ev' (body := Tryd.f18.body.getD .skip) (Λ := loops_spec_DrawProposalText) mixed Tryd.func18 (by kernel_rfl) (by kernel_rfl) env_spec_DrawProposalText_ok (by kernel_rfl) (by kernel_rfl) (fun n L h => by cases h) F_spec_DrawProposalText_eq

theorem Itoa_ex : ∃ f : Int → Option ByteArray, f = fun n => bif decide (-9223372036854775808 ≤ n) && decide (n ≤ 9223372036854775807) then some ⟨(Lib.itoa n).toArray⟩ else none := ⟨_, rfl⟩
noncomputable def F_strconv_Itoa : Int → Option ByteArray := Classical.choose Itoa_ex
theorem F_strconv_Itoa_is (n : Int) : F_strconv_Itoa n = bif decide (-9223372036854775808 ≤ n) && decide (n ≤ 9223372036854775807) then some ⟨(Lib.itoa n).toArray⟩ else none := congrFun (Classical.choose_spec Itoa_ex) n
noncomputable def c_strconv_Itoa : Con := { ps := [(.val, .int .i64)], rs := [(.val, .str)], F := F_strconv_Itoa }
theorem calls_F_strconv_Itoa (w : World) (x : Int) (y : ByteArray) (hy : F_strconv_Itoa x = some y) (ht : Tabs Tryd.prog w) : Calls Tryd.prog 44 #[.int .i64 x] w fun e w' => e = .returned (.string y) ∧ Fr NoB w w' := by
  rw [F_strconv_Itoa_is] at hy
  obtain ⟨hg, hy⟩ := bif_none hy
  obtain ⟨h0, h1⟩ := and_b hg
  have h0 : -9223372036854775808 ≤ x := of_decide_eq_true h0
  have h1 : x ≤ 9223372036854775807 := of_decide_eq_true h1
  have e : y = ⟨(Lib.itoa x).toArray⟩ := (Option.some.inj hy).symm
  subst e
  refine (Tryd.strconv_Itoa x h0 h1 w (ht.1 _ (List.mem_cons_self ..)).2).mono ?_
  rintro e w' ⟨rfl, k, os, rfl⟩
  exact ⟨rfl, fr_of_below (Go.Lib.below_grow _ _ (Nat.le_refl _) k os)⟩
theorem con_strconv_Itoa : ConOK Tryd.prog 44 c_strconv_Itoa := con_of_pure ⟨Tryd.f44, Tryd.func44, by kernel_rfl, by kernel_rfl⟩ rfl rfl fun w x y hy ht => calls_F_strconv_Itoa w x y hy ht

noncomputable def step_impl_ProposalText_0 (s : ByteArray × (List Int) × Int × Int) : Option ((ByteArray × (List Int) × Int × Int) ⊕ ((ByteArray))) :=
  bif (decide (s.2.2.2 < s.2.2.1)) then
    bif decide (0 ≤ s.2.2.2) && decide (s.2.2.2 < (s.2.1.length : Int)) then
      let v5 := IntKind.i64.wrap ((s.2.1.getD (s.2.2.2).toNat 0) + 1)
      bif decide (0 ≤ v5) && decide (v5 < (3 : Int)) then
        bif decide (s.1.size + ([(⟨#[110]⟩ : ByteArray), (⟨#[46]⟩ : ByteArray), (⟨#[121]⟩ : ByteArray)].getD (v5).toNat ByteArray.empty).size ≤ 9223372036854775807) then
          let v6 := IntKind.i64.wrap (s.2.2.2 + 1)
          some (.inl (((s.1 ++ ([(⟨#[110]⟩ : ByteArray), (⟨#[46]⟩ : ByteArray), (⟨#[121]⟩ : ByteArray)].getD (v5).toNat ByteArray.empty)), (s.2.1, s.2.2.1, v6))))
        else none
      else none
    else none
  else
    some (.inr (s.1))
def pat_impl_ProposalText_0 : Pat := { tmps := [.any, .any, .any, .any, .v .str, .any, .any, .any, .any, .any, .any, .any, .any, .any, .any, .any, .any, .any, .any, .any, .any, .any, .any, .v (.slice (.int .i64)), .v (.int .i64), .v (.int .i64), .any, .any, .any, .any, .any, .any, .any, .any, .any, .any, .any], blks := [] }
def outs_impl_ProposalText_0 : List (Exit × Pat) := [(.exit 0, { tmps := [.any, .any, .any, .any, .v .str, .any, .any, .any, .any, .any, .any, .any, .any, .any, .any, .any, .any, .any, .any, .any, .any, .any, .any, .any, .any, .any, .any, .any, .any, .any, .any, .any, .any, .any, .any, .any, .any], blks := [] })]
noncomputable def F_impl_ProposalText (x : (Int × (Int × (ByteArray × (List Int))))) : Option (ByteArray × Bool) :=
  match F_impl_isProposal (x) with
  | none => none
  | some y1 =>
    bif (!y1) then
      some (((⟨#[]⟩ : ByteArray), false))
    else
      match F_strconv_Itoa (x.1) with
      | none => none
      | some y2 =>
        bif decide (0 ≤ x.2.1) && decide (x.2.1 < (2 : Int)) then
          bif decide (y2.size + ([(⟨#[43]⟩ : ByteArray), (⟨#[45]⟩ : ByteArray)].getD (x.2.1).toNat ByteArray.empty).size ≤ 9223372036854775807) then
            bif decide ((y2 ++ ([(⟨#[43]⟩ : ByteArray), (⟨#[45]⟩ : ByteArray)].getD (x.2.1).toNat ByteArray.empty)).size + x.2.2.1.size ≤ 9223372036854775807) then
              bif decide (((y2 ++ ([(⟨#[43]⟩ : ByteArray), (⟨#[45]⟩ : ByteArray)].getD (x.2.1).toNat ByteArray.empty)) ++ x.2.2.1).size + (⟨#[32]⟩ : ByteArray).size ≤ 9223372036854775807) then
                match runL step_impl_ProposalText_0 (((((y2 ++ ([(⟨#[43]⟩ : ByteArray), (⟨#[45]⟩ : ByteArray)].getD (x.2.1).toNat ByteArray.empty)) ++ x.2.2.1) ++ (⟨#[32]⟩ : ByteArray)), (x.2.2.2, (x.2.2.2.length : Int), 0))) with
                | none => none
                | some o7 =>
                  some ((o7, true))
              else none
            else none
          else none
        else none
noncomputable def c_impl_ProposalText : Con := { ps := [(.val, (.st (.pair (.int .i64) (.pair (.int .i64) (.pair .str (.slice (.int .i64)))))))], rs := [(.val, .str), (.val, .bool)], F := F_impl_ProposalText }
noncomputable def env_impl_ProposalText : Env := { par := [], dp := false, settle := [], con := fun f => match f with | 32 => some c_impl_isProposal | 44 => some c_strconv_Itoa | _ => none, clo := fun _ => none, T := tinf Tryd.prog }
noncomputable def loops_impl_ProposalText : Nat → Option Loop := fun n => match n with | 5 => some { pat := pat_impl_ProposalText_0, outs := outs_impl_ProposalText_0, run := runL (step_impl_ProposalText_0) } | _ => none
theorem step_impl_ProposalText_0_eq (s : ByteArray × (List Int) × Int × Int) : stepEv env_impl_ProposalText loops_impl_ProposalText pat_impl_ProposalText_0 outs_impl_ProposalText_0 Tryd.f19 5 s = step_impl_ProposalText_0 s := by kernel_rfl
theorem F_impl_ProposalText_eq (x : (Int × (Int × (ByteArray × (List Int))))) : Fev env_impl_ProposalText loops_impl_ProposalText c_impl_ProposalText.ps c_impl_ProposalText.rs Tryd.f19 x = F_impl_ProposalText x := by kernel_rfl
theorem env_impl_ProposalText_ok : EnvOK Tryd.prog env_impl_ProposalText := envOK_of (fun f c h => by
  simp only [env_impl_ProposalText] at h
  split at h
  · cases h; exact con_impl_isProposal
  · cases h; exact con_strconv_Itoa
  · cases h) (fun f c h => by cases h) rfl
theorem con_impl_ProposalText : ConOK Tryd.prog 19 c_impl_ProposalText := con_of_ev' (body := Tryd.f19.body.getD .skip) (Λ := loops_impl_ProposalText) mixed Tryd.func19 (by kernel_rfl) (by kernel_rfl) env_impl_ProposalText_ok (by kernel_rfl) (by kernel_rfl) (fun n L h => by
  unfold loops_impl_ProposalText at h
  split at h
  · cases h; exact fun s o ho => loop_ok (stepF := stepEv env_impl_ProposalText loops_impl_ProposalText pat_impl_ProposalText_0 outs_impl_ProposalText_0 Tryd.f19 5) (step_impl_ProposalText_0_eq) ho
  · cases h) F_impl_ProposalText_eq


noncomputable def step_spec_ProposalText_0 (s : ByteArray × (List Int) × Int × Int) : Option ((ByteArray × (List Int) × Int × Int) ⊕ ((ByteArray))) :=
  bif (decide (s.2.2.2 < s.2.2.1)) then
    bif decide (0 ≤ s.2.2.2) && decide (s.2.2.2 < (s.2.1.length : Int)) then
      let v7 := IntKind.i64.wrap ((s.2.1.getD (s.2.2.2).toNat 0) + 1)
      let v8 := IntKind.i64.wrap ((s.2.1.getD (s.2.2.2).toNat 0) + 2)
      bif decide (0 ≤ v7) && decide (v7 ≤ v8) && decide (v8 ≤ ((⟨#[110, 46, 121]⟩ : ByteArray).size : Int)) then
        bif decide (s.1.size + ((⟨#[110, 46, 121]⟩ : ByteArray).extract (v7).toNat (v8).toNat).size ≤ 9223372036854775807) then
          let v9 := IntKind.i64.wrap (s.2.2.2 + 1)
          some (.inl (((s.1 ++ ((⟨#[110, 46, 121]⟩ : ByteArray).extract (v7).toNat (v8).toNat)), (s.2.1, s.2.2.1, v9))))
        else none
      else none
    else none
  else
    some (.inr (s.1))
def pat_spec_ProposalText_0 : Pat := { tmps := [.any, .any, .any, .any, .v .str, .any, .any, .any, .any, .any, .any, .any, .any, .any, .any, .any, .any, .any, .any, .any, .any, .any, .any, .any, .any, .any, .any, .any, .any, .any, .any, .any, .any, .any, .v (.slice (.int .i64)), .v (.int .i64), .v (.int .i64), .any, .any, .any, .any, .any, .any, .any, .any, .any, .any, .any, .any], blks := [] }
def outs_spec_ProposalText_0 : List (Exit × Pat) := [(.exit 0, { tmps := [.any, .any, .any, .any, .v .str, .any, .any, .any, .any, .any, .any, .any, .any, .any, .any, .any, .any, .any, .any, .any, .any, .any, .any, .any, .any, .any, .any, .any, .any, .any, .any, .any, .any, .any, .any, .any, .any, .any, .any, .any, .any, .any, .any, .any, .any, .any, .any, .any, .any], blks := [] })]
noncomputable def F_spec_ProposalText (x : (Int × (Int × (ByteArray × (List Int))))) : Option (ByteArray × Bool) :=
  match F_spec_ofOne ((x, (x.2.2.2.length : Int))) with
  | none => none
  | some y1 =>
    bif (!y1) then
      some (((⟨#[]⟩ : ByteArray), false))
    else
      bif (decide ((x.2.2.2.length : Int) > 7)) then
        some (((⟨#[]⟩ : ByteArray), false))
      else
        match F_spec_l1Num (x.1) with
        | none => none
        | some y2 =>
          let v3 := IntKind.i64.wrap (x.2.1 + 1)
          bif decide (0 ≤ x.2.1) && decide (x.2.1 ≤ v3) && decide (v3 ≤ ((⟨#[43, 45]⟩ : ByteArray).size : Int)) then
            bif decide (y2.size + ((⟨#[43, 45]⟩ : ByteArray).extract (x.2.1).toNat (v3).toNat).size ≤ 9223372036854775807) then
              bif decide ((y2 ++ ((⟨#[43, 45]⟩ : ByteArray).extract (x.2.1).toNat (v3).toNat)).size + x.2.2.1.size ≤ 9223372036854775807) then
                bif decide (((y2 ++ ((⟨#[43, 45]⟩ : ByteArray).extract (x.2.1).toNat (v3).toNat)) ++ x.2.2.1).size + (⟨#[32]⟩ : ByteArray).size ≤ 9223372036854775807) then
                  match runL step_spec_ProposalText_0 (((((y2 ++ ((⟨#[43, 45]⟩ : ByteArray).extract (x.2.1).toNat (v3).toNat)) ++ x.2.2.1) ++ (⟨#[32]⟩ : ByteArray)), (x.2.2.2, (x.2.2.2.length : Int), 0))) with
                  | none => none
                  | some o10 =>
                    some ((o10, true))
                else none
              else none
            else none
          else none
noncomputable def c_spec_ProposalText : Con := { ps := [(.val, (.st (.pair (.int .i64) (.pair (.int .i64) (.pair .str (.slice (.int .i64)))))))], rs := [(.val, .str), (.val, .bool)], F := F_spec_ProposalText }
noncomputable def env_spec_ProposalText : Env := { par := [], dp := false, settle := [], con := fun f => match f with | 45 => some c_spec_ofOne | 46 => some c_spec_l1Num | _ => none, clo := fun _ => none, T := tinf Tryd.prog }
noncomputable def loops_spec_ProposalText : Nat → Option Loop := fun n => match n with | 5 => some { pat := pat_spec_ProposalText_0, outs := outs_spec_ProposalText_0, run := runL (step_spec_ProposalText_0) } | _ => none
theorem step_spec_ProposalText_0_eq (s : ByteArray × (List Int) × Int × Int) : stepEv env_spec_ProposalText loops_spec_ProposalText pat_spec_ProposalText_0 outs_spec_ProposalText_0 Tryd.f20 5 s = step_spec_ProposalText_0 s := by kernel_rfl
theorem F_spec_ProposalText_eq (x : (Int × (Int × (ByteArray × (List Int))))) : Fev env_spec_ProposalText loops_spec_ProposalText c_spec_ProposalText.ps c_spec_ProposalText.rs Tryd.f20 x = F_spec_ProposalText x := by kernel_rfl
theorem env_spec_ProposalText_ok : EnvOK Tryd.prog env_spec_ProposalText := envOK_of (fun f c h => by
  simp only [env_spec_ProposalText] at h
  split at h
  · cases h; exact con_spec_ofOne
  · cases h; exact con_spec_l1Num
  · cases h) (fun f c h => by cases h) rfl
theorem con_spec_ProposalText : ConOK Tryd.prog 20 c_spec_ProposalText := con_of_ev' (body := Tryd.f20.body.getD .skip) (Λ := loops_spec_ProposalText) mixed Tryd.func20 (by kernel_rfl) (by kernel_rfl) env_spec_ProposalText_ok (by kernel_rfl) (by kernel_rfl) (fun n L h => by
  unfold loops_spec_ProposalText at h
  split at h
  · cases h; exact fun s o ho => loop_ok (stepF := stepEv env_spec_ProposalText loops_spec_ProposalText pat_spec_ProposalText_0 outs_spec_ProposalText_0 Tryd.f20 5) (step_spec_ProposalText_0_eq) ho
  · cases h) F_spec_ProposalText_eq

noncomputable def step_laws_FnProposals_0 (s : (List Int) × (List (Int × (Int × (ByteArray × (List Int))))) × Int × Int × Int × Int × (List (Int × (Int × (ByteArray × (List Int))))) × Int × (List (Int × (Int × (ByteArray × (List Int))))) × Int × Int × (List Int) × Int × Int × Int × Int × ByteArray × (List Int)) : Option (((List Int) × (List (Int × (Int × (ByteArray × (List Int))))) × Int × Int × Int × Int × (List (Int × (Int × (ByteArray × (List Int))))) × Int × (List (Int × (Int × (ByteArray × (List Int))))) × Int × Int × (List Int) × Int × Int × Int × Int × ByteArray × (List Int)) ⊕ ((Bool) ⊕ ((List Int) × (List (Int × (Int × (ByteArray × (List Int))))) × Int × Int × Int × Int × (List (Int × (Int × (ByteArray × (List Int))))) × (List (Int × (Int × (ByteArray × (List Int))))) × Int × Int))) :=
  bif (decide (s.2.2.2.2.2.2.2.2.2.2.2.2.2.1 < s.2.2.2.2.2.2.2.2.2.2.2.2.1)) then
    bif decide (0 ≤ s.2.2.2.2.2.2.2.2.2.2.2.2.2.1) && decide (s.2.2.2.2.2.2.2.2.2.2.2.2.2.1 < (s.2.2.2.2.2.2.2.2.2.2.2.1.length : Int)) then
      bif decide (0 ≤ s.2.2.2.2.2.2.2.1) && decide (s.2.2.2.2.2.2.2.1 < (s.2.1.length : Int)) then
        bif decide (0 ≤ s.2.2.2.2.2.2.2.2.2.2.2.2.2.1) && decide (s.2.2.2.2.2.2.2.2.2.2.2.2.2.1 < ((s.2.1.getD (s.2.2.2.2.2.2.2.1).toNat (0, (0, ByteArray.empty, []))).2.2.2.length : Int)) then
          match (bif ((s.2.2.2.2.2.2.2.2.2.2.2.2.2.2.1 == s.2.2.2.1)) then
            bif ((s.2.2.2.2.2.2.2.2.2.2.2.2.2.1 == s.2.2.2.2.1)) then
              some (.inl ((s.1, s.2.1, (s.2.2.1, s.2.2.2.1, (s.2.2.2.2.1, s.2.2.2.2.2.1, (s.2.2.2.2.2.2.1, s.2.2.2.2.2.2.2.1, ((s.2.2.2.2.2.2.2.2.2.2.2.1.getD (s.2.2.2.2.2.2.2.2.2.2.2.2.2.1).toNat 0), s.2.2.2.2.2.1, s.2.2.2.2.2.2.2.2)))))))
            else
              some (.inl ((s.1, s.2.1, (s.2.2.1, s.2.2.2.1, (s.2.2.2.2.1, s.2.2.2.2.2.1, (s.2.2.2.2.2.2.1, s.2.2.2.2.2.2.2.1, ((s.2.2.2.2.2.2.2.2.2.2.2.1.getD (s.2.2.2.2.2.2.2.2.2.2.2.2.2.1).toNat 0), ((s.2.1.getD (s.2.2.2.2.2.2.2.1).toNat (0, (0, ByteArray.empty, []))).2.2.2.getD (s.2.2.2.2.2.2.2.2.2.2.2.2.2.1).toNat 0), s.2.2.2.2.2.2.2.2)))))))
          else
            some (.inl ((s.1, s.2.1, (s.2.2.1, s.2.2.2.1, (s.2.2.2.2.1, s.2.2.2.2.2.1, (s.2.2.2.2.2.2.1, s.2.2.2.2.2.2.2.1, ((s.2.2.2.2.2.2.2.2.2.2.2.1.getD (s.2.2.2.2.2.2.2.2.2.2.2.2.2.1).toNat 0), ((s.2.1.getD (s.2.2.2.2.2.2.2.1).toNat (0, (0, ByteArray.empty, []))).2.2.2.getD (s.2.2.2.2.2.2.2.2.2.2.2.2.2.1).toNat 0), s.2.2.2.2.2.2.2.2))))))) : Option (((List Int) × (List (Int × (Int × (ByteArray × (List Int))))) × Int × Int × Int × Int × (List (Int × (Int × (ByteArray × (List Int))))) × Int × Int × Int × (List (Int × (Int × (ByteArray × (List Int))))) × Int × Int × (List Int) × Int × Int × Int × Int × ByteArray × (List Int)) ⊕ (((List Int) × (List (Int × (Int × (ByteArray × (List Int))))) × Int × Int × Int × Int × (List (Int × (Int × (ByteArray × (List Int))))) × Int × (List (Int × (Int × (ByteArray × (List Int))))) × Int × Int × (List Int) × Int × Int × Int × Int × ByteArray × (List Int)) ⊕ ((Bool) ⊕ ((List Int) × (List (Int × (Int × (ByteArray × (List Int))))) × Int × Int × Int × Int × (List (Int × (Int × (ByteArray × (List Int))))) × (List (Int × (Int × (ByteArray × (List Int))))) × Int × Int))))) with
          | none => none
          | some (.inl j17) =>
            bif ((j17.2.2.2.2.2.2.2.2.1 != j17.2.2.2.2.2.2.2.2.2.1)) then
              some (.inr (.inl (false)))
            else
              let v18 := IntKind.i64.wrap (j17.2.2.2.2.2.2.2.2.2.2.2.2.2.2.2.1 + 1)
              some (.inl ((j17.1, j17.2.1, (j17.2.2.1, j17.2.2.2.1, (j17.2.2.2.2.1, j17.2.2.2.2.2.1, (j17.2.2.2.2.2.2.1, j17.2.2.2.2.2.2.2.1, (j17.2.2.2.2.2.2.2.2.2.2.1, j17.2.2.2.2.2.2.2.2.2.2.2.1, (j17.2.2.2.2.2.2.2.2.2.2.2.2.1, j17.2.2.2.2.2.2.2.2.2.2.2.2.2.1, (j17.2.2.2.2.2.2.2.2.2.2.2.2.2.2.1, v18, j17.2.2.2.2.2.2.2.2.2.2.2.2.2.2.2.2)))))))))
          | some (.inr r) => some r
        else none
      else none
    else none
  else
    some (.inr (.inr ((s.1, (s.2.1, s.2.2.1, (s.2.2.2.1, s.2.2.2.2.1, (s.2.2.2.2.2.1, s.2.2.2.2.2.2.1, (s.2.2.2.2.2.2.2.2.1, s.2.2.2.2.2.2.2.2.2.1, s.2.2.2.2.2.2.2.2.2.2.1))))))))
def pat_laws_FnProposals_0 : Pat := { tmps := [.any, .v (.slice (.int .u8)), .any, .any, .any, .v (.slice (.st (.pair (.int .i64) (.pair (.int .i64) (.pair .str (.slice (.int .i64))))))), .v (.int .i64), .v (.int .i64), .v (.int .i64), .v (.int .i64), .v (.slice (.st (.pair (.int .i64) (.pair (.int .i64) (.pair .str (.slice (.int .i64))))))), .any, .any, .any, .v (.int .i64), .ptr 960 0, .any, .any, .any, .any, .any, .any, .any, .any, .any, .any, .any, .any, .any, .any, .any, .any, .any, .any, .any, .any, .any, .any, .any, .any, .any, .any, .any, .any, .any, .any, .any, .any, .any, .any, .any, .any, .any, .any, .any, .any, .any, .any, .any, .any, .any, .any, .any, .any, .any, .any, .any, .any, .any, .any, .any, .any, .any, .any, .any, .any, .any, .any, .any, .any, .any, .any, .any, .any, .any, .any, .any, .any, .any, .any, .any, .any, .any, .any, .any, .v (.slice (.st (.pair (.int .i64) (.pair (.int .i64) (.pair .str (.slice (.int .i64))))))), .v (.int .i64), .v (.int .i64), .any, .any, .any, .any, .any, .v (.slice (.int .i64)), .v (.int .i64), .v (.int .i64), .any, .any, .any, .any, .any, .any, .any, .any, .any, .any, .any, .any, .any, .any, .any, .any, .any, .any, .any, .any, .any, .any, .any, .any, .any, .any, .any, .any, .any, .any, .any, .any, .any, .any, .any, .any, .any, .any, .any, .any, .any, .any, .any, .any, .any, .any, .any, .any, .any, .any, .any, .any, .any, .any, .any, .any, .any, .any, .any, .any, .any, .any, .any, .any, .any, .any, .any, .any, .any, .any, .any, .any, .any, .any, .any, .any, .any, .any, .any, .any, .any, .any, .any, .any, .any, .any, .any, .any, .any, .any, .any, .any, .any, .any, .any, .any, .any, .any, .any, .any, .any, .any, .any, .any, .any, .any, .any, .any, .any, .any, .any, .any, .any, .any, .any, .any, .any, .any, .any, .any, .any, .any, .any, .any, .any, .any, .any, .any, .any, .any, .any, .any, .any, .any, .any, .any, .any, .any, .any, .any, .any, .any, .any, .any, .any, .any, .any, .any, .any, .any, .any, .any, .any, .any, .any, .any, .any, .any, .any, .any, .any, .any, .any, .any, .any, .any, .any, .any, .any, .any, .any, .any, .any, .any, .any, .any, .any, .any, .any, .any, .any, .any, .any, .any, .any, .any, .any, .any, .any, .any, .any, .any, .any, .any, .any, .any, .any, .any, .any, .any, .any, .any, .any, .any, .any, .any, .any, .any, .any, .any, .any, .any, .any, .any, .any, .any, .any, .any, .any, .any, .any, .any, .any, .any, .any, .any, .any, .any, .any, .any, .any, .any, .any, .any, .any, .any, .any, .any, .any, .any, .any, .any, .any, .any, .any, .any, .any, .any, .any, .any, .any], blks := [(960, .box [.v (.int .i64), .v (.int .i64), .v .str, .v (.slice (.int .i64))])] }
def outs_laws_FnProposals_0 : List (Exit × Pat) := [(.ret, { tmps := [.any, .any, .any, .any, .v .bool, .any, .any, .any, .any, .any, .any, .any, .any, .any, .any, .any, .any, .any, .any, .any, .any, .any, .any, .any, .any, .any, .any, .any, .any, .any, .any, .any, .any, .any, .any, .any, .any, .any, .any, .any, .any, .any, .any, .any, .any, .any, .any, .any, .any, .any, .any, .any, .any, .any, .any, .any, .any, .any, .any, .any, .any, .any, .any, .any, .any, .any, .any, .any, .any, .any, .any, .any, .any, .any, .any, .any, .any, .any, .any, .any, .any, .any, .any, .any, .any, .any, .any, .any, .any, .any, .any, .any, .any, .any, .any, .any, .any, .any, .any, .any, .any, .any, .any, .any, .any, .any, .any, .any, .any, .any, .any, .any, .any, .any, .any, .any, .any, .any, .any, .any, .any, .any, .any, .any, .any, .any, .any, .any, .any, .any, .any, .any, .any, .any, .any, .any, .any, .any, .any, .any, .any, .any, .any, .any, .any, .any, .any, .any, .any, .any, .any, .any, .any, .any, .any, .any, .any, .any, .any, .any, .any, .any, .any, .any, .any, .any, .any, .any, .any, .any, .any, .any, .any, .any, .any, .any, .any, .any, .any, .any, .any, .any, .any, .any, .any, .any, .any, .any, .any, .any, .any, .any, .any, .any, .any, .any, .any, .any, .any, .any, .any, .any, .any, .any, .any, .any, .any, .any, .any, .any, .any, .any, .any, .any, .any, .any, .any, .any, .any, .any, .any, .any, .any, .any, .any, .any, .any, .any, .any, .any, .any, .any, .any, .any, .any, .any, .any, .any, .any, .any, .any, .any, .any, .any, .any, .any, .any, .any, .any, .any, .any, .any, .any, .any, .any, .any, .any, .any, .any, .any, .any, .any, .any, .any, .any, .any, .any, .any, .any, .any, .any, .any, .any, .any, .any, .any, .any, .any, .any, .any, .any, .any, .any, .any, .any, .any, .any, .any, .any, .any, .any, .any, .any, .any, .any, .any, .any, .any, .any, .any, .any, .any, .any, .any, .any, .any, .any, .any, .any, .any, .any, .any, .any, .any, .any, .any, .any, .any, .any, .any, .any, .any, .any, .any, .any, .any, .any, .any, .any, .any, .any, .any, .any, .any, .any, .any, .any, .any, .any, .any, .any, .any, .any, .any, .any, .any, .any, .any, .any, .any, .any, .any, .any, .any, .any, .any, .any], blks := [] }), (.exit 2, { tmps := [.any, .v (.slice (.int .u8)), .any, .any, .any, .v (.slice (.st (.pair (.int .i64) (.pair (.int .i64) (.pair .str (.slice (.int .i64))))))), .v (.int .i64), .v (.int .i64), .v (.int .i64), .v (.int .i64), .v (.slice (.st (.pair (.int .i64) (.pair (.int .i64) (.pair .str (.slice (.int .i64))))))), .any, .any, .any, .any, .any, .any, .any, .any, .any, .any, .any, .any, .any, .any, .any, .any, .any, .any, .any, .any, .any, .any, .any, .any, .any, .any, .any, .any, .any, .any, .any, .any, .any, .any, .any, .any, .any, .any, .any, .any, .any, .any, .any, .any, .any, .any, .any, .any, .any, .any, .any, .any, .any, .any, .any, .any, .any, .any, .any, .any, .any, .any, .any, .any, .any, .any, .any, .any, .any, .any, .any, .any, .any, .any, .any, .any, .any, .any, .any, .any, .any, .any, .any, .any, .v (.slice (.st (.pair (.int .i64) (.pair (.int .i64) (.pair .str (.slice (.int .i64))))))), .v (.int .i64), .v (.int .i64), .any, .any, .any, .any, .any, .any, .any, .any, .any, .any, .any, .any, .any, .any, .any, .any, .any, .any, .any, .any, .any, .any, .any, .any, .any, .any, .any, .any, .any, .any, .any, .any, .any, .any, .any, .any, .any, .any, .any, .any, .any, .any, .any, .any, .any, .any, .any, .any, .any, .any, .any, .any, .any, .any, .any, .any, .any, .any, .any, .any, .any, .any, .any, .any, .any, .any, .any, .any, .any, .any, .any, .any, .any, .any, .any, .any, .any, .any, .any, .any, .any, .any, .any, .any, .any, .any, .any, .any, .any, .any, .any, .any, .any, .any, .any, .any, .any, .any, .any, .any, .any, .any, .any, .any, .any, .any, .any, .any, .any, .any, .any, .any, .any, .any, .any, .any, .any, .any, .any, .any, .any, .any, .any, .any, .any, .any, .any, .any, .any, .any, .any, .any, .any, .any, .any, .any, .any, .any, .any, .any, .any, .any, .any, .any, .any, .any, .any, .any, .any, .any, .any, .any, .any, .any, .any, .any, .any, .any, .any, .any, .any, .any, .any, .any, .any, .any, .any, .any, .any, .any, .any, .any, .any, .any, .any, .any, .any, .any, .any, .any, .any, .any, .any, .any, .any, .any, .any, .any, .any, .any, .any, .any, .any, .any, .any, .any, .any, .any, .any, .any, .any, .any, .any, .any, .any, .any, .any, .any, .any, .any, .any, .any, .any, .any, .any, .any, .any, .any, .any, .any, .any, .any, .any, .any, .any, .any, .any, .any, .any, .any, .any, .any, .any, .any, .any, .any, .any, .any, .any, .any, .any, .any, .any, .any, .any, .any, .any, .any, .any, .any, .any, .any, .any, .any, .any, .any, .any, .any, .any], blks := [] })]
noncomputable def step_laws_FnProposals_1 (s : (List Int) × (List (Int × (Int × (ByteArray × (List Int))))) × Int × Int × Int × Int × (List (Int × (Int × (ByteArray × (List Int))))) × (List (Int × (Int × (ByteArray × (List Int))))) × Int × Int) : Option (((List Int) × (List (Int × (Int × (ByteArray × (List Int))))) × Int × Int × Int × Int × (List (Int × (Int × (ByteArray × (List Int))))) × (List (Int × (Int × (ByteArray × (List Int))))) × Int × Int) ⊕ ((Bool) ⊕ ((List Int) × Int × (List (Int × (Int × (ByteArray × (List Int)))))))) :=
  bif (decide (s.2.2.2.2.2.2.2.2.2 < s.2.2.2.2.2.2.2.2.1)) then
    bif decide (0 ≤ s.2.2.2.2.2.2.2.2.2) && decide (s.2.2.2.2.2.2.2.2.2 < (s.2.2.2.2.2.2.2.1.length : Int)) then
      match runL step_laws_FnProposals_0 ((s.1, s.2.1, (s.2.2.1, s.2.2.2.1, (s.2.2.2.2.1, s.2.2.2.2.2.1, (s.2.2.2.2.2.2.1, s.2.2.2.2.2.2.2.2.2, (s.2.2.2.2.2.2.2.1, s.2.2.2.2.2.2.2.2.1, (s.2.2.2.2.2.2.2.2.2, (s.2.2.2.2.2.2.2.1.getD (s.2.2.2.2.2.2.2.2.2).toNat (0, (0, ByteArray.empty, []))).2.2.2, (((s.2.2.2.2.2.2.2.1.getD (s.2.2.2.2.2.2.2.2.2).toNat (0, (0, ByteArray.empty, []))).2.2.2.length : Int), 0, (s.2.2.2.2.2.2.2.1.getD (s.2.2.2.2.2.2.2.2.2).toNat (0, (0, ByteArray.empty, []))))))))))) with
      | none => none
      | some (.inl o19) =>
        some (.inr (.inl (o19)))
      | some (.inr o19) =>
        let v20 := IntKind.i64.wrap (o19.2.2.2.2.2.2.2.2.2 + 1)
        some (.inl ((o19.1, (o19.2.1, o19.2.2.1, (o19.2.2.2.1, o19.2.2.2.2.1, (o19.2.2.2.2.2.1, o19.2.2.2.2.2.2.1, (o19.2.2.2.2.2.2.2.1, o19.2.2.2.2.2.2.2.2.1, v20)))))))
    else none
  else
    some (.inr (.inr ((s.1, s.2.2.1, s.2.2.2.2.2.2.1))))
def pat_laws_FnProposals_1 : Pat := { tmps := [.any, .v (.slice (.int .u8)), .any, .any, .any, .v (.slice (.st (.pair (.int .i64) (.pair (.int .i64) (.pair .str (.slice (.int .i64))))))), .v (.int .i64), .v (.int .i64), .v (.int .i64), .v (.int .i64), .v (.slice (.st (.pair (.int .i64) (.pair (.int .i64) (.pair .str (.slice (.int .i64))))))), .any, .any, .any, .any, .any, .any, .any, .any, .any, .any, .any, .any, .any, .any, .any, .any, .any, .any, .any, .any, .any, .any, .any, .any, .any, .any, .any, .any, .any, .any, .any, .any, .any, .any, .any, .any, .any, .any, .any, .any, .any, .any, .any, .any, .any, .any, .any, .any, .any, .any, .any, .any, .any, .any, .any, .any, .any, .any, .any, .any, .any, .any, .any, .any, .any, .any, .any, .any, .any, .any, .any, .any, .any, .any, .any, .any, .any, .any, .any, .any, .any, .any, .any, .any, .v (.slice (.st (.pair (.int .i64) (.pair (.int .i64) (.pair .str (.slice (.int .i64))))))), .v (.int .i64), .v (.int .i64), .any, .any, .any, .any, .any, .any, .any, .any, .any, .any, .any, .any, .any, .any, .any, .any, .any, .any, .any, .any, .any, .any, .any, .any, .any, .any, .any, .any, .any, .any, .any, .any, .any, .any, .any, .any, .any, .any, .any, .any, .any, .any, .any, .any, .any, .any, .any, .any, .any, .any, .any, .any, .any, .any, .any, .any, .any, .any, .any, .any, .any, .any, .any, .any, .any, .any, .any, .any, .any, .any, .any, .any, .any, .any, .any, .any, .any, .any, .any, .any, .any, .any, .any, .any, .any, .any, .any, .any, .any, .any, .any, .any, .any, .any, .any, .any, .any, .any, .any, .any, .any, .any, .any, .any, .any, .any, .any, .any, .any, .any, .any, .any, .any, .any, .any, .any, .any, .any, .any, .any, .any, .any, .any, .any, .any, .any, .any, .any, .any, .any, .any, .any, .any, .any, .any, .any, .any, .any, .any, .any, .any, .any, .any, .any, .any, .any, .any, .any, .any, .any, .any, .any, .any, .any, .any, .any, .any, .any, .any, .any, .any, .any, .any, .any, .any, .any, .any, .any, .any, .any, .any, .any, .any, .any, .any, .any, .any, .any, .any, .any, .any, .any, .any, .any, .any, .any, .any, .any, .any, .any, .any, .any, .any, .any, .any, .any, .any, .any, .any, .any, .any, .any, .any, .any, .any, .any, .any, .any, .any, .any, .any, .any, .any, .any, .any, .any, .any, .any, .any, .any, .any, .any, .any, .any, .any, .any, .any, .any, .any, .any, .any, .any, .any, .any, .any, .any, .any, .any, .any, .any, .any, .any, .any, .any, .any, .any, .any, .any, .any, .any, .any, .any, .any, .any, .any, .any, .any, .any, .any], blks := [] }
def outs_laws_FnProposals_1 : List (Exit × Pat) := [(.ret, { tmps := [.any, .any, .any, .any, .v .bool, .any, .any, .any, .any, .any, .any, .any, .any, .any, .any, .any, .any, .any, .any, .any, .any, .any, .any, .any, .any, .any, .any, .any, .any, .any, .any, .any, .any, .any, .any, .any, .any, .any, .any, .any, .any, .any, .any, .any, .any, .any, .any, .any, .any, .any, .any, .any, .any, .any, .any, .any, .any, .any, .any, .any, .any, .any, .any, .any, .any, .any, .any, .any, .any, .any, .any, .any, .any, .any, .any, .any, .any, .any, .any, .any, .any, .any, .any, .any, .any, .any, .any, .any, .any, .any, .any, .any, .any, .any, .any, .any, .any, .any, .any, .any, .any, .any, .any, .any, .any, .any, .any, .any, .any, .any, .any, .any, .any, .any, .any, .any, .any, .any, .any, .any, .any, .any, .any, .any, .any, .any, .any, .any, .any, .any, .any, .any, .any, .any, .any, .any, .any, .any, .any, .any, .any, .any, .any, .any, .any, .any, .any, .any, .any, .any, .any, .any, .any, .any, .any, .any, .any, .any, .any, .any, .any, .any, .any, .any, .any, .any, .any, .any, .any, .any, .any, .any, .any, .any, .any, .any, .any, .any, .any, .any, .any, .any, .any, .any, .any, .any, .any, .any, .any, .any, .any, .any, .any, .any, .any, .any, .any, .any, .any, .any, .any, .any, .any, .any, .any, .any, .any, .any, .any, .any, .any, .any, .any, .any, .any, .any, .any, .any, .any, .any, .any, .any, .any, .any, .any, .any, .any, .any, .any, .any, .any, .any, .any, .any, .any, .any, .any, .any, .any, .any, .any, .any, .any, .any, .any, .any, .any, .any, .any, .any, .any, .any, .any, .any, .any, .any, .any, .any, .any, .any, .any, .any, .any, .any, .any, .any, .any, .any, .any, .any, .any, .any, .any, .any, .any, .any, .any, .any, .any, .any, .any, .any, .any, .any, .any, .any, .any, .any, .any, .any, .any, .any, .any, .any, .any, .any, .any, .any, .any, .any, .any, .any, .any, .any, .any, .any, .any, .any, .any, .any, .any, .any, .any, .any, .any, .any, .any, .any, .any, .any, .any, .any, .any, .any, .any, .any, .any, .any, .any, .any, .any, .any, .any, .any, .any, .any, .any, .any, .any, .any, .any, .any, .any, .any, .any, .any, .any, .any, .any, .any, .any, .any, .any, .any, .any, .any, .any], blks := [] }), (.exit 0, { tmps := [.any, .v (.slice (.int .u8)), .any, .any, .any, .any, .v (.int .i64), .any, .any, .any, .v (.slice (.st (.pair (.int .i64) (.pair (.int .i64) (.pair .str (.slice (.int .i64))))))), .any, .any, .any, .any, .any, .any, .any, .any, .any, .any, .any, .any, .any, .any, .any, .any, .any, .any, .any, .any, .any, .any, .any, .any, .any, .any, .any, .any, .any, .any, .any, .any, .any, .any, .any, .any, .any, .any, .any, .any, .any, .any, .any, .any, .any, .any, .any, .any, .any, .any, .any, .any, .any, .any, .any, .any, .any, .any, .any, .any, .any, .any, .any, .any, .any, .any, .any, .any, .any, .any, .any, .any, .any, .any, .any, .any, .any, .any, .any, .any, .any, .any, .any, .any, .any, .any, .any, .any, .any, .any, .any, .any, .any, .any, .any, .any, .any, .any, .any, .any, .any, .any, .any, .any, .any, .any, .any, .any, .any, .any, .any, .any, .any, .any, .any, .any, .any, .any, .any, .any, .any, .any, .any, .any, .any, .any, .any, .any, .any, .any, .any, .any, .any, .any, .any, .any, .any, .any, .any, .any, .any, .any, .any, .any, .any, .any, .any, .any, .any, .any, .any, .any, .any, .any, .any, .any, .any, .any, .any, .any, .any, .any, .any, .any, .any, .any, .any, .any, .any, .any, .any, .any, .any, .any, .any, .any, .any, .any, .any, .any, .any, .any, .any, .any, .any, .any, .any, .any, .any, .any, .any, .any, .any, .any, .any, .any, .any, .any, .any, .any, .any, .any, .any, .any, .any, .any, .any, .any, .any, .any, .any, .any, .any, .any, .any, .any, .any, .any, .any, .any, .any, .any, .any, .any, .any, .any, .any, .any, .any, .any, .any, .any, .any, .any, .any, .any, .any, .any, .any, .any, .any, .any, .any, .any, .any, .any, .any, .any, .any, .any, .any, .any, .any, .any, .any, .any, .any, .any, .any, .any, .any, .any, .any, .any, .any, .any, .any, .any, .any, .any, .any, .any, .any, .any, .any, .any, .any, .any, .any, .any, .any, .any, .any, .any, .any, .any, .any, .any, .any, .any, .any, .any, .any, .any, .any, .any, .any, .any, .any, .any, .any, .any, .any, .any, .any, .any, .any, .any, .any, .any, .any, .any, .any, .any, .any, .any, .any, .any, .any, .any, .any, .any, .any, .any, .any, .any, .any, .any, .any, .any, .any, .any, .any, .any, .any, .any, .any, .any, .any, .any, .any, .any, .any, .any, .any, .any], blks := [] })]
noncomputable def step_laws_FnProposals_2 (s : (List Int) × Int × Int × (List (Int × (Int × (ByteArray × (List Int))))) × Int × (List (Int × (Int × (ByteArray × (List Int))))) × Int × Int × (List Int) × Int × Int) : Option (((List Int) × Int × Int × (List (Int × (Int × (ByteArray × (List Int))))) × Int × (List (Int × (Int × (ByteArray × (List Int))))) × Int × Int × (List Int) × Int × Int) ⊕ ((Bool) ⊕ ((List Int) × Int × Int × (List (Int × (Int × (ByteArray × (List Int))))) × Int × (List (Int × (Int × (ByteArray × (List Int))))) × Int × Int))) :=
  bif (decide (s.2.2.2.2.2.2.2.2.2.2 < s.2.2.2.2.2.2.2.2.2.1)) then
    match (bif decide (0 ≤ s.2.2.2.2.2.2.2.2.2.2) && decide (s.2.2.2.2.2.2.2.2.2.2 < (s.2.2.2.2.2.2.2.2.1.length : Int)) then
      bif (((s.2.2.2.2.2.2.2.2.1.getD (s.2.2.2.2.2.2.2.2.2.2).toNat 0) == 0)) then
        bif (decide (s.2.2.2.2.1 > 0)) then
          match F_impl_CastVote ((s.2.2.2.1, s.2.1, (s.2.2.1, s.2.2.2.2.2.2.2.2.2.2, 1))) with
          | none => none
          | some y54 =>
            match F_spec_CastVote ((s.2.2.2.1, s.2.1, (s.2.2.1, s.2.2.2.2.2.2.2.2.2.2, 1))) with
            | none => none
            | some y55 =>
              bif (!y54.2) then
                some (.inr (.inr (.inl (false))))
              else
                bif (!y55.2) then
                  some (.inr (.inr (.inl (false))))
                else
                  match F_laws_pSameProposals ((y54.1, y55.1)) with
                  | none => none
                  | some y56 =>
                    bif (!y56) then
                      some (.inr (.inr (.inl (false))))
                    else
                      let v57 := IntKind.i64.wrap (s.2.2.2.2.1 - 1)
                      some (.inl ((s.1, (s.2.1, s.2.2.1, (y55.1, v57, s.2.2.2.2.2)))))
        else
          some (.inl (s))
      else
        some (.inl (s))
    else none : Option (((List Int) × Int × Int × (List (Int × (Int × (ByteArray × (List Int))))) × Int × (List (Int × (Int × (ByteArray × (List Int))))) × Int × Int × (List Int) × Int × Int) ⊕ (((List Int) × Int × Int × (List (Int × (Int × (ByteArray × (List Int))))) × Int × (List (Int × (Int × (ByteArray × (List Int))))) × Int × Int × (List Int) × Int × Int) ⊕ ((Bool) ⊕ ((List Int) × Int × Int × (List (Int × (Int × (ByteArray × (List Int))))) × Int × (List (Int × (Int × (ByteArray × (List Int))))) × Int × Int))))) with
    | none => none
    | some (.inl j58) =>
      let v59 := IntKind.i64.wrap (j58.2.2.2.2.2.2.2.2.2.2 + 1)
      some (.inl ((j58.1, j58.2.1, (j58.2.2.1, j58.2.2.2.1, (j58.2.2.2.2.1, j58.2.2.2.2.2.1, (j58.2.2.2.2.2.2.1, j58.2.2.2.2.2.2.2.1, (j58.2.2.2.2.2.2.2.2.1, j58.2.2.2.2.2.2.2.2.2.1, v59)))))))
    | some (.inr r) => some r
  else
    some (.inr (.inr ((s.1, (s.2.1, s.2.2.1, (s.2.2.2.1, s.2.2.2.2.1, (s.2.2.2.2.2.1, s.2.2.2.2.2.2.1, s.2.2.2.2.2.2.2.1)))))))
def pat_laws_FnProposals_2 : Pat := { tmps := [.any, .v (.slice (.int .u8)), .any, .any, .any, .any, .any, .any, .any, .any, .any, .any, .any, .any, .any, .any, .any, .any, .any, .any, .v (.int .i64), .v (.int .i64), .any, .any, .any, .any, .any, .any, .any, .any, .v (.slice (.st (.pair (.int .i64) (.pair (.int .i64) (.pair .str (.slice (.int .i64))))))), .v (.int .i64), .any, .any, .any, .any, .any, .any, .any, .any, .any, .any, .any, .any, .any, .any, .any, .any, .any, .any, .any, .any, .any, .any, .any, .any, .any, .any, .any, .any, .any, .any, .any, .any, .any, .any, .any, .any, .any, .any, .any, .any, .any, .any, .any, .any, .any, .any, .any, .any, .any, .any, .any, .any, .any, .any, .any, .any, .any, .any, .any, .any, .any, .any, .any, .any, .any, .any, .any, .any, .any, .any, .any, .any, .any, .any, .any, .any, .any, .any, .any, .any, .any, .any, .any, .any, .any, .any, .any, .any, .any, .any, .any, .any, .any, .any, .any, .any, .any, .any, .any, .any, .any, .any, .any, .any, .any, .any, .any, .any, .any, .any, .any, .any, .any, .any, .any, .any, .any, .any, .any, .any, .any, .any, .any, .any, .any, .any, .any, .any, .any, .any, .any, .any, .any, .any, .any, .any, .any, .any, .any, .any, .any, .any, .any, .any, .any, .any, .any, .any, .any, .any, .any, .any, .any, .any, .any, .any, .any, .any, .any, .any, .any, .any, .any, .any, .any, .any, .any, .any, .any, .any, .any, .any, .any, .any, .any, .any, .any, .any, .any, .v (.slice (.st (.pair (.int .i64) (.pair (.int .i64) (.pair .str (.slice (.int .i64))))))), .v (.int .i64), .v (.int .i64), .any, .any, .any, .any, .any, .any, .any, .any, .v (.slice (.int .i64)), .v (.int .i64), .v (.int .i64), .any, .any, .any, .any, .any, .any, .any, .any, .any, .any, .any, .any, .any, .any, .any, .any, .any, .any, .any, .any, .any, .any, .any, .any, .any, .any, .any, .any, .any, .any, .any, .any, .any, .any, .any, .any, .any, .any, .any, .any, .any, .any, .any, .any, .any, .any, .any, .any, .any, .any, .any, .any, .any, .any, .any, .any, .any, .any, .any, .any, .any, .any, .any, .any, .any, .any, .any, .any, .any, .any, .any, .any, .any, .any, .any, .any, .any, .any, .any, .any, .any, .any, .any, .any, .any, .any, .any, .any, .any, .any, .any, .any, .any, .any, .any, .any, .any, .any, .any, .any, .any, .any, .any, .any, .any, .any, .any, .any, .any, .any, .any, .any, .any, .any, .any, .any, .any, .any, .any, .any, .any, .any, .any, .any, .any, .any, .any, .any, .any, .any, .any, .any], blks := [] }
def outs_laws_FnProposals_2 : List (Exit × Pat) := [(.ret, { tmps := [.any, .any, .any, .any, .v .bool, .any, .any, .any, .any, .any, .any, .any, .any, .any, .any, .any, .any, .any, .any, .any, .any, .any, .any, .any, .any, .any, .any, .any, .any, .any, .any, .any, .any, .any, .any, .any, .any, .any, .any, .any, .any, .any, .any, .any, .any, .any, .any, .any, .any, .any, .any, .any, .any, .any, .any, .any, .any, .any, .any, .any, .any, .any, .any, .any, .any, .any, .any, .any, .any, .any, .any, .any, .any, .any, .any, .any, .any, .any, .any, .any, .any, .any, .any, .any, .any, .any, .any, .any, .any, .any, .any, .any, .any, .any, .any, .any, .any, .any, .any, .any, .any, .any, .any, .any, .any, .any, .any, .any, .any, .any, .any, .any, .any, .any, .any, .any, .any, .any, .any, .any, .any, .any, .any, .any, .any, .any, .any, .any, .any, .any, .any, .any, .any, .any, .any, .any, .any, .any, .any, .any, .any, .any, .any, .any, .any, .any, .any, .any, .any, .any, .any, .any, .any, .any, .any, .any, .any, .any, .any, .any, .any, .any, .any, .any, .any, .any, .any, .any, .any, .any, .any, .any, .any, .any, .any, .any, .any, .any, .any, .any, .any, .any, .any, .any, .any, .any, .any, .any, .any, .any, .any, .any, .any, .any, .any, .any, .any, .any, .any, .any, .any, .any, .any, .any, .any, .any, .any, .any, .any, .any, .any, .any, .any, .any, .any, .any, .any, .any, .any, .any, .any, .any, .any, .any, .any, .any, .any, .any, .any, .any, .any, .any, .any, .any, .any, .any, .any, .any, .any, .any, .any, .any, .any, .any, .any, .any, .any, .any, .any, .any, .any, .any, .any, .any, .any, .any, .any, .any, .any, .any, .any, .any, .any, .any, .any, .any, .any, .any, .any, .any, .any, .any, .any, .any, .any, .any, .any, .any, .any, .any, .any, .any, .any, .any, .any, .any, .any, .any, .any, .any, .any, .any, .any, .any, .any, .any, .any, .any, .any, .any, .any, .any, .any, .any, .any, .any, .any, .any, .any, .any, .any, .any, .any, .any, .any, .any, .any, .any, .any, .any, .any, .any, .any, .any, .any, .any, .any, .any, .any, .any, .any, .any, .any, .any, .any, .any, .any, .any, .any, .any, .any, .any, .any, .any, .any, .any, .any, .any, .any, .any, .any, .any, .any, .any, .any, .any, .any], blks := [] }), (.exit 6, { tmps := [.any, .v (.slice (.int .u8)), .any, .any, .any, .any, .any, .any, .any, .any, .any, .any, .any, .any, .any, .any, .any, .any, .any, .any, .v (.int .i64), .v (.int .i64), .any, .any, .any, .any, .any, .any, .any, .any, .v (.slice (.st (.pair (.int .i64) (.pair (.int .i64) (.pair .str (.slice (.int .i64))))))), .v (.int .i64), .any, .any, .any, .any, .any, .any, .any, .any, .any, .any, .any, .any, .any, .any, .any, .any, .any, .any, .any, .any, .any, .any, .any, .any, .any, .any, .any, .any, .any, .any, .any, .any, .any, .any, .any, .any, .any, .any, .any, .any, .any, .any, .any, .any, .any, .any, .any, .any, .any, .any, .any, .any, .any, .any, .any, .any, .any, .any, .any, .any, .any, .any, .any, .any, .any, .any, .any, .any, .any, .any, .any, .any, .any, .any, .any, .any, .any, .any, .any, .any, .any, .any, .any, .any, .any, .any, .any, .any, .any, .any, .any, .any, .any, .any, .any, .any, .any, .any, .any, .any, .any, .any, .any, .any, .any, .any, .any, .any, .any, .any, .any, .any, .any, .any, .any, .any, .any, .any, .any, .any, .any, .any, .any, .any, .any, .any, .any, .any, .any, .any, .any, .any, .any, .any, .any, .any, .any, .any, .any, .any, .any, .any, .any, .any, .any, .any, .any, .any, .any, .any, .any, .any, .any, .any, .any, .any, .any, .any, .any, .any, .any, .any, .any, .any, .any, .any, .any, .any, .any, .any, .any, .any, .any, .any, .any, .any, .any, .any, .any, .v (.slice (.st (.pair (.int .i64) (.pair (.int .i64) (.pair .str (.slice (.int .i64))))))), .v (.int .i64), .v (.int .i64), .any, .any, .any, .any, .any, .any, .any, .any, .any, .any, .any, .any, .any, .any, .any, .any, .any, .any, .any, .any, .any, .any, .any, .any, .any, .any, .any, .any, .any, .any, .any, .any, .any, .any, .any, .any, .any, .any, .any, .any, .any, .any, .any, .any, .any, .any, .any, .any, .any, .any, .any, .any, .any, .any, .any, .any, .any, .any, .any, .any, .any, .any, .any, .any, .any, .any, .any, .any, .any, .any, .any, .any, .any, .any, .any, .any, .any, .any, .any, .any, .any, .any, .any, .any, .any, .any, .any, .any, .any, .any, .any, .any, .any, .any, .any, .any, .any, .any, .any, .any, .any, .any, .any, .any, .any, .any, .any, .any, .any, .any, .any, .any, .any, .any, .any, .any, .any, .any, .any, .any, .any, .any, .any, .any, .any, .any, .any, .any, .any, .any, .any, .any, .any, .any, .any, .any, .any, .any, .any, .any, .any, .any, .any], blks := [] })]
noncomputable def step_laws_FnProposals_3 (s : (List Int) × Int × Int × (List (Int × (Int × (ByteArray × (List Int))))) × Int × (List (Int × (Int × (ByteArray × (List Int))))) × Int × Int) : Option (((List Int) × Int × Int × (List (Int × (Int × (ByteArray × (List Int))))) × Int × (List (Int × (Int × (ByteArray × (List Int))))) × Int × Int) ⊕ ((Bool) ⊕ ((List Int) × Int × Int × (List (Int × (Int × (ByteArray × (List Int))))) × Int))) :=
  bif (decide (s.2.2.2.2.2.2.2 < s.2.2.2.2.2.2.1)) then
    match (bif decide (0 ≤ s.2.2.2.2.2.2.2) && decide (s.2.2.2.2.2.2.2 < (s.2.2.2.2.2.1.length : Int)) then
      bif (((s.2.2.2.2.2.1.getD (s.2.2.2.2.2.2.2).toNat (0, (0, ByteArray.empty, []))).1 != s.2.2.1)) then
        some (.inl (s))
      else
        match runL step_laws_FnProposals_2 ((s.1, s.2.1, (s.2.2.1, s.2.2.2.1, (s.2.2.2.2.1, s.2.2.2.2.2.1, (s.2.2.2.2.2.2.1, s.2.2.2.2.2.2.2, ((s.2.2.2.2.2.1.getD (s.2.2.2.2.2.2.2).toNat (0, (0, ByteArray.empty, []))).2.2.2, ((s.2.2.2.2.2.1.getD (s.2.2.2.2.2.2.2).toNat (0, (0, ByteArray.empty, []))).2.2.2.length : Int), 0)))))) with
        | none => none
        | some (.inl o60) =>
          some (.inr (.inr (.inl (o60))))
        | some (.inr o60) =>
          some (.inl (o60))
    else none : Option (((List Int) × Int × Int × (List (Int × (Int × (ByteArray × (List Int))))) × Int × (List (Int × (Int × (ByteArray × (List Int))))) × Int × Int) ⊕ (((List Int) × Int × Int × (List (Int × (Int × (ByteArray × (List Int))))) × Int × (List (Int × (Int × (ByteArray × (List Int))))) × Int × Int) ⊕ ((Bool) ⊕ ((List Int) × Int × Int × (List (Int × (Int × (ByteArray × (List Int))))) × Int))))) with
    | none => none
    | some (.inl j61) =>
      let v62 := IntKind.i64.wrap (j61.2.2.2.2.2.2.2 + 1)
      some (.inl ((j61.1, (j61.2.1, j61.2.2.1, (j61.2.2.2.1, j61.2.2.2.2.1, (j61.2.2.2.2.2.1, j61.2.2.2.2.2.2.1, v62))))))
    | some (.inr r) => some r
  else
    some (.inr (.inr ((s.1, s.2.1, (s.2.2.1, s.2.2.2.1, s.2.2.2.2.1)))))
def pat_laws_FnProposals_3 : Pat := { tmps := [.any, .v (.slice (.int .u8)), .any, .any, .any, .any, .any, .any, .any, .any, .any, .any, .any, .any, .any, .any, .any, .any, .any, .any, .v (.int .i64), .v (.int .i64), .any, .any, .any, .any, .any, .any, .any, .any, .v (.slice (.st (.pair (.int .i64) (.pair (.int .i64) (.pair .str (.slice (.int .i64))))))), .v (.int .i64), .any, .any, .any, .any, .any, .any, .any, .any, .any, .any, .any, .any, .any, .any, .any, .any, .any, .any, .any, .any, .any, .any, .any, .any, .any, .any, .any, .any, .any, .any, .any, .any, .any, .any, .any, .any, .any, .any, .any, .any, .any, .any, .any, .any, .any, .any, .any, .any, .any, .any, .any, .any, .any, .any, .any, .any, .any, .any, .any, .any, .any, .any, .any, .any, .any, .any, .any, .any, .any, .any, .any, .any, .any, .any, .any, .any, .any, .any, .any, .any, .any, .any, .any, .any, .any, .any, .any, .any, .any, .any, .any, .any, .any, .any, .any, .any, .any, .any, .any, .any, .any, .any, .any, .any, .any, .any, .any, .any, .any, .any, .any, .any, .any, .any, .any, .any, .any, .any, .any, .any, .any, .any, .any, .any, .any, .any, .any, .any, .any, .any, .any, .any, .any, .any, .any, .any, .any, .any, .any, .any, .any, .any, .any, .any, .any, .any, .any, .any, .any, .any, .any, .any, .any, .any, .any, .any, .any, .any, .any, .any, .any, .any, .any, .any, .any, .any, .any, .any, .any, .any, .any, .any, .any, .any, .any, .any, .any, .any, .any, .v (.slice (.st (.pair (.int .i64) (.pair (.int .i64) (.pair .str (.slice (.int .i64))))))), .v (.int .i64), .v (.int .i64), .any, .any, .any, .any, .any, .any, .any, .any, .any, .any, .any, .any, .any, .any, .any, .any, .any, .any, .any, .any, .any, .any, .any, .any, .any, .any, .any, .any, .any, .any, .any, .any, .any, .any, .any, .any, .any, .any, .any, .any, .any, .any, .any, .any, .any, .any, .any, .any, .any, .any, .any, .any, .any, .any, .any, .any, .any, .any, .any, .any, .any, .any, .any, .any, .any, .any, .any, .any, .any, .any, .any, .any, .any, .any, .any, .any, .any, .any, .any, .any, .any, .any, .any, .any, .any, .any, .any, .any, .any, .any, .any, .any, .any, .any, .any, .any, .any, .any, .any, .any, .any, .any, .any, .any, .any, .any, .any, .any, .any, .any, .any, .any, .any, .any, .any, .any, .any, .any, .any, .any, .any, .any, .any, .any, .any, .any, .any, .any, .any, .any, .any, .any, .any, .any, .any, .any, .any, .any, .any, .any, .any, .any, .any], blks := [] }
def outs_laws_FnProposals_3 : List (Exit × Pat) := [(.ret, { tmps := [.any, .any, .any, .any, .v .bool, .any, .any, .any, .any, .any, .any, .any, .any, .any, .any, .any, .any, .any, .any, .any, .any, .any, .any, .any, .any, .any, .any, .any, .any, .any, .any, .any, .any, .any, .any, .any, .any, .any, .any, .any, .any, .any, .any, .any, .any, .any, .any, .any, .any, .any, .any, .any, .any, .any, .any, .any, .any, .any, .any, .any, .any, .any, .any, .any, .any, .any, .any, .any, .any, .any, .any, .any, .any, .any, .any, .any, .any, .any, .any, .any, .any, .any, .any, .any, .any, .any, .any, .any, .any, .any, .any, .any, .any, .any, .any, .any, .any, .any, .any, .any, .any, .any, .any, .any, .any, .any, .any, .any, .any, .any, .any, .any, .any, .any, .any, .any, .any, .any, .any, .any, .any, .any, .any, .any, .any, .any, .any, .any, .any, .any, .any, .any, .any, .any, .any, .any, .any, .any, .any, .any, .any, .any, .any, .any, .any, .any, .any, .any, .any, .any, .any, .any, .any, .any, .any, .any, .any, .any, .any, .any, .any, .any, .any, .any, .any, .any, .any, .any, .any, .any, .any, .any, .any, .any, .any, .any, .any, .any, .any, .any, .any, .any, .any, .any, .any, .any, .any, .any, .any, .any, .any, .any, .any, .any, .any, .any, .any, .any, .any, .any, .any, .any, .any, .any, .any, .any, .any, .any, .any, .any, .any, .any, .any, .any, .any, .any, .any, .any, .any, .any, .any, .any, .any, .any, .any, .any, .any, .any, .any, .any, .any, .any, .any, .any, .any, .any, .any, .any, .any, .any, .any, .any, .any, .any, .any, .any, .any, .any, .any, .any, .any, .any, .any, .any, .any, .any, .any, .any, .any, .any, .any, .any, .any, .any, .any, .any, .any, .any, .any, .any, .any, .any, .any, .any, .any, .any, .any, .any, .any, .any, .any, .any, .any, .any, .any, .any, .any, .any, .any, .any, .any, .any, .any, .any, .any, .any, .any, .any, .any, .any, .any, .any, .any, .any, .any, .any, .any, .any, .any, .any, .any, .any, .any, .any, .any, .any, .any, .any, .any, .any, .any, .any, .any, .any, .any, .any, .any, .any, .any, .any, .any, .any, .any, .any, .any, .any, .any, .any, .any, .any, .any, .any, .any, .any, .any, .any, .any, .any, .any, .any, .any, .any, .any, .any, .any, .any, .any], blks := [] }), (.exit 4, { tmps := [.any, .v (.slice (.int .u8)), .any, .any, .any, .any, .any, .any, .any, .any, .any, .any, .any, .any, .any, .any, .any, .any, .any, .any, .v (.int .i64), .v (.int .i64), .any, .any, .any, .any, .any, .any, .any, .any, .v (.slice (.st (.pair (.int .i64) (.pair (.int .i64) (.pair .str (.slice (.int .i64))))))), .v (.int .i64), .any, .any, .any, .any, .any, .any, .any, .any, .any, .any, .any, .any, .any, .any, .any, .any, .any, .any, .any, .any, .any, .any, .any, .any, .any, .any, .any, .any, .any, .any, .any, .any, .any, .any, .any, .any, .any, .any, .any, .any, .any, .any, .any, .any, .any, .any, .any, .any, .any, .any, .any, .any, .any, .any, .any, .any, .any, .any, .any, .any, .any, .any, .any, .any, .any, .any, .any, .any, .any, .any, .any, .any, .any, .any, .any, .any, .any, .any, .any, .any, .any, .any, .any, .any, .any, .any, .any, .any, .any, .any, .any, .any, .any, .any, .any, .any, .any, .any, .any, .any, .any, .any, .any, .any, .any, .any, .any, .any, .any, .any, .any, .any, .any, .any, .any, .any, .any, .any, .any, .any, .any, .any, .any, .any, .any, .any, .any, .any, .any, .any, .any, .any, .any, .any, .any, .any, .any, .any, .any, .any, .any, .any, .any, .any, .any, .any, .any, .any, .any, .any, .any, .any, .any, .any, .any, .any, .any, .any, .any, .any, .any, .any, .any, .any, .any, .any, .any, .any, .any, .any, .any, .any, .any, .any, .any, .any, .any, .any, .any, .any, .any, .any, .any, .any, .any, .any, .any, .any, .any, .any, .any, .any, .any, .any, .any, .any, .any, .any, .any, .any, .any, .any, .any, .any, .any, .any, .any, .any, .any, .any, .any, .any, .any, .any, .any, .any, .any, .any, .any, .any, .any, .any, .any, .any, .any, .any, .any, .any, .any, .any, .any, .any, .any, .any, .any, .any, .any, .any, .any, .any, .any, .any, .any, .any, .any, .any, .any, .any, .any, .any, .any, .any, .any, .any, .any, .any, .any, .any, .any, .any, .any, .any, .any, .any, .any, .any, .any, .any, .any, .any, .any, .any, .any, .any, .any, .any, .any, .any, .any, .any, .any, .any, .any, .any, .any, .any, .any, .any, .any, .any, .any, .any, .any, .any, .any, .any, .any, .any, .any, .any, .any, .any, .any, .any, .any, .any, .any, .any, .any, .any, .any, .any, .any, .any, .any, .any, .any, .any, .any, .any, .any, .any, .any, .any, .any], blks := [] })]
def pat_laws_FnProposals_J18 : Pat := { tmps := [.any, .v (.slice (.int .u8)), .any, .any, .any, .v (.slice (.st (.pair (.int .i64) (.pair (.int .i64) (.pair .str (.slice (.int .i64))))))), .v (.int .i64), .v (.int .i64), .v (.int .i64), .v (.int .i64), .v (.slice (.st (.pair (.int .i64) (.pair (.int .i64) (.pair .str (.slice (.int .i64))))))), .any, .any, .any, .v (.int .i64), .ptr 960 0, .any, .v (.int .i64), .v (.int .i64), .any, .any, .any, .any, .any, .any, .any, .any, .any, .any, .any, .any, .any, .any, .any, .any, .any, .any, .any, .any, .any, .any, .any, .any, .any, .any, .any, .any, .any, .any, .any, .any, .any, .any, .any, .any, .any, .any, .any, .any, .any, .any, .any, .any, .any, .any, .any, .any, .any, .any, .any, .any, .any, .any, .any, .any, .any, .any, .any, .any, .any, .any, .any, .any, .any, .any, .any, .any, .any, .any, .any, .any, .any, .any, .any, .any, .v (.slice (.st (.pair (.int .i64) (.pair (.int .i64) (.pair .str (.slice (.int .i64))))))), .v (.int .i64), .v (.int .i64), .any, .any, .any, .any, .any, .v (.slice (.int .i64)), .v (.int .i64), .v (.int .i64), .any, .any, .any, .any, .any, .any, .any, .any, .any, .any, .any, .any, .any, .any, .any, .any, .any, .any, .any, .any, .any, .any, .any, .any, .any, .any, .any, .any, .any, .any, .any, .any, .any, .any, .any, .any, .any, .any, .any, .any, .any, .any, .any, .any, .any, .any, .any, .any, .any, .any, .any, .any, .any, .any, .any, .any, .any, .any, .any, .any, .any, .any, .any, .any, .any, .any, .any, .any, .any, .any, .any, .any, .any, .any, .any, .any, .any, .any, .any, .any, .any, .any, .any, .any, .any, .any, .any, .any, .any, .any, .any, .any, .any, .any, .any, .any, .any, .any, .any, .any, .any, .any, .any, .any, .any, .any, .any, .any, .any, .any, .any, .any, .any, .any, .any, .any, .any, .any, .any, .any, .any, .any, .any, .any, .any, .any, .any, .any, .any, .any, .any, .any, .any, .any, .any, .any, .any, .any, .any, .any, .any, .any, .any, .any, .any, .any, .any, .any, .any, .any, .any, .any, .any, .any, .any, .any, .any, .any, .any, .any, .any, .any, .any, .any, .any, .any, .any, .any, .any, .any, .any, .any, .any, .any, .any, .any, .any, .any, .any, .any, .any, .any, .any, .any, .any, .any, .any, .any, .any, .any, .any, .any, .any, .any, .any, .any, .any, .any, .any, .any, .any, .any, .any, .any, .any, .any, .any, .any, .any, .any, .any, .any, .any, .any, .any, .any, .any, .any, .any, .any, .any, .any, .any, .any, .any, .any, .any, .any, .any, .any, .any, .any, .any, .any, .any, .any, .any, .any, .any, .any, .any, .any, .any, .any, .any, .any, .any, .any, .any, .any, .any], blks := [(960, .box [.v (.int .i64), .v (.int .i64), .v .str, .v (.slice (.int .i64))])] }
def pat_laws_FnProposals_J24 : Pat := { tmps := [.any, .v (.slice (.int .u8)), .any, .any, .any, .any, .any, .any, .any, .any, .any, .any, .any, .any, .any, .any, .any, .any, .any, .any, .any, .any, .any, .any, .any, .any, .any, .any, .any, .any, .any, .any, .any, .any, .any, .any, .any, .any, .any, .any, .any, .any, .any, .any, .any, .any, .any, .any, .any, .any, .any, .any, .any, .any, .any, .any, .any, .any, .any, .any, .any, .any, .any, .any, .any, .any, .any, .any, .any, .any, .any, .any, .any, .any, .any, .any, .any, .any, .any, .any, .any, .any, .any, .any, .any, .any, .any, .any, .any, .any, .any, .any, .any, .any, .any, .any, .any, .any, .any, .any, .any, .any, .any, .any, .any, .any, .any, .any, .any, .any, .any, .any, .any, .any, .any, .any, .any, .any, .any, .any, .any, .any, .any, .any, .any, .any, .any, .any, .any, .any, .any, .any, .any, .any, .any, .any, .any, .any, .any, .any, .any, .any, .any, .any, .any, .any, .any, .any, .any, .any, .any, .any, .any, .any, .any, .any, .any, .any, .any, .any, .any, .any, .any, .any, .any, .any, .any, .any, .any, .any, .any, .any, .any, .any, .any, .any, .any, .any, .any, .any, .any, .any, .any, .any, .any, .any, .any, .any, .any, .any, .any, .any, .any, .any, .any, .any, .any, .any, .any, .any, .any, .any, .any, .any, .any, .any, .any, .any, .any, .any, .any, .any, .any, .any, .any, .any, .any, .any, .any, .any, .any, .any, .any, .any, .any, .any, .any, .any, .any, .any, .any, .any, .any, .any, .any, .any, .any, .any, .any, .any, .any, .any, .any, .any, .any, .any, .any, .any, .any, .any, .any, .any, .any, .any, .any, .any, .any, .any, .any, .any, .any, .any, .any, .any, .any, .any, .any, .any, .any, .any, .any, .any, .any, .any, .any, .any, .any, .any, .any, .any, .any, .any, .any, .any, .any, .any, .any, .any, .any, .any, .any, .any, .any, .any, .any, .any, .any, .any, .any, .any, .any, .any, .any, .any, .any, .any, .any, .any, .any, .any, .any, .any, .any, .any, .any, .any, .any, .any, .any, .any, .any, .any, .any, .any, .any, .any, .any, .any, .any, .any, .any, .any, .any, .any, .any, .any, .any, .any, .any, .any, .any, .any, .any, .any, .any, .any, .any, .any, .any, .any, .any, .any, .any, .any, .any, .any, .any], blks := [] }
def pat_laws_FnProposals_J31 : Pat := { tmps := [.any, .v (.slice (.int .u8)), .any, .any, .any, .any, .any, .any, .any, .any, .any, .any, .any, .any, .any, .any, .any, .any, .any, .v (.slice (.st (.pair (.int .i64) (.pair (.int .i64) (.pair .str (.slice (.int .i64))))))), .v (.int .i64), .v (.int .i64), .any, .v .bool, .v (.int .i64), .any, .any, .any, .any, .any, .any, .any, .any, .any, .any, .any, .any, .any, .any, .any, .any, .any, .any, .any, .any, .any, .any, .any, .any, .any, .any, .any, .any, .any, .any, .any, .any, .any, .any, .any, .any, .any, .any, .any, .any, .any, .any, .any, .any, .any, .any, .any, .any, .any, .any, .any, .any, .any, .any, .any, .any, .any, .any, .any, .any, .any, .any, .any, .any, .any, .any, .any, .any, .any, .any, .any, .any, .any, .any, .any, .any, .any, .any, .any, .any, .any, .any, .any, .any, .any, .any, .any, .any, .any, .any, .any, .any, .any, .any, .any, .any, .any, .any, .any, .any, .any, .any, .any, .any, .any, .any, .any, .any, .any, .any, .any, .any, .any, .any, .any, .any, .any, .any, .any, .any, .any, .any, .any, .any, .any, .any, .any, .any, .any, .any, .any, .any, .any, .any, .any, .any, .any, .any, .any, .any, .any, .any, .any, .any, .any, .any, .any, .any, .any, .any, .any, .any, .any, .any, .any, .any, .any, .any, .any, .any, .any, .any, .any, .any, .any, .any, .any, .any, .any, .any, .any, .any, .any, .any, .any, .any, .any, .any, .any, .any, .any, .any, .any, .any, .any, .any, .any, .any, .any, .any, .any, .any, .any, .any, .any, .any, .any, .any, .any, .any, .any, .any, .any, .any, .any, .any, .any, .any, .any, .any, .any, .any, .any, .any, .any, .any, .any, .any, .any, .any, .any, .any, .any, .any, .any, .any, .any, .any, .any, .any, .any, .any, .any, .any, .any, .any, .any, .any, .any, .any, .any, .any, .any, .any, .any, .any, .any, .any, .any, .any, .any, .any, .any, .any, .any, .any, .any, .any, .any, .any, .any, .any, .any, .any, .any, .any, .any, .any, .any, .any, .any, .any, .any, .any, .any, .any, .any, .any, .any, .any, .any, .any, .any, .any, .any, .any, .any, .any, .any, .any, .any, .any, .any, .any, .any, .any, .any, .any, .any, .any, .any, .any, .any, .any, .any, .any, .any, .any, .any, .any, .any, .any, .any, .any, .any, .any, .any, .any, .any, .any, .any, .any, .any, .any, .any, .any, .any, .any, .any, .any, .any, .any], blks := [] }
def pat_laws_FnProposals_J48 : Pat := { tmps := [.any, .v (.slice (.int .u8)), .any, .any, .any, .any, .any, .any, .any, .any, .any, .any, .any, .any, .any, .any, .any, .any, .any, .any, .v (.int .i64), .v (.int .i64), .any, .any, .any, .any, .any, .any, .any, .any, .v (.slice (.st (.pair (.int .i64) (.pair (.int .i64) (.pair .str (.slice (.int .i64))))))), .v (.int .i64), .any, .any, .any, .any, .any, .any, .any, .any, .any, .any, .any, .any, .any, .any, .any, .any, .any, .any, .any, .any, .any, .any, .any, .any, .any, .any, .any, .any, .any, .any, .any, .any, .any, .any, .any, .any, .any, .any, .any, .any, .any, .any, .any, .any, .any, .any, .any, .any, .any, .any, .any, .any, .any, .any, .any, .any, .any, .any, .any, .any, .any, .any, .any, .any, .any, .any, .any, .any, .any, .any, .any, .any, .any, .any, .any, .any, .any, .any, .any, .any, .any, .any, .any, .any, .any, .any, .any, .any, .any, .any, .any, .any, .any, .any, .any, .any, .any, .any, .any, .any, .any, .any, .any, .any, .any, .any, .any, .any, .any, .any, .any, .any, .any, .any, .any, .any, .any, .any, .any, .any, .any, .any, .any, .any, .any, .any, .any, .any, .any, .any, .any, .any, .any, .any, .any, .any, .any, .any, .any, .any, .any, .any, .any, .any, .any, .any, .any, .any, .any, .any, .any, .any, .any, .any, .any, .any, .any, .any, .any, .any, .any, .any, .any, .any, .any, .any, .any, .any, .any, .any, .any, .any, .any, .any, .any, .any, .any, .any, .any, .v (.slice (.st (.pair (.int .i64) (.pair (.int .i64) (.pair .str (.slice (.int .i64))))))), .v (.int .i64), .v (.int .i64), .any, .any, .any, .any, .any, .any, .any, .any, .v (.slice (.int .i64)), .v (.int .i64), .v (.int .i64), .any, .any, .any, .any, .any, .any, .any, .any, .any, .any, .any, .any, .any, .any, .any, .any, .any, .any, .any, .any, .any, .any, .any, .any, .any, .any, .any, .any, .any, .any, .any, .any, .any, .any, .any, .any, .any, .any, .any, .any, .any, .any, .any, .any, .any, .any, .any, .any, .any, .any, .any, .any, .any, .any, .any, .any, .any, .any, .any, .any, .any, .any, .any, .any, .any, .any, .any, .any, .any, .any, .any, .any, .any, .any, .any, .any, .any, .any, .any, .any, .any, .any, .any, .any, .any, .any, .any, .any, .any, .any, .any, .any, .any, .any, .any, .any, .any, .any, .any, .any, .any, .any, .any, .any, .any, .any, .any, .any, .any, .any, .any, .any, .any, .any, .any, .any, .any, .any, .any, .any, .any, .any, .any, .any, .any, .any, .any, .any, .any, .any, .any, .any], blks := [] }
def pat_laws_FnProposals_J49 : Pat := { tmps := [.any, .v (.slice (.int .u8)), .any, .any, .any, .any, .any, .any, .any, .any, .any, .any, .any, .any, .any, .any, .any, .any, .any, .any, .v (.int .i64), .v (.int .i64), .any, .any, .any, .any, .any, .any, .any, .any, .v (.slice (.st (.pair (.int .i64) (.pair (.int .i64) (.pair .str (.slice (.int .i64))))))), .v (.int .i64), .any, .any, .any, .any, .any, .any, .any, .any, .any, .any, .any, .any, .any, .any, .any, .any, .any, .any, .any, .any, .any, .any, .any, .any, .any, .any, .any, .any, .any, .any, .any, .any, .any, .any, .any, .any, .any, .any, .any, .any, .any, .any, .any, .any, .any, .any, .any, .any, .any, .any, .any, .any, .any, .any, .any, .any, .any, .any, .any, .any, .any, .any, .any, .any, .any, .any, .any, .any, .any, .any, .any, .any, .any, .any, .any, .any, .any, .any, .any, .any, .any, .any, .any, .any, .any, .any, .any, .any, .any, .any, .any, .any, .any, .any, .any, .any, .any, .any, .any, .any, .any, .any, .any, .any, .any, .any, .any, .any, .any, .any, .any, .any, .any, .any, .any, .any, .any, .any, .any, .any, .any, .any, .any, .any, .any, .any, .any, .any, .any, .any, .any, .any, .any, .any, .any, .any, .any, .any, .any, .any, .any, .any, .any, .any, .any, .any, .any, .any, .any, .any, .any, .any, .any, .any, .any, .any, .any, .any, .any, .any, .any, .any, .any, .any, .any, .any, .any, .any, .any, .any, .any, .any, .any, .any, .any, .any, .any, .any, .any, .v (.slice (.st (.pair (.int .i64) (.pair (.int .i64) (.pair .str (.slice (.int .i64))))))), .v (.int .i64), .v (.int .i64), .any, .any, .any, .any, .any, .any, .any, .any, .any, .any, .any, .any, .any, .any, .any, .any, .any, .any, .any, .any, .any, .any, .any, .any, .any, .any, .any, .any, .any, .any, .any, .any, .any, .any, .any, .any, .any, .any, .any, .any, .any, .any, .any, .any, .any, .any, .any, .any, .any, .any, .any, .any, .any, .any, .any, .any, .any, .any, .any, .any, .any, .any, .any, .any, .any, .any, .any, .any, .any, .any, .any, .any, .any, .any, .any, .any, .any, .any, .any, .any, .any, .any, .any, .any, .any, .any, .any, .any, .any, .any, .any, .any, .any, .any, .any, .any, .any, .any, .any, .any, .any, .any, .any, .any, .any, .any, .any, .any, .any, .any, .any, .any, .any, .any, .any, .any, .any, .any, .any, .any, .any, .any, .any, .any, .any, .any, .any, .any, .any, .any, .any, .any, .any, .any, .any, .any, .any, .any, .any, .any, .any, .any, .any], blks := [] }
def pat_laws_FnProposals_J53 : Pat := { tmps := [.any, .v (.slice (.int .u8)), .any, .any, .any, .any, .any, .any, .any, .any, .any, .any, .any, .any, .any, .any, .any, .any, .any, .any, .any, .any, .any, .any, .any, .any, .any, .any, .any, .any, .any, .any, .any, .any, .any, .any, .any, .any, .any, .any, .any, .any, .any, .any, .any, .any, .any, .any, .any, .any, .any, .any, .any, .any, .any, .any, .any, .any, .any, .any, .any, .any, .any, .any, .any, .any, .any, .any, .any, .any, .any, .any, .any, .any, .any, .any, .any, .any, .any, .any, .any, .any, .any, .any, .any, .any, .any, .any, .any, .any, .any, .any, .any, .any, .any, .any, .any, .any, .any, .any, .any, .any, .any, .any, .any, .any, .any, .any, .any, .any, .any, .any, .any, .any, .any, .any, .any, .any, .any, .any, .any, .any, .any, .any, .any, .any, .any, .any, .any, .any, .any, .any, .any, .any, .any, .any, .any, .any, .any, .any, .any, .any, .any, .any, .any, .any, .any, .any, .any, .any, .any, .any, .any, .any, .any, .any, .any, .any, .any, .any, .any, .any, .any, .any, .any, .any, .any, .any, .any, .any, .any, .any, .any, .any, .any, .any, .any, .any, .any, .any, .any, .any, .any, .any, .any, .any, .any, .any, .any, .any, .any, .any, .any, .any, .any, .any, .any, .any, .any, .any, .any, .any, .any, .any, .any, .any, .any, .any, .any, .any, .any, .any, .any, .any, .any, .any, .any, .any, .any, .any, .any, .any, .any, .any, .any, .any, .any, .any, .any, .any, .any, .any, .any, .any, .any, .any, .any, .any, .any, .any, .any, .any, .any, .any, .any, .any, .any, .any, .any, .any, .any, .any, .any, .any, .any, .any, .any, .any, .any, .any, .any, .any, .any, .any, .any, .any, .any, .any, .any, .any, .any, .any, .any, .any, .any, .any, .any, .any, .any, .any, .any, .any, .any, .any, .any, .any, .any, .any, .any, .any, .any, .any, .any, .any, .any, .any, .any, .any, .any, .any, .any, .any, .any, .any, .any, .any, .any, .any, .any, .any, .any, .any, .any, .any, .any, .any, .any, .any, .any, .any, .any, .any, .any, .any, .any, .any, .any, .any, .any, .any, .any, .any, .any, .any, .any, .any, .any, .any, .any, .any, .any, .any, .any, .any, .any, .any, .any, .any, .any, .any, .any, .any, .any, .any, .any, .any, .any], blks := [] }
def pat_laws_FnProposals_J62 : Pat := { tmps := [.any, .v (.slice (.int .u8)), .any, .any, .any, .any, .any, .any, .any, .any, .any, .any, .any, .any, .any, .any, .any, .any, .any, .any, .any, .any, .any, .any, .any, .any, .any, .any, .any, .any, .any, .any, .any, .any, .any, .any, .any, .any, .any, .any, .any, .any, .any, .any, .any, .any, .any, .any, .any, .any, .any, .any, .any, .any, .any, .any, .any, .any, .any, .any, .any, .any, .any, .any, .any, .any, .any, .any, .any, .any, .any, .any, .any, .any, .any, .any, .any, .any, .any, .any, .any, .any, .any, .any, .any, .any, .any, .any, .any, .any, .any, .any, .any, .any, .any, .any, .any, .any, .any, .any, .any, .any, .any, .any, .any, .any, .any, .any, .any, .any, .any, .any, .any, .any, .any, .any, .any, .any, .any, .any, .any, .any, .any, .any, .any, .any, .any, .any, .any, .any, .any, .any, .any, .any, .any, .any, .any, .any, .any, .any, .any, .any, .any, .any, .any, .any, .any, .any, .any, .any, .any, .any, .any, .any, .any, .any, .any, .any, .any, .any, .any, .any, .any, .any, .any, .any, .any, .any, .any, .any, .any, .any, .any, .any, .any, .any, .any, .any, .any, .any, .any, .any, .any, .any, .any, .any, .any, .any, .any, .any, .any, .any, .any, .any, .any, .any, .any, .any, .any, .any, .any, .any, .any, .any, .any, .any, .any, .any, .any, .any, .any, .any, .any, .any, .any, .any, .any, .any, .any, .any, .any, .any, .any, .any, .any, .any, .any, .any, .any, .any, .any, .any, .any, .any, .any, .any, .any, .any, .any, .any, .any, .any, .any, .any, .any, .any, .any, .any, .any, .any, .any, .any, .any, .any, .any, .any, .any, .any, .any, .any, .any, .any, .any, .any, .any, .any, .any, .any, .any, .any, .any, .any, .any, .any, .any, .any, .any, .any, .any, .any, .any, .any, .any, .any, .any, .any, .any, .any, .any, .any, .any, .any, .any, .any, .any, .any, .any, .any, .any, .any, .any, .any, .any, .any, .any, .any, .any, .any, .any, .any, .any, .any, .any, .any, .any, .any, .any, .any, .any, .any, .any, .any, .any, .any, .any, .any, .any, .any, .any, .any, .any, .any, .any, .any, .any, .any, .any, .any, .any, .any, .any, .any, .any, .any, .any, .any, .any, .any, .any, .any, .any, .any, .any, .any, .any, .any, .any], blks := [] }
noncomputable def F_laws_FnProposals (x : (List Int) × (List Int)) : Option (Bool) :=
  match F_laws_big (x) with
  | none => none
  | some y1 =>
    bif y1 then
      some (true)
    else
      match F_spec_DrawCastVote (x.1) with
      | none => none
      | some y2 =>
        match F_impl_CastVote (y2) with
        | none => none
        | some y3 =>
          match F_spec_CastVote (y2) with
          | none => none
          | some y4 =>
            bif (!(y3.2 == y4.2)) then
              some (false)
            else
              match F_laws_pSameProposals ((y3.1, y4.1)) with
              | none => none
              | some y5 =>
                bif (!y5) then
                  some (false)
                else
                  match (bif y3.2 then
                    match runL step_laws_FnProposals_1 ((x.2, (y2.1, y2.2.1, (y2.2.2.1, y2.2.2.2.1, (y2.2.2.2.2, y3.1, (y4.1, (y4.1.length : Int), 0)))))) with
                    | none => none
                    | some (.inl o21) =>
                      some (.inr (o21))
                    | some (.inr o21) =>
                      match F_impl_AreProposals ((o21.2.2, o21.2.1)) with
                      | none => none
                      | some y22 =>
                        bif (!y22) then
                          some (.inr (false))
                        else
                          some (.inl (o21.1))
                  else
                    some (.inl (x.2)) : Option (((List Int)) ⊕ (Bool))) with
                  | none => none
                  | some (.inl j23) =>
                    match F_spec_DrawVotesMissing (j23) with
                    | none => none
                    | some y24 =>
                      match F_impl_VotesMissing (y24) with
                      | none => none
                      | some y25 =>
                        match F_spec_VotesMissing (y24) with
                        | none => none
                        | some y26 =>
                          match F_impl_IsPassed (y24) with
                          | none => none
                          | some y27 =>
                            match F_spec_IsPassed (y24) with
                            | none => none
                            | some y28 =>
                              match (bif (!(y25.2 == y26.2)) then
                                some (.inr (false))
                              else
                                bif ((y25.1 != y26.1)) then
                                  some (.inr (false))
                                else
                                  bif (!(y27.2 == y28.2)) then
                                    some (.inr (false))
                                  else
                                    bif (!(y27.1 == y28.1)) then
                                      some (.inr (false))
                                    else
                                      bif y25.2 then
                                        bif (!y27.2) then
                                          some (.inr (false))
                                        else
                                          bif y27.2 then
                                            bif y25.2 then
                                              bif (!(y28.1 == ((y26.1 == 0)))) then
                                                some (.inr (false))
                                              else
                                                some (.inl ((j23, (y24.1, y24.2.1, (y24.2.2, y25.2, y26.1)))))
                                            else
                                              bif (!(y28.1 == false)) then
                                                some (.inr (false))
                                              else
                                                some (.inl ((j23, (y24.1, y24.2.1, (y24.2.2, y25.2, y26.1)))))
                                          else
                                            some (.inl ((j23, (y24.1, y24.2.1, (y24.2.2, y25.2, y26.1)))))
                                      else
                                        bif y27.2 then
                                          bif y25.2 then
                                            bif (!(y28.1 == ((y26.1 == 0)))) then
                                              some (.inr (false))
                                            else
                                              some (.inl ((j23, (y24.1, y24.2.1, (y24.2.2, y25.2, y26.1)))))
                                          else
                                            bif (!(y28.1 == false)) then
                                              some (.inr (false))
                                            else
                                              some (.inl ((j23, (y24.1, y24.2.1, (y24.2.2, y25.2, y26.1)))))
                                        else
                                          some (.inl ((j23, (y24.1, y24.2.1, (y24.2.2, y25.2, y26.1))))) : Option (((List Int) × (List (Int × (Int × (ByteArray × (List Int))))) × Int × Int × Bool × Int) ⊕ (Bool))) with
                              | none => none
                              | some (.inl j29) =>
                                match (bif j29.2.2.2.2.1 then
                                  match runL step_laws_FnProposals_3 ((j29.1, (j29.2.2.1, j29.2.2.2.1, (j29.2.1, j29.2.2.2.2.2, (j29.2.1, (j29.2.1.length : Int), 0))))) with
                                  | none => none
                                  | some (.inl o63) =>
                                    some (.inr (o63))
                                  | some (.inr o63) =>
                                    match F_impl_IsPassed ((o63.2.2.2.1, o63.2.1, o63.2.2.1)) with
                                    | none => none
                                    | some y64 =>
                                      bif ((o63.2.2.2.2 != 0)) then
                                        some (.inr (false))
                                      else
                                        bif (!y64.2) then
                                          some (.inr (false))
                                        else
                                          bif (!y64.1) then
                                            some (.inr (false))
                                          else
                                            some (.inl (o63.1))
                                else
                                  some (.inl (j29.1)) : Option (((List Int)) ⊕ (Bool))) with
                                | none => none
                                | some (.inl j65) =>
                                  match F_spec_DrawWithdrawProposal (j65) with
                                  | none => none
                                  | some y66 =>
                                    match F_impl_WithdrawProposal (y66) with
                                    | none => none
                                    | some y67 =>
                                      match F_spec_WithdrawProposal (y66) with
                                      | none => none
                                      | some y68 =>
                                        bif (!(y67.2 == y68.2)) then
                                          some (false)
                                        else
                                          match F_laws_pSameProposals ((y67.1, y68.1)) with
                                          | none => none
                                          | some y69 =>
                                            bif (!y69) then
                                              some (false)
                                            else
                                              match (bif y67.2 then
                                                match F_impl_IsPassed ((y67.1, y66.2)) with
                                                | none => none
                                                | some y70 =>
                                                  bif y70.2 then
                                                    some (.inr (false))
                                                  else
                                                    let v71 := IntKind.i64.wrap ((y66.1.length : Int) - 1)
                                                    bif (((y68.1.length : Int) != v71)) then
                                                      some (.inr (false))
                                                    else
                                                      match F_impl_AreProposals ((y67.1, y66.2.1)) with
                                                      | none => none
                                                      | some y72 =>
                                                        bif (!y72) then
                                                          some (.inr (false))
                                                        else
                                                          some (.inl (j65))
                                              else
                                                some (.inl (j65)) : Option (((List Int)) ⊕ (Bool))) with
                                              | none => none
                                              | some (.inl j73) =>
                                                match F_spec_DrawProposalText (j73) with
                                                | none => none
                                                | some y74 =>
                                                  match F_impl_ProposalText (y74) with
                                                  | none => none
                                                  | some y75 =>
                                                    match F_spec_ProposalText (y74) with
                                                    | none => none
                                                    | some y76 =>
                                                      bif (y75.2 == y76.2) then
                                                        some ((y75.1.toList == y76.1.toList))
                                                      else
                                                        some (false)
                                              | some (.inr r) => some r
                                | some (.inr r) => some r
                              | some (.inr r) => some r
                  | some (.inr r) => some r
noncomputable def c_laws_FnProposals : Con := { ps := [(.val, (.slice (.int .u8))), (.val, (.slice (.int .u8)))], rs := [(.val, .bool)], F := F_laws_FnProposals }
noncomputable def env_laws_FnProposals : Env := { par := [], dp := false, settle := [], con := fun f => match f with | 4 => some c_laws_big | 5 => some c_spec_DrawCastVote | 6 => some c_impl_CastVote | 7 => some c_spec_CastVote | 8 => some c_laws_pSameProposals | 9 => some c_impl_AreProposals | 10 => some c_spec_DrawVotesMissing | 11 => some c_impl_VotesMissing | 12 => some c_spec_VotesMissing | 13 => some c_impl_IsPassed | 14 => some c_spec_IsPassed | 15 => some c_spec_DrawWithdrawProposal | 16 => some c_impl_WithdrawProposal | 17 => some c_spec_WithdrawProposal | 18 => some c_spec_DrawProposalText | 19 => some c_impl_ProposalText | 20 => some c_spec_ProposalText | _ => none, clo := fun _ => none, T := tinf Tryd.prog }
noncomputable def loops_laws_FnProposals : Nat → Option Loop := fun n => match n with | 13 => some { pat := pat_laws_FnProposals_0, outs := outs_laws_FnProposals_0, run := runL (step_laws_FnProposals_0) } | 10 => some { pat := pat_laws_FnProposals_1, outs := outs_laws_FnProposals_1, run := runL (step_laws_FnProposals_1) } | 39 => some { pat := pat_laws_FnProposals_2, outs := outs_laws_FnProposals_2, run := runL (step_laws_FnProposals_2) } | 35 => some { pat := pat_laws_FnProposals_3, outs := outs_laws_FnProposals_3, run := runL (step_laws_FnProposals_3) } | 1018 => some { pat := pat_laws_FnProposals_J18, outs := [], run := fun _ => none } | 1024 => some { pat := pat_laws_FnProposals_J24, outs := [], run := fun _ => none } | 1031 => some { pat := pat_laws_FnProposals_J31, outs := [], run := fun _ => none } | 1048 => some { pat := pat_laws_FnProposals_J48, outs := [], run := fun _ => none } | 1049 => some { pat := pat_laws_FnProposals_J49, outs := [], run := fun _ => none } | 1053 => some { pat := pat_laws_FnProposals_J53, outs := [], run := fun _ => none } | 1062 => some { pat := pat_laws_FnProposals_J62, outs := [], run := fun _ => none } | _ => none
theorem step_laws_FnProposals_0_eq (s : (List Int) × (List (Int × (Int × (ByteArray × (List Int))))) × Int × Int × Int × Int × (List (Int × (Int × (ByteArray × (List Int))))) × Int × (List (Int × (Int × (ByteArray × (List Int))))) × Int × Int × (List Int) × Int × Int × Int × Int × ByteArray × (List Int)) : stepEv env_laws_FnProposals loops_laws_FnProposals pat_laws_FnProposals_0 outs_laws_FnProposals_0 Tryd.f3 13 s = step_laws_FnProposals_0 s := by kernel_rfl
theorem step_laws_FnProposals_1_eq (s : (List Int) × (List (Int × (Int × (ByteArray × (List Int))))) × Int × Int × Int × Int × (List (Int × (Int × (ByteArray × (List Int))))) × (List (Int × (Int × (ByteArray × (List Int))))) × Int × Int) : stepEv env_laws_FnProposals loops_laws_FnProposals pat_laws_FnProposals_1 outs_laws_FnProposals_1 Tryd.f3 10 s = step_laws_FnProposals_1 s := by kernel_rfl
theorem step_laws_FnProposals_2_eq (s : (List Int) × Int × Int × (List (Int × (Int × (ByteArray × (List Int))))) × Int × (List (Int × (Int × (ByteArray × (List Int))))) × Int × Int × (List Int) × Int × Int) : stepEv env_laws_FnProposals loops_laws_FnProposals pat_laws_FnProposals_2 outs_laws_FnProposals_2 Tryd.f3 39 s = step_laws_FnProposals_2 s := by kernel_rfl
theorem step_laws_FnProposals_3_eq (s : (List Int) × Int × Int × (List (Int × (Int × (ByteArray × (List Int))))) × Int × (List (Int × (Int × (ByteArray × (List Int))))) × Int × Int) : stepEv env_laws_FnProposals loops_laws_FnProposals pat_laws_FnProposals_3 outs_laws_FnProposals_3 Tryd.f3 35 s = step_laws_FnProposals_3 s := by kernel_rfl
theorem F_laws_FnProposals_eq (x : (List Int) × (List Int)) : Fev env_laws_FnProposals loops_laws_FnProposals c_laws_FnProposals.ps c_laws_FnProposals.rs Tryd.f3 x = F_laws_FnProposals x := by kernel_rfl
theorem env_laws_FnProposals_ok : EnvOK Tryd.prog env_laws_FnProposals := envOK_of (fun f c h => by
  simp only [env_laws_FnProposals] at h
  split at h
  · cases h; exact con_laws_big
  · cases h; exact con_spec_DrawCastVote
  · cases h; exact con_impl_CastVote
  · cases h; exact con_spec_CastVote
  · cases h; exact con_laws_pSameProposals
  · cases h; exact con_impl_AreProposals
  · cases h; exact con_spec_DrawVotesMissing
  · cases h; exact con_impl_VotesMissing
  · cases h; exact con_spec_VotesMissing
  · cases h; exact con_impl_IsPassed
  · cases h; exact con_spec_IsPassed
  · cases h; exact con_spec_DrawWithdrawProposal
  · cases h; exact con_impl_WithdrawProposal
  · cases h; exact con_spec_WithdrawProposal
  · cases h; exact con_spec_DrawProposalText
  · cases h; exact con_impl_ProposalText
  · cases h; exact con_spec_ProposalText
  · cases h) (fun f c h => by cases h) rfl
theorem con_laws_FnProposals : ConOK Tryd.prog 3 c_laws_FnProposals := con_of_ev' (body := Tryd.f3.body.getD .skip) (Λ := loops_laws_FnProposals) mixed Tryd.func3 (by kernel_rfl) (by kernel_rfl) env_laws_FnProposals_ok (by kernel_rfl) (by kernel_rfl) (fun n L h => by
  unfold loops_laws_FnProposals at h
  split at h
  · cases h; exact fun s o ho => loop_ok (stepF := stepEv env_laws_FnProposals loops_laws_FnProposals pat_laws_FnProposals_0 outs_laws_FnProposals_0 Tryd.f3 13) (step_laws_FnProposals_0_eq) ho
  · cases h; exact fun s o ho => loop_ok (stepF := stepEv env_laws_FnProposals loops_laws_FnProposals pat_laws_FnProposals_1 outs_laws_FnProposals_1 Tryd.f3 10) (step_laws_FnProposals_1_eq) ho
  · cases h; exact fun s o ho => loop_ok (stepF := stepEv env_laws_FnProposals loops_laws_FnProposals pat_laws_FnProposals_2 outs_laws_FnProposals_2 Tryd.f3 39) (step_laws_FnProposals_2_eq) ho
  · cases h; exact fun s o ho => loop_ok (stepF := stepEv env_laws_FnProposals loops_laws_FnProposals pat_laws_FnProposals_3 outs_laws_FnProposals_3 Tryd.f3 35) (step_laws_FnProposals_3_eq) ho
  · cases h; exact fun s o ho => by cases ho
  · cases h; exact fun s o ho => by cases ho
  · cases h; exact fun s o ho => by cases ho
  · cases h; exact fun s o ho => by cases ho
  · cases h; exact fun s o ho => by cases ho
  · cases h; exact fun s o ho => by cases ho
  · cases h; exact fun s o ho => by cases ho
  · cases h) F_laws_FnProposals_eq

end Go.Proofs.YtdpkcnmlflngpaaDoor
