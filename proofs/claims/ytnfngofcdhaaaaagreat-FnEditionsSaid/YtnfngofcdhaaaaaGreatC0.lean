/- Contracts of functions of the program, written by a program of this claim. No conditions. -/
import Derived.Test.YtnfngofcdhaaaaaGreatEvZk
import Derived.Test.YtnfngofcdhaaaaaGreatRows
import Derived.Shelf.Strings.Search1
import Derived.Test.YtnfngofcdhaaaaaGreatEvZl
import Derived.OwnWalk
import Derived.Lib.SliceRun
import Derived.WalkKit
import Derived.Deep.LoopGhost
import Derived.Lib.Walk
import Derived.Test.YtnfngofcdhaaaaaGreatEvZm
import Derived.Sort.Grow
import Derived.Test.YtnfngofcdhaaaaaGreatEvZo
import Derived.Shelf.Spec.SlicesInsert
import Derived.Shelf.Spec.SlicesInsertGrow
import Derived.Deep.RegionLaw
import Derived.Shelf.RegionOpenPlain
import Derived.Lib.Overlaps
import Derived.Laws.IdiomCopy
import Derived.Lib.AppendZeros
import Derived.Test.YtnfngofcdhaaaaaGreatShelf
set_option linter.unusedVariables false
set_option maxRecDepth 100000
namespace Go.Proofs.YtnfngofcdhaaaaaGreat
open Go
theorem mixed : Tryz.prog.follows .mixedOrders = true := by kernel_rfl
noncomputable def F_laws_big (x : (List Int) × (List Int)) : Option (Bool) :=
  bif (decide ((x.1.length : Int) > 1048576)) then
    some (true)
  else
    let v1 := IntKind.i64.wrap (1048576 - (x.1.length : Int))
    some ((decide ((x.2.length : Int) > v1)))
noncomputable def c_laws_big : Con := { ps := [(.val, (.slice (.int .u8))), (.val, (.slice (.int .u8)))], rs := [(.val, .bool)], F := F_laws_big }
noncomputable def env_laws_big : Env := { par := [], dp := false, settle := [], con := fun _ => none, clo := fun _ => none, T := tinf Tryz.prog }
noncomputable def loops_laws_big : Nat → Option Loop := fun n => none
theorem F_laws_big_eq (x : (List Int) × (List Int)) : Fev env_laws_big loops_laws_big c_laws_big.ps c_laws_big.rs Tryz.f4 x = F_laws_big x := by kernel_rfl
theorem env_laws_big_ok : EnvOK Tryz.prog env_laws_big := envOK_of (fun f c h => by cases h) (fun f c h => by cases h) rfl
theorem con_laws_big : ConOK Tryz.prog 4 c_laws_big := con_of_ev' (body := Tryz.f4.body.getD .skip) (Λ := loops_laws_big) mixed Tryz.func4 (by kernel_rfl) (by kernel_rfl) env_laws_big_ok (by kernel_rfl) (by kernel_rfl) (fun n L h => by cases h) F_laws_big_eq

noncomputable def F_spec_l1Cur_next (x : ((List Int) × (Int × Int))) : Option (((List Int) × (Int × Int)) × Int) :=
  bif (decide (x.2.1 < (x.1.length : Int))) then
    bif decide (0 ≤ x.2.1) && decide (x.2.1 < (x.1.length : Int)) then
      let v1 := IntKind.i64.wrap (x.1.getD (x.2.1).toNat 0)
      let v2 := IntKind.i64.wrap (x.2.1 + 1)
      let v3 := IntKind.u64.wrap (x.2.2 * 6364136223846793005)
      let v4 := IntKind.u64.wrap v1
      let v5 := IntKind.u64.wrap (v3 + v4)
      let v6 := IntKind.u64.wrap (v5 + 1442695040888963407)
      bif (decide (v2 ≤ (x.1.length : Int))) then
        some (((x.1, v2, v6), v1))
      else
        bif decide (0 ≤ (40 : Int)) then
          let v7 := (v6).fdiv (2 ^ (min (40 : Int).toNat IntKind.u64.bits))
          let v8 := IntKind.u64.wrap ((BitVec.ofInt IntKind.u64.bits (v7) &&& BitVec.ofInt IntKind.u64.bits (255)).toNat : Nat)
          let v9 := IntKind.i64.wrap v8
          some (((x.1, v2, v6), v9))
        else none
    else none
  else
    let v10 := IntKind.i64.wrap (x.2.1 + 1)
    let v11 := IntKind.u64.wrap (x.2.2 * 6364136223846793005)
    let v12 := IntKind.u64.wrap 0
    let v13 := IntKind.u64.wrap (v11 + v12)
    let v14 := IntKind.u64.wrap (v13 + 1442695040888963407)
    bif (decide (v10 ≤ (x.1.length : Int))) then
      some (((x.1, v10, v14), 0))
    else
      bif decide (0 ≤ (40 : Int)) then
        let v15 := (v14).fdiv (2 ^ (min (40 : Int).toNat IntKind.u64.bits))
        let v16 := IntKind.u64.wrap ((BitVec.ofInt IntKind.u64.bits (v15) &&& BitVec.ofInt IntKind.u64.bits (255)).toNat : Nat)
        let v17 := IntKind.i64.wrap v16
        some (((x.1, v10, v14), v17))
      else none
noncomputable def c_spec_l1Cur_next : Con := { ps := [(.io false, (.ptr (.st (.pair (.slice (.int .u8)) (.pair (.int .i64) (.int .u64))))))], rs := [(.val, (.int .i64))], F := F_spec_l1Cur_next }
noncomputable def env_spec_l1Cur_next : Env := { par := [63], dp := false, settle := [], con := fun _ => none, clo := fun _ => none, T := tinf Tryz.prog }
noncomputable def loops_spec_l1Cur_next : Nat → Option Loop := fun n => none
theorem F_spec_l1Cur_next_eq (x : ((List Int) × (Int × Int))) : Fev env_spec_l1Cur_next loops_spec_l1Cur_next c_spec_l1Cur_next.ps c_spec_l1Cur_next.rs Tryz.f54 x = F_spec_l1Cur_next x := by kernel_rfl
theorem env_spec_l1Cur_next_ok : EnvOK Tryz.prog env_spec_l1Cur_next := envOK_of (fun f c h => by cases h) (fun f c h => by cases h) rfl
theorem con_spec_l1Cur_next : ConOK Tryz.prog 54 c_spec_l1Cur_next := con_of_ev' (body := Tryz.f54.body.getD .skip) (Λ := loops_spec_l1Cur_next) mixed Tryz.func54 (by kernel_rfl) (by kernel_rfl) env_spec_l1Cur_next_ok (by kernel_rfl) (by kernel_rfl) (fun n L h => by cases h) F_spec_l1Cur_next_eq

noncomputable def F_spec_l1Cur_pick (x : ((List Int) × (Int × Int)) × Int) : Option (((List Int) × (Int × Int)) × Int) :=
  bif (decide (x.2 ≤ 1)) then
    some ((x.1, 0))
  else
    match F_spec_l1Cur_next (x.1) with
    | none => none
    | some y1 =>
      bif (decide (x.2 > 200)) then
        let v2 := IntKind.i64.wrap (y1.2 * 256)
        match F_spec_l1Cur_next (y1.1) with
        | none => none
        | some y3 =>
          let v4 := IntKind.i64.wrap (v2 + y3.2)
          bif !decide (x.2 = 0) then
            let v5 := (v4).tmod x.2
            some ((y3.1, v5))
          else none
      else
        bif !decide (x.2 = 0) then
          let v6 := (y1.2).tmod x.2
          some ((y1.1, v6))
        else none
noncomputable def c_spec_l1Cur_pick : Con := { ps := [(.io false, (.ptr (.st (.pair (.slice (.int .u8)) (.pair (.int .i64) (.int .u64)))))), (.val, (.int .i64))], rs := [(.val, (.int .i64))], F := F_spec_l1Cur_pick }
noncomputable def env_spec_l1Cur_pick : Env := { par := [63], dp := false, settle := [], con := fun f => match f with | 54 => some c_spec_l1Cur_next | _ => none, clo := fun _ => none, T := tinf Tryz.prog }
noncomputable def loops_spec_l1Cur_pick : Nat → Option Loop := fun n => none
theorem F_spec_l1Cur_pick_eq (x : ((List Int) × (Int × Int)) × Int) : Fev env_spec_l1Cur_pick loops_spec_l1Cur_pick c_spec_l1Cur_pick.ps c_spec_l1Cur_pick.rs Tryz.f26 x = F_spec_l1Cur_pick x := by kernel_rfl
theorem env_spec_l1Cur_pick_ok : EnvOK Tryz.prog env_spec_l1Cur_pick := envOK_of (fun f c h => by
  simp only [env_spec_l1Cur_pick] at h
  split at h
  · cases h; exact con_spec_l1Cur_next
  · cases h) (fun f c h => by cases h) rfl
theorem con_spec_l1Cur_pick : ConOK Tryz.prog 26 c_spec_l1Cur_pick := con_of_ev' (body := Tryz.f26.body.getD .skip) (Λ := loops_spec_l1Cur_pick) mixed Tryz.func26 (by kernel_rfl) (by kernel_rfl) env_spec_l1Cur_pick_ok (by kernel_rfl) (by kernel_rfl) (fun n L h => by cases h) F_spec_l1Cur_pick_eq

noncomputable def F_spec_l1Cur_one (x : ((List Int) × (Int × Int)) × Int) : Option (((List Int) × (Int × Int)) × Bool) :=
  match F_spec_l1Cur_pick (x) with
  | none => none
  | some y1 =>
    some ((y1.1, ((y1.2 == 0))))
noncomputable def c_spec_l1Cur_one : Con := { ps := [(.io false, (.ptr (.st (.pair (.slice (.int .u8)) (.pair (.int .i64) (.int .u64)))))), (.val, (.int .i64))], rs := [(.val, .bool)], F := F_spec_l1Cur_one }
noncomputable def env_spec_l1Cur_one : Env := { par := [63], dp := false, settle := [], con := fun f => match f with | 26 => some c_spec_l1Cur_pick | _ => none, clo := fun _ => none, T := tinf Tryz.prog }
noncomputable def loops_spec_l1Cur_one : Nat → Option Loop := fun n => none
theorem F_spec_l1Cur_one_eq (x : ((List Int) × (Int × Int)) × Int) : Fev env_spec_l1Cur_one loops_spec_l1Cur_one c_spec_l1Cur_one.ps c_spec_l1Cur_one.rs Tryz.f25 x = F_spec_l1Cur_one x := by kernel_rfl
theorem env_spec_l1Cur_one_ok : EnvOK Tryz.prog env_spec_l1Cur_one := envOK_of (fun f c h => by
  simp only [env_spec_l1Cur_one] at h
  split at h
  · cases h; exact con_spec_l1Cur_pick
  · cases h) (fun f c h => by cases h) rfl
theorem con_spec_l1Cur_one : ConOK Tryz.prog 25 c_spec_l1Cur_one := con_of_ev' (body := Tryz.f25.body.getD .skip) (Λ := loops_spec_l1Cur_one) mixed Tryz.func25 (by kernel_rfl) (by kernel_rfl) env_spec_l1Cur_one_ok (by kernel_rfl) (by kernel_rfl) (fun n L h => by cases h) F_spec_l1Cur_one_eq

noncomputable def F_spec_l1Cur_of (x : ((List Int) × (Int × Int)) × (List ByteArray)) : Option (((List Int) × (Int × Int)) × ByteArray) :=
  match F_spec_l1Cur_pick ((x.1, (x.2.length : Int))) with
  | none => none
  | some y1 =>
    bif decide (0 ≤ y1.2) && decide (y1.2 < (x.2.length : Int)) then
      some ((y1.1, (x.2.getD (y1.2).toNat ByteArray.empty)))
    else none
noncomputable def c_spec_l1Cur_of : Con := { ps := [(.io false, (.ptr (.st (.pair (.slice (.int .u8)) (.pair (.int .i64) (.int .u64)))))), (.val, (.slice .str))], rs := [(.val, .str)], F := F_spec_l1Cur_of }
noncomputable def env_spec_l1Cur_of : Env := { par := [63], dp := false, settle := [], con := fun f => match f with | 26 => some c_spec_l1Cur_pick | _ => none, clo := fun _ => none, T := tinf Tryz.prog }
noncomputable def loops_spec_l1Cur_of : Nat → Option Loop := fun n => none
theorem F_spec_l1Cur_of_eq (x : ((List Int) × (Int × Int)) × (List ByteArray)) : Fev env_spec_l1Cur_of loops_spec_l1Cur_of c_spec_l1Cur_of.ps c_spec_l1Cur_of.rs Tryz.f55 x = F_spec_l1Cur_of x := by kernel_rfl
theorem env_spec_l1Cur_of_ok : EnvOK Tryz.prog env_spec_l1Cur_of := envOK_of (fun f c h => by
  simp only [env_spec_l1Cur_of] at h
  split at h
  · cases h; exact con_spec_l1Cur_pick
  · cases h) (fun f c h => by cases h) rfl
theorem con_spec_l1Cur_of : ConOK Tryz.prog 55 c_spec_l1Cur_of := con_of_ev' (body := Tryz.f55.body.getD .skip) (Λ := loops_spec_l1Cur_of) mixed Tryz.func55 (by kernel_rfl) (by kernel_rfl) env_spec_l1Cur_of_ok (by kernel_rfl) (by kernel_rfl) (fun n L h => by cases h) F_spec_l1Cur_of_eq

noncomputable def F_spec_l1Cur_anyGloss (x : ((List Int) × (Int × Int))) : Option (((List Int) × (Int × Int)) × ByteArray) :=
  match F_spec_l1Cur_of ((x, [(⟨#[]⟩ : ByteArray), (⟨#[115, 117, 110]⟩ : ByteArray), (⟨#[78, 73, 78, 69, 76, 69, 84, 84, 69]⟩ : ByteArray), (⟨#[65, 49]⟩ : ByteArray), (⟨#[90, 79, 79]⟩ : ByteArray), (⟨#[65]⟩ : ByteArray)])) with
  | none => none
  | some y1 =>
    match F_spec_l1Cur_of ((y1.1, [(⟨#[83, 85, 78]⟩ : ByteArray), (⟨#[72, 79, 85, 83, 69]⟩ : ByteArray), (⟨#[84, 82, 69, 69]⟩ : ByteArray), (⟨#[82, 65, 73, 78]⟩ : ByteArray), (⟨#[66, 79, 79, 75]⟩ : ByteArray), (⟨#[83, 85, 78]⟩ : ByteArray), y1.2])) with
    | none => none
    | some y2 =>
      some (y2)
noncomputable def c_spec_l1Cur_anyGloss : Con := { ps := [(.io false, (.ptr (.st (.pair (.slice (.int .u8)) (.pair (.int .i64) (.int .u64))))))], rs := [(.val, .str)], F := F_spec_l1Cur_anyGloss }
noncomputable def env_spec_l1Cur_anyGloss : Env := { par := [63], dp := false, settle := [], con := fun f => match f with | 55 => some c_spec_l1Cur_of | _ => none, clo := fun _ => none, T := tinf Tryz.prog }
noncomputable def loops_spec_l1Cur_anyGloss : Nat → Option Loop := fun n => none
theorem F_spec_l1Cur_anyGloss_eq (x : ((List Int) × (Int × Int))) : Fev env_spec_l1Cur_anyGloss loops_spec_l1Cur_anyGloss c_spec_l1Cur_anyGloss.ps c_spec_l1Cur_anyGloss.rs Tryz.f27 x = F_spec_l1Cur_anyGloss x := by kernel_rfl
theorem env_spec_l1Cur_anyGloss_ok : EnvOK Tryz.prog env_spec_l1Cur_anyGloss := envOK_of (fun f c h => by
  simp only [env_spec_l1Cur_anyGloss] at h
  split at h
  · cases h; exact con_spec_l1Cur_of
  · cases h) (fun f c h => by cases h) rfl
theorem con_spec_l1Cur_anyGloss : ConOK Tryz.prog 27 c_spec_l1Cur_anyGloss := con_of_ev' (body := Tryz.f27.body.getD .skip) (Λ := loops_spec_l1Cur_anyGloss) mixed Tryz.func27 (by kernel_rfl) (by kernel_rfl) env_spec_l1Cur_anyGloss_ok (by kernel_rfl) (by kernel_rfl) (fun n L h => by cases h) F_spec_l1Cur_anyGloss_eq

noncomputable def F_spec_l1Cur_among (x : ((List Int) × (Int × Int)) × (List Int)) : Option (((List Int) × (Int × Int)) × Int) :=
  match F_spec_l1Cur_pick ((x.1, (x.2.length : Int))) with
  | none => none
  | some y1 =>
    bif decide (0 ≤ y1.2) && decide (y1.2 < (x.2.length : Int)) then
      some ((y1.1, (x.2.getD (y1.2).toNat 0)))
    else none
noncomputable def c_spec_l1Cur_among : Con := { ps := [(.io false, (.ptr (.st (.pair (.slice (.int .u8)) (.pair (.int .i64) (.int .u64)))))), (.val, (.slice (.int .i64)))], rs := [(.val, (.int .i64))], F := F_spec_l1Cur_among }
noncomputable def env_spec_l1Cur_among : Env := { par := [63], dp := false, settle := [], con := fun f => match f with | 26 => some c_spec_l1Cur_pick | _ => none, clo := fun _ => none, T := tinf Tryz.prog }
noncomputable def loops_spec_l1Cur_among : Nat → Option Loop := fun n => none
theorem F_spec_l1Cur_among_eq (x : ((List Int) × (Int × Int)) × (List Int)) : Fev env_spec_l1Cur_among loops_spec_l1Cur_among c_spec_l1Cur_among.ps c_spec_l1Cur_among.rs Tryz.f50 x = F_spec_l1Cur_among x := by kernel_rfl
theorem env_spec_l1Cur_among_ok : EnvOK Tryz.prog env_spec_l1Cur_among := envOK_of (fun f c h => by
  simp only [env_spec_l1Cur_among] at h
  split at h
  · cases h; exact con_spec_l1Cur_pick
  · cases h) (fun f c h => by cases h) rfl
theorem con_spec_l1Cur_among : ConOK Tryz.prog 50 c_spec_l1Cur_among := con_of_ev' (body := Tryz.f50.body.getD .skip) (Λ := loops_spec_l1Cur_among) mixed Tryz.func50 (by kernel_rfl) (by kernel_rfl) env_spec_l1Cur_among_ok (by kernel_rfl) (by kernel_rfl) (fun n L h => by cases h) F_spec_l1Cur_among_eq

noncomputable def F_spec_l1Cur_gloss (x : ((List Int) × (Int × Int))) : Option (((List Int) × (Int × Int)) × ByteArray) :=
  match F_spec_l1Cur_of ((x, [(⟨#[83, 85, 78]⟩ : ByteArray), (⟨#[72, 79, 85, 83, 69]⟩ : ByteArray), (⟨#[84, 82, 69, 69]⟩ : ByteArray), (⟨#[82, 65, 73, 78]⟩ : ByteArray), (⟨#[66, 79, 79, 75]⟩ : ByteArray), (⟨#[69, 73, 71, 72, 84, 76, 69, 84]⟩ : ByteArray)])) with
  | none => none
  | some y1 =>
    some (y1)
noncomputable def c_spec_l1Cur_gloss : Con := { ps := [(.io false, (.ptr (.st (.pair (.slice (.int .u8)) (.pair (.int .i64) (.int .u64))))))], rs := [(.val, .str)], F := F_spec_l1Cur_gloss }
noncomputable def env_spec_l1Cur_gloss : Env := { par := [63], dp := false, settle := [], con := fun f => match f with | 55 => some c_spec_l1Cur_of | _ => none, clo := fun _ => none, T := tinf Tryz.prog }
noncomputable def loops_spec_l1Cur_gloss : Nat → Option Loop := fun n => none
theorem F_spec_l1Cur_gloss_eq (x : ((List Int) × (Int × Int))) : Fev env_spec_l1Cur_gloss loops_spec_l1Cur_gloss c_spec_l1Cur_gloss.ps c_spec_l1Cur_gloss.rs Tryz.f81 x = F_spec_l1Cur_gloss x := by kernel_rfl
theorem env_spec_l1Cur_gloss_ok : EnvOK Tryz.prog env_spec_l1Cur_gloss := envOK_of (fun f c h => by
  simp only [env_spec_l1Cur_gloss] at h
  split at h
  · cases h; exact con_spec_l1Cur_of
  · cases h) (fun f c h => by cases h) rfl
theorem con_spec_l1Cur_gloss : ConOK Tryz.prog 81 c_spec_l1Cur_gloss := con_of_ev' (body := Tryz.f81.body.getD .skip) (Λ := loops_spec_l1Cur_gloss) mixed Tryz.func81 (by kernel_rfl) (by kernel_rfl) env_spec_l1Cur_gloss_ok (by kernel_rfl) (by kernel_rfl) (fun n L h => by cases h) F_spec_l1Cur_gloss_eq

noncomputable def step_spec_l1Cur_proposal_0 (s : Int × Bool × Int × Int × ByteArray × Int × Int × ByteArray × (List Int) × Int × Int × (List Int)) : Option ((Int × Bool × Int × Int × ByteArray × Int × Int × ByteArray × (List Int) × Int × Int × (List Int)) ⊕ ((Int × Int × Int × ByteArray × (List Int) × Int × Int × ByteArray × (List Int) × Int × Int))) :=
  bif (decide ((s.2.2.2.2.2.2.2.2.2.2.2.length : Int) < s.1)) then
    match F_spec_l1Cur_among (((s.2.2.2.2.2.2.2.2.1, s.2.2.2.2.2.2.2.2.2.1, s.2.2.2.2.2.2.2.2.2.2.1), [(-1), 0, 1])) with
    | none => none
    | some y11 =>
      bif s.2.1 then
        match F_spec_l1Cur_one ((y11.1, 2)) with
        | none => none
        | some y12 =>
          bif y12.2 then
            bif decide ((s.2.2.2.2.2.2.2.2.2.2.2.length + [1].length) * 8 ≤ 140737488355328) then
              let v13 := s.2.2.2.2.2.2.2.2.2.2.2 ++ [1]
              some (.inl ((s.1, (s.2.1, s.2.2.1, (s.2.2.2.1, s.2.2.2.2.1, (s.2.2.2.2.2.1, s.2.2.2.2.2.2.1, (s.2.2.2.2.2.2.2.1, y12.1.1, (y12.1.2.1, y12.1.2.2, v13))))))))
            else none
          else
            bif decide ((s.2.2.2.2.2.2.2.2.2.2.2.length + [y11.2].length) * 8 ≤ 140737488355328) then
              let v14 := s.2.2.2.2.2.2.2.2.2.2.2 ++ [y11.2]
              some (.inl ((s.1, (s.2.1, s.2.2.1, (s.2.2.2.1, s.2.2.2.2.1, (s.2.2.2.2.2.1, s.2.2.2.2.2.2.1, (s.2.2.2.2.2.2.2.1, y12.1.1, (y12.1.2.1, y12.1.2.2, v14))))))))
            else none
      else
        bif decide ((s.2.2.2.2.2.2.2.2.2.2.2.length + [y11.2].length) * 8 ≤ 140737488355328) then
          let v15 := s.2.2.2.2.2.2.2.2.2.2.2 ++ [y11.2]
          some (.inl ((s.1, (s.2.1, s.2.2.1, (s.2.2.2.1, s.2.2.2.2.1, (s.2.2.2.2.2.1, s.2.2.2.2.2.2.1, (s.2.2.2.2.2.2.2.1, y11.1.1, (y11.1.2.1, y11.1.2.2, v15))))))))
        else none
  else
    some (.inr ((s.1, s.2.2.1, (s.2.2.2.1, s.2.2.2.2.1, (s.2.2.2.2.2.2.2.2.2.2.2, s.2.2.2.2.2.1, (s.2.2.2.2.2.2.1, s.2.2.2.2.2.2.2.1, (s.2.2.2.2.2.2.2.2.1, s.2.2.2.2.2.2.2.2.2.1, s.2.2.2.2.2.2.2.2.2.2.1)))))))
def pat_spec_l1Cur_proposal_0 : Pat := { tmps := [.ptr 63 0, .any, .v (.int .i64), .any, .any, .any, .ptr 384 0, .ptr 448 0, .v .bool, .any, .any, .any, .any, .any, .any, .any, .any, .any, .any, .any, .any, .any, .any, .any, .any, .any, .any, .any, .any, .any, .any, .any, .any, .any, .any, .any, .any, .any, .any, .any, .any, .any, .any, .any, .any, .any, .any, .any, .any, .any, .any, .any, .any, .any, .any, .any, .any, .any, .any, .any, .any, .any, .any, .any, .any, .any, .any, .any, .any, .any, .any, .any], blks := [(448, .box [.v (.int .i64), .v (.int .i64), .v .str, .own 2240]), (384, .box [.v (.int .i64), .v (.int .i64), .v .str, .any]), (63, .box [.v (.slice (.int .u8)), .v (.int .i64), .v (.int .u64)]), (2240, .row true (.int .i64))] }
def outs_spec_l1Cur_proposal_0 : List (Exit × Pat) := [(.exit 0, { tmps := [.ptr 63 0, .any, .v (.int .i64), .any, .any, .any, .ptr 384 0, .ptr 448 0, .any, .any, .any, .any, .any, .any, .any, .any, .any, .any, .any, .any, .any, .any, .any, .any, .any, .any, .any, .any, .any, .any, .any, .any, .any, .any, .any, .any, .any, .any, .any, .any, .any, .any, .any, .any, .any, .any, .any, .any, .any, .any, .any, .any, .any, .any, .any, .any, .any, .any, .any, .any, .any, .any, .any, .any, .any, .any, .any, .any, .any, .any, .any, .any], blks := [(448, .box [.v (.int .i64), .v (.int .i64), .v .str, .own 2240]), (2240, .row true (.int .i64)), (384, .box [.v (.int .i64), .v (.int .i64), .v .str, .any]), (63, .box [.v (.slice (.int .u8)), .v (.int .i64), .v (.int .u64)])] })]
noncomputable def F_spec_l1Cur_proposal (x : ((List Int) × (Int × Int)) × Int × Int) : Option (((List Int) × (Int × Int)) × (Int × (Int × (ByteArray × (List Int))))) :=
  match F_spec_l1Cur_pick ((x.1, 2)) with
  | none => none
  | some y1 =>
    match F_spec_l1Cur_gloss (y1.1) with
    | none => none
    | some y2 =>
      match F_spec_l1Cur_one ((y2.1, 2)) with
      | none => none
      | some y3 =>
        match runL step_spec_l1Cur_proposal_0 ((x.2.2, (y3.2, x.2.1, (y1.2, y2.2, (0, 0, (ByteArray.empty, y3.1.1, (y3.1.2.1, y3.1.2.2, []))))))) with
        | none => none
        | some o16 =>
          match F_spec_l1Cur_one ((o16.2.2.2.2.2.2.2.2, 5)) with
          | none => none
          | some y17 =>
            bif y17.2 then
              bif decide (0 ≤ o16.1) && decide (o16.1 ≤ o16.1) && decide (o16.1 * (8 : Int) ≤ 140737488355328) then
                match F_spec_l1Cur_pick ((y17.1, 60)) with
                | none => none
                | some y18 =>
                  bif ((y18.2 == 0)) then
                    match F_spec_l1Cur_among ((y18.1, [0, 999, 1000])) with
                    | none => none
                    | some y19 =>
                      some ((y19.1, y19.2, (o16.2.2.1, o16.2.2.2.1, (List.replicate (o16.1).toNat ((0) : Int)))))
                  else
                    bif ((y18.2 == 1)) then
                      match F_spec_l1Cur_among ((y18.1, [(-1), 2])) with
                      | none => none
                      | some y20 =>
                        some ((y20.1, o16.2.1, (y20.2, o16.2.2.2.1, (List.replicate (o16.1).toNat ((0) : Int)))))
                    else
                      bif ((y18.2 == 2)) then
                        match F_spec_l1Cur_anyGloss (y18.1) with
                        | none => none
                        | some y21 =>
                          some ((y21.1, o16.2.1, (o16.2.2.1, y21.2, (List.replicate (o16.1).toNat ((0) : Int)))))
                      else
                        bif ((y18.2 == 3)) then
                          match F_spec_l1Cur_pick ((y18.1, 4)) with
                          | none => none
                          | some y22 =>
                            let v23 := IntKind.i64.wrap (y22.2 - 1)
                            bif decide (((List.replicate (o16.1).toNat ((0) : Int)).length + [v23].length) * 8 ≤ 140737488355328) then
                              let v24 := (List.replicate (o16.1).toNat ((0) : Int)) ++ [v23]
                              some ((y22.1, o16.2.1, (o16.2.2.1, o16.2.2.2.1, v24)))
                            else none
                        else
                          some ((y18.1, o16.2.1, (o16.2.2.1, o16.2.2.2.1, (List.replicate (o16.1).toNat ((0) : Int)))))
              else none
            else
              match F_spec_l1Cur_pick ((y17.1, 60)) with
              | none => none
              | some y25 =>
                bif ((y25.2 == 0)) then
                  match F_spec_l1Cur_among ((y25.1, [0, 999, 1000])) with
                  | none => none
                  | some y26 =>
                    some ((y26.1, y26.2, (o16.2.2.1, o16.2.2.2.1, o16.2.2.2.2.1)))
                else
                  bif ((y25.2 == 1)) then
                    match F_spec_l1Cur_among ((y25.1, [(-1), 2])) with
                    | none => none
                    | some y27 =>
                      some ((y27.1, o16.2.1, (y27.2, o16.2.2.2.1, o16.2.2.2.2.1)))
                  else
                    bif ((y25.2 == 2)) then
                      match F_spec_l1Cur_anyGloss (y25.1) with
                      | none => none
                      | some y28 =>
                        some ((y28.1, o16.2.1, (o16.2.2.1, y28.2, o16.2.2.2.2.1)))
                    else
                      bif ((y25.2 == 3)) then
                        match F_spec_l1Cur_pick ((y25.1, 4)) with
                        | none => none
                        | some y29 =>
                          let v30 := IntKind.i64.wrap (y29.2 - 1)
                          bif decide ((o16.2.2.2.2.1.length + [v30].length) * 8 ≤ 140737488355328) then
                            let v31 := o16.2.2.2.2.1 ++ [v30]
                            some ((y29.1, o16.2.1, (o16.2.2.1, o16.2.2.2.1, v31)))
                          else none
                      else
                        some ((y25.1, o16.2.1, (o16.2.2.1, o16.2.2.2.1, o16.2.2.2.2.1)))
noncomputable def c_spec_l1Cur_proposal : Con := { ps := [(.io false, (.ptr (.st (.pair (.slice (.int .u8)) (.pair (.int .i64) (.int .u64)))))), (.val, (.int .i64)), (.val, (.int .i64))], rs := [(.io true, (.st (.pair (.int .i64) (.pair (.int .i64) (.pair .str (.slice (.int .i64)))))))], F := F_spec_l1Cur_proposal }
noncomputable def env_spec_l1Cur_proposal : Env := { par := [63], dp := false, settle := [], con := fun f => match f with | 25 => some c_spec_l1Cur_one | 26 => some c_spec_l1Cur_pick | 27 => some c_spec_l1Cur_anyGloss | 50 => some c_spec_l1Cur_among | 81 => some c_spec_l1Cur_gloss | _ => none, clo := fun _ => none, T := tinf Tryz.prog }
noncomputable def loops_spec_l1Cur_proposal : Nat → Option Loop := fun n => match n with | 3 => some { pat := pat_spec_l1Cur_proposal_0, outs := outs_spec_l1Cur_proposal_0, run := runL (step_spec_l1Cur_proposal_0) } | _ => none
theorem step_spec_l1Cur_proposal_0_eq (s : Int × Bool × Int × Int × ByteArray × Int × Int × ByteArray × (List Int) × Int × Int × (List Int)) : stepEv env_spec_l1Cur_proposal loops_spec_l1Cur_proposal pat_spec_l1Cur_proposal_0 outs_spec_l1Cur_proposal_0 Tryz.f56 3 s = step_spec_l1Cur_proposal_0 s := by kernel_rfl
theorem F_spec_l1Cur_proposal_eq (x : ((List Int) × (Int × Int)) × Int × Int) : Fev env_spec_l1Cur_proposal loops_spec_l1Cur_proposal c_spec_l1Cur_proposal.ps c_spec_l1Cur_proposal.rs Tryz.f56 x = F_spec_l1Cur_proposal x := by kernel_rfl
theorem env_spec_l1Cur_proposal_ok : EnvOK Tryz.prog env_spec_l1Cur_proposal := envOK_of (fun f c h => by
  simp only [env_spec_l1Cur_proposal] at h
  split at h
  · cases h; exact con_spec_l1Cur_one
  · cases h; exact con_spec_l1Cur_pick
  · cases h; exact con_spec_l1Cur_anyGloss
  · cases h; exact con_spec_l1Cur_among
  · cases h; exact con_spec_l1Cur_gloss
  · cases h) (fun f c h => by cases h) rfl
theorem con_spec_l1Cur_proposal : ConOK Tryz.prog 56 c_spec_l1Cur_proposal := con_of_ev' (body := Tryz.f56.body.getD .skip) (Λ := loops_spec_l1Cur_proposal) mixed Tryz.func56 (by kernel_rfl) (by kernel_rfl) env_spec_l1Cur_proposal_ok (by kernel_rfl) (by kernel_rfl) (fun n L h => by
  unfold loops_spec_l1Cur_proposal at h
  split at h
  · cases h; exact fun s o ho => loop_ok (stepF := stepEv env_spec_l1Cur_proposal loops_spec_l1Cur_proposal pat_spec_l1Cur_proposal_0 outs_spec_l1Cur_proposal_0 Tryz.f56 3) (step_spec_l1Cur_proposal_0_eq) ho
  · cases h) F_spec_l1Cur_proposal_eq

noncomputable def step_spec_l1Cur_proposals_0 (s : Int × Int × Int × (List Int) × Int × Int × (List (Int × (Int × (ByteArray × (List Int)))))) : Option ((Int × Int × Int × (List Int) × Int × Int × (List (Int × (Int × (ByteArray × (List Int)))))) ⊕ ((Int × Int × (List (Int × (Int × (ByteArray × (List Int))))) × (List Int) × Int × Int))) :=
  bif (decide ((s.2.2.2.2.2.2.length : Int) < s.2.1)) then
    match F_spec_l1Cur_proposal (((s.2.2.2.1, s.2.2.2.2.1, s.2.2.2.2.2.1), s.2.2.1, s.1)) with
    | none => none
    | some y36 =>
      bif decide ((s.2.2.2.2.2.2.length + ([y36.2] : List ((Int × (Int × (ByteArray × (List Int)))))).length) * 56 ≤ 140737488355328) && true && true then
        let v37 := s.2.2.2.2.2.2 ++ ([y36.2] : List ((Int × (Int × (ByteArray × (List Int))))))
        match F_spec_l1Cur_pick ((y36.1, 3)) with
        | none => none
        | some y38 =>
          let v39 := IntKind.i64.wrap (1 + y38.2)
          let v40 := IntKind.i64.wrap (s.2.2.1 + v39)
          some (.inl ((s.1, s.2.1, (v40, y38.1.1, (y38.1.2.1, y38.1.2.2, v37)))))
      else none
  else
    some (.inr ((s.1, (s.2.1, s.2.2.2.2.2.2, (s.2.2.2.1, s.2.2.2.2.1, s.2.2.2.2.2.1)))))
def pat_spec_l1Cur_proposals_0 : Pat := { tmps := [.ptr 63 0, .any, .any, .any, .v (.int .i64), .own 2112, .v (.int .i64), .v (.int .i64), .any, .any, .any, .any, .any, .any, .any, .any, .any, .any, .any, .any, .any, .any, .any, .any, .any, .any, .any, .any, .any, .any, .any, .any, .any, .any, .any, .any, .any, .any, .any, .any, .any, .any, .any, .any, .any, .any, .any, .any, .any, .any, .any, .any, .any, .any, .any, .any], blks := [(63, .box [.v (.slice (.int .u8)), .v (.int .i64), .v (.int .u64)]), (2112, .row true (.st (.pair (.int .i64) (.pair (.int .i64) (.pair .str (.slice (.int .i64)))))))] }
def outs_spec_l1Cur_proposals_0 : List (Exit × Pat) := [(.exit 0, { tmps := [.ptr 63 0, .any, .any, .any, .v (.int .i64), .own 2112, .v (.int .i64), .any, .any, .any, .any, .any, .any, .any, .any, .any, .any, .any, .any, .any, .any, .any, .any, .any, .any, .any, .any, .any, .any, .any, .any, .any, .any, .any, .any, .any, .any, .any, .any, .any, .any, .any, .any, .any, .any, .any, .any, .any, .any, .any, .any, .any, .any, .any, .any, .any], blks := [(2112, .row true (.st (.pair (.int .i64) (.pair (.int .i64) (.pair .str (.slice (.int .i64))))))), (63, .box [.v (.slice (.int .u8)), .v (.int .i64), .v (.int .u64)])] })]
noncomputable def F_spec_l1Cur_proposals (x : ((List Int) × (Int × Int))) : Option (((List Int) × (Int × Int)) × (List (Int × (Int × (ByteArray × (List Int))))) × Int) :=
  match F_spec_l1Cur_among ((x, [1, 2, 3, 3, 5, 7])) with
  | none => none
  | some y1 =>
    match F_spec_l1Cur_pick ((y1.1, 6)) with
    | none => none
    | some y2 =>
      match F_spec_l1Cur_one ((y2.1, 12)) with
      | none => none
      | some y3 =>
        bif y3.2 then
          match F_spec_l1Cur_pick ((y3.1, 2)) with
          | none => none
          | some y4 =>
            let v5 := IntKind.i64.wrap (12 + y4.2)
            match runL step_spec_l1Cur_proposals_0 ((y1.2, v5, (1, y4.1.1, (y4.1.2.1, y4.1.2.2, [])))) with
            | none => none
            | some o20 =>
              match F_spec_l1Cur_pick ((o20.2.2.2, 24)) with
              | none => none
              | some y21 =>
                bif ((y21.2 == 0)) then
                  bif (decide (o20.2.1 > 0)) then
                    let v22 := IntKind.i64.wrap (o20.2.1 - 1)
                    match F_spec_l1Cur_proposal ((y21.1, 999, o20.1)) with
                    | none => none
                    | some y23 =>
                      bif decide (0 ≤ v22) && decide (v22 < (o20.2.2.1.length : Int)) then
                        let v24 := o20.2.2.1.set (v22).toNat (y23.2)
                        some ((y23.1, v24, o20.1))
                      else none
                  else
                    some ((y21.1, o20.2.2.1, o20.1))
                else
                  bif ((y21.2 == 1)) then
                    let v25 := IntKind.i64.wrap (o20.1 + 1)
                    match F_spec_l1Cur_among ((y21.1, [0, 8, v25, (-1)])) with
                    | none => none
                    | some y26 =>
                      some ((y26.1, o20.2.2.1, y26.2))
                  else
                    some ((y21.1, o20.2.2.1, o20.1))
        else
          match runL step_spec_l1Cur_proposals_0 ((y1.2, y2.2, (1, y3.1.1, (y3.1.2.1, y3.1.2.2, [])))) with
          | none => none
          | some o41 =>
            match F_spec_l1Cur_pick ((o41.2.2.2, 24)) with
            | none => none
            | some y42 =>
              bif ((y42.2 == 0)) then
                bif (decide (o41.2.1 > 0)) then
                  let v43 := IntKind.i64.wrap (o41.2.1 - 1)
                  match F_spec_l1Cur_proposal ((y42.1, 999, o41.1)) with
                  | none => none
                  | some y44 =>
                    bif decide (0 ≤ v43) && decide (v43 < (o41.2.2.1.length : Int)) then
                      let v45 := o41.2.2.1.set (v43).toNat (y44.2)
                      some ((y44.1, v45, o41.1))
                    else none
                else
                  some ((y42.1, o41.2.2.1, o41.1))
              else
                bif ((y42.2 == 1)) then
                  let v46 := IntKind.i64.wrap (o41.1 + 1)
                  match F_spec_l1Cur_among ((y42.1, [0, 8, v46, (-1)])) with
                  | none => none
                  | some y47 =>
                    some ((y47.1, o41.2.2.1, y47.2))
                else
                  some ((y42.1, o41.2.2.1, o41.1))
noncomputable def c_spec_l1Cur_proposals : Con := { ps := [(.io false, (.ptr (.st (.pair (.slice (.int .u8)) (.pair (.int .i64) (.int .u64))))))], rs := [(.val, (.slice (.st (.pair (.int .i64) (.pair (.int .i64) (.pair .str (.slice (.int .i64)))))))), (.val, (.int .i64))], F := F_spec_l1Cur_proposals }
noncomputable def env_spec_l1Cur_proposals : Env := { par := [63], dp := true, settle := [], con := fun f => match f with | 25 => some c_spec_l1Cur_one | 26 => some c_spec_l1Cur_pick | 50 => some c_spec_l1Cur_among | 56 => some c_spec_l1Cur_proposal | _ => none, clo := fun _ => none, T := tinf Tryz.prog }
noncomputable def loops_spec_l1Cur_proposals : Nat → Option Loop := fun n => match n with | 7 => some { pat := pat_spec_l1Cur_proposals_0, outs := outs_spec_l1Cur_proposals_0, run := runL (step_spec_l1Cur_proposals_0) } | _ => none
theorem step_spec_l1Cur_proposals_0_eq (s : Int × Int × Int × (List Int) × Int × Int × (List (Int × (Int × (ByteArray × (List Int)))))) : stepEv env_spec_l1Cur_proposals loops_spec_l1Cur_proposals pat_spec_l1Cur_proposals_0 outs_spec_l1Cur_proposals_0 Tryz.f28 7 s = step_spec_l1Cur_proposals_0 s := by kernel_rfl
theorem F_spec_l1Cur_proposals_eq (x : ((List Int) × (Int × Int))) : Fev env_spec_l1Cur_proposals loops_spec_l1Cur_proposals c_spec_l1Cur_proposals.ps c_spec_l1Cur_proposals.rs Tryz.f28 x = F_spec_l1Cur_proposals x := by kernel_rfl
theorem env_spec_l1Cur_proposals_ok : EnvOK Tryz.prog env_spec_l1Cur_proposals := envOK_of (fun f c h => by
  simp only [env_spec_l1Cur_proposals] at h
  split at h
  · cases h; exact con_spec_l1Cur_one
  · cases h; exact con_spec_l1Cur_pick
  · cases h; exact con_spec_l1Cur_among
  · cases h; exact con_spec_l1Cur_proposal
  · cases h) (fun f c h => by cases h) rfl
theorem con_spec_l1Cur_proposals : ConOK Tryz.prog 28 c_spec_l1Cur_proposals := con_of_ev' (body := Tryz.f28.body.getD .skip) (Λ := loops_spec_l1Cur_proposals) mixed Tryz.func28 (by kernel_rfl) (by kernel_rfl) env_spec_l1Cur_proposals_ok (by kernel_rfl) (by kernel_rfl) (fun n L h => by
  unfold loops_spec_l1Cur_proposals at h
  split at h
  · cases h; exact fun s o ho => loop_ok (stepF := stepEv env_spec_l1Cur_proposals loops_spec_l1Cur_proposals pat_spec_l1Cur_proposals_0 outs_spec_l1Cur_proposals_0 Tryz.f28 7) (step_spec_l1Cur_proposals_0_eq) ho
  · cases h) F_spec_l1Cur_proposals_eq

noncomputable def step_spec_DrawNextEdition_0 (s : Int × Int × (List ByteArray) × (List Int) × Int × Int × (List ByteArray)) : Option ((Int × Int × (List ByteArray) × (List Int) × Int × Int × (List ByteArray)) ⊕ (((List ByteArray) × (List Int) × Int × Int))) :=
  bif (decide (s.2.1 < s.1)) then
    bif decide (0 ≤ s.2.1) && decide (s.2.1 < (s.2.2.1.length : Int)) then
      match F_spec_l1Cur_one (((s.2.2.2.1, s.2.2.2.2.1, s.2.2.2.2.2.1), 2)) with
      | none => none
      | some y8 =>
        bif y8.2 then
          bif decide ((s.2.2.2.2.2.2.length + [(s.2.2.1.getD (s.2.1).toNat ByteArray.empty)].length) * 16 ≤ 140737488355328) then
            let v9 := s.2.2.2.2.2.2 ++ [(s.2.2.1.getD (s.2.1).toNat ByteArray.empty)]
            let v10 := IntKind.i64.wrap (s.2.1 + 1)
            some (.inl ((s.1, v10, (s.2.2.1, y8.1.1, (y8.1.2.1, y8.1.2.2, v9)))))
          else none
        else
          let v11 := IntKind.i64.wrap (s.2.1 + 1)
          some (.inl ((s.1, v11, (s.2.2.1, y8.1.1, (y8.1.2.1, y8.1.2.2, s.2.2.2.2.2.2)))))
    else none
  else
    some (.inr ((s.2.2.2.2.2.2, (s.2.2.2.1, s.2.2.2.2.1, s.2.2.2.2.2.1))))
def pat_spec_DrawNextEdition_0 : Pat := { tmps := [.any, .any, .any, .any, .any, .ptr 960 0, .own 1728, .any, .any, .any, .any, .any, .any, .any, .any, .any, .own 1024, .v (.int .i64), .v (.int .i64), .any, .any, .any, .any, .any, .any, .any, .any, .any, .any, .any, .any, .any, .any, .any, .any, .any, .any, .any, .any, .any, .any, .any, .any, .any, .any, .any, .any, .any, .any, .any, .any, .any, .any, .any, .any, .any, .any, .any, .any, .any, .any, .any, .any, .any, .any, .any, .any, .any, .any, .any, .any, .any, .any, .any], blks := [(1024, .row true .str), (960, .box [.v (.slice (.int .u8)), .v (.int .i64), .v (.int .u64)]), (1728, .row true .str)] }
def outs_spec_DrawNextEdition_0 : List (Exit × Pat) := [(.exit 0, { tmps := [.any, .any, .any, .any, .any, .ptr 960 0, .own 1728, .any, .any, .any, .any, .any, .any, .any, .any, .any, .any, .any, .any, .any, .any, .any, .any, .any, .any, .any, .any, .any, .any, .any, .any, .any, .any, .any, .any, .any, .any, .any, .any, .any, .any, .any, .any, .any, .any, .any, .any, .any, .any, .any, .any, .any, .any, .any, .any, .any, .any, .any, .any, .any, .any, .any, .any, .any, .any, .any, .any, .any, .any, .any, .any, .any, .any, .any], blks := [(1728, .row true .str), (960, .box [.v (.slice (.int .u8)), .v (.int .i64), .v (.int .u64)])] })]
noncomputable def step_spec_DrawNextEdition_1 (s : Int × (List Int) × Int × Int × (List ByteArray)) : Option ((Int × (List Int) × Int × Int × (List ByteArray)) ⊕ (((List ByteArray) × (List Int) × Int × Int))) :=
  bif (decide ((s.2.2.2.2.length : Int) < s.1)) then
    bif !decide (10 = 0) then
      let v32 := IntKind.i64.wrap (((s.2.2.2.2.length : Int)).tdiv 10)
      bif !decide (10 = 0) then
        let v33 := IntKind.i64.wrap (((s.2.2.2.2.length : Int)).tdiv 10)
        let v34 := IntKind.i64.wrap (v33 + 1)
        bif decide (0 ≤ v32) && decide (v32 ≤ v34) && decide (v34 ≤ ((⟨#[65, 66, 67, 68, 69]⟩ : ByteArray).size : Int)) then
          bif decide ((⟨#[88]⟩ : ByteArray).size + ((⟨#[65, 66, 67, 68, 69]⟩ : ByteArray).extract (v32).toNat (v34).toNat).size ≤ 9223372036854775807) then
            bif !decide (10 = 0) then
              let v35 := ((s.2.2.2.2.length : Int)).tmod 10
              bif !decide (10 = 0) then
                let v36 := ((s.2.2.2.2.length : Int)).tmod 10
                let v37 := IntKind.i64.wrap (v36 + 1)
                bif decide (0 ≤ v35) && decide (v35 ≤ v37) && decide (v37 ≤ ((⟨#[65, 66, 67, 68, 69, 70, 71, 72, 73, 74]⟩ : ByteArray).size : Int)) then
                  bif decide (((⟨#[88]⟩ : ByteArray) ++ ((⟨#[65, 66, 67, 68, 69]⟩ : ByteArray).extract (v32).toNat (v34).toNat)).size + ((⟨#[65, 66, 67, 68, 69, 70, 71, 72, 73, 74]⟩ : ByteArray).extract (v35).toNat (v37).toNat).size ≤ 9223372036854775807) then
                    bif decide ((s.2.2.2.2.length + [(((⟨#[88]⟩ : ByteArray) ++ ((⟨#[65, 66, 67, 68, 69]⟩ : ByteArray).extract (v32).toNat (v34).toNat)) ++ ((⟨#[65, 66, 67, 68, 69, 70, 71, 72, 73, 74]⟩ : ByteArray).extract (v35).toNat (v37).toNat))].length) * 16 ≤ 140737488355328) then
                      let v38 := s.2.2.2.2 ++ [(((⟨#[88]⟩ : ByteArray) ++ ((⟨#[65, 66, 67, 68, 69]⟩ : ByteArray).extract (v32).toNat (v34).toNat)) ++ ((⟨#[65, 66, 67, 68, 69, 70, 71, 72, 73, 74]⟩ : ByteArray).extract (v35).toNat (v37).toNat))]
                      some (.inl ((s.1, s.2.1, (s.2.2.1, s.2.2.2.1, v38))))
                    else none
                  else none
                else none
              else none
            else none
          else none
        else none
      else none
    else none
  else
    some (.inr ((s.2.2.2.2, (s.2.1, s.2.2.1, s.2.2.2.1))))
def pat_spec_DrawNextEdition_1 : Pat := { tmps := [.any, .any, .any, .any, .any, .ptr 960 0, .own 4160, .any, .any, .v (.int .i64), .any, .any, .any, .any, .any, .any, .any, .any, .any, .any, .any, .any, .any, .any, .any, .any, .any, .any, .any, .any, .any, .any, .any, .any, .any, .any, .any, .any, .any, .any, .any, .any, .any, .any, .any, .any, .any, .any, .any, .any, .any, .any, .any, .any, .any, .any, .any, .any, .any, .any, .any, .any, .any, .any, .any, .any, .any, .any, .any, .any, .any, .any, .any, .any], blks := [(960, .box [.v (.slice (.int .u8)), .v (.int .i64), .v (.int .u64)]), (4160, .row true .str)] }
def outs_spec_DrawNextEdition_1 : List (Exit × Pat) := [(.exit 3, { tmps := [.any, .any, .any, .any, .any, .ptr 960 0, .own 4160, .any, .any, .any, .any, .any, .any, .any, .any, .any, .any, .any, .any, .any, .any, .any, .any, .any, .any, .any, .any, .any, .any, .any, .any, .any, .any, .any, .any, .any, .any, .any, .any, .any, .any, .any, .any, .any, .any, .any, .any, .any, .any, .any, .any, .any, .any, .any, .any, .any, .any, .any, .any, .any, .any, .any, .any, .any, .any, .any, .any, .any, .any, .any, .any, .any, .any, .any], blks := [(4160, .row true .str), (960, .box [.v (.slice (.int .u8)), .v (.int .i64), .v (.int .u64)])] })]
noncomputable def F_spec_DrawNextEdition (x : (List Int)) : Option ((List ByteArray) × (List (Int × (Int × (ByteArray × (List Int))))) × Int) :=
  match runL step_spec_DrawNextEdition_0 ((([(⟨#[66, 79, 79, 75]⟩ : ByteArray), (⟨#[72, 79, 85, 83, 69]⟩ : ByteArray), (⟨#[82, 65, 73, 78]⟩ : ByteArray), (⟨#[83, 85, 78]⟩ : ByteArray), (⟨#[90, 79, 79]⟩ : ByteArray)].length : Int), 0, ([(⟨#[66, 79, 79, 75]⟩ : ByteArray), (⟨#[72, 79, 85, 83, 69]⟩ : ByteArray), (⟨#[82, 65, 73, 78]⟩ : ByteArray), (⟨#[83, 85, 78]⟩ : ByteArray), (⟨#[90, 79, 79]⟩ : ByteArray)], x, (0, 0, [])))) with
  | none => none
  | some o12 =>
    match F_spec_l1Cur_pick ((o12.2, 16)) with
    | none => none
    | some y13 =>
      bif ((y13.2 == 0)) then
        match F_spec_l1Cur_anyGloss (y13.1) with
        | none => none
        | some y14 =>
          bif decide ((o12.1.length + [y14.2].length) * 16 ≤ 140737488355328) then
            let v15 := o12.1 ++ [y14.2]
            match F_spec_l1Cur_proposals (y14.1) with
            | none => none
            | some y16 =>
              some ((v15, y16.2))
          else none
      else
        bif ((y13.2 == 1)) then
          match F_spec_l1Cur_pick ((y13.1, 3)) with
          | none => none
          | some y17 =>
            let v18 := IntKind.i64.wrap (39 + y17.2)
            match runL step_spec_DrawNextEdition_1 ((v18, y17.1.1, (y17.1.2.1, y17.1.2.2, []))) with
            | none => none
            | some o39 =>
              match F_spec_l1Cur_proposals (o39.2) with
              | none => none
              | some y40 =>
                some ((o39.1, y40.2))
        else
          match F_spec_l1Cur_proposals (y13.1) with
          | none => none
          | some y41 =>
            some ((o12.1, y41.2))
noncomputable def c_spec_DrawNextEdition : Con := { ps := [(.val, (.slice (.int .u8)))], rs := [(.io true, (.slice .str)), (.val, (.slice (.st (.pair (.int .i64) (.pair (.int .i64) (.pair .str (.slice (.int .i64)))))))), (.val, (.int .i64))], F := F_spec_DrawNextEdition }
noncomputable def env_spec_DrawNextEdition : Env := { par := [], dp := false, settle := [], con := fun f => match f with | 25 => some c_spec_l1Cur_one | 26 => some c_spec_l1Cur_pick | 27 => some c_spec_l1Cur_anyGloss | 28 => some c_spec_l1Cur_proposals | _ => none, clo := fun _ => none, T := tinf Tryz.prog }
noncomputable def loops_spec_DrawNextEdition : Nat → Option Loop := fun n => match n with | 4 => some { pat := pat_spec_DrawNextEdition_0, outs := outs_spec_DrawNextEdition_0, run := runL (step_spec_DrawNextEdition_0) } | 15 => some { pat := pat_spec_DrawNextEdition_1, outs := outs_spec_DrawNextEdition_1, run := runL (step_spec_DrawNextEdition_1) } | _ => none
theorem step_spec_DrawNextEdition_0_eq (s : Int × Int × (List ByteArray) × (List Int) × Int × Int × (List ByteArray)) : stepEv env_spec_DrawNextEdition loops_spec_DrawNextEdition pat_spec_DrawNextEdition_0 outs_spec_DrawNextEdition_0 Tryz.f5 4 s = step_spec_DrawNextEdition_0 s := by kernel_rfl
theorem step_spec_DrawNextEdition_1_eq (s : Int × (List Int) × Int × Int × (List ByteArray)) : stepEv env_spec_DrawNextEdition loops_spec_DrawNextEdition pat_spec_DrawNextEdition_1 outs_spec_DrawNextEdition_1 Tryz.f5 15 s = step_spec_DrawNextEdition_1 s := by kernel_rfl
theorem F_spec_DrawNextEdition_eq (x : (List Int)) : Fev env_spec_DrawNextEdition loops_spec_DrawNextEdition c_spec_DrawNextEdition.ps c_spec_DrawNextEdition.rs Tryz.f5 x = F_spec_DrawNextEdition x := by kernel_rfl
theorem env_spec_DrawNextEdition_ok : EnvOK Tryz.prog env_spec_DrawNextEdition := envOK_of (fun f c h => by
  simp only [env_spec_DrawNextEdition] at h
  split at h
  · cases h; exact con_spec_l1Cur_one
  · cases h; exact con_spec_l1Cur_pick
  · cases h; exact con_spec_l1Cur_anyGloss
  · cases h; exact con_spec_l1Cur_proposals
  · cases h) (fun f c h => by cases h) rfl
theorem con_spec_DrawNextEdition : ConOK Tryz.prog 5 c_spec_DrawNextEdition := con_of_ev' (body := Tryz.f5.body.getD .skip) (Λ := loops_spec_DrawNextEdition) mixed Tryz.func5 (by kernel_rfl) (by kernel_rfl) env_spec_DrawNextEdition_ok (by kernel_rfl) (by kernel_rfl) (fun n L h => by
  unfold loops_spec_DrawNextEdition at h
  split at h
  · cases h; exact fun s o ho => loop_ok (stepF := stepEv env_spec_DrawNextEdition loops_spec_DrawNextEdition pat_spec_DrawNextEdition_0 outs_spec_DrawNextEdition_0 Tryz.f5 4) (step_spec_DrawNextEdition_0_eq) ho
  · cases h; exact fun s o ho => loop_ok (stepF := stepEv env_spec_DrawNextEdition loops_spec_DrawNextEdition pat_spec_DrawNextEdition_1 outs_spec_DrawNextEdition_1 Tryz.f5 15) (step_spec_DrawNextEdition_1_eq) ho
  · cases h) F_spec_DrawNextEdition_eq

noncomputable def F_impl_allOf_string_1 (x : ByteArray × (ByteArray → Option Bool)) : Option (Bool) :=
  match x.2 (x.1) with
  | none => none
  | some y1 =>
    some ((!y1))
noncomputable def c_impl_allOf_string_1 : Con := { ps := [(.val, .str), (.val, (.ptr (.fn .str .bool)))], rs := [(.val, .bool)], F := F_impl_allOf_string_1 }
noncomputable def env_impl_allOf_string_1 : Env := { par := [], dp := false, settle := [], con := fun _ => none, clo := fun _ => none, T := tinf Tryz.prog }
noncomputable def loops_impl_allOf_string_1 : Nat → Option Loop := fun n => none
theorem F_impl_allOf_string_1_eq (x : ByteArray × (ByteArray → Option Bool)) : Fev env_impl_allOf_string_1 loops_impl_allOf_string_1 c_impl_allOf_string_1.ps c_impl_allOf_string_1.rs Tryz.f58 x = F_impl_allOf_string_1 x := by kernel_rfl
theorem env_impl_allOf_string_1_ok : EnvOK Tryz.prog env_impl_allOf_string_1 := envOK_of (fun f c h => by cases h) (fun f c h => by cases h) rfl
theorem con_impl_allOf_string_1 : ConOK Tryz.prog 58 c_impl_allOf_string_1 := con_of_ev' (body := Tryz.f58.body.getD .skip) (Λ := loops_impl_allOf_string_1) mixed Tryz.func58 (by kernel_rfl) (by kernel_rfl) env_impl_allOf_string_1_ok (by kernel_rfl) (by kernel_rfl) (fun n L h => by cases h) F_impl_allOf_string_1_eq

noncomputable def step_slices_IndexFunc_string_string_0 (s : (List ByteArray) × (ByteArray → Option Bool) × Int × Int) : Option (((List ByteArray) × (ByteArray → Option Bool) × Int × Int) ⊕ ((Int) ⊕ (Unit))) :=
  bif (decide (s.2.2.2 < s.2.2.1)) then
    bif decide (0 ≤ s.2.2.2) && decide (s.2.2.2 < (s.1.length : Int)) then
      match s.2.1 ((s.1.getD (s.2.2.2).toNat ByteArray.empty)) with
      | none => none
      | some y3 =>
        bif y3 then
          some (.inr (.inl (s.2.2.2)))
        else
          let v4 := IntKind.i64.wrap (s.2.2.2 + 1)
          some (.inl ((s.1, (s.2.1, s.2.2.1, v4))))
    else none
  else
    some (.inr (.inr (())))
def pat_slices_IndexFunc_string_string_0 : Pat := { tmps := [.v (.slice .str), .v (.fn .str .bool), .any, .any, .any, .any, .any, .v (.int .i64), .v (.int .i64), .any, .any, .any, .any, .any, .any, .any, .any, .any, .any], blks := [] }
def outs_slices_IndexFunc_string_string_0 : List (Exit × Pat) := [(.ret, { tmps := [.any, .any, .any, .any, .v (.int .i64), .any, .any, .any, .any, .any, .any, .any, .any, .any, .any, .any, .any, .any, .any], blks := [] }), (.exit 0, { tmps := [.any, .any, .any, .any, .any, .any, .any, .any, .any, .any, .any, .any, .any, .any, .any, .any, .any, .any, .any], blks := [] })]
noncomputable def F_slices_IndexFunc_string_string (x : (List ByteArray) × (ByteArray → Option Bool)) : Option (Int) :=
  match runL step_slices_IndexFunc_string_string_0 ((x.1, (x.2, (x.1.length : Int), 0))) with
  | none => none
  | some (.inl o5) =>
    some (o5)
  | some (.inr o5) =>
    some ((-1))
noncomputable def c_slices_IndexFunc_string_string : Con := { ps := [(.val, (.slice .str)), (.val, (.fn .str .bool))], rs := [(.val, (.int .i64))], F := F_slices_IndexFunc_string_string }
noncomputable def env_slices_IndexFunc_string_string : Env := { par := [], dp := false, settle := [], con := fun _ => none, clo := fun _ => none, T := tinf Tryz.prog }
noncomputable def loops_slices_IndexFunc_string_string : Nat → Option Loop := fun n => match n with | 2 => some { pat := pat_slices_IndexFunc_string_string_0, outs := outs_slices_IndexFunc_string_string_0, run := runL (step_slices_IndexFunc_string_string_0) } | _ => none
theorem step_slices_IndexFunc_string_string_0_eq (s : (List ByteArray) × (ByteArray → Option Bool) × Int × Int) : stepEv env_slices_IndexFunc_string_string loops_slices_IndexFunc_string_string pat_slices_IndexFunc_string_string_0 outs_slices_IndexFunc_string_string_0 Tryz.f73 2 s = step_slices_IndexFunc_string_string_0 s := by kernel_rfl
theorem F_slices_IndexFunc_string_string_eq (x : (List ByteArray) × (ByteArray → Option Bool)) : Fev env_slices_IndexFunc_string_string loops_slices_IndexFunc_string_string c_slices_IndexFunc_string_string.ps c_slices_IndexFunc_string_string.rs Tryz.f73 x = F_slices_IndexFunc_string_string x := by kernel_rfl
theorem env_slices_IndexFunc_string_string_ok : EnvOK Tryz.prog env_slices_IndexFunc_string_string := envOK_of (fun f c h => by cases h) (fun f c h => by cases h) rfl
theorem con_slices_IndexFunc_string_string : ConOK Tryz.prog 73 c_slices_IndexFunc_string_string := con_of_ev' (body := Tryz.f73.body.getD .skip) (Λ := loops_slices_IndexFunc_string_string) mixed Tryz.func73 (by kernel_rfl) (by kernel_rfl) env_slices_IndexFunc_string_string_ok (by kernel_rfl) (by kernel_rfl) (fun n L h => by
  unfold loops_slices_IndexFunc_string_string at h
  split at h
  · cases h; exact fun s o ho => loop_ok (stepF := stepEv env_slices_IndexFunc_string_string loops_slices_IndexFunc_string_string pat_slices_IndexFunc_string_string_0 outs_slices_IndexFunc_string_string_0 Tryz.f73 2) (step_slices_IndexFunc_string_string_0_eq) ho
  · cases h) F_slices_IndexFunc_string_string_eq

noncomputable def F_slices_ContainsFunc_string_string (x : (List ByteArray) × (ByteArray → Option Bool)) : Option (Bool) :=
  match F_slices_IndexFunc_string_string (x) with
  | none => none
  | some y1 =>
    some ((decide (y1 ≥ 0)))
noncomputable def c_slices_ContainsFunc_string_string : Con := { ps := [(.val, (.slice .str)), (.val, (.fn .str .bool))], rs := [(.val, .bool)], F := F_slices_ContainsFunc_string_string }
noncomputable def env_slices_ContainsFunc_string_string : Env := { par := [], dp := false, settle := [], con := fun f => match f with | 73 => some c_slices_IndexFunc_string_string | _ => none, clo := fun _ => none, T := tinf Tryz.prog }
noncomputable def loops_slices_ContainsFunc_string_string : Nat → Option Loop := fun n => none
theorem F_slices_ContainsFunc_string_string_eq (x : (List ByteArray) × (ByteArray → Option Bool)) : Fev env_slices_ContainsFunc_string_string loops_slices_ContainsFunc_string_string c_slices_ContainsFunc_string_string.ps c_slices_ContainsFunc_string_string.rs Tryz.f57 x = F_slices_ContainsFunc_string_string x := by kernel_rfl
theorem env_slices_ContainsFunc_string_string_ok : EnvOK Tryz.prog env_slices_ContainsFunc_string_string := envOK_of (fun f c h => by
  simp only [env_slices_ContainsFunc_string_string] at h
  split at h
  · cases h; exact con_slices_IndexFunc_string_string
  · cases h) (fun f c h => by cases h) rfl
theorem con_slices_ContainsFunc_string_string : ConOK Tryz.prog 57 c_slices_ContainsFunc_string_string := con_of_ev' (body := Tryz.f57.body.getD .skip) (Λ := loops_slices_ContainsFunc_string_string) mixed Tryz.func57 (by kernel_rfl) (by kernel_rfl) env_slices_ContainsFunc_string_string_ok (by kernel_rfl) (by kernel_rfl) (fun n L h => by cases h) F_slices_ContainsFunc_string_string_eq

noncomputable def K_impl_allOf_string_1 (q : (ByteArray → Option Bool)) (x : ByteArray) : Option (Bool) := F_impl_allOf_string_1 (x, q)
noncomputable def k_impl_allOf_string_1 : CloCon := { caps := [(.fn .str .bool)], a := .str, r := .bool, F := K_impl_allOf_string_1 }
theorem clo_impl_allOf_string_1 : CloOK Tryz.prog 58 k_impl_allOf_string_1 := clo_of_con k_impl_allOf_string_1 F_impl_allOf_string_1 con_impl_allOf_string_1 rfl (fun kx x y h => ⟨y, h, rfl⟩)
noncomputable def F_impl_allOf_string (x : (List ByteArray) × (ByteArray → Option Bool)) : Option (Bool) :=
  match F_slices_ContainsFunc_string_string ((x.1, (K_impl_allOf_string_1 x.2))) with
  | none => none
  | some y1 =>
    some ((!y1))
noncomputable def c_impl_allOf_string : Con := { ps := [(.val, (.slice .str)), (.val, (.fn .str .bool))], rs := [(.val, .bool)], F := F_impl_allOf_string }
noncomputable def env_impl_allOf_string : Env := { par := [], dp := false, settle := [], con := fun f => match f with | 57 => some c_slices_ContainsFunc_string_string | _ => none, clo := fun f => match f with | 58 => some k_impl_allOf_string_1 | _ => none, T := tinf Tryz.prog }
noncomputable def loops_impl_allOf_string : Nat → Option Loop := fun n => none
theorem F_impl_allOf_string_eq (x : (List ByteArray) × (ByteArray → Option Bool)) : Fev env_impl_allOf_string loops_impl_allOf_string c_impl_allOf_string.ps c_impl_allOf_string.rs Tryz.f29 x = F_impl_allOf_string x := by kernel_rfl
theorem env_impl_allOf_string_ok : EnvOK Tryz.prog env_impl_allOf_string := envOK_of (fun f c h => by
  simp only [env_impl_allOf_string] at h
  split at h
  · cases h; exact con_slices_ContainsFunc_string_string
  · cases h) (fun f c h => by
  simp only [env_impl_allOf_string] at h
  split at h
  · cases h; exact clo_impl_allOf_string_1
  · cases h) rfl
theorem con_impl_allOf_string : ConOK Tryz.prog 29 c_impl_allOf_string := con_of_ev' (body := Tryz.f29.body.getD .skip) (Λ := loops_impl_allOf_string) mixed Tryz.func29 (by kernel_rfl) (by kernel_rfl) env_impl_allOf_string_ok (by kernel_rfl) (by kernel_rfl) (fun n L h => by cases h) F_impl_allOf_string_eq

noncomputable def F_impl_within (x : Int × Int × Int) : Option (Bool) :=
  bif (decide (x.1 ≥ x.2.1)) then
    some ((decide (x.1 ≤ x.2.2)))
  else
    some (false)
noncomputable def c_impl_within : Con := { ps := [(.val, (.int .i64)), (.val, (.int .i64)), (.val, (.int .i64))], rs := [(.val, .bool)], F := F_impl_within }
noncomputable def env_impl_within : Env := { par := [], dp := false, settle := [], con := fun _ => none, clo := fun _ => none, T := tinf Tryz.prog }
noncomputable def loops_impl_within : Nat → Option Loop := fun n => none
theorem F_impl_within_eq (x : Int × Int × Int) : Fev env_impl_within loops_impl_within c_impl_within.ps c_impl_within.rs Tryz.f46 x = F_impl_within x := by kernel_rfl
theorem env_impl_within_ok : EnvOK Tryz.prog env_impl_within := envOK_of (fun f c h => by cases h) (fun f c h => by cases h) rfl
theorem con_impl_within : ConOK Tryz.prog 46 c_impl_within := con_of_ev' (body := Tryz.f46.body.getD .skip) (Λ := loops_impl_within) mixed Tryz.func46 (by kernel_rfl) (by kernel_rfl) env_impl_within_ok (by kernel_rfl) (by kernel_rfl) (fun n L h => by cases h) F_impl_within_eq

set_option maxHeartbeats 1000000 in
theorem calls_strings_IndexByte (s : ByteArray) (c : Int) (w : World) :
    Calls Tryz.prog 91 #[.string s, .int .u8 c] w fun e w' => e = .returned (.int .i64 (Lib.indexByte s.data.toList c.toNat.toUInt8)) ∧ w' = w := by
  go_enter Tryz.func91, Tryz.ntmps91
  go_wp2
  rw [run_callFunc_extern Tryz.func110 (by kernel_rfl) (by kernel_rfl) (by kernel_rfl) (e := Extern.BytealgIndexByte.indexByte) (by kernel_rfl), Lib.run_indexByteString]
  simp only [Result.andThen]
  rw [Oper.upon_value]
  go_wp2
  go_ret
  exact ⟨rfl, rfl⟩
def F_strings_IndexByte (x : ByteArray × Int) : Option Int := some (Lib.indexByte x.1.data.toList x.2.toNat.toUInt8)
def c_strings_IndexByte : Con := { ps := [(.val, .str), (.val, .int .u8)], rs := [(.val, .int .i64)], F := F_strings_IndexByte }
theorem con_strings_IndexByte : ConOK Tryz.prog 91 c_strings_IndexByte := con_of_pure ⟨Tryz.f91, Tryz.func91, by kernel_rfl, by kernel_rfl⟩ rfl rfl fun w x y hy _ => by
  have e : y = Lib.indexByte x.1.data.toList x.2.toNat.toUInt8 := (Option.some.inj hy).symm
  subst e
  refine (calls_strings_IndexByte x.1 x.2 w).mono ?_
  rintro e w' ⟨rfl, rfl⟩
  exact ⟨rfl, Fr.refl _ _⟩

noncomputable def step_impl_hasOnly_0 (s : ByteArray × ByteArray × Int × Int) : Option ((ByteArray × ByteArray × Int × Int) ⊕ ((Bool) ⊕ (Unit))) :=
  bif (decide (s.2.2.2 < s.2.2.1)) then
    bif decide (0 ≤ s.2.2.2) && decide (s.2.2.2 < (s.1.size : Int)) then
      match F_strings_IndexByte ((s.2.1, (byteAt s.1 (s.2.2.2).toNat))) with
      | none => none
      | some y3 =>
        bif (decide (y3 < 0)) then
          some (.inr (.inl (false)))
        else
          let v4 := IntKind.i64.wrap (s.2.2.2 + 1)
          some (.inl ((s.1, (s.2.1, s.2.2.1, v4))))
    else none
  else
    some (.inr (.inr (())))
def pat_impl_hasOnly_0 : Pat := { tmps := [.v .str, .v .str, .any, .any, .any, .any, .any, .v (.int .i64), .v (.int .i64), .any, .any, .any, .any, .any, .any, .any, .any, .any], blks := [] }
def outs_impl_hasOnly_0 : List (Exit × Pat) := [(.ret, { tmps := [.any, .any, .any, .any, .v .bool, .any, .any, .any, .any, .any, .any, .any, .any, .any, .any, .any, .any, .any], blks := [] }), (.exit 0, { tmps := [.any, .any, .any, .any, .any, .any, .any, .any, .any, .any, .any, .any, .any, .any, .any, .any, .any, .any], blks := [] })]
noncomputable def F_impl_hasOnly (x : ByteArray × ByteArray) : Option (Bool) :=
  match runL step_impl_hasOnly_0 ((x.1, (x.2, (x.1.size : Int), 0))) with
  | none => none
  | some (.inl o5) =>
    some (o5)
  | some (.inr o5) =>
    some (true)
noncomputable def c_impl_hasOnly : Con := { ps := [(.val, .str), (.val, .str)], rs := [(.val, .bool)], F := F_impl_hasOnly }
noncomputable def env_impl_hasOnly : Env := { par := [], dp := false, settle := [], con := fun f => match f with | 91 => some c_strings_IndexByte | _ => none, clo := fun _ => none, T := tinf Tryz.prog }
noncomputable def loops_impl_hasOnly : Nat → Option Loop := fun n => match n with | 2 => some { pat := pat_impl_hasOnly_0, outs := outs_impl_hasOnly_0, run := runL (step_impl_hasOnly_0) } | _ => none
theorem step_impl_hasOnly_0_eq (s : ByteArray × ByteArray × Int × Int) : stepEv env_impl_hasOnly loops_impl_hasOnly pat_impl_hasOnly_0 outs_impl_hasOnly_0 Tryz.f82 2 s = step_impl_hasOnly_0 s := by kernel_rfl
theorem F_impl_hasOnly_eq (x : ByteArray × ByteArray) : Fev env_impl_hasOnly loops_impl_hasOnly c_impl_hasOnly.ps c_impl_hasOnly.rs Tryz.f82 x = F_impl_hasOnly x := by kernel_rfl
theorem env_impl_hasOnly_ok : EnvOK Tryz.prog env_impl_hasOnly := envOK_of (fun f c h => by
  simp only [env_impl_hasOnly] at h
  split at h
  · cases h; exact con_strings_IndexByte
  · cases h) (fun f c h => by cases h) rfl
theorem con_impl_hasOnly : ConOK Tryz.prog 82 c_impl_hasOnly := con_of_ev' (body := Tryz.f82.body.getD .skip) (Λ := loops_impl_hasOnly) mixed Tryz.func82 (by kernel_rfl) (by kernel_rfl) env_impl_hasOnly_ok (by kernel_rfl) (by kernel_rfl) (fun n L h => by
  unfold loops_impl_hasOnly at h
  split at h
  · cases h; exact fun s o ho => loop_ok (stepF := stepEv env_impl_hasOnly loops_impl_hasOnly pat_impl_hasOnly_0 outs_impl_hasOnly_0 Tryz.f82 2) (step_impl_hasOnly_0_eq) ho
  · cases h) F_impl_hasOnly_eq

noncomputable def F_impl_isWordOf (x : ByteArray × ByteArray) : Option (Bool) :=
  match F_impl_within (((x.1.size : Int), 1, 8)) with
  | none => none
  | some y1 =>
    bif y1 then
      match F_impl_hasOnly (x) with
      | none => none
      | some y2 =>
        some (y2)
    else
      some (false)
noncomputable def c_impl_isWordOf : Con := { ps := [(.val, .str), (.val, .str)], rs := [(.val, .bool)], F := F_impl_isWordOf }
noncomputable def env_impl_isWordOf : Env := { par := [], dp := false, settle := [], con := fun f => match f with | 46 => some c_impl_within | 82 => some c_impl_hasOnly | _ => none, clo := fun _ => none, T := tinf Tryz.prog }
noncomputable def loops_impl_isWordOf : Nat → Option Loop := fun n => none
theorem F_impl_isWordOf_eq (x : ByteArray × ByteArray) : Fev env_impl_isWordOf loops_impl_isWordOf c_impl_isWordOf.ps c_impl_isWordOf.rs Tryz.f59 x = F_impl_isWordOf x := by kernel_rfl
theorem env_impl_isWordOf_ok : EnvOK Tryz.prog env_impl_isWordOf := envOK_of (fun f c h => by
  simp only [env_impl_isWordOf] at h
  split at h
  · cases h; exact con_impl_within
  · cases h; exact con_impl_hasOnly
  · cases h) (fun f c h => by cases h) rfl
theorem con_impl_isWordOf : ConOK Tryz.prog 59 c_impl_isWordOf := con_of_ev' (body := Tryz.f59.body.getD .skip) (Λ := loops_impl_isWordOf) mixed Tryz.func59 (by kernel_rfl) (by kernel_rfl) env_impl_isWordOf_ok (by kernel_rfl) (by kernel_rfl) (fun n L h => by cases h) F_impl_isWordOf_eq

noncomputable def F_impl_IsGloss (x : ByteArray) : Option (Bool) :=
  match F_impl_isWordOf ((x, (⟨#[65, 66, 67, 68, 69, 70, 71, 72, 73, 74, 75, 76, 77, 78, 79, 80, 81, 82, 83, 84, 85, 86, 87, 88, 89, 90]⟩ : ByteArray))) with
  | none => none
  | some y1 =>
    some (y1)
noncomputable def c_impl_IsGloss : Con := { ps := [(.val, .str)], rs := [(.val, .bool)], F := F_impl_IsGloss }
noncomputable def env_impl_IsGloss : Env := { par := [], dp := false, settle := [], con := fun f => match f with | 59 => some c_impl_isWordOf | _ => none, clo := fun _ => none, T := tinf Tryz.prog }
noncomputable def loops_impl_IsGloss : Nat → Option Loop := fun n => none
theorem F_impl_IsGloss_eq (x : ByteArray) : Fev env_impl_IsGloss loops_impl_IsGloss c_impl_IsGloss.ps c_impl_IsGloss.rs Tryz.f30 x = F_impl_IsGloss x := by kernel_rfl
theorem env_impl_IsGloss_ok : EnvOK Tryz.prog env_impl_IsGloss := envOK_of (fun f c h => by
  simp only [env_impl_IsGloss] at h
  split at h
  · cases h; exact con_impl_isWordOf
  · cases h) (fun f c h => by cases h) rfl
theorem con_impl_IsGloss : ConOK Tryz.prog 30 c_impl_IsGloss := con_of_ev' (body := Tryz.f30.body.getD .skip) (Λ := loops_impl_IsGloss) mixed Tryz.func30 (by kernel_rfl) (by kernel_rfl) env_impl_IsGloss_ok (by kernel_rfl) (by kernel_rfl) (fun n L h => by cases h) F_impl_IsGloss_eq

section
open Go.RowKit
theorem nil_slices_Clone_string_string (n c : Nat) (w : World) : Calls Tryz.prog 33 #[.slice none n c] w fun e w' => e = .returned (.slice none 0 0) ∧ w' = w := by
  have q : ∀ (w : World) (a : Option Addr) (n c n' c' : Nat), (binOp .eql 24 (.slice a n c) (.slice none n' c')).run Tryz.prog w = .ok (.bool a.isNone) w := fun w a n c n' c' => Lib.run_eql_slice_nil w _ _ a n c n' c' (show Tryz.prog.underlying 24 = some (.slice 9) by kernel_rfl)
  go_enter Tryz.func33, Tryz.ntmps33
  go_wp2
  go_ret
  exact ⟨rfl, rfl⟩
set_option maxHeartbeats 2000000 in
theorem some_slices_Clone_string_string (ad : Addr) (n c : Nat) (news : List Value) (w : World) (hl : news.length = n * 1) (hc : ∀ j u, news[j]? = some u → w.cell? (ad.add j) = some u) (h1 : ∀ u ∈ news, u.oneCell' = true) (hbig : n * 16 ≤ 140737488355328) :
    Calls Tryz.prog 33 #[.slice (some ad) n c] w fun e w' => ∃ v', e = .returned v' ∧ w'.ownsRow w.heap.size 9 1 v' n news ∧ Below w.heap.size w w' := by
  have q : ∀ (w : World) (a : Option Addr) (n c n' c' : Nat), (binOp .eql 24 (.slice a n c) (.slice none n' c')).run Tryz.prog w = .ok (.bool a.isNone) w := fun w a n c n' c' => Lib.run_eql_slice_nil w _ _ a n c n' c' (show Tryz.prog.underlying 24 = some (.slice 9) by kernel_rfl)
  obtain ⟨i0, hi, hz0, hz1, hz2⟩ := info_parts (P := Tryz.prog) (e := 9) (z := (.string ⟨#[]⟩)) (size := 1) (bytes := 16) (by kernel_rfl)
  have A : Aside (∀ j u, news[j]? = some u → w.cell? (ad.add j) = some u) := hc
  clear hc
  go_enter Tryz.func33, Tryz.ntmps33
  go_wp2_with (at_builtin; refine wpList_append_own _ rfl _ _ 24 rfl w.heap.size 9 i0 (.string ⟨#[]⟩) 1 16 (by kernel_rfl) hi hz0 hz1 hz2 rfl (by decide) _ _ _ rfl (World.ownsRow_made w #[] 0 (Nat.le_refl _) (Nat.zero_le _) rfl) ad n c news rfl ?qc1 ?qc2 ?qc3 ?qc4 ?qc5 ?qc6 ?_)
  case qc1 => exact hl
  case qc2 => exact fun j u hj => Lib.cell?_alloc_some _ (A.out j u hj)
  case qc3 => exact h1
  case qc4 => unfold maxLen; omega
  case qc5 => omega
  case qc6 => simp
  intro v' w1 hown hgrow hnil
  go_wp2
  go_ret
  refine ⟨v', rfl, by simpa using hown, ?_⟩
  exact ((Below.refl _ w).alloc (Nat.le_refl _) _).grown hgrow (by simp) (by intro k hk; simp [Value.ownBlock] at hk; omega)
def F_slices_Clone_string_string (x : List ByteArray) : Option (List ByteArray) := bif decide (x.length * 16 ≤ 140737488355328) then some x else none
noncomputable def c_slices_Clone_string_string : Con := { ps := [(.val, .slice .str)], rs := [(.io true, .slice .str)], F := F_slices_Clone_string_string }
theorem con_slices_Clone_string_string : ConOK Tryz.prog 33 c_slices_Clone_string_string := con_clone ⟨Tryz.f33, Tryz.func33, by kernel_rfl, by kernel_rfl⟩ .str true rfl 16 9 nil_slices_Clone_string_string some_slices_Clone_string_string
end

section
open Go.RowKit Go.Sort
noncomputable def F_slices_Sort_string_string (x : List ByteArray) : Option (List ByteArray) := F_sort (α := List UInt8) .str (fun b => b.data.toList) (fun l => ⟨l.toArray⟩) (fun l => l.mergeSort fun x y => decide (x ≤ y)) x
noncomputable def c_slices_Sort_string_string : Con := { ps := [(.io true, .slice .str)], rs := [], F := F_slices_Sort_string_string }
theorem con_slices_Sort_string_string : ConOK Tryz.prog 60 c_slices_Sort_string_string := con_sort (α := List UInt8) ⟨Tryz.f60, Tryz.func60, by kernel_rfl, by kernel_rfl⟩ .str rfl rfl encStr (fun b => b.data.toList) (fun l => ⟨l.toArray⟩) (by rintro ⟨⟨l⟩⟩; rfl) (fun a => rfl) _ (fun l => by simp)
  (fun A w => (Tryz.slices_Sort_string_none A 0 w).mono (by rintro e w' ⟨rfl, rfl⟩; exact ⟨rfl, Fr.refl _ _⟩)) (fun g cap zs w hH hlt hsz => Tryz.slices_Sort_string g 0 cap zs w hH hlt hsz)
end

noncomputable def step_slices_Compact_string_string_0 (s : Int × Int × Int × Int × (List ByteArray)) : Option ((Int × Int × Int × Int × (List ByteArray)) ⊕ ((Int × (List ByteArray)))) :=
  bif (decide (s.2.2.2.1 < ((s.2.2.1).toNat : Int))) then
    bif decide (0 ≤ s.2.2.2.1) && decide (s.2.2.2.1 < ((s.2.2.1).toNat : Int)) then
      let v21 := IntKind.i64.wrap (s.2.2.2.1 - 1)
      bif decide (0 ≤ v21) && decide (v21 < ((s.2.2.1).toNat : Int)) then
        bif (!((s.2.2.2.2.getD ((s.2.1).toNat + (s.2.2.2.1).toNat) ByteArray.empty).toList == (s.2.2.2.2.getD ((s.2.1).toNat + (v21).toNat) ByteArray.empty).toList)) then
          bif decide (0 ≤ s.2.2.2.1) && decide (s.2.2.2.1 < ((s.2.2.1).toNat : Int)) then
            bif decide (0 ≤ s.1) && decide (s.1 < (s.2.2.2.2.length : Int)) then
              let v22 := s.2.2.2.2.set (s.1).toNat ((s.2.2.2.2.getD ((s.2.1).toNat + (s.2.2.2.1).toNat) ByteArray.empty))
              let v23 := IntKind.i64.wrap (s.1 + 1)
              let v24 := IntKind.i64.wrap (s.2.2.2.1 + 1)
              some (.inl ((v23, (((s.2.1).toNat : Nat) : Int), ((((s.2.2.1).toNat : Nat) : Int), v24, v22))))
            else none
          else none
        else
          let v25 := IntKind.i64.wrap (s.2.2.2.1 + 1)
          some (.inl ((s.1, (((s.2.1).toNat : Nat) : Int), ((((s.2.2.1).toNat : Nat) : Int), v25, s.2.2.2.2))))
      else none
    else none
  else
    some (.inr ((s.1, s.2.2.2.2)))
def pat_slices_Compact_string_string_0 : Pat := { tmps := [.own 62, .any, .any, .v (.int .i64), .sub 62, .v (.int .i64), .any, .any, .any, .any, .any, .any, .any, .any, .any, .any, .any, .any, .any, .any, .any, .any, .any, .any, .any, .any, .any, .any, .any, .any, .any, .any, .any, .any, .any, .any, .any, .any, .any, .any, .any, .any, .any, .any, .any, .any, .any, .any, .any, .any, .any, .any, .any, .any, .any, .any, .any, .any, .any, .any, .any], blks := [(62, .row true .str)] }
def outs_slices_Compact_string_string_0 : List (Exit × Pat) := [(.exit 2, { tmps := [.own 62, .any, .any, .v (.int .i64), .any, .any, .any, .any, .any, .any, .any, .any, .any, .any, .any, .any, .any, .any, .any, .any, .any, .any, .any, .any, .any, .any, .any, .any, .any, .any, .any, .any, .any, .any, .any, .any, .any, .any, .any, .any, .any, .any, .any, .any, .any, .any, .any, .any, .any, .any, .any, .any, .any, .any, .any, .any, .any, .any, .any, .any, .any], blks := [(62, .row true .str)] })]
noncomputable def step_slices_Compact_string_string_1 (s : Int × (List ByteArray)) : Option ((Int × (List ByteArray)) ⊕ ((Int × Int × (List ByteArray)) ⊕ ((List ByteArray)))) :=
  bif (decide (s.1 < (s.2.length : Int))) then
    bif decide (0 ≤ s.1) && decide (s.1 < (s.2.length : Int)) then
      let v15 := IntKind.i64.wrap (s.1 - 1)
      bif decide (0 ≤ v15) && decide (v15 < (s.2.length : Int)) then
        bif ((s.2.getD (s.1).toNat ByteArray.empty).toList == (s.2.getD (v15).toNat ByteArray.empty).toList) then
          bif decide (0 ≤ s.1) && decide (s.1 ≤ (s.2.length : Int)) && decide ((s.2.length : Int) ≤ (s.2.length : Int)) then
            match runL step_slices_Compact_string_string_0 ((s.1, (((s.1).toNat : Nat) : Int), ((((((s.2.length : Int)).toNat - (s.1).toNat) : Nat) : Int), 1, s.2))) with
            | none => none
            | some o26 =>
              bif decide (0 ≤ o26.1) && decide (o26.1 ≤ (o26.2.length : Int)) && decide ((o26.2.length : Int) ≤ (o26.2.length : Int)) then
                bif decide ((o26.1).toNat + (((o26.2.length : Int)).toNat - (o26.1).toNat) ≤ o26.2.length) then
                  let v27 := o26.2.take (o26.1).toNat ++ List.replicate (((o26.2.length : Int)).toNat - (o26.1).toNat) (ByteArray.empty) ++ o26.2.drop ((o26.1).toNat + (((o26.2.length : Int)).toNat - (o26.1).toNat))
                  bif decide (0 ≤ (0 : Int)) && decide ((0 : Int) ≤ o26.1) && decide (o26.1 ≤ (v27.length : Int)) then
                    some (.inr (.inl ((((((0 : Int)).toNat : Nat) : Int), ((((o26.1).toNat - ((0 : Int)).toNat) : Nat) : Int), v27))))
                  else none
                else none
              else none
          else none
        else
          let v28 := IntKind.i64.wrap (s.1 + 1)
          some (.inl ((v28, s.2)))
      else none
    else none
  else
    some (.inr (.inr (s.2)))
def pat_slices_Compact_string_string_1 : Pat := { tmps := [.own 62, .any, .any, .v (.int .i64), .any, .any, .any, .any, .any, .any, .any, .any, .any, .any, .any, .any, .any, .any, .any, .any, .any, .any, .any, .any, .any, .any, .any, .any, .any, .any, .any, .any, .any, .any, .any, .any, .any, .any, .any, .any, .any, .any, .any, .any, .any, .any, .any, .any, .any, .any, .any, .any, .any, .any, .any, .any, .any, .any, .any, .any, .any], blks := [(62, .row true .str)] }
def outs_slices_Compact_string_string_1 : List (Exit × Pat) := [(.ret, { tmps := [.any, .any, .sub 62, .any, .any, .any, .any, .any, .any, .any, .any, .any, .any, .any, .any, .any, .any, .any, .any, .any, .any, .any, .any, .any, .any, .any, .any, .any, .any, .any, .any, .any, .any, .any, .any, .any, .any, .any, .any, .any, .any, .any, .any, .any, .any, .any, .any, .any, .any, .any, .any, .any, .any, .any, .any, .any, .any, .any, .any, .any, .any], blks := [(62, .row true .str)] }), (.exit 0, { tmps := [.own 62, .any, .any, .any, .any, .any, .any, .any, .any, .any, .any, .any, .any, .any, .any, .any, .any, .any, .any, .any, .any, .any, .any, .any, .any, .any, .any, .any, .any, .any, .any, .any, .any, .any, .any, .any, .any, .any, .any, .any, .any, .any, .any, .any, .any, .any, .any, .any, .any, .any, .any, .any, .any, .any, .any, .any, .any, .any, .any, .any, .any], blks := [(62, .row true .str)] })]
noncomputable def F_slices_Compact_string_string (x : (List ByteArray)) : Option ((List ByteArray)) :=
  bif (decide ((x.length : Int) < 2)) then
    some (x)
  else
    match runL step_slices_Compact_string_string_1 ((1, x)) with
    | none => none
    | some (.inl o29) =>
      bif (decide ((o29.1).toNat = 0) && true) then
        some ((o29.2.2.take (o29.2.1).toNat))
      else none
    | some (.inr o29) =>
      some (o29)
noncomputable def c_slices_Compact_string_string : Con := { ps := [(.eat true, (.slice .str))], rs := [(.io true, (.slice .str))], F := F_slices_Compact_string_string }
noncomputable def env_slices_Compact_string_string : Env := { par := [62], dp := false, settle := [], con := fun _ => none, clo := fun _ => none, T := tinf Tryz.prog }
noncomputable def loops_slices_Compact_string_string : Nat → Option Loop := fun n => match n with | 9 => some { pat := pat_slices_Compact_string_string_0, outs := outs_slices_Compact_string_string_0, run := runL (step_slices_Compact_string_string_0) } | 4 => some { pat := pat_slices_Compact_string_string_1, outs := outs_slices_Compact_string_string_1, run := runL (step_slices_Compact_string_string_1) } | _ => none
theorem step_slices_Compact_string_string_0_eq (s : Int × Int × Int × Int × (List ByteArray)) : stepEv env_slices_Compact_string_string loops_slices_Compact_string_string pat_slices_Compact_string_string_0 outs_slices_Compact_string_string_0 Tryz.f61 9 s = step_slices_Compact_string_string_0 s := by kernel_rfl
theorem step_slices_Compact_string_string_1_eq (s : Int × (List ByteArray)) : stepEv env_slices_Compact_string_string loops_slices_Compact_string_string pat_slices_Compact_string_string_1 outs_slices_Compact_string_string_1 Tryz.f61 4 s = step_slices_Compact_string_string_1 s := by kernel_rfl
theorem F_slices_Compact_string_string_eq (x : (List ByteArray)) : Fev env_slices_Compact_string_string loops_slices_Compact_string_string c_slices_Compact_string_string.ps c_slices_Compact_string_string.rs Tryz.f61 x = F_slices_Compact_string_string x := by kernel_rfl
theorem env_slices_Compact_string_string_ok : EnvOK Tryz.prog env_slices_Compact_string_string := envOK_of (fun f c h => by cases h) (fun f c h => by cases h) rfl
theorem con_slices_Compact_string_string : ConOK Tryz.prog 61 c_slices_Compact_string_string := con_of_ev' (body := Tryz.f61.body.getD .skip) (Λ := loops_slices_Compact_string_string) mixed Tryz.func61 (by kernel_rfl) (by kernel_rfl) env_slices_Compact_string_string_ok (by kernel_rfl) (by kernel_rfl) (fun n L h => by
  unfold loops_slices_Compact_string_string at h
  split at h
  · cases h; exact fun s o ho => loop_ok (stepF := stepEv env_slices_Compact_string_string loops_slices_Compact_string_string pat_slices_Compact_string_string_0 outs_slices_Compact_string_string_0 Tryz.f61 9) (step_slices_Compact_string_string_0_eq) ho
  · cases h; exact fun s o ho => loop_ok (stepF := stepEv env_slices_Compact_string_string loops_slices_Compact_string_string pat_slices_Compact_string_string_1 outs_slices_Compact_string_string_1 Tryz.f61 4) (step_slices_Compact_string_string_1_eq) ho
  · cases h) F_slices_Compact_string_string_eq

noncomputable def F_impl_distinct_string (x : (List ByteArray)) : Option ((List ByteArray)) :=
  match F_slices_Clone_string_string (x) with
  | none => none
  | some y1 =>
    match F_slices_Sort_string_string (y1) with
    | none => none
    | some y2 =>
      match F_slices_Compact_string_string (y2) with
      | none => none
      | some y3 =>
        some (y3)
noncomputable def c_impl_distinct_string : Con := { ps := [(.val, (.slice .str))], rs := [(.io true, (.slice .str))], F := F_impl_distinct_string }
noncomputable def env_impl_distinct_string : Env := { par := [], dp := false, settle := [], con := fun f => match f with | 33 => some c_slices_Clone_string_string | 60 => some c_slices_Sort_string_string | 61 => some c_slices_Compact_string_string | _ => none, clo := fun _ => none, T := tinf Tryz.prog }
noncomputable def loops_impl_distinct_string : Nat → Option Loop := fun n => none
theorem F_impl_distinct_string_eq (x : (List ByteArray)) : Fev env_impl_distinct_string loops_impl_distinct_string c_impl_distinct_string.ps c_impl_distinct_string.rs Tryz.f32 x = F_impl_distinct_string x := by kernel_rfl
theorem env_impl_distinct_string_ok : EnvOK Tryz.prog env_impl_distinct_string := envOK_of (fun f c h => by
  simp only [env_impl_distinct_string] at h
  split at h
  · cases h; exact con_slices_Clone_string_string
  · cases h; exact con_slices_Sort_string_string
  · cases h; exact con_slices_Compact_string_string
  · cases h) (fun f c h => by cases h) rfl
theorem con_impl_distinct_string : ConOK Tryz.prog 32 c_impl_distinct_string := con_of_ev' (body := Tryz.f32.body.getD .skip) (Λ := loops_impl_distinct_string) mixed Tryz.func32 (by kernel_rfl) (by kernel_rfl) env_impl_distinct_string_ok (by kernel_rfl) (by kernel_rfl) (fun n L h => by cases h) F_impl_distinct_string_eq

noncomputable def step_slices_Equal_string_string_0 (s : (List ByteArray) × (List ByteArray) × Int × Int) : Option (((List ByteArray) × (List ByteArray) × Int × Int) ⊕ ((Bool) ⊕ (Unit))) :=
  bif (decide (s.2.2.2 < s.2.2.1)) then
    bif decide (0 ≤ s.2.2.2) && decide (s.2.2.2 < (s.1.length : Int)) then
      bif decide (0 ≤ s.2.2.2) && decide (s.2.2.2 < (s.2.1.length : Int)) then
        bif (!((s.1.getD (s.2.2.2).toNat ByteArray.empty).toList == (s.2.1.getD (s.2.2.2).toNat ByteArray.empty).toList)) then
          some (.inr (.inl (false)))
        else
          let v2 := IntKind.i64.wrap (s.2.2.2 + 1)
          some (.inl ((s.1, (s.2.1, s.2.2.1, v2))))
      else none
    else none
  else
    some (.inr (.inr (())))
def pat_slices_Equal_string_string_0 : Pat := { tmps := [.v (.slice .str), .v (.slice .str), .any, .any, .any, .any, .any, .any, .any, .any, .any, .any, .v (.int .i64), .v (.int .i64), .any, .any, .any, .any, .any, .any, .any, .any, .any, .any, .any, .any], blks := [] }
def outs_slices_Equal_string_string_0 : List (Exit × Pat) := [(.ret, { tmps := [.any, .any, .any, .any, .v .bool, .any, .any, .any, .any, .any, .any, .any, .any, .any, .any, .any, .any, .any, .any, .any, .any, .any, .any, .any, .any, .any], blks := [] }), (.exit 0, { tmps := [.any, .any, .any, .any, .any, .any, .any, .any, .any, .any, .any, .any, .any, .any, .any, .any, .any, .any, .any, .any, .any, .any, .any, .any, .any, .any], blks := [] })]
noncomputable def F_slices_Equal_string_string (x : (List ByteArray) × (List ByteArray)) : Option (Bool) :=
  bif (((x.1.length : Int) != (x.2.length : Int))) then
    some (false)
  else
    match runL step_slices_Equal_string_string_0 ((x.1, (x.2, (x.1.length : Int), 0))) with
    | none => none
    | some (.inl o3) =>
      some (o3)
    | some (.inr o3) =>
      some (true)
noncomputable def c_slices_Equal_string_string : Con := { ps := [(.val, (.slice .str)), (.val, (.slice .str))], rs := [(.val, .bool)], F := F_slices_Equal_string_string }
noncomputable def env_slices_Equal_string_string : Env := { par := [], dp := false, settle := [], con := fun _ => none, clo := fun _ => none, T := tinf Tryz.prog }
noncomputable def loops_slices_Equal_string_string : Nat → Option Loop := fun n => match n with | 4 => some { pat := pat_slices_Equal_string_string_0, outs := outs_slices_Equal_string_string_0, run := runL (step_slices_Equal_string_string_0) } | _ => none
theorem step_slices_Equal_string_string_0_eq (s : (List ByteArray) × (List ByteArray) × Int × Int) : stepEv env_slices_Equal_string_string loops_slices_Equal_string_string pat_slices_Equal_string_string_0 outs_slices_Equal_string_string_0 Tryz.f31 4 s = step_slices_Equal_string_string_0 s := by kernel_rfl
theorem F_slices_Equal_string_string_eq (x : (List ByteArray) × (List ByteArray)) : Fev env_slices_Equal_string_string loops_slices_Equal_string_string c_slices_Equal_string_string.ps c_slices_Equal_string_string.rs Tryz.f31 x = F_slices_Equal_string_string x := by kernel_rfl
theorem env_slices_Equal_string_string_ok : EnvOK Tryz.prog env_slices_Equal_string_string := envOK_of (fun f c h => by cases h) (fun f c h => by cases h) rfl
theorem con_slices_Equal_string_string : ConOK Tryz.prog 31 c_slices_Equal_string_string := con_of_ev' (body := Tryz.f31.body.getD .skip) (Λ := loops_slices_Equal_string_string) mixed Tryz.func31 (by kernel_rfl) (by kernel_rfl) env_slices_Equal_string_string_ok (by kernel_rfl) (by kernel_rfl) (fun n L h => by
  unfold loops_slices_Equal_string_string at h
  split at h
  · cases h; exact fun s o ho => loop_ok (stepF := stepEv env_slices_Equal_string_string loops_slices_Equal_string_string pat_slices_Equal_string_string_0 outs_slices_Equal_string_string_0 Tryz.f31 4) (step_slices_Equal_string_string_0_eq) ho
  · cases h) F_slices_Equal_string_string_eq

noncomputable def F_impl_allWithin_1 (x : Int × Int × Int) : Option (Bool) :=
  match F_impl_within (x) with
  | none => none
  | some y1 =>
    some ((!y1))
noncomputable def c_impl_allWithin_1 : Con := { ps := [(.val, (.int .i64)), (.val, (.ptr (.int .i64))), (.val, (.ptr (.int .i64)))], rs := [(.val, .bool)], F := F_impl_allWithin_1 }
noncomputable def env_impl_allWithin_1 : Env := { par := [], dp := false, settle := [], con := fun f => match f with | 46 => some c_impl_within | _ => none, clo := fun _ => none, T := tinf Tryz.prog }
noncomputable def loops_impl_allWithin_1 : Nat → Option Loop := fun n => none
theorem F_impl_allWithin_1_eq (x : Int × Int × Int) : Fev env_impl_allWithin_1 loops_impl_allWithin_1 c_impl_allWithin_1.ps c_impl_allWithin_1.rs Tryz.f90 x = F_impl_allWithin_1 x := by kernel_rfl
theorem env_impl_allWithin_1_ok : EnvOK Tryz.prog env_impl_allWithin_1 := envOK_of (fun f c h => by
  simp only [env_impl_allWithin_1] at h
  split at h
  · cases h; exact con_impl_within
  · cases h) (fun f c h => by cases h) rfl
theorem con_impl_allWithin_1 : ConOK Tryz.prog 90 c_impl_allWithin_1 := con_of_ev' (body := Tryz.f90.body.getD .skip) (Λ := loops_impl_allWithin_1) mixed Tryz.func90 (by kernel_rfl) (by kernel_rfl) env_impl_allWithin_1_ok (by kernel_rfl) (by kernel_rfl) (fun n L h => by cases h) F_impl_allWithin_1_eq

noncomputable def step_slices_IndexFunc_int_int_0 (s : (List Int) × (Int → Option Bool) × Int × Int) : Option (((List Int) × (Int → Option Bool) × Int × Int) ⊕ ((Int) ⊕ (Unit))) :=
  bif (decide (s.2.2.2 < s.2.2.1)) then
    bif decide (0 ≤ s.2.2.2) && decide (s.2.2.2 < (s.1.length : Int)) then
      match s.2.1 ((s.1.getD (s.2.2.2).toNat 0)) with
      | none => none
      | some y3 =>
        bif y3 then
          some (.inr (.inl (s.2.2.2)))
        else
          let v4 := IntKind.i64.wrap (s.2.2.2 + 1)
          some (.inl ((s.1, (s.2.1, s.2.2.1, v4))))
    else none
  else
    some (.inr (.inr (())))
def pat_slices_IndexFunc_int_int_0 : Pat := { tmps := [.v (.slice (.int .i64)), .v (.fn (.int .i64) .bool), .any, .any, .any, .any, .any, .v (.int .i64), .v (.int .i64), .any, .any, .any, .any, .any, .any, .any, .any, .any, .any], blks := [] }
def outs_slices_IndexFunc_int_int_0 : List (Exit × Pat) := [(.ret, { tmps := [.any, .any, .any, .any, .v (.int .i64), .any, .any, .any, .any, .any, .any, .any, .any, .any, .any, .any, .any, .any, .any], blks := [] }), (.exit 0, { tmps := [.any, .any, .any, .any, .any, .any, .any, .any, .any, .any, .any, .any, .any, .any, .any, .any, .any, .any, .any], blks := [] })]
noncomputable def F_slices_IndexFunc_int_int (x : (List Int) × (Int → Option Bool)) : Option (Int) :=
  match runL step_slices_IndexFunc_int_int_0 ((x.1, (x.2, (x.1.length : Int), 0))) with
  | none => none
  | some (.inl o5) =>
    some (o5)
  | some (.inr o5) =>
    some ((-1))
noncomputable def c_slices_IndexFunc_int_int : Con := { ps := [(.val, (.slice (.int .i64))), (.val, (.fn (.int .i64) .bool))], rs := [(.val, (.int .i64))], F := F_slices_IndexFunc_int_int }
noncomputable def env_slices_IndexFunc_int_int : Env := { par := [], dp := false, settle := [], con := fun _ => none, clo := fun _ => none, T := tinf Tryz.prog }
noncomputable def loops_slices_IndexFunc_int_int : Nat → Option Loop := fun n => match n with | 2 => some { pat := pat_slices_IndexFunc_int_int_0, outs := outs_slices_IndexFunc_int_int_0, run := runL (step_slices_IndexFunc_int_int_0) } | _ => none
theorem step_slices_IndexFunc_int_int_0_eq (s : (List Int) × (Int → Option Bool) × Int × Int) : stepEv env_slices_IndexFunc_int_int loops_slices_IndexFunc_int_int pat_slices_IndexFunc_int_int_0 outs_slices_IndexFunc_int_int_0 Tryz.f103 2 s = step_slices_IndexFunc_int_int_0 s := by kernel_rfl
theorem F_slices_IndexFunc_int_int_eq (x : (List Int) × (Int → Option Bool)) : Fev env_slices_IndexFunc_int_int loops_slices_IndexFunc_int_int c_slices_IndexFunc_int_int.ps c_slices_IndexFunc_int_int.rs Tryz.f103 x = F_slices_IndexFunc_int_int x := by kernel_rfl
theorem env_slices_IndexFunc_int_int_ok : EnvOK Tryz.prog env_slices_IndexFunc_int_int := envOK_of (fun f c h => by cases h) (fun f c h => by cases h) rfl
theorem con_slices_IndexFunc_int_int : ConOK Tryz.prog 103 c_slices_IndexFunc_int_int := con_of_ev' (body := Tryz.f103.body.getD .skip) (Λ := loops_slices_IndexFunc_int_int) mixed Tryz.func103 (by kernel_rfl) (by kernel_rfl) env_slices_IndexFunc_int_int_ok (by kernel_rfl) (by kernel_rfl) (fun n L h => by
  unfold loops_slices_IndexFunc_int_int at h
  split at h
  · cases h; exact fun s o ho => loop_ok (stepF := stepEv env_slices_IndexFunc_int_int loops_slices_IndexFunc_int_int pat_slices_IndexFunc_int_int_0 outs_slices_IndexFunc_int_int_0 Tryz.f103 2) (step_slices_IndexFunc_int_int_0_eq) ho
  · cases h) F_slices_IndexFunc_int_int_eq

noncomputable def F_slices_ContainsFunc_int_int (x : (List Int) × (Int → Option Bool)) : Option (Bool) :=
  match F_slices_IndexFunc_int_int (x) with
  | none => none
  | some y1 =>
    some ((decide (y1 ≥ 0)))
noncomputable def c_slices_ContainsFunc_int_int : Con := { ps := [(.val, (.slice (.int .i64))), (.val, (.fn (.int .i64) .bool))], rs := [(.val, .bool)], F := F_slices_ContainsFunc_int_int }
noncomputable def env_slices_ContainsFunc_int_int : Env := { par := [], dp := false, settle := [], con := fun f => match f with | 103 => some c_slices_IndexFunc_int_int | _ => none, clo := fun _ => none, T := tinf Tryz.prog }
noncomputable def loops_slices_ContainsFunc_int_int : Nat → Option Loop := fun n => none
theorem F_slices_ContainsFunc_int_int_eq (x : (List Int) × (Int → Option Bool)) : Fev env_slices_ContainsFunc_int_int loops_slices_ContainsFunc_int_int c_slices_ContainsFunc_int_int.ps c_slices_ContainsFunc_int_int.rs Tryz.f89 x = F_slices_ContainsFunc_int_int x := by kernel_rfl
theorem env_slices_ContainsFunc_int_int_ok : EnvOK Tryz.prog env_slices_ContainsFunc_int_int := envOK_of (fun f c h => by
  simp only [env_slices_ContainsFunc_int_int] at h
  split at h
  · cases h; exact con_slices_IndexFunc_int_int
  · cases h) (fun f c h => by cases h) rfl
theorem con_slices_ContainsFunc_int_int : ConOK Tryz.prog 89 c_slices_ContainsFunc_int_int := con_of_ev' (body := Tryz.f89.body.getD .skip) (Λ := loops_slices_ContainsFunc_int_int) mixed Tryz.func89 (by kernel_rfl) (by kernel_rfl) env_slices_ContainsFunc_int_int_ok (by kernel_rfl) (by kernel_rfl) (fun n L h => by cases h) F_slices_ContainsFunc_int_int_eq

noncomputable def K_impl_allWithin_1 (q : Int × Int) (x : Int) : Option (Bool) := F_impl_allWithin_1 (x, q)
noncomputable def k_impl_allWithin_1 : CloCon := { caps := [(.int .i64), (.int .i64)], a := (.int .i64), r := .bool, F := K_impl_allWithin_1 }
theorem clo_impl_allWithin_1 : CloOK Tryz.prog 90 k_impl_allWithin_1 := clo_of_con k_impl_allWithin_1 F_impl_allWithin_1 con_impl_allWithin_1 rfl (fun kx x y h => ⟨y, h, rfl⟩)
noncomputable def F_impl_allWithin (x : (List Int) × Int × Int) : Option (Bool) :=
  match F_slices_ContainsFunc_int_int ((x.1, (K_impl_allWithin_1 x.2))) with
  | none => none
  | some y1 =>
    some ((!y1))
noncomputable def c_impl_allWithin : Con := { ps := [(.val, (.slice (.int .i64))), (.val, (.int .i64)), (.val, (.int .i64))], rs := [(.val, .bool)], F := F_impl_allWithin }
noncomputable def env_impl_allWithin : Env := { par := [], dp := false, settle := [], con := fun f => match f with | 89 => some c_slices_ContainsFunc_int_int | _ => none, clo := fun f => match f with | 90 => some k_impl_allWithin_1 | _ => none, T := tinf Tryz.prog }
noncomputable def loops_impl_allWithin : Nat → Option Loop := fun n => none
theorem F_impl_allWithin_eq (x : (List Int) × Int × Int) : Fev env_impl_allWithin loops_impl_allWithin c_impl_allWithin.ps c_impl_allWithin.rs Tryz.f75 x = F_impl_allWithin x := by kernel_rfl
theorem env_impl_allWithin_ok : EnvOK Tryz.prog env_impl_allWithin := envOK_of (fun f c h => by
  simp only [env_impl_allWithin] at h
  split at h
  · cases h; exact con_slices_ContainsFunc_int_int
  · cases h) (fun f c h => by
  simp only [env_impl_allWithin] at h
  split at h
  · cases h; exact clo_impl_allWithin_1
  · cases h) rfl
theorem con_impl_allWithin : ConOK Tryz.prog 75 c_impl_allWithin := con_of_ev' (body := Tryz.f75.body.getD .skip) (Λ := loops_impl_allWithin) mixed Tryz.func75 (by kernel_rfl) (by kernel_rfl) env_impl_allWithin_ok (by kernel_rfl) (by kernel_rfl) (fun n L h => by cases h) F_impl_allWithin_eq

noncomputable def F_impl_isProposal (x : (Int × (Int × (ByteArray × (List Int))))) : Option (Bool) :=
  match F_impl_within ((x.1, 1, 999)) with
  | none => none
  | some y1 =>
    bif y1 then
      match F_impl_within ((x.2.1, 0, 1)) with
      | none => none
      | some y2 =>
        bif y2 then
          match F_impl_IsGloss (x.2.2.1) with
          | none => none
          | some y3 =>
            bif y3 then
              bif (decide ((x.2.2.2.length : Int) ≤ 7)) then
                match F_impl_allWithin ((x.2.2.2, (-1), 1)) with
                | none => none
                | some y4 =>
                  some (y4)
              else
                some (false)
            else
              some (false)
        else
          some (false)
    else
      some (false)
noncomputable def c_impl_isProposal : Con := { ps := [(.val, (.st (.pair (.int .i64) (.pair (.int .i64) (.pair .str (.slice (.int .i64)))))))], rs := [(.val, .bool)], F := F_impl_isProposal }
noncomputable def env_impl_isProposal : Env := { par := [], dp := false, settle := [], con := fun f => match f with | 30 => some c_impl_IsGloss | 46 => some c_impl_within | 75 => some c_impl_allWithin | _ => none, clo := fun _ => none, T := tinf Tryz.prog }
noncomputable def loops_impl_isProposal : Nat → Option Loop := fun n => none
theorem F_impl_isProposal_eq (x : (Int × (Int × (ByteArray × (List Int))))) : Fev env_impl_isProposal loops_impl_isProposal c_impl_isProposal.ps c_impl_isProposal.rs Tryz.f45 x = F_impl_isProposal x := by kernel_rfl
theorem env_impl_isProposal_ok : EnvOK Tryz.prog env_impl_isProposal := envOK_of (fun f c h => by
  simp only [env_impl_isProposal] at h
  split at h
  · cases h; exact con_impl_IsGloss
  · cases h; exact con_impl_within
  · cases h; exact con_impl_allWithin
  · cases h) (fun f c h => by cases h) rfl
theorem con_impl_isProposal : ConOK Tryz.prog 45 c_impl_isProposal := con_of_ev' (body := Tryz.f45.body.getD .skip) (Λ := loops_impl_isProposal) mixed Tryz.func45 (by kernel_rfl) (by kernel_rfl) env_impl_isProposal_ok (by kernel_rfl) (by kernel_rfl) (fun n L h => by cases h) F_impl_isProposal_eq

noncomputable def step_impl_AreProposals_0 (s : (List (Int × (Int × (ByteArray × (List Int))))) × Int × (List (Int × (Int × (ByteArray × (List Int))))) × Int × Int) : Option (((List (Int × (Int × (ByteArray × (List Int))))) × Int × (List (Int × (Int × (ByteArray × (List Int))))) × Int × Int) ⊕ ((Bool) ⊕ ((List (Int × (Int × (ByteArray × (List Int))))) × Int))) :=
  bif (decide (s.2.2.2.2 < s.2.2.2.1)) then
    bif decide (0 ≤ s.2.2.2.2) && decide (s.2.2.2.2 < (s.2.2.1.length : Int)) then
      match F_impl_isProposal ((s.2.2.1.getD (s.2.2.2.2).toNat (0, (0, ByteArray.empty, [])))) with
      | none => none
      | some y5 =>
        bif (!y5) then
          some (.inr (.inl (false)))
        else
          bif ((((s.2.2.1.getD (s.2.2.2.2).toNat (0, (0, ByteArray.empty, []))).2.2.2.length : Int) != s.2.1)) then
            some (.inr (.inl (false)))
          else
            bif (decide (s.2.2.2.2 > 0)) then
              let v6 := IntKind.i64.wrap (s.2.2.2.2 - 1)
              bif decide (0 ≤ v6) && decide (v6 < (s.1.length : Int)) then
                bif (decide ((s.2.2.1.getD (s.2.2.2.2).toNat (0, (0, ByteArray.empty, []))).1 ≤ (s.1.getD (v6).toNat (0, (0, ByteArray.empty, []))).1)) then
                  some (.inr (.inl (false)))
                else
                  let v7 := IntKind.i64.wrap (s.2.2.2.2 + 1)
                  some (.inl ((s.1, s.2.1, (s.2.2.1, s.2.2.2.1, v7))))
              else none
            else
              let v8 := IntKind.i64.wrap (s.2.2.2.2 + 1)
              some (.inl ((s.1, s.2.1, (s.2.2.1, s.2.2.2.1, v8))))
    else none
  else
    some (.inr (.inr ((s.1, s.2.1))))
def pat_impl_AreProposals_0 : Pat := { tmps := [.v (.slice (.st (.pair (.int .i64) (.pair (.int .i64) (.pair .str (.slice (.int .i64))))))), .v (.int .i64), .any, .any, .any, .any, .any, .v (.slice (.st (.pair (.int .i64) (.pair (.int .i64) (.pair .str (.slice (.int .i64))))))), .v (.int .i64), .v (.int .i64), .any, .any, .any, .any, .any, .any, .any, .any, .any, .any, .any, .any, .any, .any, .any, .any, .any, .any, .any, .any, .any, .any, .any, .any, .any, .any, .any, .any, .any, .any, .any, .any, .any, .any, .any, .any, .any], blks := [] }
def outs_impl_AreProposals_0 : List (Exit × Pat) := [(.ret, { tmps := [.any, .any, .any, .any, .v .bool, .any, .any, .any, .any, .any, .any, .any, .any, .any, .any, .any, .any, .any, .any, .any, .any, .any, .any, .any, .any, .any, .any, .any, .any, .any, .any, .any, .any, .any, .any, .any, .any, .any, .any, .any, .any, .any, .any, .any, .any, .any, .any], blks := [] }), (.exit 0, { tmps := [.v (.slice (.st (.pair (.int .i64) (.pair (.int .i64) (.pair .str (.slice (.int .i64))))))), .v (.int .i64), .any, .any, .any, .any, .any, .any, .any, .any, .any, .any, .any, .any, .any, .any, .any, .any, .any, .any, .any, .any, .any, .any, .any, .any, .any, .any, .any, .any, .any, .any, .any, .any, .any, .any, .any, .any, .any, .any, .any, .any, .any, .any, .any, .any, .any], blks := [] })]
noncomputable def F_impl_AreProposals (x : (List (Int × (Int × (ByteArray × (List Int))))) × Int) : Option (Bool) :=
  match runL step_impl_AreProposals_0 ((x.1, x.2, (x.1, (x.1.length : Int), 0))) with
  | none => none
  | some (.inl o9) =>
    some (o9)
  | some (.inr o9) =>
    match F_impl_within ((o9.2, 1, 7)) with
    | none => none
    | some y10 =>
      bif y10 then
        some ((decide ((o9.1.length : Int) ≤ 12)))
      else
        some (false)
noncomputable def c_impl_AreProposals : Con := { ps := [(.val, (.slice (.st (.pair (.int .i64) (.pair (.int .i64) (.pair .str (.slice (.int .i64)))))))), (.val, (.int .i64))], rs := [(.val, .bool)], F := F_impl_AreProposals }
noncomputable def env_impl_AreProposals : Env := { par := [], dp := false, settle := [], con := fun f => match f with | 45 => some c_impl_isProposal | 46 => some c_impl_within | _ => none, clo := fun _ => none, T := tinf Tryz.prog }
noncomputable def loops_impl_AreProposals : Nat → Option Loop := fun n => match n with | 2 => some { pat := pat_impl_AreProposals_0, outs := outs_impl_AreProposals_0, run := runL (step_impl_AreProposals_0) } | _ => none
theorem step_impl_AreProposals_0_eq (s : (List (Int × (Int × (ByteArray × (List Int))))) × Int × (List (Int × (Int × (ByteArray × (List Int))))) × Int × Int) : stepEv env_impl_AreProposals loops_impl_AreProposals pat_impl_AreProposals_0 outs_impl_AreProposals_0 Tryz.f14 2 s = step_impl_AreProposals_0 s := by kernel_rfl
theorem F_impl_AreProposals_eq (x : (List (Int × (Int × (ByteArray × (List Int))))) × Int) : Fev env_impl_AreProposals loops_impl_AreProposals c_impl_AreProposals.ps c_impl_AreProposals.rs Tryz.f14 x = F_impl_AreProposals x := by kernel_rfl
theorem env_impl_AreProposals_ok : EnvOK Tryz.prog env_impl_AreProposals := envOK_of (fun f c h => by
  simp only [env_impl_AreProposals] at h
  split at h
  · cases h; exact con_impl_isProposal
  · cases h; exact con_impl_within
  · cases h) (fun f c h => by cases h) rfl
theorem con_impl_AreProposals : ConOK Tryz.prog 14 c_impl_AreProposals := con_of_ev' (body := Tryz.f14.body.getD .skip) (Λ := loops_impl_AreProposals) mixed Tryz.func14 (by kernel_rfl) (by kernel_rfl) env_impl_AreProposals_ok (by kernel_rfl) (by kernel_rfl) (fun n L h => by
  unfold loops_impl_AreProposals at h
  split at h
  · cases h; exact fun s o ho => loop_ok (stepF := stepEv env_impl_AreProposals loops_impl_AreProposals pat_impl_AreProposals_0 outs_impl_AreProposals_0 Tryz.f14 2) (step_impl_AreProposals_0_eq) ho
  · cases h) F_impl_AreProposals_eq

noncomputable def step_impl_those_int_0 (s : (Int → Option Bool) × (List Int) × Int × Int × (List Int)) : Option (((Int → Option Bool) × (List Int) × Int × Int × (List Int)) ⊕ (((List Int)))) :=
  bif (decide (s.2.2.2.1 < s.2.2.1)) then
    bif decide (0 ≤ s.2.2.2.1) && decide (s.2.2.2.1 < (s.2.1.length : Int)) then
      match s.1 ((s.2.1.getD (s.2.2.2.1).toNat 0)) with
      | none => none
      | some y8 =>
        bif y8 then
          bif decide ((s.2.2.2.2.length + [s.2.2.2.1].length) * 8 ≤ 140737488355328) then
            let v9 := s.2.2.2.2 ++ [s.2.2.2.1]
            let v10 := IntKind.i64.wrap (s.2.2.2.1 + 1)
            some (.inl ((s.1, s.2.1, (s.2.2.1, v10, v9))))
          else none
        else
          let v11 := IntKind.i64.wrap (s.2.2.2.1 + 1)
          some (.inl ((s.1, s.2.1, (s.2.2.1, v11, s.2.2.2.2))))
    else none
  else
    some (.inr (s.2.2.2.2))
def pat_impl_those_int_0 : Pat := { tmps := [.any, .v (.fn (.int .i64) .bool), .any, .any, .any, .own 1344, .any, .any, .v (.slice (.int .i64)), .v (.int .i64), .v (.int .i64), .any, .any, .any, .any, .any, .any, .any, .any, .any, .any, .any, .any, .any], blks := [(1344, .row true (.int .i64))] }
def outs_impl_those_int_0 : List (Exit × Pat) := [(.exit 0, { tmps := [.any, .any, .any, .any, .any, .own 1344, .any, .any, .any, .any, .any, .any, .any, .any, .any, .any, .any, .any, .any, .any, .any, .any, .any, .any], blks := [(1344, .row true (.int .i64))] })]
noncomputable def F_impl_those_int (x : (List Int) × (Int → Option Bool)) : Option ((List Int)) :=
  match runL step_impl_those_int_0 ((x.2, x.1, ((x.1.length : Int), 0, []))) with
  | none => none
  | some o12 =>
    some (o12)
noncomputable def c_impl_those_int : Con := { ps := [(.val, (.slice (.int .i64))), (.val, (.fn (.int .i64) .bool))], rs := [(.io true, (.slice (.int .i64)))], F := F_impl_those_int }
noncomputable def env_impl_those_int : Env := { par := [], dp := false, settle := [], con := fun _ => none, clo := fun _ => none, T := tinf Tryz.prog }
noncomputable def loops_impl_those_int : Nat → Option Loop := fun n => match n with | 3 => some { pat := pat_impl_those_int_0, outs := outs_impl_those_int_0, run := runL (step_impl_those_int_0) } | _ => none
theorem step_impl_those_int_0_eq (s : (Int → Option Bool) × (List Int) × Int × Int × (List Int)) : stepEv env_impl_those_int loops_impl_those_int pat_impl_those_int_0 outs_impl_those_int_0 Tryz.f62 3 s = step_impl_those_int_0 s := by kernel_rfl
theorem F_impl_those_int_eq (x : (List Int) × (Int → Option Bool)) : Fev env_impl_those_int loops_impl_those_int c_impl_those_int.ps c_impl_those_int.rs Tryz.f62 x = F_impl_those_int x := by kernel_rfl
theorem env_impl_those_int_ok : EnvOK Tryz.prog env_impl_those_int := envOK_of (fun f c h => by cases h) (fun f c h => by cases h) rfl
theorem con_impl_those_int : ConOK Tryz.prog 62 c_impl_those_int := con_of_ev' (body := Tryz.f62.body.getD .skip) (Λ := loops_impl_those_int) mixed Tryz.func62 (by kernel_rfl) (by kernel_rfl) env_impl_those_int_ok (by kernel_rfl) (by kernel_rfl) (fun n L h => by
  unfold loops_impl_those_int at h
  split at h
  · cases h; exact fun s o ho => loop_ok (stepF := stepEv env_impl_those_int loops_impl_those_int pat_impl_those_int_0 outs_impl_those_int_0 Tryz.f62 3) (step_impl_those_int_0_eq) ho
  · cases h) F_impl_those_int_eq

noncomputable def F_impl_Proposal_passed_1 (x : Int) : Option (Bool) :=
  some (((x != 0)))
noncomputable def c_impl_Proposal_passed_1 : Con := { ps := [(.val, (.int .i64))], rs := [(.val, .bool)], F := F_impl_Proposal_passed_1 }
noncomputable def env_impl_Proposal_passed_1 : Env := { par := [], dp := false, settle := [], con := fun _ => none, clo := fun _ => none, T := tinf Tryz.prog }
noncomputable def loops_impl_Proposal_passed_1 : Nat → Option Loop := fun n => none
theorem F_impl_Proposal_passed_1_eq (x : Int) : Fev env_impl_Proposal_passed_1 loops_impl_Proposal_passed_1 c_impl_Proposal_passed_1.ps c_impl_Proposal_passed_1.rs Tryz.f63 x = F_impl_Proposal_passed_1 x := by kernel_rfl
theorem env_impl_Proposal_passed_1_ok : EnvOK Tryz.prog env_impl_Proposal_passed_1 := envOK_of (fun f c h => by cases h) (fun f c h => by cases h) rfl
theorem con_impl_Proposal_passed_1 : ConOK Tryz.prog 63 c_impl_Proposal_passed_1 := con_of_ev' (body := Tryz.f63.body.getD .skip) (Λ := loops_impl_Proposal_passed_1) mixed Tryz.func63 (by kernel_rfl) (by kernel_rfl) env_impl_Proposal_passed_1_ok (by kernel_rfl) (by kernel_rfl) (fun n L h => by cases h) F_impl_Proposal_passed_1_eq

noncomputable def step_impl_sumOf_0 (s : Int × (List Int) × Int × Int) : Option ((Int × (List Int) × Int × Int) ⊕ ((Int))) :=
  bif (decide (s.2.2.2 < s.2.2.1)) then
    bif decide (0 ≤ s.2.2.2) && decide (s.2.2.2 < (s.2.1.length : Int)) then
      let v3 := IntKind.i64.wrap (s.1 + (s.2.1.getD (s.2.2.2).toNat 0))
      let v4 := IntKind.i64.wrap (s.2.2.2 + 1)
      some (.inl ((v3, (s.2.1, s.2.2.1, v4))))
    else none
  else
    some (.inr (s.1))
def pat_impl_sumOf_0 : Pat := { tmps := [.any, .any, .any, .v (.int .i64), .any, .any, .v (.slice (.int .i64)), .v (.int .i64), .v (.int .i64), .any, .any, .any, .any, .any, .any, .any, .any], blks := [] }
def outs_impl_sumOf_0 : List (Exit × Pat) := [(.exit 0, { tmps := [.any, .any, .any, .v (.int .i64), .any, .any, .any, .any, .any, .any, .any, .any, .any, .any, .any, .any, .any], blks := [] })]
noncomputable def F_impl_sumOf (x : (List Int)) : Option (Int) :=
  match runL step_impl_sumOf_0 ((0, (x, (x.length : Int), 0))) with
  | none => none
  | some o5 =>
    some (o5)
noncomputable def c_impl_sumOf : Con := { ps := [(.val, (.slice (.int .i64)))], rs := [(.val, (.int .i64))], F := F_impl_sumOf }
noncomputable def env_impl_sumOf : Env := { par := [], dp := false, settle := [], con := fun _ => none, clo := fun _ => none, T := tinf Tryz.prog }
noncomputable def loops_impl_sumOf : Nat → Option Loop := fun n => match n with | 3 => some { pat := pat_impl_sumOf_0, outs := outs_impl_sumOf_0, run := runL (step_impl_sumOf_0) } | _ => none
theorem step_impl_sumOf_0_eq (s : Int × (List Int) × Int × Int) : stepEv env_impl_sumOf loops_impl_sumOf pat_impl_sumOf_0 outs_impl_sumOf_0 Tryz.f64 3 s = step_impl_sumOf_0 s := by kernel_rfl
theorem F_impl_sumOf_eq (x : (List Int)) : Fev env_impl_sumOf loops_impl_sumOf c_impl_sumOf.ps c_impl_sumOf.rs Tryz.f64 x = F_impl_sumOf x := by kernel_rfl
theorem env_impl_sumOf_ok : EnvOK Tryz.prog env_impl_sumOf := envOK_of (fun f c h => by cases h) (fun f c h => by cases h) rfl
theorem con_impl_sumOf : ConOK Tryz.prog 64 c_impl_sumOf := con_of_ev' (body := Tryz.f64.body.getD .skip) (Λ := loops_impl_sumOf) mixed Tryz.func64 (by kernel_rfl) (by kernel_rfl) env_impl_sumOf_ok (by kernel_rfl) (by kernel_rfl) (fun n L h => by
  unfold loops_impl_sumOf at h
  split at h
  · cases h; exact fun s o ho => loop_ok (stepF := stepEv env_impl_sumOf loops_impl_sumOf pat_impl_sumOf_0 outs_impl_sumOf_0 Tryz.f64 3) (step_impl_sumOf_0_eq) ho
  · cases h) F_impl_sumOf_eq

noncomputable def K_impl_Proposal_passed_1 (q : Unit) (x : Int) : Option (Bool) := F_impl_Proposal_passed_1 x
noncomputable def k_impl_Proposal_passed_1 : CloCon := { caps := [], a := (.int .i64), r := .bool, F := K_impl_Proposal_passed_1 }
theorem clo_impl_Proposal_passed_1 : CloOK Tryz.prog 63 k_impl_Proposal_passed_1 := clo_of_con k_impl_Proposal_passed_1 F_impl_Proposal_passed_1 con_impl_Proposal_passed_1 rfl (fun kx x y h => ⟨y, h, rfl⟩)
noncomputable def F_impl_Proposal_passed (x : (Int × (Int × (ByteArray × (List Int)))) × Int) : Option (Bool) :=
  match F_impl_those_int ((x.1.2.2.2, (K_impl_Proposal_passed_1 ()))) with
  | none => none
  | some y1 =>
    let v2 := IntKind.i64.wrap (x.2 + (y1.length : Int))
    let v3 := IntKind.i64.wrap (2 * v2)
    bif (decide (v3 > (x.1.2.2.2.length : Int))) then
      match F_impl_sumOf (x.1.2.2.2) with
      | none => none
      | some y4 =>
        let v5 := IntKind.i64.wrap (y4 + x.2)
        some ((decide (v5 > 0)))
    else
      some (false)
noncomputable def c_impl_Proposal_passed : Con := { ps := [(.val, (.st (.pair (.int .i64) (.pair (.int .i64) (.pair .str (.slice (.int .i64))))))), (.val, (.int .i64))], rs := [(.val, .bool)], F := F_impl_Proposal_passed }
noncomputable def env_impl_Proposal_passed : Env := { par := [], dp := false, settle := [], con := fun f => match f with | 62 => some c_impl_those_int | 64 => some c_impl_sumOf | _ => none, clo := fun f => match f with | 63 => some k_impl_Proposal_passed_1 | _ => none, T := tinf Tryz.prog }
noncomputable def loops_impl_Proposal_passed : Nat → Option Loop := fun n => none
theorem F_impl_Proposal_passed_eq (x : (Int × (Int × (ByteArray × (List Int)))) × Int) : Fev env_impl_Proposal_passed loops_impl_Proposal_passed c_impl_Proposal_passed.ps c_impl_Proposal_passed.rs Tryz.f34 x = F_impl_Proposal_passed x := by kernel_rfl
theorem env_impl_Proposal_passed_ok : EnvOK Tryz.prog env_impl_Proposal_passed := envOK_of (fun f c h => by
  simp only [env_impl_Proposal_passed] at h
  split at h
  · cases h; exact con_impl_those_int
  · cases h; exact con_impl_sumOf
  · cases h) (fun f c h => by
  simp only [env_impl_Proposal_passed] at h
  split at h
  · cases h; exact clo_impl_Proposal_passed_1
  · cases h) rfl
theorem con_impl_Proposal_passed : ConOK Tryz.prog 34 c_impl_Proposal_passed := con_of_ev' (body := Tryz.f34.body.getD .skip) (Λ := loops_impl_Proposal_passed) mixed Tryz.func34 (by kernel_rfl) (by kernel_rfl) env_impl_Proposal_passed_ok (by kernel_rfl) (by kernel_rfl) (fun n L h => by cases h) F_impl_Proposal_passed_eq

noncomputable def F_cmp_isNaN_string (x : ByteArray) : Option (Bool) :=
  some ((!(x.toList == x.toList)))
noncomputable def c_cmp_isNaN_string : Con := { ps := [(.val, .str)], rs := [(.val, .bool)], F := F_cmp_isNaN_string }
noncomputable def env_cmp_isNaN_string : Env := { par := [], dp := false, settle := [], con := fun _ => none, clo := fun _ => none, T := tinf Tryz.prog }
noncomputable def loops_cmp_isNaN_string : Nat → Option Loop := fun n => none
theorem F_cmp_isNaN_string_eq (x : ByteArray) : Fev env_cmp_isNaN_string loops_cmp_isNaN_string c_cmp_isNaN_string.ps c_cmp_isNaN_string.rs Tryz.f85 x = F_cmp_isNaN_string x := by kernel_rfl
theorem env_cmp_isNaN_string_ok : EnvOK Tryz.prog env_cmp_isNaN_string := envOK_of (fun f c h => by cases h) (fun f c h => by cases h) rfl
theorem con_cmp_isNaN_string : ConOK Tryz.prog 85 c_cmp_isNaN_string := con_of_ev' (body := Tryz.f85.body.getD .skip) (Λ := loops_cmp_isNaN_string) mixed Tryz.func85 (by kernel_rfl) (by kernel_rfl) env_cmp_isNaN_string_ok (by kernel_rfl) (by kernel_rfl) (fun n L h => by cases h) F_cmp_isNaN_string_eq

noncomputable def F_cmp_Less_string (x : ByteArray × ByteArray) : Option (Bool) :=
  match F_cmp_isNaN_string (x.1) with
  | none => none
  | some y1 =>
    bif y1 then
      match F_cmp_isNaN_string (x.2) with
      | none => none
      | some y2 =>
        bif (!y2) then
          some (true)
        else
          some ((Op.bytesLess x.1.toList x.2.toList))
    else
      some ((Op.bytesLess x.1.toList x.2.toList))
noncomputable def c_cmp_Less_string : Con := { ps := [(.val, .str), (.val, .str)], rs := [(.val, .bool)], F := F_cmp_Less_string }
noncomputable def env_cmp_Less_string : Env := { par := [], dp := false, settle := [], con := fun f => match f with | 85 => some c_cmp_isNaN_string | _ => none, clo := fun _ => none, T := tinf Tryz.prog }
noncomputable def loops_cmp_Less_string : Nat → Option Loop := fun n => none
theorem F_cmp_Less_string_eq (x : ByteArray × ByteArray) : Fev env_cmp_Less_string loops_cmp_Less_string c_cmp_Less_string.ps c_cmp_Less_string.rs Tryz.f65 x = F_cmp_Less_string x := by kernel_rfl
theorem env_cmp_Less_string_ok : EnvOK Tryz.prog env_cmp_Less_string := envOK_of (fun f c h => by
  simp only [env_cmp_Less_string] at h
  split at h
  · cases h; exact con_cmp_isNaN_string
  · cases h) (fun f c h => by cases h) rfl
theorem con_cmp_Less_string : ConOK Tryz.prog 65 c_cmp_Less_string := con_of_ev' (body := Tryz.f65.body.getD .skip) (Λ := loops_cmp_Less_string) mixed Tryz.func65 (by kernel_rfl) (by kernel_rfl) env_cmp_Less_string_ok (by kernel_rfl) (by kernel_rfl) (fun n L h => by cases h) F_cmp_Less_string_eq

noncomputable def F_slices_isNaN_string (x : ByteArray) : Option (Bool) :=
  some ((!(x.toList == x.toList)))
noncomputable def c_slices_isNaN_string : Con := { ps := [(.val, .str)], rs := [(.val, .bool)], F := F_slices_isNaN_string }
noncomputable def env_slices_isNaN_string : Env := { par := [], dp := false, settle := [], con := fun _ => none, clo := fun _ => none, T := tinf Tryz.prog }
noncomputable def loops_slices_isNaN_string : Nat → Option Loop := fun n => none
theorem F_slices_isNaN_string_eq (x : ByteArray) : Fev env_slices_isNaN_string loops_slices_isNaN_string c_slices_isNaN_string.ps c_slices_isNaN_string.rs Tryz.f66 x = F_slices_isNaN_string x := by kernel_rfl
theorem env_slices_isNaN_string_ok : EnvOK Tryz.prog env_slices_isNaN_string := envOK_of (fun f c h => by cases h) (fun f c h => by cases h) rfl
theorem con_slices_isNaN_string : ConOK Tryz.prog 66 c_slices_isNaN_string := con_of_ev' (body := Tryz.f66.body.getD .skip) (Λ := loops_slices_isNaN_string) mixed Tryz.func66 (by kernel_rfl) (by kernel_rfl) env_slices_isNaN_string_ok (by kernel_rfl) (by kernel_rfl) (fun n L h => by cases h) F_slices_isNaN_string_eq

noncomputable def step_slices_BinarySearch_string_string_0 (s : (List ByteArray) × ByteArray × Int × Int × Int) : Option (((List ByteArray) × ByteArray × Int × Int × Int) ⊕ (((List ByteArray) × ByteArray × Int × Int))) :=
  bif (decide (s.2.2.2.1 < s.2.2.2.2)) then
    let v7 := IntKind.i64.wrap (s.2.2.2.1 + s.2.2.2.2)
    let v8 := IntKind.u64.wrap v7
    bif decide (0 ≤ (1 : Int)) then
      let v9 := (v8).fdiv (2 ^ (min (1 : Int).toNat IntKind.u64.bits))
      let v10 := IntKind.i64.wrap v9
      bif decide (0 ≤ v10) && decide (v10 < (s.1.length : Int)) then
        match F_cmp_Less_string (((s.1.getD (v10).toNat ByteArray.empty), s.2.1)) with
        | none => none
        | some y11 =>
          bif y11 then
            let v12 := IntKind.i64.wrap (v10 + 1)
            some (.inl ((s.1, s.2.1, (s.2.2.1, v12, s.2.2.2.2))))
          else
            some (.inl ((s.1, s.2.1, (s.2.2.1, s.2.2.2.1, v10))))
      else none
    else none
  else
    some (.inr ((s.1, (s.2.1, s.2.2.1, s.2.2.2.1))))
def pat_slices_BinarySearch_string_string_0 : Pat := { tmps := [.v (.slice .str), .v .str, .any, .any, .any, .any, .v (.int .i64), .v (.int .i64), .v (.int .i64), .any, .any, .any, .any, .any, .any, .any, .any, .any, .any, .any, .any, .any, .any, .any, .any, .any, .any, .any, .any, .any, .any, .any, .any, .any, .any, .any, .any, .any, .any, .any, .any, .any, .any, .any, .any, .any, .any, .any, .any, .any, .any, .any, .any, .any], blks := [] }
def outs_slices_BinarySearch_string_string_0 : List (Exit × Pat) := [(.exit 0, { tmps := [.v (.slice .str), .v .str, .any, .any, .any, .any, .v (.int .i64), .v (.int .i64), .any, .any, .any, .any, .any, .any, .any, .any, .any, .any, .any, .any, .any, .any, .any, .any, .any, .any, .any, .any, .any, .any, .any, .any, .any, .any, .any, .any, .any, .any, .any, .any, .any, .any, .any, .any, .any, .any, .any, .any, .any, .any, .any, .any, .any, .any], blks := [] })]
noncomputable def F_slices_BinarySearch_string_string (x : (List ByteArray) × ByteArray) : Option (Int × Bool) :=
  match runL step_slices_BinarySearch_string_string_0 ((x.1, x.2, ((x.1.length : Int), 0, (x.1.length : Int)))) with
  | none => none
  | some o13 =>
    bif (decide (o13.2.2.2 < o13.2.2.1)) then
      bif decide (0 ≤ o13.2.2.2) && decide (o13.2.2.2 < (o13.1.length : Int)) then
        bif ((o13.1.getD (o13.2.2.2).toNat ByteArray.empty).toList == o13.2.1.toList) then
          some ((o13.2.2.2, true))
        else
          bif decide (0 ≤ o13.2.2.2) && decide (o13.2.2.2 < (o13.1.length : Int)) then
            match F_slices_isNaN_string ((o13.1.getD (o13.2.2.2).toNat ByteArray.empty)) with
            | none => none
            | some y14 =>
              bif y14 then
                match F_slices_isNaN_string (o13.2.1) with
                | none => none
                | some y15 =>
                  some ((o13.2.2.2, y15))
              else
                some ((o13.2.2.2, false))
          else none
      else none
    else
      some ((o13.2.2.2, false))
noncomputable def c_slices_BinarySearch_string_string : Con := { ps := [(.val, (.slice .str)), (.val, .str)], rs := [(.val, (.int .i64)), (.val, .bool)], F := F_slices_BinarySearch_string_string }
noncomputable def env_slices_BinarySearch_string_string : Env := { par := [], dp := false, settle := [], con := fun f => match f with | 65 => some c_cmp_Less_string | 66 => some c_slices_isNaN_string | _ => none, clo := fun _ => none, T := tinf Tryz.prog }
noncomputable def loops_slices_BinarySearch_string_string : Nat → Option Loop := fun n => match n with | 3 => some { pat := pat_slices_BinarySearch_string_string_0, outs := outs_slices_BinarySearch_string_string_0, run := runL (step_slices_BinarySearch_string_string_0) } | _ => none
theorem step_slices_BinarySearch_string_string_0_eq (s : (List ByteArray) × ByteArray × Int × Int × Int) : stepEv env_slices_BinarySearch_string_string loops_slices_BinarySearch_string_string pat_slices_BinarySearch_string_string_0 outs_slices_BinarySearch_string_string_0 Tryz.f35 3 s = step_slices_BinarySearch_string_string_0 s := by kernel_rfl
theorem F_slices_BinarySearch_string_string_eq (x : (List ByteArray) × ByteArray) : Fev env_slices_BinarySearch_string_string loops_slices_BinarySearch_string_string c_slices_BinarySearch_string_string.ps c_slices_BinarySearch_string_string.rs Tryz.f35 x = F_slices_BinarySearch_string_string x := by kernel_rfl
theorem env_slices_BinarySearch_string_string_ok : EnvOK Tryz.prog env_slices_BinarySearch_string_string := envOK_of (fun f c h => by
  simp only [env_slices_BinarySearch_string_string] at h
  split at h
  · cases h; exact con_cmp_Less_string
  · cases h; exact con_slices_isNaN_string
  · cases h) (fun f c h => by cases h) rfl
theorem con_slices_BinarySearch_string_string : ConOK Tryz.prog 35 c_slices_BinarySearch_string_string := con_of_ev' (body := Tryz.f35.body.getD .skip) (Λ := loops_slices_BinarySearch_string_string) mixed Tryz.func35 (by kernel_rfl) (by kernel_rfl) env_slices_BinarySearch_string_string_ok (by kernel_rfl) (by kernel_rfl) (fun n L h => by
  unfold loops_slices_BinarySearch_string_string at h
  split at h
  · cases h; exact fun s o ho => loop_ok (stepF := stepEv env_slices_BinarySearch_string_string loops_slices_BinarySearch_string_string pat_slices_BinarySearch_string_string_0 outs_slices_BinarySearch_string_string_0 Tryz.f35 3) (step_slices_BinarySearch_string_string_0_eq) ho
  · cases h) F_slices_BinarySearch_string_string_eq

noncomputable def F_slices_Delete_string_string (x : (List ByteArray) × Int × Int) : Option ((List ByteArray)) :=
  bif decide (0 ≤ x.2.1) && decide (x.2.1 ≤ x.2.2) && decide (x.2.2 ≤ (x.1.length : Int)) && decide ((x.1.length : Int) ≤ (x.1.length : Int)) then
    bif ((x.2.1 == x.2.2)) then
      some (x.1)
    else
      bif decide (0 ≤ (0 : Int)) && decide ((0 : Int) ≤ x.2.1) && decide (x.2.1 ≤ (x.1.length : Int)) then
        bif decide (0 ≤ x.2.2) && decide (x.2.2 ≤ (x.1.length : Int)) && decide ((x.1.length : Int) ≤ (x.1.length : Int)) then
          bif decide (((x.2.1).toNat - ((0 : Int)).toNat) + ((x.1.drop (x.2.2).toNat).take (((x.1.length : Int)).toNat - (x.2.2).toNat)).length ≤ x.1.length) then
            let v1 := x.1.take ((x.2.1).toNat - ((0 : Int)).toNat) ++ ((x.1.drop (x.2.2).toNat).take (((x.1.length : Int)).toNat - (x.2.2).toNat)) ++ x.1.drop (((x.2.1).toNat - ((0 : Int)).toNat) + ((x.1.drop (x.2.2).toNat).take (((x.1.length : Int)).toNat - (x.2.2).toNat)).length)
            bif decide (0 ≤ ((((x.2.1).toNat - ((0 : Int)).toNat) + ((x.1.drop (x.2.2).toNat).take (((x.1.length : Int)).toNat - (x.2.2).toNat)).length) : Int)) && decide (((((x.2.1).toNat - ((0 : Int)).toNat) + ((x.1.drop (x.2.2).toNat).take (((x.1.length : Int)).toNat - (x.2.2).toNat)).length) : Int) ≤ (x.1.length : Int)) && decide ((x.1.length : Int) ≤ (((v1.length - 0 : Nat) : Int) : Int)) then
              bif decide ((0 + (((((x.2.1).toNat - ((0 : Int)).toNat) + ((x.1.drop (x.2.2).toNat).take (((x.1.length : Int)).toNat - (x.2.2).toNat)).length) : Int)).toNat) + (((x.1.length : Int)).toNat - (((((x.2.1).toNat - ((0 : Int)).toNat) + ((x.1.drop (x.2.2).toNat).take (((x.1.length : Int)).toNat - (x.2.2).toNat)).length) : Int)).toNat) ≤ v1.length) then
                let v2 := v1.take (0 + (((((x.2.1).toNat - ((0 : Int)).toNat) + ((x.1.drop (x.2.2).toNat).take (((x.1.length : Int)).toNat - (x.2.2).toNat)).length) : Int)).toNat) ++ List.replicate (((x.1.length : Int)).toNat - (((((x.2.1).toNat - ((0 : Int)).toNat) + ((x.1.drop (x.2.2).toNat).take (((x.1.length : Int)).toNat - (x.2.2).toNat)).length) : Int)).toNat) (ByteArray.empty) ++ v1.drop ((0 + (((((x.2.1).toNat - ((0 : Int)).toNat) + ((x.1.drop (x.2.2).toNat).take (((x.1.length : Int)).toNat - (x.2.2).toNat)).length) : Int)).toNat) + (((x.1.length : Int)).toNat - (((((x.2.1).toNat - ((0 : Int)).toNat) + ((x.1.drop (x.2.2).toNat).take (((x.1.length : Int)).toNat - (x.2.2).toNat)).length) : Int)).toNat))
                some ((v2.take (((x.2.1).toNat - ((0 : Int)).toNat) + ((x.1.drop (x.2.2).toNat).take (((x.1.length : Int)).toNat - (x.2.2).toNat)).length)))
              else none
            else none
          else none
        else none
      else none
  else none
noncomputable def c_slices_Delete_string_string : Con := { ps := [(.eat true, (.slice .str)), (.val, (.int .i64)), (.val, (.int .i64))], rs := [(.io true, (.slice .str))], F := F_slices_Delete_string_string }
noncomputable def env_slices_Delete_string_string : Env := { par := [62], dp := false, settle := [], con := fun _ => none, clo := fun _ => none, T := tinf Tryz.prog }
noncomputable def loops_slices_Delete_string_string : Nat → Option Loop := fun n => none
theorem F_slices_Delete_string_string_eq (x : (List ByteArray) × Int × Int) : Fev env_slices_Delete_string_string loops_slices_Delete_string_string c_slices_Delete_string_string.ps c_slices_Delete_string_string.rs Tryz.f36 x = F_slices_Delete_string_string x := by kernel_rfl
theorem env_slices_Delete_string_string_ok : EnvOK Tryz.prog env_slices_Delete_string_string := envOK_of (fun f c h => by cases h) (fun f c h => by cases h) rfl
theorem con_slices_Delete_string_string : ConOK Tryz.prog 36 c_slices_Delete_string_string := con_of_ev' (body := Tryz.f36.body.getD .skip) (Λ := loops_slices_Delete_string_string) mixed Tryz.func36 (by kernel_rfl) (by kernel_rfl) env_slices_Delete_string_string_ok (by kernel_rfl) (by kernel_rfl) (fun n L h => by cases h) F_slices_Delete_string_string_eq

section
open Go.RowKit Go.Lib
set_option maxHeartbeats 4000000 in
set_option maxRecDepth 100000 in
theorem end_slices_Insert_string_string (g n c vg vc : Nat) (cur curv : Array Value) (ety etv : TypeId) (u : Value) (w : World) (hh : w.heap[g]? = some (.cells cur ety (0, 0))) (hvh : w.heap[vg]? = some (.cells curv etv (0, 0))) (hroom : n + 1 ≤ c) (hsz : c ≤ cur.size)
    (h63 : n + 1 ≤ 9223372036854775807) (hu : curv[0]? = some u) (hu1 : u.oneCell' = true) :
    Calls Tryz.prog 37 #[.slice (some ⟨g, 0, none⟩) n c, .int .i64 n, .slice (some ⟨vg, 0, none⟩) 1 vc] w fun e w' => e = .returned (.slice (some ⟨g, 0, none⟩) (n + 1) c) ∧ w' = w.setRow g (insRow cur n n u) := by
  obtain ⟨i0, hi0, hz0, hzs, hzb⟩ := info_parts (P := Tryz.prog) (e := 9) (z := .string ⟨#[]⟩) (size := 1) (bytes := 16) (by kernel_rfl)
  have ht : Tryz.prog.underlying 24 = some (.slice 9) := by kernel_rfl
  have hx : ∀ w', Stay w w' → (Builtin.lenOf (.slice (some ⟨vg, 0, none⟩) 1 vc)).run Tryz.prog w' = .ok 1 w' ∧ (Builtin.firstCells i0.size 1 (.slice (some ⟨vg, 0, none⟩) 1 vc)).run Tryz.prog w' = .ok [u].toArray w' := by
    intro w' hs
    refine ⟨by simp [Builtin.lenOf], ?_⟩
    have hh' : w'.heap[vg]? = some (.cells curv etv (0, 0)) := (hs.block vg (lt_of_block hvh) (fun f => f.elim)).trans hvh
    refine run_firstCells_some w' i0.size 1 _ 1 vc [u] (by rw [hzs]; rfl) fun t v hv => ?_
    rw [add_at, cell_of_row w' vg _ _ _ _ hh']
    match t, hv with
    | 0, hv => exact hu.trans hv
    | t + 1, hv => cases hv
  have happ : ∀ ty, (Builtin.append_ #[24, 24] ty #[.slice (some ⟨g, 0, none⟩) n c, .slice (some ⟨vg, 0, none⟩) 1 vc]).run Tryz.prog w = .ok (.slice (some ⟨g, 0, none⟩) (n + 1) c) (w.setRow g (insRow cur n n u)) := fun ty => by
    have h := run_append_in (ty := ty) ht ht (.inl ⟨9, rfl⟩) hi0 hx (by rw [hzs]; rfl) (by intro v hv; obtain rfl := List.mem_singleton.1 hv; exact hu1) hh hroom (by rw [hzs]; omega)
    rw [h, hzs]
    simp [insRow]
  have mixed := mixed
  clear hx
  go_enter Tryz.func37, Tryz.ntmps37
  go_wp2_with (at_builtin; refine Lib.wpList_append_run _ rfl _ _ _ _ rfl _ _ rfl rfl _ _ (happ _) ?_)
  go_ret
  exact ⟨rfl, rfl⟩
set_option maxHeartbeats 4000000 in
set_option maxRecDepth 100000 in
theorem mid_slices_Insert_string_string (g n c i vg vc : Nat) (cur curv : Array Value) (ety etv : TypeId) (u : Value) (w : World) (hh : w.heap[g]? = some (.cells cur ety (0, 0))) (hvh : w.heap[vg]? = some (.cells curv etv (0, 0))) (hne : vg ≠ g) (hlt : i < n) (hroom : n + 1 ≤ c) (hsz : c ≤ cur.size)
    (h63 : n + 1 ≤ 9223372036854775807) (hone : ∀ u ∈ cur.toList.take n, u.oneCell' = true) (hu : curv[0]? = some u) (hu1 : u.oneCell' = true) :
    Calls Tryz.prog 37 #[.slice (some ⟨g, 0, none⟩) n c, .int .i64 i, .slice (some ⟨vg, 0, none⟩) 1 vc] w fun e w' => e = .returned (.slice (some ⟨g, 0, none⟩) (n + 1) c) ∧ w' = w.drew.setRow g (insRow cur n i u) := by
  obtain ⟨i0, hi0, hz0, hzs, hzb⟩ := info_parts (P := Tryz.prog) (e := 9) (z := .string ⟨#[]⟩) (size := 1) (bytes := 16) (by kernel_rfl)
  have ht : Tryz.prog.underlying 24 = some (.slice 9) := by kernel_rfl
  have hs1 : (Tryz.prog.info? 9).map (·.size) = some 1 := by rw [hi0]; simp [hzs]
  have hcells : ∀ (W : World) (b : Nat) (cs : Array Value) (t : TypeId), W.heap[b]? = some (.cells cs t (0, 0)) → (∀ j, W.cell? ⟨b, j, none⟩ = cs[j]?) ∧ (∀ j, W.frozen? ⟨b, j, none⟩ = false) := fun W b cs t h => ⟨fun j => cell_of_row W b j _ _ _ h, fun j => by simp [World.frozen?, h]⟩
  let tail := (cur.toList.drop i).take (n - i)
  have htl : tail.length = n - i := by simp [tail]; omega
  have hm1 : ∀ ty dc sc, (Builtin.copy_ #[24, 24] ty #[.slice (some ⟨g, i + 1, none⟩) (n - i) dc, .slice (some ⟨g, i, none⟩) (n + 1 - i) sc]).run Tryz.prog w.drew = .ok (goInt tail.length) (w.drew.setCells g (i + 1) tail) := fun ty dc sc =>
    run_copy_cells w.drew _ _ ty 9 g (i + 1) (n - i) dc ⟨g, i, none⟩ (n + 1 - i) sc tail ht hs1 (by rw [htl]; simp only [Nat.min_def]; split <;> omega)
      (fun j v hj => by
        rw [add_at, (hcells w.drew g cur ety hh).1]
        simp only [tail, List.getElem?_take, List.getElem?_drop] at hj
        split at hj
        · simpa using hj
        · cases hj)
      (fun j hj => by rw [(hcells w.drew g cur ety hh).1, Array.getElem?_eq_getElem (by omega)]; rfl) (fun j hj => (hcells w.drew g cur ety hh).2 _)
      (fun v hv => hone v (by simp only [tail] at hv; rw [List.take_drop, show i + (n - i) = n by omega] at hv; exact List.mem_of_mem_drop hv))
  have e1 := setCells_row g ety (0, 0) tail (i + 1) cur w.drew hh (by rw [htl]; omega)
  obtain ⟨row1, hrow1⟩ : ∃ r : Array Value, r = (cur.toList.take (i + 1) ++ tail ++ cur.toList.drop (i + 1 + tail.length)).toArray := ⟨_, rfl⟩
  rw [← hrow1] at e1
  have hrs : row1.size = cur.size := by rw [hrow1]; simp [htl]; omega
  obtain ⟨W1, hW1⟩ : ∃ W1, W1 = w.drew.setRow g row1 := ⟨_, rfl⟩
  rw [← hW1] at e1
  have hg1 : W1.heap[g]? = some (.cells row1 ety (0, 0)) := by rw [hW1]; exact setRow_heap w.drew g cur _ ety _ hh
  have hv1 : W1.heap[vg]? = some (.cells curv etv (0, 0)) := by rw [hW1, setRow_other _ _ _ _ hne]; exact hvh
  have hm2 : ∀ ty dc, (Builtin.copy_ #[24, 24] ty #[.slice (some ⟨g, i, none⟩) (n + 1 - i) dc, .slice (some ⟨vg, 0, none⟩) 1 vc]).run Tryz.prog W1 = .ok (goInt 1) (W1.setCells g i [u]) := fun ty dc =>
    run_copy_cells W1 _ _ ty 9 g i (n + 1 - i) dc ⟨vg, 0, none⟩ 1 vc [u] ht hs1 (by simp only [Nat.min_def]; split <;> simp <;> omega)
      (fun j v hj => by
        rw [add_at, (hcells W1 vg curv etv hv1).1]
        match j, hj with
        | 0, hj => exact hu.trans hj
        | j + 1, hj => cases hj)
      (fun j hj => by rw [(hcells W1 g row1 ety hg1).1, Array.getElem?_eq_getElem (by simp at hj; omega)]; rfl) (fun j hj => (hcells W1 g row1 ety hg1).2 _)
      (fun v hv => by obtain rfl := List.mem_singleton.1 hv; exact hu1)
  have e2 := setCells_row g ety (0, 0) [u] i row1 W1 hg1 (by simp; omega)
  have e3 : (row1.toList.take i ++ [u] ++ row1.toList.drop (i + [u].length)).toArray = insRow cur n i u := by
    rw [hrow1]
    unfold insRow
    congr 1
    have l1 : (cur.toList.take (i + 1)).length = i + 1 := by simp; omega
    have a1 : (cur.toList.take (i + 1) ++ tail ++ cur.toList.drop (i + 1 + tail.length)).take i = cur.toList.take i := by
      rw [List.append_assoc, List.take_append_of_le_length (by omega), List.take_take, Nat.min_eq_left (by omega)]
    have a2 : (cur.toList.take (i + 1) ++ tail ++ cur.toList.drop (i + 1 + tail.length)).drop (i + 1) = tail ++ cur.toList.drop (n + 1) := by
      have q := List.drop_left (l₁ := cur.toList.take (i + 1)) (l₂ := tail ++ cur.toList.drop (i + 1 + tail.length))
      rw [l1] at q
      rw [List.append_assoc, q, htl, show i + 1 + (n - i) = n + 1 by omega]
    simp only [List.length_singleton]
    rw [a1, a2]
    simp [tail]
  have e4 : W1.setRow g (insRow cur n i u) = w.drew.setRow g (insRow cur n i u) := by rw [hW1, setRow_setRow]
  rw [e3, e4] at e2
  rw [e1] at hm1
  rw [e2] at hm2
  have hov : ∀ lb cb, (callFunc 67 #[.slice (some ⟨vg, 0, none⟩) 1 vc, .slice (some ⟨g, i + 1, none⟩) lb cb]).run Tryz.prog w = .ok (.value (.bool false)) w := fun lb cb => by
    rw [run_callFunc_extern Tryz.func67 (by kernel_rfl) (by kernel_rfl) (by kernel_rfl) (e := Extern.SlicesOverlaps.overlaps #[24, 24] #[4]) (by kernel_rfl),
      Lib.run_overlaps_apart w 24 4 9 ht 1 (fun W => by simp [Go.sizeOf, typeInfo, hi0, hzs]) ⟨vg, 0, none⟩ ⟨g, i + 1, none⟩ 1 vc lb cb hne etv ety curv.size cur.size (by simp [World.shape?, hvh]) (by simp [World.shape?, hh]) (by omega) (by simp [World.frozen?, hvh]) (by simp [World.frozen?, hvh])]
    rfl
  have hw1 : IntKind.i64.wrap ((i : Int) + 1) = (i : Int) + 1 := by rw [IntKind.wrap_i64]; omega
  have hw2 : IntKind.i64.wrap ((n : Int) + 1) = (n : Int) + 1 := by rw [IntKind.wrap_i64]; omega
  have hz2 : ¬ ((i : Int) = (n : Int)) := by omega
  have hb1 : (0 : Int) ≤ (i : Int) + 1 := by omega
  have hin : i ≤ n := by omega
  have htn : ((i : Int) + 1).toNat = i + 1 := by omega
  have hb2 : ¬ (c = i + 1) := by omega
  have hb3 : (i : Int) ≤ (n : Int) + 1 := by omega
  have hb4 : ¬ (c = i) := by omega
  have hb5 : i ≤ n + 1 := by omega
  have hb6 : i + 1 ≤ n + 1 := by omega
  have hb7 : ¬ ((c : Int) < (n : Int) + 1) := by omega
  have mixed := mixed
  clear hcells hone e1 e2 e3 e4 hg1 hv1 hrs hrow1 hW1
  go_enter Tryz.func37, Tryz.ntmps37
  go_wp2_with (simp only [hov])
  go_region_law_o (refine step_copy_runI rfl _ _ 24 24 rfl _ _ (by simp [Act.eval, Act.put]) (by simp [Act.eval, Act.put]) (hm1 _ _ _) ?_)
  go_wp2_with (at_builtin; refine wpList_copy_runI _ rfl _ _ 24 24 rfl _ _ rfl rfl (hm2 _ _) ?_)
  go_ret
  exact ⟨rfl, rfl⟩
theorem grow_slices_Insert_string_string (A : Option Addr) (n c i vg vc : Nat) (cs : List Value) (u : Value) (w : World) (hgl : nGlob ≤ w.heap.size) (hi : i ≤ n) (hnc : n ≤ c) (hroom : c < n + 1) (hbig : (n + 1) * 16 ≤ 140737488355328) (hcl : cs.length = n)
    (hA : n = 0 ∨ ∃ g, A = some ⟨g, 0, none⟩ ∧ ∀ j v, cs[j]? = some v → w.cell? ⟨g, j, none⟩ = some v) (hu : w.cell? ⟨vg, 0, none⟩ = some u) (h1c : ∀ v ∈ cs, v.oneCell' = true) (hu1 : u.oneCell' = true) :
    Calls Tryz.prog 37 #[.slice A n c, .int .i64 i, .slice (some ⟨vg, 0, none⟩) 1 vc] w fun e w' => ∃ cap' cur' ety', e = .returned (.slice (some ⟨w.heap.size, 0, none⟩) (n + 1) cap') ∧ n + 1 ≤ cap' ∧ w'.heap[w.heap.size]? = some (.cells cur' ety' (0, 0)) ∧ cap' ≤ cur'.size ∧
      cur'.toList.take (n + 1) = cs.take i ++ u :: cs.drop i ∧ Fr NoB w w' := by
  have hvs : ∀ j v, [u][j]? = some v → w.cell? ⟨vg, 0 + j, none⟩ = some v := fun j v hj => by
    match j, hj with
    | 0, hj => exact hu.trans hj
    | j + 1, hj => cases hj
  have h1v : ∀ v ∈ [u], v.oneCell' = true := fun v hv => by obtain rfl := List.mem_singleton.1 hv; exact hu1
  have hte : Tryz.laysNm222_ren.t 9 = 9 := rfl
  have hG : ∀ t, n + 1 ≤ grownCap w (n + 1) c t := fun t => grownCap_ge w _ _ _
  have hzc : ∀ k, (Builtin.zeroCells (Value.string ⟨#[]⟩).cells k).size = k := fun k => by simp [Builtin.zeroCells, Value.cells]
  rcases Nat.lt_or_eq_of_le hi with hlt | rfl
  · obtain ⟨g, rfl, hcs⟩ : ∃ g, A = some ⟨g, 0, none⟩ ∧ ∀ j v, cs[j]? = some v → w.cell? ⟨g, j, none⟩ = some v := by
      rcases hA with h | h
      · omega
      · exact h
    refine (Any2.slices_Insert_string_grow Tryz.laysNm222 g 0 n c i vg 0 1 vc cs [u] w hlt (by omega) hnc hroom hbig hcl rfl (fun j v hj => by rw [Nat.zero_add]; exact hcs j v hj) hvs h1c h1v).mono ?_
    rintro e w' ⟨he, hw'⟩
    simp only [hte] at he hw'
    have hrow : ((cs.take i).toArray ++ Builtin.zeroCells (Value.string ⟨#[]⟩).cells (n + 1 - i) ++ Builtin.zeroCells (Value.string ⟨#[]⟩).cells (grownCap w (n + 1) c 9 - (n + 1))).size = grownCap w (n + 1) c 9 := by
      have := hG 9
      simp only [Array.size_append, hzc, List.size_toArray, List.length_take]
      omega
    obtain ⟨cur', k1, k2, k3, k4⟩ := grow_world hgl _ 9 i u (cs.drop i) (by rw [hrow]; have := hG 9; simp; omega) hw'
    refine ⟨grownCap w (n + 1) c 9, cur', 9, he, hG _, k1, by rw [k2, hrow]; exact Nat.le_refl _, ?_, k4⟩
    have hl : i + 1 + (cs.drop i).length = n + 1 := by simp; omega
    rw [hl] at k3
    rw [k3]
    congr 1
    simp only [Array.toList_append, List.append_assoc]
    rw [List.take_append_of_le_length (by simp; omega), List.take_take, Nat.min_self]
  · refine (Any2.slices_Insert_string_end_grow Tryz.laysNm222 A i c vg 0 1 vc cs [u] w (by omega) hnc hroom hbig hcl rfl (fun h => by rcases hA with h' | ⟨g, h', _⟩; exact h'; rw [h] at h'; cases h') (fun a ha j v hj => ?_) hvs h1v).mono ?_
    · rcases hA with h' | ⟨g, h', hcs⟩
      · have : j < cs.length := (List.getElem?_eq_some_iff.1 hj).1
        omega
      · rw [h'] at ha
        obtain rfl := Option.some.inj ha
        rw [add_at, Nat.zero_add]
        exact hcs j v hj
    · rintro e w' ⟨he, hw'⟩
      simp only [hte] at he hw'
      subst hw'
      refine ⟨grownCap w (i + 1) c 9, (cs ++ [u]).toArray ++ Builtin.zeroCells (Value.string ⟨#[]⟩).cells (grownCap w (i + 1) c 9 - (i + 1)), 9, he, hG _, ?_, ?_, ?_, ?_⟩
      · show (w.heap.push _)[w.heap.size]? = _
        rw [Array.getElem?_push, if_pos rfl]
      · have := hG 9
        simp only [Array.size_append, hzc, List.size_toArray, List.length_append, List.length_singleton]
        omega
      · simp only [Array.toList_append]
        rw [List.take_append_of_le_length (by simp; omega), List.take_of_length_le (by simp; omega), List.take_of_length_le (by omega), List.drop_eq_nil_of_le (by omega)]
      · have hold : ∀ b (o : Obj), b < w.heap.size → (w.heap.push o)[b]? = w.heap[b]? := fun b o hb => by rw [Array.getElem?_push, if_neg (by omega)]
        refine ⟨rfl, rfl, rfl, ?_, fun b hb _ => hold b _ hb, fun b _ hb => hold b _ hb⟩
        show w.heap.size ≤ (w.heap.push _).size
        rw [Array.size_push]
        omega
noncomputable def F_slices_Insert_string_string (x : List ByteArray × Int × List ByteArray) : Option (List ByteArray) := F_insert x
noncomputable def c_slices_Insert_string_string : Con := { ps := [(.eat true, .slice .str), (.val, .int .i64), (.eat true, .slice .str)], rs := [(.io true, .slice .str)], F := F_slices_Insert_string_string }
theorem con_slices_Insert_string_string : ConOK Tryz.prog 37 c_slices_Insert_string_string := con_insert ⟨Tryz.f37, Tryz.func37, by kernel_rfl, by kernel_rfl⟩
  (fun g n c i vg vc cur curv ety etv u w hh hvh hne hi hroom hsz h63 hone hu hu1 => by
    rcases Nat.lt_or_eq_of_le hi with hlt | rfl
    · refine (mid_slices_Insert_string_string g n c i vg vc cur curv ety etv u w hh hvh hne hlt hroom hsz h63 hone hu hu1).mono ?_
      rintro e w' ⟨he, hw⟩
      exact ⟨he, w.drew, .inr rfl, hw⟩
    · refine (end_slices_Insert_string_string g i c vg vc cur curv ety etv u w hh hvh hroom hsz h63 hu hu1).mono ?_
      rintro e w' ⟨he, hw⟩
      exact ⟨he, w, .inl rfl, hw⟩)
  grow_slices_Insert_string_string
end

noncomputable def K_impl_IsGloss (q : Unit) (x : ByteArray) : Option (Bool) := F_impl_IsGloss x
noncomputable def k_impl_IsGloss : CloCon := { caps := [], a := .str, r := .bool, F := K_impl_IsGloss }
theorem clo_impl_IsGloss : CloOK Tryz.prog 30 k_impl_IsGloss := clo_of_con k_impl_IsGloss F_impl_IsGloss con_impl_IsGloss rfl (fun kx x y h => ⟨y, h, rfl⟩)
noncomputable def step_impl_NextEdition_0 (s : (List (Int × (Int × (ByteArray × (List Int))))) × Int × Int × (List ByteArray) × (List Int)) : Option (((List (Int × (Int × (ByteArray × (List Int))))) × Int × Int × (List ByteArray) × (List Int)) ⊕ (((List Int) × (List ByteArray)))) :=
  bif (decide (s.2.2.1 < s.2.1)) then
    bif decide (0 ≤ s.2.2.1) && decide (s.2.2.1 < (s.1.length : Int)) then
      match F_impl_Proposal_passed (((s.1.getD (s.2.2.1).toNat (0, (0, ByteArray.empty, []))), 0)) with
      | none => none
      | some y25 =>
        bif (!y25) then
          let v26 := IntKind.i64.wrap (s.2.2.1 + 1)
          some (.inl ((s.1, (s.2.1, v26, s.2.2.2))))
        else
          match F_slices_BinarySearch_string_string ((s.2.2.2.1, (s.1.getD (s.2.2.1).toNat (0, (0, ByteArray.empty, []))).2.2.1)) with
          | none => none
          | some y27 =>
            bif (y27.2 == (((s.1.getD (s.2.2.1).toNat (0, (0, ByteArray.empty, []))).2.1 == 0))) then
              bif decide ((s.2.2.2.2.length + [(s.1.getD (s.2.2.1).toNat (0, (0, ByteArray.empty, []))).1].length) * 8 ≤ 140737488355328) then
                let v28 := s.2.2.2.2 ++ [(s.1.getD (s.2.2.1).toNat (0, (0, ByteArray.empty, []))).1]
                let v29 := IntKind.i64.wrap (s.2.2.1 + 1)
                some (.inl ((s.1, s.2.1, (v29, s.2.2.2.1, v28))))
              else none
            else
              bif y27.2 then
                let v30 := IntKind.i64.wrap (y27.1 + 1)
                match F_slices_Delete_string_string ((s.2.2.2.1, y27.1, v30)) with
                | none => none
                | some y31 =>
                  let v32 := IntKind.i64.wrap (s.2.2.1 + 1)
                  some (.inl ((s.1, s.2.1, (v32, y31, s.2.2.2.2))))
              else
                match F_slices_Insert_string_string ((s.2.2.2.1, y27.1, [(s.1.getD (s.2.2.1).toNat (0, (0, ByteArray.empty, []))).2.2.1])) with
                | none => none
                | some y33 =>
                  let v34 := IntKind.i64.wrap (s.2.2.1 + 1)
                  some (.inl ((s.1, s.2.1, (v34, y33, s.2.2.2.2))))
    else none
  else
    some (.inr ((s.2.2.2.2, s.2.2.2.1)))
def pat_impl_NextEdition_0 : Pat := { tmps := [.any, .any, .any, .any, .any, .any, .any, .any, .any, .own 2368, .own 4480, .any, .any, .any, .any, .any, .any, .any, .any, .any, .any, .any, .any, .any, .any, .any, .any, .any, .any, .any, .any, .any, .any, .any, .any, .any, .any, .any, .v (.slice (.st (.pair (.int .i64) (.pair (.int .i64) (.pair .str (.slice (.int .i64))))))), .v (.int .i64), .v (.int .i64), .any, .any, .any, .any, .any, .any, .any, .any, .any, .any, .any, .any, .any, .any, .any, .any, .any, .any, .any, .any, .any, .any, .any, .any, .any, .any, .any, .any, .any, .any, .any, .any, .any, .any, .any, .any, .any, .any, .any, .any, .any, .any, .any], blks := [(2368, .row true .str), (4480, .row true (.int .i64))] }
def outs_impl_NextEdition_0 : List (Exit × Pat) := [(.exit 0, { tmps := [.any, .any, .any, .any, .any, .any, .any, .any, .any, .own 2368, .own 4480, .any, .any, .any, .any, .any, .any, .any, .any, .any, .any, .any, .any, .any, .any, .any, .any, .any, .any, .any, .any, .any, .any, .any, .any, .any, .any, .any, .any, .any, .any, .any, .any, .any, .any, .any, .any, .any, .any, .any, .any, .any, .any, .any, .any, .any, .any, .any, .any, .any, .any, .any, .any, .any, .any, .any, .any, .any, .any, .any, .any, .any, .any, .any, .any, .any, .any, .any, .any, .any, .any, .any, .any, .any], blks := [(4480, .row true (.int .i64)), (2368, .row true .str)] })]
noncomputable def F_impl_NextEdition (x : (List ByteArray) × (List (Int × (Int × (ByteArray × (List Int))))) × Int) : Option ((List ByteArray) × (List Int) × Bool) :=
  bif (decide ((x.1.length : Int) > 40)) then
    some (([], [], false))
  else
    match F_impl_allOf_string ((x.1, (K_impl_IsGloss ()))) with
    | none => none
    | some y1 =>
      bif (!y1) then
        some (([], [], false))
      else
        match F_impl_distinct_string (x.1) with
        | none => none
        | some y2 =>
          match F_slices_Equal_string_string ((y2, x.1)) with
          | none => none
          | some y3 =>
            bif (!y3) then
              some (([], [], false))
            else
              match F_impl_AreProposals (x.2) with
              | none => none
              | some y4 =>
                bif (!y4) then
                  some (([], [], false))
                else
                  match F_slices_Clone_string_string (x.1) with
                  | none => none
                  | some y5 =>
                    match runL step_impl_NextEdition_0 ((x.2.1, (x.2.1.length : Int), (0, y5, []))) with
                    | none => none
                    | some o35 =>
                      bif (decide ((o35.2.length : Int) > 40)) then
                        some (([], [], false))
                      else
                        some ((o35.2, o35.1, true))
noncomputable def c_impl_NextEdition : Con := { ps := [(.val, (.slice .str)), (.val, (.slice (.st (.pair (.int .i64) (.pair (.int .i64) (.pair .str (.slice (.int .i64)))))))), (.val, (.int .i64))], rs := [(.io true, (.slice .str)), (.io true, (.slice (.int .i64))), (.val, .bool)], F := F_impl_NextEdition }
noncomputable def env_impl_NextEdition : Env := { par := [], dp := false, settle := [], con := fun f => match f with | 14 => some c_impl_AreProposals | 29 => some c_impl_allOf_string | 31 => some c_slices_Equal_string_string | 32 => some c_impl_distinct_string | 33 => some c_slices_Clone_string_string | 34 => some c_impl_Proposal_passed | 35 => some c_slices_BinarySearch_string_string | 36 => some c_slices_Delete_string_string | 37 => some c_slices_Insert_string_string | _ => none, clo := fun f => match f with | 30 => some k_impl_IsGloss | _ => none, T := tinf Tryz.prog }
noncomputable def loops_impl_NextEdition : Nat → Option Loop := fun n => match n with | 6 => some { pat := pat_impl_NextEdition_0, outs := outs_impl_NextEdition_0, run := runL (step_impl_NextEdition_0) } | _ => none
theorem step_impl_NextEdition_0_eq (s : (List (Int × (Int × (ByteArray × (List Int))))) × Int × Int × (List ByteArray) × (List Int)) : stepEv env_impl_NextEdition loops_impl_NextEdition pat_impl_NextEdition_0 outs_impl_NextEdition_0 Tryz.f6 6 s = step_impl_NextEdition_0 s := by kernel_rfl
theorem F_impl_NextEdition_eq (x : (List ByteArray) × (List (Int × (Int × (ByteArray × (List Int))))) × Int) : Fev env_impl_NextEdition loops_impl_NextEdition c_impl_NextEdition.ps c_impl_NextEdition.rs Tryz.f6 x = F_impl_NextEdition x := by kernel_rfl
theorem env_impl_NextEdition_ok : EnvOK Tryz.prog env_impl_NextEdition := envOK_of (fun f c h => by
  simp only [env_impl_NextEdition] at h
  split at h
  · cases h; exact con_impl_AreProposals
  · cases h; exact con_impl_allOf_string
  · cases h; exact con_slices_Equal_string_string
  · cases h; exact con_impl_distinct_string
  · cases h; exact con_slices_Clone_string_string
  · cases h; exact con_impl_Proposal_passed
  · cases h; exact con_slices_BinarySearch_string_string
  · cases h; exact con_slices_Delete_string_string
  · cases h; exact con_slices_Insert_string_string
  · cases h) (fun f c h => by
  simp only [env_impl_NextEdition] at h
  split at h
  · cases h; exact clo_impl_IsGloss
  · cases h) rfl
theorem con_impl_NextEdition : ConOK Tryz.prog 6 c_impl_NextEdition := con_of_ev' (body := Tryz.f6.body.getD .skip) (Λ := loops_impl_NextEdition) mixed Tryz.func6 (by kernel_rfl) (by kernel_rfl) env_impl_NextEdition_ok (by kernel_rfl) (by kernel_rfl) (fun n L h => by
  unfold loops_impl_NextEdition at h
  split at h
  · cases h; exact fun s o ho => loop_ok (stepF := stepEv env_impl_NextEdition loops_impl_NextEdition pat_impl_NextEdition_0 outs_impl_NextEdition_0 Tryz.f6 6) (step_impl_NextEdition_0_eq) ho
  · cases h) F_impl_NextEdition_eq

noncomputable def F_spec_l1In (x : Int × Int × Int) : Option (Bool) :=
  bif (decide (x.1 ≥ x.2.1)) then
    some ((decide (x.1 ≤ x.2.2)))
  else
    some (false)
noncomputable def c_spec_l1In : Con := { ps := [(.val, (.int .i64)), (.val, (.int .i64)), (.val, (.int .i64))], rs := [(.val, .bool)], F := F_spec_l1In }
noncomputable def env_spec_l1In : Env := { par := [], dp := false, settle := [], con := fun _ => none, clo := fun _ => none, T := tinf Tryz.prog }
noncomputable def loops_spec_l1In : Nat → Option Loop := fun n => none
theorem F_spec_l1In_eq (x : Int × Int × Int) : Fev env_spec_l1In loops_spec_l1In c_spec_l1In.ps c_spec_l1In.rs Tryz.f87 x = F_spec_l1In x := by kernel_rfl
theorem env_spec_l1In_ok : EnvOK Tryz.prog env_spec_l1In := envOK_of (fun f c h => by cases h) (fun f c h => by cases h) rfl
theorem con_spec_l1In : ConOK Tryz.prog 87 c_spec_l1In := con_of_ev' (body := Tryz.f87.body.getD .skip) (Λ := loops_spec_l1In) mixed Tryz.func87 (by kernel_rfl) (by kernel_rfl) env_spec_l1In_ok (by kernel_rfl) (by kernel_rfl) (fun n L h => by cases h) F_spec_l1In_eq

noncomputable def step_spec_enGloss_0 (s : ByteArray × Int) : Option ((ByteArray × Int) ⊕ ((Bool) ⊕ (ByteArray))) :=
  bif (decide (s.2 < (s.1.size : Int))) then
    bif decide (0 ≤ s.2) && decide (s.2 < (s.1.size : Int)) then
      bif (decide ((byteAt s.1 (s.2).toNat) < 65)) then
        some (.inr (.inl (false)))
      else
        bif decide (0 ≤ s.2) && decide (s.2 < (s.1.size : Int)) then
          bif (decide ((byteAt s.1 (s.2).toNat) > 90)) then
            some (.inr (.inl (false)))
          else
            let v2 := IntKind.i64.wrap (s.2 + 1)
            some (.inl ((s.1, v2)))
        else none
    else none
  else
    some (.inr (.inr (s.1)))
def pat_spec_enGloss_0 : Pat := { tmps := [.v .str, .any, .any, .v (.int .i64), .any, .any, .any, .any, .any, .any, .any, .any, .any, .any, .any, .any, .any, .any, .any, .any, .any, .any, .any], blks := [] }
def outs_spec_enGloss_0 : List (Exit × Pat) := [(.ret, { tmps := [.any, .any, .v .bool, .any, .any, .any, .any, .any, .any, .any, .any, .any, .any, .any, .any, .any, .any, .any, .any, .any, .any, .any, .any], blks := [] }), (.exit 0, { tmps := [.v .str, .any, .any, .any, .any, .any, .any, .any, .any, .any, .any, .any, .any, .any, .any, .any, .any, .any, .any, .any, .any, .any, .any], blks := [] })]
noncomputable def F_spec_enGloss (x : ByteArray) : Option (Bool) :=
  match runL step_spec_enGloss_0 ((x, 0)) with
  | none => none
  | some (.inl o3) =>
    some (o3)
  | some (.inr o3) =>
    match F_spec_l1In (((o3.size : Int), 1, 8)) with
    | none => none
    | some y4 =>
      some (y4)
noncomputable def c_spec_enGloss : Con := { ps := [(.val, .str)], rs := [(.val, .bool)], F := F_spec_enGloss }
noncomputable def env_spec_enGloss : Env := { par := [], dp := false, settle := [], con := fun f => match f with | 87 => some c_spec_l1In | _ => none, clo := fun _ => none, T := tinf Tryz.prog }
noncomputable def loops_spec_enGloss : Nat → Option Loop := fun n => match n with | 2 => some { pat := pat_spec_enGloss_0, outs := outs_spec_enGloss_0, run := runL (step_spec_enGloss_0) } | _ => none
theorem step_spec_enGloss_0_eq (s : ByteArray × Int) : stepEv env_spec_enGloss loops_spec_enGloss pat_spec_enGloss_0 outs_spec_enGloss_0 Tryz.f69 2 s = step_spec_enGloss_0 s := by kernel_rfl
theorem F_spec_enGloss_eq (x : ByteArray) : Fev env_spec_enGloss loops_spec_enGloss c_spec_enGloss.ps c_spec_enGloss.rs Tryz.f69 x = F_spec_enGloss x := by kernel_rfl
theorem env_spec_enGloss_ok : EnvOK Tryz.prog env_spec_enGloss := envOK_of (fun f c h => by
  simp only [env_spec_enGloss] at h
  split at h
  · cases h; exact con_spec_l1In
  · cases h) (fun f c h => by cases h) rfl
theorem con_spec_enGloss : ConOK Tryz.prog 69 c_spec_enGloss := con_of_ev' (body := Tryz.f69.body.getD .skip) (Λ := loops_spec_enGloss) mixed Tryz.func69 (by kernel_rfl) (by kernel_rfl) env_spec_enGloss_ok (by kernel_rfl) (by kernel_rfl) (fun n L h => by
  unfold loops_spec_enGloss at h
  split at h
  · cases h; exact fun s o ho => loop_ok (stepF := stepEv env_spec_enGloss loops_spec_enGloss pat_spec_enGloss_0 outs_spec_enGloss_0 Tryz.f69 2) (step_spec_enGloss_0_eq) ho
  · cases h) F_spec_enGloss_eq

noncomputable def step_spec_ofGlosses_0 (s : (List ByteArray) × (List ByteArray) × Int × Int) : Option (((List ByteArray) × (List ByteArray) × Int × Int) ⊕ ((Bool) ⊕ ((List ByteArray)))) :=
  bif (decide (s.2.2.2 < s.2.2.1)) then
    bif decide (0 ≤ s.2.2.2) && decide (s.2.2.2 < (s.2.1.length : Int)) then
      match F_spec_enGloss ((s.2.1.getD (s.2.2.2).toNat ByteArray.empty)) with
      | none => none
      | some y5 =>
        bif (!y5) then
          some (.inr (.inl (false)))
        else
          bif (decide (s.2.2.2 > 0)) then
            let v6 := IntKind.i64.wrap (s.2.2.2 - 1)
            bif decide (0 ≤ v6) && decide (v6 < (s.1.length : Int)) then
              bif (!Op.bytesLess (s.1.getD (v6).toNat ByteArray.empty).toList (s.2.1.getD (s.2.2.2).toNat ByteArray.empty).toList) then
                some (.inr (.inl (false)))
              else
                let v7 := IntKind.i64.wrap (s.2.2.2 + 1)
                some (.inl ((s.1, (s.2.1, s.2.2.1, v7))))
            else none
          else
            let v8 := IntKind.i64.wrap (s.2.2.2 + 1)
            some (.inl ((s.1, (s.2.1, s.2.2.1, v8))))
    else none
  else
    some (.inr (.inr (s.1)))
def pat_spec_ofGlosses_0 : Pat := { tmps := [.v (.slice .str), .any, .any, .any, .any, .v (.slice .str), .v (.int .i64), .v (.int .i64), .any, .any, .any, .any, .any, .any, .any, .any, .any, .any, .any, .any, .any, .any, .any, .any, .any, .any, .any, .any, .any, .any, .any, .any], blks := [] }
def outs_spec_ofGlosses_0 : List (Exit × Pat) := [(.ret, { tmps := [.any, .any, .v .bool, .any, .any, .any, .any, .any, .any, .any, .any, .any, .any, .any, .any, .any, .any, .any, .any, .any, .any, .any, .any, .any, .any, .any, .any, .any, .any, .any, .any, .any], blks := [] }), (.exit 0, { tmps := [.v (.slice .str), .any, .any, .any, .any, .any, .any, .any, .any, .any, .any, .any, .any, .any, .any, .any, .any, .any, .any, .any, .any, .any, .any, .any, .any, .any, .any, .any, .any, .any, .any, .any], blks := [] })]
noncomputable def F_spec_ofGlosses (x : (List ByteArray)) : Option (Bool) :=
  match runL step_spec_ofGlosses_0 ((x, (x, (x.length : Int), 0))) with
  | none => none
  | some (.inl o9) =>
    some (o9)
  | some (.inr o9) =>
    some ((decide ((o9.length : Int) ≤ 40)))
noncomputable def c_spec_ofGlosses : Con := { ps := [(.val, (.slice .str))], rs := [(.val, .bool)], F := F_spec_ofGlosses }
noncomputable def env_spec_ofGlosses : Env := { par := [], dp := false, settle := [], con := fun f => match f with | 69 => some c_spec_enGloss | _ => none, clo := fun _ => none, T := tinf Tryz.prog }
noncomputable def loops_spec_ofGlosses : Nat → Option Loop := fun n => match n with | 2 => some { pat := pat_spec_ofGlosses_0, outs := outs_spec_ofGlosses_0, run := runL (step_spec_ofGlosses_0) } | _ => none
theorem step_spec_ofGlosses_0_eq (s : (List ByteArray) × (List ByteArray) × Int × Int) : stepEv env_spec_ofGlosses loops_spec_ofGlosses pat_spec_ofGlosses_0 outs_spec_ofGlosses_0 Tryz.f38 2 s = step_spec_ofGlosses_0 s := by kernel_rfl
theorem F_spec_ofGlosses_eq (x : (List ByteArray)) : Fev env_spec_ofGlosses loops_spec_ofGlosses c_spec_ofGlosses.ps c_spec_ofGlosses.rs Tryz.f38 x = F_spec_ofGlosses x := by kernel_rfl
theorem env_spec_ofGlosses_ok : EnvOK Tryz.prog env_spec_ofGlosses := envOK_of (fun f c h => by
  simp only [env_spec_ofGlosses] at h
  split at h
  · cases h; exact con_spec_enGloss
  · cases h) (fun f c h => by cases h) rfl
theorem con_spec_ofGlosses : ConOK Tryz.prog 38 c_spec_ofGlosses := con_of_ev' (body := Tryz.f38.body.getD .skip) (Λ := loops_spec_ofGlosses) mixed Tryz.func38 (by kernel_rfl) (by kernel_rfl) env_spec_ofGlosses_ok (by kernel_rfl) (by kernel_rfl) (fun n L h => by
  unfold loops_spec_ofGlosses at h
  split at h
  · cases h; exact fun s o ho => loop_ok (stepF := stepEv env_spec_ofGlosses loops_spec_ofGlosses pat_spec_ofGlosses_0 outs_spec_ofGlosses_0 Tryz.f38 2) (step_spec_ofGlosses_0_eq) ho
  · cases h) F_spec_ofGlosses_eq

noncomputable def step_spec_l1All_0 (s : Int × Int × (List Int) × Int × Int) : Option ((Int × Int × (List Int) × Int × Int) ⊕ ((Bool) ⊕ (Unit))) :=
  bif (decide (s.2.2.2.2 < s.2.2.2.1)) then
    bif decide (0 ≤ s.2.2.2.2) && decide (s.2.2.2.2 < (s.2.2.1.length : Int)) then
      match F_spec_l1In (((s.2.2.1.getD (s.2.2.2.2).toNat 0), s.1, s.2.1)) with
      | none => none
      | some y3 =>
        bif (!y3) then
          some (.inr (.inl (false)))
        else
          let v4 := IntKind.i64.wrap (s.2.2.2.2 + 1)
          some (.inl ((s.1, s.2.1, (s.2.2.1, s.2.2.2.1, v4))))
    else none
  else
    some (.inr (.inr (())))
def pat_spec_l1All_0 : Pat := { tmps := [.any, .v (.int .i64), .v (.int .i64), .any, .any, .any, .any, .any, .any, .v (.slice (.int .i64)), .v (.int .i64), .v (.int .i64), .any, .any, .any, .any, .any, .any, .any, .any, .any], blks := [] }
def outs_spec_l1All_0 : List (Exit × Pat) := [(.ret, { tmps := [.any, .any, .any, .any, .any, .any, .v .bool, .any, .any, .any, .any, .any, .any, .any, .any, .any, .any, .any, .any, .any, .any], blks := [] }), (.exit 0, { tmps := [.any, .any, .any, .any, .any, .any, .any, .any, .any, .any, .any, .any, .any, .any, .any, .any, .any, .any, .any, .any, .any], blks := [] })]
noncomputable def F_spec_l1All (x : (List Int) × Int × Int) : Option (Bool) :=
  match runL step_spec_l1All_0 ((x.2.1, x.2.2, (x.1, (x.1.length : Int), 0))) with
  | none => none
  | some (.inl o5) =>
    some (o5)
  | some (.inr o5) =>
    some (true)
noncomputable def c_spec_l1All : Con := { ps := [(.val, (.slice (.int .i64))), (.val, (.int .i64)), (.val, (.int .i64))], rs := [(.val, .bool)], F := F_spec_l1All }
noncomputable def env_spec_l1All : Env := { par := [], dp := false, settle := [], con := fun f => match f with | 87 => some c_spec_l1In | _ => none, clo := fun _ => none, T := tinf Tryz.prog }
noncomputable def loops_spec_l1All : Nat → Option Loop := fun n => match n with | 2 => some { pat := pat_spec_l1All_0, outs := outs_spec_l1All_0, run := runL (step_spec_l1All_0) } | _ => none
theorem step_spec_l1All_0_eq (s : Int × Int × (List Int) × Int × Int) : stepEv env_spec_l1All loops_spec_l1All pat_spec_l1All_0 outs_spec_l1All_0 Tryz.f88 2 s = step_spec_l1All_0 s := by kernel_rfl
theorem F_spec_l1All_eq (x : (List Int) × Int × Int) : Fev env_spec_l1All loops_spec_l1All c_spec_l1All.ps c_spec_l1All.rs Tryz.f88 x = F_spec_l1All x := by kernel_rfl
theorem env_spec_l1All_ok : EnvOK Tryz.prog env_spec_l1All := envOK_of (fun f c h => by
  simp only [env_spec_l1All] at h
  split at h
  · cases h; exact con_spec_l1In
  · cases h) (fun f c h => by cases h) rfl
theorem con_spec_l1All : ConOK Tryz.prog 88 c_spec_l1All := con_of_ev' (body := Tryz.f88.body.getD .skip) (Λ := loops_spec_l1All) mixed Tryz.func88 (by kernel_rfl) (by kernel_rfl) env_spec_l1All_ok (by kernel_rfl) (by kernel_rfl) (fun n L h => by
  unfold loops_spec_l1All at h
  split at h
  · cases h; exact fun s o ho => loop_ok (stepF := stepEv env_spec_l1All loops_spec_l1All pat_spec_l1All_0 outs_spec_l1All_0 Tryz.f88 2) (step_spec_l1All_0_eq) ho
  · cases h) F_spec_l1All_eq

noncomputable def F_spec_ofOne (x : (Int × (Int × (ByteArray × (List Int)))) × Int) : Option (Bool) :=
  match F_spec_l1In ((x.1.1, 1, 999)) with
  | none => none
  | some y1 =>
    bif y1 then
      match F_spec_l1In ((x.1.2.1, 0, 1)) with
      | none => none
      | some y2 =>
        bif y2 then
          match F_spec_enGloss (x.1.2.2.1) with
          | none => none
          | some y3 =>
            bif y3 then
              bif (((x.1.2.2.2.length : Int) == x.2)) then
                match F_spec_l1All ((x.1.2.2.2, (-1), 1)) with
                | none => none
                | some y4 =>
                  some (y4)
              else
                some (false)
            else
              some (false)
        else
          some (false)
    else
      some (false)
noncomputable def c_spec_ofOne : Con := { ps := [(.val, (.st (.pair (.int .i64) (.pair (.int .i64) (.pair .str (.slice (.int .i64))))))), (.val, (.int .i64))], rs := [(.val, .bool)], F := F_spec_ofOne }
noncomputable def env_spec_ofOne : Env := { par := [], dp := false, settle := [], con := fun f => match f with | 69 => some c_spec_enGloss | 87 => some c_spec_l1In | 88 => some c_spec_l1All | _ => none, clo := fun _ => none, T := tinf Tryz.prog }
noncomputable def loops_spec_ofOne : Nat → Option Loop := fun n => none
theorem F_spec_ofOne_eq (x : (Int × (Int × (ByteArray × (List Int)))) × Int) : Fev env_spec_ofOne loops_spec_ofOne c_spec_ofOne.ps c_spec_ofOne.rs Tryz.f70 x = F_spec_ofOne x := by kernel_rfl
theorem env_spec_ofOne_ok : EnvOK Tryz.prog env_spec_ofOne := envOK_of (fun f c h => by
  simp only [env_spec_ofOne] at h
  split at h
  · cases h; exact con_spec_enGloss
  · cases h; exact con_spec_l1In
  · cases h; exact con_spec_l1All
  · cases h) (fun f c h => by cases h) rfl
theorem con_spec_ofOne : ConOK Tryz.prog 70 c_spec_ofOne := con_of_ev' (body := Tryz.f70.body.getD .skip) (Λ := loops_spec_ofOne) mixed Tryz.func70 (by kernel_rfl) (by kernel_rfl) env_spec_ofOne_ok (by kernel_rfl) (by kernel_rfl) (fun n L h => by cases h) F_spec_ofOne_eq

noncomputable def F_spec_ofMembers (x : Int) : Option (Bool) :=
  match F_spec_l1In ((x, 1, 7)) with
  | none => none
  | some y1 =>
    some (y1)
noncomputable def c_spec_ofMembers : Con := { ps := [(.val, (.int .i64))], rs := [(.val, .bool)], F := F_spec_ofMembers }
noncomputable def env_spec_ofMembers : Env := { par := [], dp := false, settle := [], con := fun f => match f with | 87 => some c_spec_l1In | _ => none, clo := fun _ => none, T := tinf Tryz.prog }
noncomputable def loops_spec_ofMembers : Nat → Option Loop := fun n => none
theorem F_spec_ofMembers_eq (x : Int) : Fev env_spec_ofMembers loops_spec_ofMembers c_spec_ofMembers.ps c_spec_ofMembers.rs Tryz.f71 x = F_spec_ofMembers x := by kernel_rfl
theorem env_spec_ofMembers_ok : EnvOK Tryz.prog env_spec_ofMembers := envOK_of (fun f c h => by
  simp only [env_spec_ofMembers] at h
  split at h
  · cases h; exact con_spec_l1In
  · cases h) (fun f c h => by cases h) rfl
theorem con_spec_ofMembers : ConOK Tryz.prog 71 c_spec_ofMembers := con_of_ev' (body := Tryz.f71.body.getD .skip) (Λ := loops_spec_ofMembers) mixed Tryz.func71 (by kernel_rfl) (by kernel_rfl) env_spec_ofMembers_ok (by kernel_rfl) (by kernel_rfl) (fun n L h => by cases h) F_spec_ofMembers_eq

noncomputable def step_spec_ofGood_0 (s : (List (Int × (Int × (ByteArray × (List Int))))) × Int × (List (Int × (Int × (ByteArray × (List Int))))) × Int × Int) : Option (((List (Int × (Int × (ByteArray × (List Int))))) × Int × (List (Int × (Int × (ByteArray × (List Int))))) × Int × Int) ⊕ ((Bool) ⊕ ((List (Int × (Int × (ByteArray × (List Int))))) × Int))) :=
  bif (decide (s.2.2.2.2 < s.2.2.2.1)) then
    bif decide (0 ≤ s.2.2.2.2) && decide (s.2.2.2.2 < (s.2.2.1.length : Int)) then
      match F_spec_ofOne (((s.2.2.1.getD (s.2.2.2.2).toNat (0, (0, ByteArray.empty, []))), s.2.1)) with
      | none => none
      | some y5 =>
        bif (!y5) then
          some (.inr (.inl (false)))
        else
          bif (decide (s.2.2.2.2 > 0)) then
            let v6 := IntKind.i64.wrap (s.2.2.2.2 - 1)
            bif decide (0 ≤ v6) && decide (v6 < (s.1.length : Int)) then
              bif (decide ((s.1.getD (v6).toNat (0, (0, ByteArray.empty, []))).1 ≥ (s.2.2.1.getD (s.2.2.2.2).toNat (0, (0, ByteArray.empty, []))).1)) then
                some (.inr (.inl (false)))
              else
                let v7 := IntKind.i64.wrap (s.2.2.2.2 + 1)
                some (.inl ((s.1, s.2.1, (s.2.2.1, s.2.2.2.1, v7))))
            else none
          else
            let v8 := IntKind.i64.wrap (s.2.2.2.2 + 1)
            some (.inl ((s.1, s.2.1, (s.2.2.1, s.2.2.2.1, v8))))
    else none
  else
    some (.inr (.inr ((s.1, s.2.1))))
def pat_spec_ofGood_0 : Pat := { tmps := [.v (.slice (.st (.pair (.int .i64) (.pair (.int .i64) (.pair .str (.slice (.int .i64))))))), .v (.int .i64), .any, .any, .any, .any, .any, .v (.slice (.st (.pair (.int .i64) (.pair (.int .i64) (.pair .str (.slice (.int .i64))))))), .v (.int .i64), .v (.int .i64), .any, .any, .any, .any, .any, .any, .any, .any, .any, .any, .any, .any, .any, .any, .any, .any, .any, .any, .any, .any, .any, .any, .any, .any, .any, .any, .any, .any, .any, .any, .any], blks := [] }
def outs_spec_ofGood_0 : List (Exit × Pat) := [(.ret, { tmps := [.any, .any, .any, .any, .v .bool, .any, .any, .any, .any, .any, .any, .any, .any, .any, .any, .any, .any, .any, .any, .any, .any, .any, .any, .any, .any, .any, .any, .any, .any, .any, .any, .any, .any, .any, .any, .any, .any, .any, .any, .any, .any], blks := [] }), (.exit 0, { tmps := [.v (.slice (.st (.pair (.int .i64) (.pair (.int .i64) (.pair .str (.slice (.int .i64))))))), .v (.int .i64), .any, .any, .any, .any, .any, .any, .any, .any, .any, .any, .any, .any, .any, .any, .any, .any, .any, .any, .any, .any, .any, .any, .any, .any, .any, .any, .any, .any, .any, .any, .any, .any, .any, .any, .any, .any, .any, .any, .any], blks := [] })]
noncomputable def F_spec_ofGood (x : (List (Int × (Int × (ByteArray × (List Int))))) × Int) : Option (Bool) :=
  match runL step_spec_ofGood_0 ((x.1, x.2, (x.1, (x.1.length : Int), 0))) with
  | none => none
  | some (.inl o9) =>
    some (o9)
  | some (.inr o9) =>
    match F_spec_ofMembers (o9.2) with
    | none => none
    | some y10 =>
      bif y10 then
        some ((decide ((o9.1.length : Int) ≤ 12)))
      else
        some (false)
noncomputable def c_spec_ofGood : Con := { ps := [(.val, (.slice (.st (.pair (.int .i64) (.pair (.int .i64) (.pair .str (.slice (.int .i64)))))))), (.val, (.int .i64))], rs := [(.val, .bool)], F := F_spec_ofGood }
noncomputable def env_spec_ofGood : Env := { par := [], dp := false, settle := [], con := fun f => match f with | 70 => some c_spec_ofOne | 71 => some c_spec_ofMembers | _ => none, clo := fun _ => none, T := tinf Tryz.prog }
noncomputable def loops_spec_ofGood : Nat → Option Loop := fun n => match n with | 2 => some { pat := pat_spec_ofGood_0, outs := outs_spec_ofGood_0, run := runL (step_spec_ofGood_0) } | _ => none
theorem step_spec_ofGood_0_eq (s : (List (Int × (Int × (ByteArray × (List Int))))) × Int × (List (Int × (Int × (ByteArray × (List Int))))) × Int × Int) : stepEv env_spec_ofGood loops_spec_ofGood pat_spec_ofGood_0 outs_spec_ofGood_0 Tryz.f39 2 s = step_spec_ofGood_0 s := by kernel_rfl
theorem F_spec_ofGood_eq (x : (List (Int × (Int × (ByteArray × (List Int))))) × Int) : Fev env_spec_ofGood loops_spec_ofGood c_spec_ofGood.ps c_spec_ofGood.rs Tryz.f39 x = F_spec_ofGood x := by kernel_rfl
theorem env_spec_ofGood_ok : EnvOK Tryz.prog env_spec_ofGood := envOK_of (fun f c h => by
  simp only [env_spec_ofGood] at h
  split at h
  · cases h; exact con_spec_ofOne
  · cases h; exact con_spec_ofMembers
  · cases h) (fun f c h => by cases h) rfl
theorem con_spec_ofGood : ConOK Tryz.prog 39 c_spec_ofGood := con_of_ev' (body := Tryz.f39.body.getD .skip) (Λ := loops_spec_ofGood) mixed Tryz.func39 (by kernel_rfl) (by kernel_rfl) env_spec_ofGood_ok (by kernel_rfl) (by kernel_rfl) (fun n L h => by
  unfold loops_spec_ofGood at h
  split at h
  · cases h; exact fun s o ho => loop_ok (stepF := stepEv env_spec_ofGood loops_spec_ofGood pat_spec_ofGood_0 outs_spec_ofGood_0 Tryz.f39 2) (step_spec_ofGood_0_eq) ho
  · cases h) F_spec_ofGood_eq

noncomputable def step_spec_ofCount_0 (s : Int × Int × (List Int) × Int × Int) : Option ((Int × Int × (List Int) × Int × Int) ⊕ ((Int))) :=
  bif (decide (s.2.2.2.2 < s.2.2.2.1)) then
    bif decide (0 ≤ s.2.2.2.2) && decide (s.2.2.2.2 < (s.2.2.1.length : Int)) then
      bif (((s.2.2.1.getD (s.2.2.2.2).toNat 0) == s.1)) then
        let v4 := IntKind.i64.wrap (s.2.1 + 1)
        let v5 := IntKind.i64.wrap (s.2.2.2.2 + 1)
        some (.inl ((s.1, v4, (s.2.2.1, s.2.2.2.1, v5))))
      else
        let v6 := IntKind.i64.wrap (s.2.2.2.2 + 1)
        some (.inl ((s.1, s.2.1, (s.2.2.1, s.2.2.2.1, v6))))
    else none
  else
    some (.inr (s.2.1))
def pat_spec_ofCount_0 : Pat := { tmps := [.any, .v (.int .i64), .any, .any, .any, .v (.int .i64), .any, .any, .any, .v (.slice (.int .i64)), .v (.int .i64), .v (.int .i64), .any, .any, .any, .any, .any, .any, .any, .any, .any, .any], blks := [] }
def outs_spec_ofCount_0 : List (Exit × Pat) := [(.exit 0, { tmps := [.any, .any, .any, .any, .any, .v (.int .i64), .any, .any, .any, .any, .any, .any, .any, .any, .any, .any, .any, .any, .any, .any, .any, .any], blks := [] })]
noncomputable def F_spec_ofCount (x : (Int × (Int × (ByteArray × (List Int)))) × Int) : Option (Int) :=
  match runL step_spec_ofCount_0 ((x.2, 0, (x.1.2.2.2, (x.1.2.2.2.length : Int), 0))) with
  | none => none
  | some o7 =>
    some (o7)
noncomputable def c_spec_ofCount : Con := { ps := [(.val, (.st (.pair (.int .i64) (.pair (.int .i64) (.pair .str (.slice (.int .i64))))))), (.val, (.int .i64))], rs := [(.val, (.int .i64))], F := F_spec_ofCount }
noncomputable def env_spec_ofCount : Env := { par := [], dp := false, settle := [], con := fun _ => none, clo := fun _ => none, T := tinf Tryz.prog }
noncomputable def loops_spec_ofCount : Nat → Option Loop := fun n => match n with | 3 => some { pat := pat_spec_ofCount_0, outs := outs_spec_ofCount_0, run := runL (step_spec_ofCount_0) } | _ => none
theorem step_spec_ofCount_0_eq (s : Int × Int × (List Int) × Int × Int) : stepEv env_spec_ofCount loops_spec_ofCount pat_spec_ofCount_0 outs_spec_ofCount_0 Tryz.f72 3 s = step_spec_ofCount_0 s := by kernel_rfl
theorem F_spec_ofCount_eq (x : (Int × (Int × (ByteArray × (List Int)))) × Int) : Fev env_spec_ofCount loops_spec_ofCount c_spec_ofCount.ps c_spec_ofCount.rs Tryz.f72 x = F_spec_ofCount x := by kernel_rfl
theorem env_spec_ofCount_ok : EnvOK Tryz.prog env_spec_ofCount := envOK_of (fun f c h => by cases h) (fun f c h => by cases h) rfl
theorem con_spec_ofCount : ConOK Tryz.prog 72 c_spec_ofCount := con_of_ev' (body := Tryz.f72.body.getD .skip) (Λ := loops_spec_ofCount) mixed Tryz.func72 (by kernel_rfl) (by kernel_rfl) env_spec_ofCount_ok (by kernel_rfl) (by kernel_rfl) (fun n L h => by
  unfold loops_spec_ofCount at h
  split at h
  · cases h; exact fun s o ho => loop_ok (stepF := stepEv env_spec_ofCount loops_spec_ofCount pat_spec_ofCount_0 outs_spec_ofCount_0 Tryz.f72 3) (step_spec_ofCount_0_eq) ho
  · cases h) F_spec_ofCount_eq

noncomputable def F_spec_ofPassed (x : (Int × (Int × (ByteArray × (List Int)))) × Int) : Option (Bool) :=
  match F_spec_ofCount ((x.1, 1)) with
  | none => none
  | some y1 =>
    let v2 := IntKind.i64.wrap (y1 + x.2)
    match F_spec_ofCount ((x.1, (-1))) with
    | none => none
    | some y3 =>
      let v4 := IntKind.i64.wrap (v2 + y3)
      let v5 := IntKind.i64.wrap (2 * v4)
      bif (decide (v5 > (x.1.2.2.2.length : Int))) then
        some ((decide (v2 > y3)))
      else
        some (false)
noncomputable def c_spec_ofPassed : Con := { ps := [(.val, (.st (.pair (.int .i64) (.pair (.int .i64) (.pair .str (.slice (.int .i64))))))), (.val, (.int .i64))], rs := [(.val, .bool)], F := F_spec_ofPassed }
noncomputable def env_spec_ofPassed : Env := { par := [], dp := false, settle := [], con := fun f => match f with | 72 => some c_spec_ofCount | _ => none, clo := fun _ => none, T := tinf Tryz.prog }
noncomputable def loops_spec_ofPassed : Nat → Option Loop := fun n => none
theorem F_spec_ofPassed_eq (x : (Int × (Int × (ByteArray × (List Int)))) × Int) : Fev env_spec_ofPassed loops_spec_ofPassed c_spec_ofPassed.ps c_spec_ofPassed.rs Tryz.f40 x = F_spec_ofPassed x := by kernel_rfl
theorem env_spec_ofPassed_ok : EnvOK Tryz.prog env_spec_ofPassed := envOK_of (fun f c h => by
  simp only [env_spec_ofPassed] at h
  split at h
  · cases h; exact con_spec_ofCount
  · cases h) (fun f c h => by cases h) rfl
theorem con_spec_ofPassed : ConOK Tryz.prog 40 c_spec_ofPassed := con_of_ev' (body := Tryz.f40.body.getD .skip) (Λ := loops_spec_ofPassed) mixed Tryz.func40 (by kernel_rfl) (by kernel_rfl) env_spec_ofPassed_ok (by kernel_rfl) (by kernel_rfl) (fun n L h => by cases h) F_spec_ofPassed_eq

noncomputable def step_spec_ctPut_0 (s : (List ByteArray) × ByteArray × Int) : Option (((List ByteArray) × ByteArray × Int) ⊕ (((List ByteArray) × ByteArray × Int))) :=
  bif (decide (s.2.2 < (s.1.length : Int))) then
    bif decide (0 ≤ s.2.2) && decide (s.2.2 < (s.1.length : Int)) then
      bif (Op.bytesLess (s.1.getD (s.2.2).toNat ByteArray.empty).toList s.2.1.toList) then
        let v2 := IntKind.i64.wrap (s.2.2 + 1)
        some (.inl ((s.1, s.2.1, v2)))
      else
        some (.inr (s))
    else none
  else
    some (.inr (s))
def pat_spec_ctPut_0 : Pat := { tmps := [.v (.slice .str), .v .str, .any, .any, .any, .v (.int .i64), .any, .any, .any, .any, .any, .any, .any, .any, .any, .any, .any, .any, .any, .any, .any, .any, .any, .any, .any, .any, .any, .any, .any, .any, .any, .any, .any, .any, .any, .any, .any, .any, .any, .any, .any, .any, .any, .any, .any], blks := [] }
def outs_spec_ctPut_0 : List (Exit × Pat) := [(.exit 0, { tmps := [.v (.slice .str), .v .str, .any, .any, .any, .v (.int .i64), .any, .any, .any, .any, .any, .any, .any, .any, .any, .any, .any, .any, .any, .any, .any, .any, .any, .any, .any, .any, .any, .any, .any, .any, .any, .any, .any, .any, .any, .any, .any, .any, .any, .any, .any, .any, .any, .any, .any], blks := [] })]
noncomputable def F_spec_ctPut (x : (List ByteArray) × ByteArray) : Option ((List ByteArray)) :=
  match runL step_spec_ctPut_0 ((x.1, x.2, 0)) with
  | none => none
  | some o3 =>
    bif (decide (o3.2.2 < (o3.1.length : Int))) then
      bif decide (0 ≤ o3.2.2) && decide (o3.2.2 < (o3.1.length : Int)) then
        bif ((o3.1.getD (o3.2.2).toNat ByteArray.empty).toList == o3.2.1.toList) then
          some (o3.1)
        else
          bif decide (0 ≤ (0 : Int)) && decide ((0 : Int) ≤ o3.2.2) && decide (o3.2.2 ≤ (o3.1.length : Int)) then
            bif decide (0 ≤ o3.2.2) && decide (o3.2.2 ≤ (o3.1.length : Int)) && decide ((o3.1.length : Int) ≤ (o3.1.length : Int)) then
              bif decide ((([] : List ByteArray).length + ((o3.1.drop ((0 : Int)).toNat).take ((o3.2.2).toNat - ((0 : Int)).toNat)).length) * 16 ≤ 140737488355328) then
                let v4 := ([] : List ByteArray) ++ ((o3.1.drop ((0 : Int)).toNat).take ((o3.2.2).toNat - ((0 : Int)).toNat))
                bif decide ((v4.length + ([o3.2.1] : List (ByteArray)).length) * 16 ≤ 140737488355328) then
                  let v5 := v4 ++ ([o3.2.1] : List (ByteArray))
                  bif decide ((v5.length + ((o3.1.drop (o3.2.2).toNat).take (((o3.1.length : Int)).toNat - (o3.2.2).toNat)).length) * 16 ≤ 140737488355328) then
                    let v6 := v5 ++ ((o3.1.drop (o3.2.2).toNat).take (((o3.1.length : Int)).toNat - (o3.2.2).toNat))
                    some (v6)
                  else none
                else none
              else none
            else none
          else none
      else none
    else
      bif decide (0 ≤ (0 : Int)) && decide ((0 : Int) ≤ o3.2.2) && decide (o3.2.2 ≤ (o3.1.length : Int)) then
        bif decide (0 ≤ o3.2.2) && decide (o3.2.2 ≤ (o3.1.length : Int)) && decide ((o3.1.length : Int) ≤ (o3.1.length : Int)) then
          bif decide ((([] : List ByteArray).length + ((o3.1.drop ((0 : Int)).toNat).take ((o3.2.2).toNat - ((0 : Int)).toNat)).length) * 16 ≤ 140737488355328) then
            let v7 := ([] : List ByteArray) ++ ((o3.1.drop ((0 : Int)).toNat).take ((o3.2.2).toNat - ((0 : Int)).toNat))
            bif decide ((v7.length + ([o3.2.1] : List (ByteArray)).length) * 16 ≤ 140737488355328) then
              let v8 := v7 ++ ([o3.2.1] : List (ByteArray))
              bif decide ((v8.length + ((o3.1.drop (o3.2.2).toNat).take (((o3.1.length : Int)).toNat - (o3.2.2).toNat)).length) * 16 ≤ 140737488355328) then
                let v9 := v8 ++ ((o3.1.drop (o3.2.2).toNat).take (((o3.1.length : Int)).toNat - (o3.2.2).toNat))
                some (v9)
              else none
            else none
          else none
        else none
      else none
noncomputable def c_spec_ctPut : Con := { ps := [(.val, (.slice .str)), (.val, .str)], rs := [(.val, (.slice .str))], F := F_spec_ctPut }
noncomputable def env_spec_ctPut : Env := { par := [], dp := false, settle := [], con := fun _ => none, clo := fun _ => none, T := tinf Tryz.prog }
noncomputable def loops_spec_ctPut : Nat → Option Loop := fun n => match n with | 2 => some { pat := pat_spec_ctPut_0, outs := outs_spec_ctPut_0, run := runL (step_spec_ctPut_0) } | _ => none
theorem step_spec_ctPut_0_eq (s : (List ByteArray) × ByteArray × Int) : stepEv env_spec_ctPut loops_spec_ctPut pat_spec_ctPut_0 outs_spec_ctPut_0 Tryz.f41 2 s = step_spec_ctPut_0 s := by kernel_rfl
theorem F_spec_ctPut_eq (x : (List ByteArray) × ByteArray) : Fev env_spec_ctPut loops_spec_ctPut c_spec_ctPut.ps c_spec_ctPut.rs Tryz.f41 x = F_spec_ctPut x := by kernel_rfl
theorem env_spec_ctPut_ok : EnvOK Tryz.prog env_spec_ctPut := envOK_of (fun f c h => by cases h) (fun f c h => by cases h) rfl
theorem con_spec_ctPut : ConOK Tryz.prog 41 c_spec_ctPut := con_of_ev' (body := Tryz.f41.body.getD .skip) (Λ := loops_spec_ctPut) mixed Tryz.func41 (by kernel_rfl) (by kernel_rfl) env_spec_ctPut_ok (by kernel_rfl) (by kernel_rfl) (fun n L h => by
  unfold loops_spec_ctPut at h
  split at h
  · cases h; exact fun s o ho => loop_ok (stepF := stepEv env_spec_ctPut loops_spec_ctPut pat_spec_ctPut_0 outs_spec_ctPut_0 Tryz.f41 2) (step_spec_ctPut_0_eq) ho
  · cases h) F_spec_ctPut_eq

noncomputable def step_spec_NextEdition_0 (s : (List ByteArray) × (List (Int × (Int × (ByteArray × (List Int))))) × Int × Int × (List ByteArray) × Int × Int × Int × Int × ByteArray × (List Int) × (List Int) × (List ByteArray)) : Option (((List ByteArray) × (List (Int × (Int × (ByteArray × (List Int))))) × Int × Int × (List ByteArray) × Int × Int × Int × Int × ByteArray × (List Int) × (List Int) × (List ByteArray)) ⊕ (((List ByteArray) × (List (Int × (Int × (ByteArray × (List Int))))) × Int × Int × (List ByteArray) × Int × Int × ByteArray × (List Int) × (List Int)))) :=
  bif (decide (s.2.2.2.2.2.2.1 < s.2.2.2.2.2.1)) then
    bif decide (0 ≤ s.2.2.2.2.2.2.1) && decide (s.2.2.2.2.2.2.1 < (s.2.2.2.2.1.length : Int)) then
      bif (!((s.2.2.2.2.1.getD (s.2.2.2.2.2.2.1).toNat ByteArray.empty).toList == s.2.2.2.2.2.2.2.2.2.1.toList)) then
        bif decide ((s.2.2.2.2.2.2.2.2.2.2.2.2.length + [(s.2.2.2.2.1.getD (s.2.2.2.2.2.2.1).toNat ByteArray.empty)].length) * 16 ≤ 140737488355328) then
          let v42 := s.2.2.2.2.2.2.2.2.2.2.2.2 ++ [(s.2.2.2.2.1.getD (s.2.2.2.2.2.2.1).toNat ByteArray.empty)]
          let v43 := IntKind.i64.wrap (s.2.2.2.2.2.2.1 + 1)
          some (.inl ((s.1, s.2.1, (s.2.2.1, s.2.2.2.1, (s.2.2.2.2.1, s.2.2.2.2.2.1, (v43, s.2.2.2.2.2.2.2.1, (s.2.2.2.2.2.2.2.2.1, s.2.2.2.2.2.2.2.2.2.1, (s.2.2.2.2.2.2.2.2.2.2.1, s.2.2.2.2.2.2.2.2.2.2.2.1, v42))))))))
        else none
      else
        let v44 := IntKind.i64.wrap (s.2.2.2.2.2.2.1 + 1)
        some (.inl ((s.1, (s.2.1, s.2.2.1, (s.2.2.2.1, s.2.2.2.2.1, (s.2.2.2.2.2.1, v44, s.2.2.2.2.2.2.2))))))
    else none
  else
    some (.inr ((s.1, (s.2.1, s.2.2.1, (s.2.2.2.1, s.2.2.2.2.2.2.2.2.2.2.2.2, (s.2.2.2.2.2.2.2.1, s.2.2.2.2.2.2.2.2.1, (s.2.2.2.2.2.2.2.2.2.1, s.2.2.2.2.2.2.2.2.2.2.1, s.2.2.2.2.2.2.2.2.2.2.2.1)))))))
def pat_spec_NextEdition_0 : Pat := { tmps := [.any, .any, .any, .any, .any, .any, .any, .any, .any, .v (.slice .str), .own 4608, .any, .ptr 768 0, .own 3264, .any, .any, .any, .any, .any, .any, .any, .any, .any, .any, .any, .any, .any, .any, .any, .v (.slice (.st (.pair (.int .i64) (.pair (.int .i64) (.pair .str (.slice (.int .i64))))))), .v (.int .i64), .v (.int .i64), .any, .any, .any, .any, .any, .any, .v (.slice .str), .v (.int .i64), .v (.int .i64), .any, .any, .any, .any, .any, .any, .any, .any, .any, .any, .any, .any, .any, .any, .any, .any, .any, .any, .any, .any, .any, .any, .any, .any, .any, .any, .any, .any, .any, .any, .any, .any, .any, .any, .any, .any, .any, .any, .any, .any, .any], blks := [(768, .box [.v (.int .i64), .v (.int .i64), .v .str, .v (.slice (.int .i64))]), (4608, .row true (.int .i64)), (3264, .row true .str)] }
def outs_spec_NextEdition_0 : List (Exit × Pat) := [(.exit 2, { tmps := [.any, .any, .any, .any, .any, .any, .any, .any, .any, .v (.slice .str), .own 4608, .any, .ptr 768 0, .own 3264, .any, .any, .any, .any, .any, .any, .any, .any, .any, .any, .any, .any, .any, .any, .any, .v (.slice (.st (.pair (.int .i64) (.pair (.int .i64) (.pair .str (.slice (.int .i64))))))), .v (.int .i64), .v (.int .i64), .any, .any, .any, .any, .any, .any, .any, .any, .any, .any, .any, .any, .any, .any, .any, .any, .any, .any, .any, .any, .any, .any, .any, .any, .any, .any, .any, .any, .any, .any, .any, .any, .any, .any, .any, .any, .any, .any, .any, .any, .any, .any, .any, .any, .any, .any, .any, .any, .any, .any], blks := [(3264, .row true .str), (768, .box [.v (.int .i64), .v (.int .i64), .v .str, .v (.slice (.int .i64))]), (4608, .row true (.int .i64))] })]
noncomputable def step_spec_NextEdition_1 (s : (List ByteArray) × (List (Int × (Int × (ByteArray × (List Int))))) × Int × Int × (List Int)) : Option (((List ByteArray) × (List (Int × (Int × (ByteArray × (List Int))))) × Int × Int × (List Int)) ⊕ (((List ByteArray) × (List Int)))) :=
  bif (decide (s.2.2.2.1 < s.2.2.1)) then
    bif decide (0 ≤ s.2.2.2.1) && decide (s.2.2.2.1 < (s.2.1.length : Int)) then
      match F_spec_ofPassed (((s.2.1.getD (s.2.2.2.1).toNat (0, (0, ByteArray.empty, []))), 0)) with
      | none => none
      | some y35 =>
        bif (!y35) then
          let v36 := IntKind.i64.wrap (s.2.2.2.1 + 1)
          some (.inl ((s.1, s.2.1, (s.2.2.1, v36, s.2.2.2.2))))
        else
          match runL step_spec_NextEdition_0 ((s.1, s.2.1, (s.2.2.1, s.2.2.2.1, (s.1, (s.1.length : Int), (0, (s.2.1.getD (s.2.2.2.1).toNat (0, (0, ByteArray.empty, []))).1, ((s.2.1.getD (s.2.2.2.1).toNat (0, (0, ByteArray.empty, []))).2.1, (s.2.1.getD (s.2.2.2.1).toNat (0, (0, ByteArray.empty, []))).2.2.1, ((s.2.1.getD (s.2.2.2.1).toNat (0, (0, ByteArray.empty, []))).2.2.2, s.2.2.2.2, []))))))) with
          | none => none
          | some o45 =>
            bif ((decide ((o45.2.2.2.2.1.length : Int) < (o45.1.length : Int))) == ((o45.2.2.2.2.2.2.1 == 0))) then
              bif decide ((o45.2.2.2.2.2.2.2.2.2.length + [o45.2.2.2.2.2.1].length) * 8 ≤ 140737488355328) then
                let v46 := o45.2.2.2.2.2.2.2.2.2 ++ [o45.2.2.2.2.2.1]
                let v47 := IntKind.i64.wrap (o45.2.2.2.1 + 1)
                some (.inl ((o45.1, o45.2.1, (o45.2.2.1, v47, v46))))
              else none
            else
              bif (decide ((o45.2.2.2.2.1.length : Int) < (o45.1.length : Int))) then
                let v48 := IntKind.i64.wrap (o45.2.2.2.1 + 1)
                some (.inl ((o45.2.2.2.2.1, o45.2.1, (o45.2.2.1, v48, o45.2.2.2.2.2.2.2.2.2))))
              else
                match F_spec_ctPut ((o45.1, o45.2.2.2.2.2.2.2.1)) with
                | none => none
                | some y49 =>
                  let v50 := IntKind.i64.wrap (o45.2.2.2.1 + 1)
                  some (.inl ((y49, o45.2.1, (o45.2.2.1, v50, o45.2.2.2.2.2.2.2.2.2))))
    else none
  else
    some (.inr ((s.1, s.2.2.2.2)))
def pat_spec_NextEdition_1 : Pat := { tmps := [.any, .any, .any, .any, .any, .any, .any, .any, .any, .v (.slice .str), .own 4608, .any, .any, .any, .any, .any, .any, .any, .any, .any, .any, .any, .any, .any, .any, .any, .any, .any, .any, .v (.slice (.st (.pair (.int .i64) (.pair (.int .i64) (.pair .str (.slice (.int .i64))))))), .v (.int .i64), .v (.int .i64), .any, .any, .any, .any, .any, .any, .any, .any, .any, .any, .any, .any, .any, .any, .any, .any, .any, .any, .any, .any, .any, .any, .any, .any, .any, .any, .any, .any, .any, .any, .any, .any, .any, .any, .any, .any, .any, .any, .any, .any, .any, .any, .any, .any, .any, .any, .any, .any, .any, .any], blks := [(4608, .row true (.int .i64))] }
def outs_spec_NextEdition_1 : List (Exit × Pat) := [(.exit 0, { tmps := [.any, .any, .any, .any, .any, .any, .any, .any, .any, .v (.slice .str), .own 4608, .any, .any, .any, .any, .any, .any, .any, .any, .any, .any, .any, .any, .any, .any, .any, .any, .any, .any, .any, .any, .any, .any, .any, .any, .any, .any, .any, .any, .any, .any, .any, .any, .any, .any, .any, .any, .any, .any, .any, .any, .any, .any, .any, .any, .any, .any, .any, .any, .any, .any, .any, .any, .any, .any, .any, .any, .any, .any, .any, .any, .any, .any, .any, .any, .any, .any, .any, .any, .any, .any, .any], blks := [(4608, .row true (.int .i64))] })]
noncomputable def F_spec_NextEdition (x : (List ByteArray) × (List (Int × (Int × (ByteArray × (List Int))))) × Int) : Option ((List ByteArray) × (List Int) × Bool) :=
  match F_spec_ofGlosses (x.1) with
  | none => none
  | some y1 =>
    bif (!y1) then
      some (([], [], false))
    else
      match F_spec_ofGood (x.2) with
      | none => none
      | some y2 =>
        bif (!y2) then
          some (([], [], false))
        else
          bif decide ((([] : List ByteArray).length + x.1.length) * 16 ≤ 140737488355328) then
            let v3 := ([] : List ByteArray) ++ x.1
            match runL step_spec_NextEdition_1 ((v3, x.2.1, ((x.2.1.length : Int), 0, []))) with
            | none => none
            | some o51 =>
              match F_spec_ofGlosses (o51.1) with
              | none => none
              | some y52 =>
                bif (!y52) then
                  some (([], [], false))
                else
                  some ((o51.1, o51.2, true))
          else none
noncomputable def c_spec_NextEdition : Con := { ps := [(.val, (.slice .str)), (.val, (.slice (.st (.pair (.int .i64) (.pair (.int .i64) (.pair .str (.slice (.int .i64)))))))), (.val, (.int .i64))], rs := [(.val, (.slice .str)), (.val, (.slice (.int .i64))), (.val, .bool)], F := F_spec_NextEdition }
noncomputable def env_spec_NextEdition : Env := { par := [], dp := false, settle := [], con := fun f => match f with | 38 => some c_spec_ofGlosses | 39 => some c_spec_ofGood | 40 => some c_spec_ofPassed | 41 => some c_spec_ctPut | _ => none, clo := fun _ => none, T := tinf Tryz.prog }
noncomputable def loops_spec_NextEdition : Nat → Option Loop := fun n => match n with | 11 => some { pat := pat_spec_NextEdition_0, outs := outs_spec_NextEdition_0, run := runL (step_spec_NextEdition_0) } | 6 => some { pat := pat_spec_NextEdition_1, outs := outs_spec_NextEdition_1, run := runL (step_spec_NextEdition_1) } | _ => none
theorem step_spec_NextEdition_0_eq (s : (List ByteArray) × (List (Int × (Int × (ByteArray × (List Int))))) × Int × Int × (List ByteArray) × Int × Int × Int × Int × ByteArray × (List Int) × (List Int) × (List ByteArray)) : stepEv env_spec_NextEdition loops_spec_NextEdition pat_spec_NextEdition_0 outs_spec_NextEdition_0 Tryz.f7 11 s = step_spec_NextEdition_0 s := by kernel_rfl
theorem step_spec_NextEdition_1_eq (s : (List ByteArray) × (List (Int × (Int × (ByteArray × (List Int))))) × Int × Int × (List Int)) : stepEv env_spec_NextEdition loops_spec_NextEdition pat_spec_NextEdition_1 outs_spec_NextEdition_1 Tryz.f7 6 s = step_spec_NextEdition_1 s := by kernel_rfl
theorem F_spec_NextEdition_eq (x : (List ByteArray) × (List (Int × (Int × (ByteArray × (List Int))))) × Int) : Fev env_spec_NextEdition loops_spec_NextEdition c_spec_NextEdition.ps c_spec_NextEdition.rs Tryz.f7 x = F_spec_NextEdition x := by kernel_rfl
theorem env_spec_NextEdition_ok : EnvOK Tryz.prog env_spec_NextEdition := envOK_of (fun f c h => by
  simp only [env_spec_NextEdition] at h
  split at h
  · cases h; exact con_spec_ofGlosses
  · cases h; exact con_spec_ofGood
  · cases h; exact con_spec_ofPassed
  · cases h; exact con_spec_ctPut
  · cases h) (fun f c h => by cases h) rfl
theorem con_spec_NextEdition : ConOK Tryz.prog 7 c_spec_NextEdition := con_of_ev' (body := Tryz.f7.body.getD .skip) (Λ := loops_spec_NextEdition) mixed Tryz.func7 (by kernel_rfl) (by kernel_rfl) env_spec_NextEdition_ok (by kernel_rfl) (by kernel_rfl) (fun n L h => by
  unfold loops_spec_NextEdition at h
  split at h
  · cases h; exact fun s o ho => loop_ok (stepF := stepEv env_spec_NextEdition loops_spec_NextEdition pat_spec_NextEdition_0 outs_spec_NextEdition_0 Tryz.f7 11) (step_spec_NextEdition_0_eq) ho
  · cases h; exact fun s o ho => loop_ok (stepF := stepEv env_spec_NextEdition loops_spec_NextEdition pat_spec_NextEdition_1 outs_spec_NextEdition_1 Tryz.f7 6) (step_spec_NextEdition_1_eq) ho
  · cases h) F_spec_NextEdition_eq

noncomputable def step_impl_PassedNumbers_0 (s : (List (Int × (Int × (ByteArray × (List Int))))) × Int × Int × (List Int)) : Option (((List (Int × (Int × (ByteArray × (List Int))))) × Int × Int × (List Int)) ⊕ (((List Int)))) :=
  bif (decide (s.2.2.1 < s.2.1)) then
    bif decide (0 ≤ s.2.2.1) && decide (s.2.2.1 < (s.1.length : Int)) then
      match F_impl_Proposal_passed (((s.1.getD (s.2.2.1).toNat (0, (0, ByteArray.empty, []))), 0)) with
      | none => none
      | some y9 =>
        bif y9 then
          bif decide ((s.2.2.2.length + [(s.1.getD (s.2.2.1).toNat (0, (0, ByteArray.empty, []))).1].length) * 8 ≤ 140737488355328) then
            let v10 := s.2.2.2 ++ [(s.1.getD (s.2.2.1).toNat (0, (0, ByteArray.empty, []))).1]
            let v11 := IntKind.i64.wrap (s.2.2.1 + 1)
            some (.inl ((s.1, (s.2.1, v11, v10))))
          else none
        else
          let v12 := IntKind.i64.wrap (s.2.2.1 + 1)
          some (.inl ((s.1, (s.2.1, v12, s.2.2.2))))
    else none
  else
    some (.inr (s.2.2.2))
def pat_impl_PassedNumbers_0 : Pat := { tmps := [.any, .any, .any, .any, .any, .any, .own 1600, .any, .any, .any, .any, .any, .any, .v (.slice (.st (.pair (.int .i64) (.pair (.int .i64) (.pair .str (.slice (.int .i64))))))), .v (.int .i64), .v (.int .i64), .any, .any, .any, .any, .any, .any, .any, .any, .any, .any, .any, .any], blks := [(1600, .row true (.int .i64))] }
def outs_impl_PassedNumbers_0 : List (Exit × Pat) := [(.exit 0, { tmps := [.any, .any, .any, .any, .any, .any, .own 1600, .any, .any, .any, .any, .any, .any, .any, .any, .any, .any, .any, .any, .any, .any, .any, .any, .any, .any, .any, .any, .any], blks := [(1600, .row true (.int .i64))] })]
noncomputable def F_impl_PassedNumbers (x : (List (Int × (Int × (ByteArray × (List Int))))) × Int) : Option ((List Int) × Bool) :=
  match F_impl_AreProposals (x) with
  | none => none
  | some y1 =>
    bif (!y1) then
      some (([], false))
    else
      match runL step_impl_PassedNumbers_0 ((x.1, ((x.1.length : Int), 0, []))) with
      | none => none
      | some o13 =>
        some ((o13, true))
noncomputable def c_impl_PassedNumbers : Con := { ps := [(.val, (.slice (.st (.pair (.int .i64) (.pair (.int .i64) (.pair .str (.slice (.int .i64)))))))), (.val, (.int .i64))], rs := [(.io true, (.slice (.int .i64))), (.val, .bool)], F := F_impl_PassedNumbers }
noncomputable def env_impl_PassedNumbers : Env := { par := [], dp := false, settle := [], con := fun f => match f with | 14 => some c_impl_AreProposals | 34 => some c_impl_Proposal_passed | _ => none, clo := fun _ => none, T := tinf Tryz.prog }
noncomputable def loops_impl_PassedNumbers : Nat → Option Loop := fun n => match n with | 5 => some { pat := pat_impl_PassedNumbers_0, outs := outs_impl_PassedNumbers_0, run := runL (step_impl_PassedNumbers_0) } | _ => none
theorem step_impl_PassedNumbers_0_eq (s : (List (Int × (Int × (ByteArray × (List Int))))) × Int × Int × (List Int)) : stepEv env_impl_PassedNumbers loops_impl_PassedNumbers pat_impl_PassedNumbers_0 outs_impl_PassedNumbers_0 Tryz.f8 5 s = step_impl_PassedNumbers_0 s := by kernel_rfl
theorem F_impl_PassedNumbers_eq (x : (List (Int × (Int × (ByteArray × (List Int))))) × Int) : Fev env_impl_PassedNumbers loops_impl_PassedNumbers c_impl_PassedNumbers.ps c_impl_PassedNumbers.rs Tryz.f8 x = F_impl_PassedNumbers x := by kernel_rfl
theorem env_impl_PassedNumbers_ok : EnvOK Tryz.prog env_impl_PassedNumbers := envOK_of (fun f c h => by
  simp only [env_impl_PassedNumbers] at h
  split at h
  · cases h; exact con_impl_AreProposals
  · cases h; exact con_impl_Proposal_passed
  · cases h) (fun f c h => by cases h) rfl
theorem con_impl_PassedNumbers : ConOK Tryz.prog 8 c_impl_PassedNumbers := con_of_ev' (body := Tryz.f8.body.getD .skip) (Λ := loops_impl_PassedNumbers) mixed Tryz.func8 (by kernel_rfl) (by kernel_rfl) env_impl_PassedNumbers_ok (by kernel_rfl) (by kernel_rfl) (fun n L h => by
  unfold loops_impl_PassedNumbers at h
  split at h
  · cases h; exact fun s o ho => loop_ok (stepF := stepEv env_impl_PassedNumbers loops_impl_PassedNumbers pat_impl_PassedNumbers_0 outs_impl_PassedNumbers_0 Tryz.f8 5) (step_impl_PassedNumbers_0_eq) ho
  · cases h) F_impl_PassedNumbers_eq

noncomputable def step_spec_PassedNumbers_0 (s : (List (Int × (Int × (ByteArray × (List Int))))) × Int × Int × (List Int)) : Option (((List (Int × (Int × (ByteArray × (List Int))))) × Int × Int × (List Int)) ⊕ (((List Int)))) :=
  bif (decide (s.2.2.1 < s.2.1)) then
    bif decide (0 ≤ s.2.2.1) && decide (s.2.2.1 < (s.1.length : Int)) then
      match F_spec_ofPassed (((s.1.getD (s.2.2.1).toNat (0, (0, ByteArray.empty, []))), 0)) with
      | none => none
      | some y9 =>
        bif y9 then
          bif decide ((s.2.2.2.length + [(s.1.getD (s.2.2.1).toNat (0, (0, ByteArray.empty, []))).1].length) * 8 ≤ 140737488355328) then
            let v10 := s.2.2.2 ++ [(s.1.getD (s.2.2.1).toNat (0, (0, ByteArray.empty, []))).1]
            let v11 := IntKind.i64.wrap (s.2.2.1 + 1)
            some (.inl ((s.1, (s.2.1, v11, v10))))
          else none
        else
          let v12 := IntKind.i64.wrap (s.2.2.1 + 1)
          some (.inl ((s.1, (s.2.1, v12, s.2.2.2))))
    else none
  else
    some (.inr (s.2.2.2))
def pat_spec_PassedNumbers_0 : Pat := { tmps := [.any, .any, .any, .any, .any, .any, .own 1600, .any, .any, .any, .any, .any, .any, .v (.slice (.st (.pair (.int .i64) (.pair (.int .i64) (.pair .str (.slice (.int .i64))))))), .v (.int .i64), .v (.int .i64), .any, .any, .any, .any, .any, .any, .any, .any, .any, .any, .any, .any], blks := [(1600, .row true (.int .i64))] }
def outs_spec_PassedNumbers_0 : List (Exit × Pat) := [(.exit 0, { tmps := [.any, .any, .any, .any, .any, .any, .own 1600, .any, .any, .any, .any, .any, .any, .any, .any, .any, .any, .any, .any, .any, .any, .any, .any, .any, .any, .any, .any, .any], blks := [(1600, .row true (.int .i64))] })]
noncomputable def F_spec_PassedNumbers (x : (List (Int × (Int × (ByteArray × (List Int))))) × Int) : Option ((List Int) × Bool) :=
  match F_spec_ofGood (x) with
  | none => none
  | some y1 =>
    bif (!y1) then
      some (([], false))
    else
      match runL step_spec_PassedNumbers_0 ((x.1, ((x.1.length : Int), 0, []))) with
      | none => none
      | some o13 =>
        some ((o13, true))
noncomputable def c_spec_PassedNumbers : Con := { ps := [(.val, (.slice (.st (.pair (.int .i64) (.pair (.int .i64) (.pair .str (.slice (.int .i64)))))))), (.val, (.int .i64))], rs := [(.io true, (.slice (.int .i64))), (.val, .bool)], F := F_spec_PassedNumbers }
noncomputable def env_spec_PassedNumbers : Env := { par := [], dp := false, settle := [], con := fun f => match f with | 39 => some c_spec_ofGood | 40 => some c_spec_ofPassed | _ => none, clo := fun _ => none, T := tinf Tryz.prog }
noncomputable def loops_spec_PassedNumbers : Nat → Option Loop := fun n => match n with | 5 => some { pat := pat_spec_PassedNumbers_0, outs := outs_spec_PassedNumbers_0, run := runL (step_spec_PassedNumbers_0) } | _ => none
theorem step_spec_PassedNumbers_0_eq (s : (List (Int × (Int × (ByteArray × (List Int))))) × Int × Int × (List Int)) : stepEv env_spec_PassedNumbers loops_spec_PassedNumbers pat_spec_PassedNumbers_0 outs_spec_PassedNumbers_0 Tryz.f9 5 s = step_spec_PassedNumbers_0 s := by kernel_rfl
theorem F_spec_PassedNumbers_eq (x : (List (Int × (Int × (ByteArray × (List Int))))) × Int) : Fev env_spec_PassedNumbers loops_spec_PassedNumbers c_spec_PassedNumbers.ps c_spec_PassedNumbers.rs Tryz.f9 x = F_spec_PassedNumbers x := by kernel_rfl
theorem env_spec_PassedNumbers_ok : EnvOK Tryz.prog env_spec_PassedNumbers := envOK_of (fun f c h => by
  simp only [env_spec_PassedNumbers] at h
  split at h
  · cases h; exact con_spec_ofGood
  · cases h; exact con_spec_ofPassed
  · cases h) (fun f c h => by cases h) rfl
theorem con_spec_PassedNumbers : ConOK Tryz.prog 9 c_spec_PassedNumbers := con_of_ev' (body := Tryz.f9.body.getD .skip) (Λ := loops_spec_PassedNumbers) mixed Tryz.func9 (by kernel_rfl) (by kernel_rfl) env_spec_PassedNumbers_ok (by kernel_rfl) (by kernel_rfl) (fun n L h => by
  unfold loops_spec_PassedNumbers at h
  split at h
  · cases h; exact fun s o ho => loop_ok (stepF := stepEv env_spec_PassedNumbers loops_spec_PassedNumbers pat_spec_PassedNumbers_0 outs_spec_PassedNumbers_0 Tryz.f9 5) (step_spec_PassedNumbers_0_eq) ho
  · cases h) F_spec_PassedNumbers_eq

noncomputable def step_slices_Index_string_string_0 (s : (List ByteArray) × ByteArray × Int × Int) : Option (((List ByteArray) × ByteArray × Int × Int) ⊕ ((Int) ⊕ (Unit))) :=
  bif (decide (s.2.2.2 < s.2.2.1)) then
    bif decide (0 ≤ s.2.2.2) && decide (s.2.2.2 < (s.1.length : Int)) then
      bif (s.2.1.toList == (s.1.getD (s.2.2.2).toNat ByteArray.empty).toList) then
        some (.inr (.inl (s.2.2.2)))
      else
        let v2 := IntKind.i64.wrap (s.2.2.2 + 1)
        some (.inl ((s.1, (s.2.1, s.2.2.1, v2))))
    else none
  else
    some (.inr (.inr (())))
def pat_slices_Index_string_string_0 : Pat := { tmps := [.v (.slice .str), .v .str, .any, .any, .any, .any, .any, .v (.int .i64), .v (.int .i64), .any, .any, .any, .any, .any, .any, .any, .any, .any, .any], blks := [] }
def outs_slices_Index_string_string_0 : List (Exit × Pat) := [(.ret, { tmps := [.any, .any, .any, .any, .v (.int .i64), .any, .any, .any, .any, .any, .any, .any, .any, .any, .any, .any, .any, .any, .any], blks := [] }), (.exit 0, { tmps := [.any, .any, .any, .any, .any, .any, .any, .any, .any, .any, .any, .any, .any, .any, .any, .any, .any, .any, .any], blks := [] })]
noncomputable def F_slices_Index_string_string (x : (List ByteArray) × ByteArray) : Option (Int) :=
  match runL step_slices_Index_string_string_0 ((x.1, (x.2, (x.1.length : Int), 0))) with
  | none => none
  | some (.inl o3) =>
    some (o3)
  | some (.inr o3) =>
    some ((-1))
noncomputable def c_slices_Index_string_string : Con := { ps := [(.val, (.slice .str)), (.val, .str)], rs := [(.val, (.int .i64))], F := F_slices_Index_string_string }
noncomputable def env_slices_Index_string_string : Env := { par := [], dp := false, settle := [], con := fun _ => none, clo := fun _ => none, T := tinf Tryz.prog }
noncomputable def loops_slices_Index_string_string : Nat → Option Loop := fun n => match n with | 2 => some { pat := pat_slices_Index_string_string_0, outs := outs_slices_Index_string_string_0, run := runL (step_slices_Index_string_string_0) } | _ => none
theorem step_slices_Index_string_string_0_eq (s : (List ByteArray) × ByteArray × Int × Int) : stepEv env_slices_Index_string_string loops_slices_Index_string_string pat_slices_Index_string_string_0 outs_slices_Index_string_string_0 Tryz.f74 2 s = step_slices_Index_string_string_0 s := by kernel_rfl
theorem F_slices_Index_string_string_eq (x : (List ByteArray) × ByteArray) : Fev env_slices_Index_string_string loops_slices_Index_string_string c_slices_Index_string_string.ps c_slices_Index_string_string.rs Tryz.f74 x = F_slices_Index_string_string x := by kernel_rfl
theorem env_slices_Index_string_string_ok : EnvOK Tryz.prog env_slices_Index_string_string := envOK_of (fun f c h => by cases h) (fun f c h => by cases h) rfl
theorem con_slices_Index_string_string : ConOK Tryz.prog 74 c_slices_Index_string_string := con_of_ev' (body := Tryz.f74.body.getD .skip) (Λ := loops_slices_Index_string_string) mixed Tryz.func74 (by kernel_rfl) (by kernel_rfl) env_slices_Index_string_string_ok (by kernel_rfl) (by kernel_rfl) (fun n L h => by
  unfold loops_slices_Index_string_string at h
  split at h
  · cases h; exact fun s o ho => loop_ok (stepF := stepEv env_slices_Index_string_string loops_slices_Index_string_string pat_slices_Index_string_string_0 outs_slices_Index_string_string_0 Tryz.f74 2) (step_slices_Index_string_string_0_eq) ho
  · cases h) F_slices_Index_string_string_eq

noncomputable def F_slices_Contains_string_string (x : (List ByteArray) × ByteArray) : Option (Bool) :=
  match F_slices_Index_string_string (x) with
  | none => none
  | some y1 =>
    some ((decide (y1 ≥ 0)))
noncomputable def c_slices_Contains_string_string : Con := { ps := [(.val, (.slice .str)), (.val, .str)], rs := [(.val, .bool)], F := F_slices_Contains_string_string }
noncomputable def env_slices_Contains_string_string : Env := { par := [], dp := false, settle := [], con := fun f => match f with | 74 => some c_slices_Index_string_string | _ => none, clo := fun _ => none, T := tinf Tryz.prog }
noncomputable def loops_slices_Contains_string_string : Nat → Option Loop := fun n => none
theorem F_slices_Contains_string_string_eq (x : (List ByteArray) × ByteArray) : Fev env_slices_Contains_string_string loops_slices_Contains_string_string c_slices_Contains_string_string.ps c_slices_Contains_string_string.rs Tryz.f44 x = F_slices_Contains_string_string x := by kernel_rfl
theorem env_slices_Contains_string_string_ok : EnvOK Tryz.prog env_slices_Contains_string_string := envOK_of (fun f c h => by
  simp only [env_slices_Contains_string_string] at h
  split at h
  · cases h; exact con_slices_Index_string_string
  · cases h) (fun f c h => by cases h) rfl
theorem con_slices_Contains_string_string : ConOK Tryz.prog 44 c_slices_Contains_string_string := con_of_ev' (body := Tryz.f44.body.getD .skip) (Λ := loops_slices_Contains_string_string) mixed Tryz.func44 (by kernel_rfl) (by kernel_rfl) env_slices_Contains_string_string_ok (by kernel_rfl) (by kernel_rfl) (fun n L h => by cases h) F_slices_Contains_string_string_eq

noncomputable def F_impl_ContestedGlosses_1 (x : ByteArray × ((List ByteArray) × (List ByteArray))) : Option (Bool) :=
  match F_slices_Contains_string_string ((x.2.2, x.1)) with
  | none => none
  | some y1 =>
    some ((!y1))
noncomputable def c_impl_ContestedGlosses_1 : Con := { ps := [(.val, .str), (.val, (.ptr (.st (.pair (.slice .str) (.slice .str)))))], rs := [(.val, .bool)], F := F_impl_ContestedGlosses_1 }
noncomputable def env_impl_ContestedGlosses_1 : Env := { par := [], dp := false, settle := [], con := fun f => match f with | 44 => some c_slices_Contains_string_string | _ => none, clo := fun _ => none, T := tinf Tryz.prog }
noncomputable def loops_impl_ContestedGlosses_1 : Nat → Option Loop := fun n => none
theorem F_impl_ContestedGlosses_1_eq (x : ByteArray × ((List ByteArray) × (List ByteArray))) : Fev env_impl_ContestedGlosses_1 loops_impl_ContestedGlosses_1 c_impl_ContestedGlosses_1.ps c_impl_ContestedGlosses_1.rs Tryz.f43 x = F_impl_ContestedGlosses_1 x := by kernel_rfl
theorem env_impl_ContestedGlosses_1_ok : EnvOK Tryz.prog env_impl_ContestedGlosses_1 := envOK_of (fun f c h => by
  simp only [env_impl_ContestedGlosses_1] at h
  split at h
  · cases h; exact con_slices_Contains_string_string
  · cases h) (fun f c h => by cases h) rfl
theorem con_impl_ContestedGlosses_1 : ConOK Tryz.prog 43 c_impl_ContestedGlosses_1 := con_of_ev' (body := Tryz.f43.body.getD .skip) (Λ := loops_impl_ContestedGlosses_1) mixed Tryz.func43 (by kernel_rfl) (by kernel_rfl) env_impl_ContestedGlosses_1_ok (by kernel_rfl) (by kernel_rfl) (fun n L h => by cases h) F_impl_ContestedGlosses_1_eq

noncomputable def step_slices_DeleteFunc_string_string_0 (s : (ByteArray → Option Bool) × Int × Int × (List ByteArray)) : Option (((ByteArray → Option Bool) × Int × Int × (List ByteArray)) ⊕ ((Int × (List ByteArray)))) :=
  bif (decide (s.2.2.1 < (s.2.2.2.length : Int))) then
    bif decide (0 ≤ s.2.2.1) && decide (s.2.2.1 < (s.2.2.2.length : Int)) then
      match s.1 ((s.2.2.2.getD (s.2.2.1).toNat ByteArray.empty)) with
      | none => none
      | some y8 =>
        bif (!y8) then
          bif decide (0 ≤ s.2.1) && decide (s.2.1 < (s.2.2.2.length : Int)) then
            let v9 := s.2.2.2.set (s.2.1).toNat ((s.2.2.2.getD (s.2.2.1).toNat ByteArray.empty))
            let v10 := IntKind.i64.wrap (s.2.1 + 1)
            let v11 := IntKind.i64.wrap (s.2.2.1 + 1)
            some (.inl ((s.1, (v10, v11, v9))))
          else none
        else
          let v12 := IntKind.i64.wrap (s.2.2.1 + 1)
          some (.inl ((s.1, (s.2.1, v12, s.2.2.2))))
    else none
  else
    some (.inr ((s.2.1, s.2.2.2)))
def pat_slices_DeleteFunc_string_string_0 : Pat := { tmps := [.own 62, .v (.fn .str .bool), .any, .any, .any, .v (.int .i64), .v (.int .i64), .any, .any, .any, .any, .any, .any, .any, .any, .any, .any, .any, .any, .any, .any, .any, .any, .any, .any, .any, .any, .any, .any, .any, .any, .any, .any, .any, .any, .any, .any, .any, .any, .any, .any, .any], blks := [(62, .row true .str)] }
def outs_slices_DeleteFunc_string_string_0 : List (Exit × Pat) := [(.exit 0, { tmps := [.own 62, .any, .any, .any, .any, .v (.int .i64), .any, .any, .any, .any, .any, .any, .any, .any, .any, .any, .any, .any, .any, .any, .any, .any, .any, .any, .any, .any, .any, .any, .any, .any, .any, .any, .any, .any, .any, .any, .any, .any, .any, .any, .any, .any], blks := [(62, .row true .str)] })]
noncomputable def F_slices_DeleteFunc_string_string (x : (List ByteArray) × (ByteArray → Option Bool)) : Option ((List ByteArray)) :=
  match F_slices_IndexFunc_string_string (x) with
  | none => none
  | some y1 =>
    bif ((y1 == (-1))) then
      some (x.1)
    else
      let v2 := IntKind.i64.wrap (y1 + 1)
      match runL step_slices_DeleteFunc_string_string_0 ((x.2, (y1, v2, x.1))) with
      | none => none
      | some o13 =>
        bif decide (0 ≤ o13.1) && decide (o13.1 ≤ (o13.2.length : Int)) && decide ((o13.2.length : Int) ≤ (o13.2.length : Int)) then
          bif decide ((o13.1).toNat + (((o13.2.length : Int)).toNat - (o13.1).toNat) ≤ o13.2.length) then
            let v14 := o13.2.take (o13.1).toNat ++ List.replicate (((o13.2.length : Int)).toNat - (o13.1).toNat) (ByteArray.empty) ++ o13.2.drop ((o13.1).toNat + (((o13.2.length : Int)).toNat - (o13.1).toNat))
            bif decide (0 ≤ (0 : Int)) && decide ((0 : Int) ≤ o13.1) && decide (o13.1 ≤ (v14.length : Int)) then
              some ((v14.take ((o13.1).toNat - ((0 : Int)).toNat)))
            else none
          else none
        else none
noncomputable def c_slices_DeleteFunc_string_string : Con := { ps := [(.eat true, (.slice .str)), (.val, (.fn .str .bool))], rs := [(.io true, (.slice .str))], F := F_slices_DeleteFunc_string_string }
noncomputable def env_slices_DeleteFunc_string_string : Env := { par := [62], dp := false, settle := [], con := fun f => match f with | 73 => some c_slices_IndexFunc_string_string | _ => none, clo := fun _ => none, T := tinf Tryz.prog }
noncomputable def loops_slices_DeleteFunc_string_string : Nat → Option Loop := fun n => match n with | 5 => some { pat := pat_slices_DeleteFunc_string_string_0, outs := outs_slices_DeleteFunc_string_string_0, run := runL (step_slices_DeleteFunc_string_string_0) } | _ => none
theorem step_slices_DeleteFunc_string_string_0_eq (s : (ByteArray → Option Bool) × Int × Int × (List ByteArray)) : stepEv env_slices_DeleteFunc_string_string loops_slices_DeleteFunc_string_string pat_slices_DeleteFunc_string_string_0 outs_slices_DeleteFunc_string_string_0 Tryz.f42 5 s = step_slices_DeleteFunc_string_string_0 s := by kernel_rfl
theorem F_slices_DeleteFunc_string_string_eq (x : (List ByteArray) × (ByteArray → Option Bool)) : Fev env_slices_DeleteFunc_string_string loops_slices_DeleteFunc_string_string c_slices_DeleteFunc_string_string.ps c_slices_DeleteFunc_string_string.rs Tryz.f42 x = F_slices_DeleteFunc_string_string x := by kernel_rfl
theorem env_slices_DeleteFunc_string_string_ok : EnvOK Tryz.prog env_slices_DeleteFunc_string_string := envOK_of (fun f c h => by
  simp only [env_slices_DeleteFunc_string_string] at h
  split at h
  · cases h; exact con_slices_IndexFunc_string_string
  · cases h) (fun f c h => by cases h) rfl
theorem con_slices_DeleteFunc_string_string : ConOK Tryz.prog 42 c_slices_DeleteFunc_string_string := con_of_ev' (body := Tryz.f42.body.getD .skip) (Λ := loops_slices_DeleteFunc_string_string) mixed Tryz.func42 (by kernel_rfl) (by kernel_rfl) env_slices_DeleteFunc_string_string_ok (by kernel_rfl) (by kernel_rfl) (fun n L h => by
  unfold loops_slices_DeleteFunc_string_string at h
  split at h
  · cases h; exact fun s o ho => loop_ok (stepF := stepEv env_slices_DeleteFunc_string_string loops_slices_DeleteFunc_string_string pat_slices_DeleteFunc_string_string_0 outs_slices_DeleteFunc_string_string_0 Tryz.f42 5) (step_slices_DeleteFunc_string_string_0_eq) ho
  · cases h) F_slices_DeleteFunc_string_string_eq

noncomputable def K_impl_ContestedGlosses_1 (q : ((List ByteArray) × (List ByteArray))) (x : ByteArray) : Option (Bool) := F_impl_ContestedGlosses_1 (x, q)
noncomputable def k_impl_ContestedGlosses_1 : CloCon := { caps := [(.st (.pair (.slice .str) (.slice .str)))], a := .str, r := .bool, F := K_impl_ContestedGlosses_1 }
theorem clo_impl_ContestedGlosses_1 : CloOK Tryz.prog 43 k_impl_ContestedGlosses_1 := clo_of_con k_impl_ContestedGlosses_1 F_impl_ContestedGlosses_1 con_impl_ContestedGlosses_1 rfl (fun kx x y h => ⟨y, h, rfl⟩)
noncomputable def step_impl_ContestedGlosses_0 (s : (List (Int × (Int × (ByteArray × (List Int))))) × Int × Int × (List ByteArray) × (List ByteArray)) : Option (((List (Int × (Int × (ByteArray × (List Int))))) × Int × Int × (List ByteArray) × (List ByteArray)) ⊕ (((List ByteArray) × (List ByteArray)))) :=
  bif (decide (s.2.2.1 < s.2.1)) then
    bif decide (0 ≤ s.2.2.1) && decide (s.2.2.1 < (s.1.length : Int)) then
      match F_impl_Proposal_passed (((s.1.getD (s.2.2.1).toNat (0, (0, ByteArray.empty, []))), 0)) with
      | none => none
      | some y16 =>
        bif y16 then
          bif ((s.1.getD (s.2.2.1).toNat (0, (0, ByteArray.empty, []))).2.1 == 0) then
            bif ((s.1.getD (s.2.2.1).toNat (0, (0, ByteArray.empty, []))).2.1 == (s.1.getD (s.2.2.1).toNat (0, (0, ByteArray.empty, []))).2.1) then
              bif decide ((s.2.2.2.1.length + [(s.1.getD (s.2.2.1).toNat (0, (0, ByteArray.empty, []))).2.2.1].length) * 16 ≤ 140737488355328) then
                let v17 := s.2.2.2.1 ++ [(s.1.getD (s.2.2.1).toNat (0, (0, ByteArray.empty, []))).2.2.1]
                bif ((s.1.getD (s.2.2.1).toNat (0, (0, ByteArray.empty, []))).2.1 == (s.1.getD (s.2.2.1).toNat (0, (0, ByteArray.empty, []))).2.1) then
                  bif ((s.1.getD (s.2.2.1).toNat (0, (0, ByteArray.empty, []))).2.1 == 0) then
                    let v18 := IntKind.i64.wrap (s.2.2.1 + 1)
                    some (.inl ((s.1, s.2.1, (v18, v17, s.2.2.2.2))))
                  else
                    bif ((s.1.getD (s.2.2.1).toNat (0, (0, ByteArray.empty, []))).2.1 == 1) then
                      let v19 := IntKind.i64.wrap (s.2.2.1 + 1)
                      none
                    else
                      none
                else none
              else none
            else none
          else
            bif ((s.1.getD (s.2.2.1).toNat (0, (0, ByteArray.empty, []))).2.1 == 1) then
              bif ((s.1.getD (s.2.2.1).toNat (0, (0, ByteArray.empty, []))).2.1 == (s.1.getD (s.2.2.1).toNat (0, (0, ByteArray.empty, []))).2.1) then
                bif decide ((s.2.2.2.2.length + [(s.1.getD (s.2.2.1).toNat (0, (0, ByteArray.empty, []))).2.2.1].length) * 16 ≤ 140737488355328) then
                  let v20 := s.2.2.2.2 ++ [(s.1.getD (s.2.2.1).toNat (0, (0, ByteArray.empty, []))).2.2.1]
                  bif ((s.1.getD (s.2.2.1).toNat (0, (0, ByteArray.empty, []))).2.1 == (s.1.getD (s.2.2.1).toNat (0, (0, ByteArray.empty, []))).2.1) then
                    bif ((s.1.getD (s.2.2.1).toNat (0, (0, ByteArray.empty, []))).2.1 == 0) then
                      let v21 := IntKind.i64.wrap (s.2.2.1 + 1)
                      none
                    else
                      bif ((s.1.getD (s.2.2.1).toNat (0, (0, ByteArray.empty, []))).2.1 == 1) then
                        let v22 := IntKind.i64.wrap (s.2.2.1 + 1)
                        some (.inl ((s.1, s.2.1, (v22, s.2.2.2.1, v20))))
                      else
                        none
                  else none
                else none
              else none
            else
              none
        else
          let v23 := IntKind.i64.wrap (s.2.2.1 + 1)
          some (.inl ((s.1, (s.2.1, v23, s.2.2.2))))
    else none
  else
    some (.inr ((s.2.2.2.2, s.2.2.2.1)))
def pat_impl_ContestedGlosses_0 : Pat := { tmps := [.any, .any, .any, .any, .any, .any, .ptr 384 0, .any, .any, .any, .any, .any, .any, .v (.slice (.st (.pair (.int .i64) (.pair (.int .i64) (.pair .str (.slice (.int .i64))))))), .v (.int .i64), .v (.int .i64), .any, .any, .any, .any, .any, .any, .any, .any, .any, .any, .any, .any, .any, .any, .any, .any, .any, .any, .any, .any, .any, .any], blks := [(384, .box [.own 1920, .own 1921]), (1920, .row true .str), (1921, .row true .str)] }
def outs_impl_ContestedGlosses_0 : List (Exit × Pat) := [(.exit 0, { tmps := [.any, .any, .any, .any, .any, .any, .ptr 384 0, .any, .any, .any, .any, .any, .any, .any, .any, .any, .any, .any, .any, .any, .any, .any, .any, .any, .any, .any, .any, .any, .any, .any, .any, .any, .any, .any, .any, .any, .any, .any], blks := [(384, .box [.own 1920, .own 1921]), (1921, .row true .str), (1920, .row true .str)] })]
noncomputable def F_impl_ContestedGlosses (x : (List (Int × (Int × (ByteArray × (List Int))))) × Int) : Option ((List ByteArray) × Bool) :=
  match F_impl_AreProposals (x) with
  | none => none
  | some y1 =>
    bif (!y1) then
      some (([], false))
    else
      match runL step_impl_ContestedGlosses_0 ((x.1, (x.1.length : Int), (0, [], []))) with
      | none => none
      | some o24 =>
        match F_impl_distinct_string (o24.2) with
        | none => none
        | some y25 =>
          match F_slices_DeleteFunc_string_string ((y25, (K_impl_ContestedGlosses_1 (o24.2, o24.1)))) with
          | none => none
          | some y26 =>
            some ((y26, true))
noncomputable def c_impl_ContestedGlosses : Con := { ps := [(.val, (.slice (.st (.pair (.int .i64) (.pair (.int .i64) (.pair .str (.slice (.int .i64)))))))), (.val, (.int .i64))], rs := [(.io true, (.slice .str)), (.val, .bool)], F := F_impl_ContestedGlosses }
noncomputable def env_impl_ContestedGlosses : Env := { par := [], dp := false, settle := [], con := fun f => match f with | 14 => some c_impl_AreProposals | 32 => some c_impl_distinct_string | 34 => some c_impl_Proposal_passed | 42 => some c_slices_DeleteFunc_string_string | _ => none, clo := fun f => match f with | 43 => some k_impl_ContestedGlosses_1 | _ => none, T := tinf Tryz.prog }
noncomputable def loops_impl_ContestedGlosses : Nat → Option Loop := fun n => match n with | 5 => some { pat := pat_impl_ContestedGlosses_0, outs := outs_impl_ContestedGlosses_0, run := runL (step_impl_ContestedGlosses_0) } | _ => none
theorem step_impl_ContestedGlosses_0_eq (s : (List (Int × (Int × (ByteArray × (List Int))))) × Int × Int × (List ByteArray) × (List ByteArray)) : stepEv env_impl_ContestedGlosses loops_impl_ContestedGlosses pat_impl_ContestedGlosses_0 outs_impl_ContestedGlosses_0 Tryz.f10 5 s = step_impl_ContestedGlosses_0 s := by kernel_rfl
theorem F_impl_ContestedGlosses_eq (x : (List (Int × (Int × (ByteArray × (List Int))))) × Int) : Fev env_impl_ContestedGlosses loops_impl_ContestedGlosses c_impl_ContestedGlosses.ps c_impl_ContestedGlosses.rs Tryz.f10 x = F_impl_ContestedGlosses x := by kernel_rfl
theorem env_impl_ContestedGlosses_ok : EnvOK Tryz.prog env_impl_ContestedGlosses := envOK_of (fun f c h => by
  simp only [env_impl_ContestedGlosses] at h
  split at h
  · cases h; exact con_impl_AreProposals
  · cases h; exact con_impl_distinct_string
  · cases h; exact con_impl_Proposal_passed
  · cases h; exact con_slices_DeleteFunc_string_string
  · cases h) (fun f c h => by
  simp only [env_impl_ContestedGlosses] at h
  split at h
  · cases h; exact clo_impl_ContestedGlosses_1
  · cases h) rfl
theorem con_impl_ContestedGlosses : ConOK Tryz.prog 10 c_impl_ContestedGlosses := con_of_ev' (body := Tryz.f10.body.getD .skip) (Λ := loops_impl_ContestedGlosses) mixed Tryz.func10 (by kernel_rfl) (by kernel_rfl) env_impl_ContestedGlosses_ok (by kernel_rfl) (by kernel_rfl) (fun n L h => by
  unfold loops_impl_ContestedGlosses at h
  split at h
  · cases h; exact fun s o ho => loop_ok (stepF := stepEv env_impl_ContestedGlosses loops_impl_ContestedGlosses pat_impl_ContestedGlosses_0 outs_impl_ContestedGlosses_0 Tryz.f10 5) (step_impl_ContestedGlosses_0_eq) ho
  · cases h) F_impl_ContestedGlosses_eq

noncomputable def step_spec_ContestedGlosses_0 (s : (List (Int × (Int × (ByteArray × (List Int))))) × (List ByteArray) × (List (Int × (Int × (ByteArray × (List Int))))) × Int × Int × (List (Int × (Int × (ByteArray × (List Int))))) × Int × Int × Int × Int × ByteArray × (List Int)) : Option (((List (Int × (Int × (ByteArray × (List Int))))) × (List ByteArray) × (List (Int × (Int × (ByteArray × (List Int))))) × Int × Int × (List (Int × (Int × (ByteArray × (List Int))))) × Int × Int × Int × Int × ByteArray × (List Int)) ⊕ (((List (Int × (Int × (ByteArray × (List Int))))) × (List ByteArray) × (List (Int × (Int × (ByteArray × (List Int))))) × Int × Int))) :=
  bif (decide (s.2.2.2.2.2.2.2.1 < s.2.2.2.2.2.2.1)) then
    bif decide (0 ≤ s.2.2.2.2.2.2.2.1) && decide (s.2.2.2.2.2.2.2.1 < (s.2.2.2.2.2.1.length : Int)) then
      bif (s.2.2.2.2.2.2.2.2.2.2.1.toList == (s.2.2.2.2.2.1.getD (s.2.2.2.2.2.2.2.1).toNat (0, (0, ByteArray.empty, []))).2.2.1.toList) then
        bif ((s.2.2.2.2.2.2.2.2.2.1 != (s.2.2.2.2.2.1.getD (s.2.2.2.2.2.2.2.1).toNat (0, (0, ByteArray.empty, []))).2.1)) then
          match F_spec_ofPassed ((s.2.2.2.2.2.2.2.2, 0)) with
          | none => none
          | some y54 =>
            bif y54 then
              match F_spec_ofPassed (((s.2.2.2.2.2.1.getD (s.2.2.2.2.2.2.2.1).toNat (0, (0, ByteArray.empty, []))), 0)) with
              | none => none
              | some y55 =>
                bif y55 then
                  match F_spec_ctPut ((s.2.1, s.2.2.2.2.2.2.2.2.2.2.1)) with
                  | none => none
                  | some y56 =>
                    let v57 := IntKind.i64.wrap (s.2.2.2.2.2.2.2.1 + 1)
                    some (.inl ((s.1, y56, (s.2.2.1, s.2.2.2.1, (s.2.2.2.2.1, s.2.2.2.2.2.1, (s.2.2.2.2.2.2.1, v57, s.2.2.2.2.2.2.2.2))))))
                else
                  let v58 := IntKind.i64.wrap (s.2.2.2.2.2.2.2.1 + 1)
                  some (.inl ((s.1, s.2.1, (s.2.2.1, s.2.2.2.1, (s.2.2.2.2.1, s.2.2.2.2.2.1, (s.2.2.2.2.2.2.1, v58, s.2.2.2.2.2.2.2.2))))))
            else
              let v59 := IntKind.i64.wrap (s.2.2.2.2.2.2.2.1 + 1)
              some (.inl ((s.1, s.2.1, (s.2.2.1, s.2.2.2.1, (s.2.2.2.2.1, s.2.2.2.2.2.1, (s.2.2.2.2.2.2.1, v59, s.2.2.2.2.2.2.2.2))))))
        else
          let v60 := IntKind.i64.wrap (s.2.2.2.2.2.2.2.1 + 1)
          some (.inl ((s.1, s.2.1, (s.2.2.1, s.2.2.2.1, (s.2.2.2.2.1, s.2.2.2.2.2.1, (s.2.2.2.2.2.2.1, v60, s.2.2.2.2.2.2.2.2))))))
      else
        let v61 := IntKind.i64.wrap (s.2.2.2.2.2.2.2.1 + 1)
        some (.inl ((s.1, s.2.1, (s.2.2.1, s.2.2.2.1, (s.2.2.2.2.1, s.2.2.2.2.2.1, (s.2.2.2.2.2.2.1, v61, s.2.2.2.2.2.2.2.2))))))
    else none
  else
    some (.inr ((s.1, s.2.1, (s.2.2.1, s.2.2.2.1, s.2.2.2.2.1))))
def pat_spec_ContestedGlosses_0 : Pat := { tmps := [.v (.slice (.st (.pair (.int .i64) (.pair (.int .i64) (.pair .str (.slice (.int .i64))))))), .any, .any, .any, .any, .any, .v (.slice .str), .any, .ptr 512 0, .any, .any, .any, .any, .any, .any, .v (.slice (.st (.pair (.int .i64) (.pair (.int .i64) (.pair .str (.slice (.int .i64))))))), .v (.int .i64), .v (.int .i64), .any, .any, .any, .v (.slice (.st (.pair (.int .i64) (.pair (.int .i64) (.pair .str (.slice (.int .i64))))))), .v (.int .i64), .v (.int .i64), .any, .any, .any, .any, .any, .any, .any, .any, .any, .any, .any, .any, .any, .any, .any, .any, .any, .any, .any, .any, .any, .any, .any, .any, .any, .any, .any, .any, .any, .any], blks := [(512, .box [.v (.int .i64), .v (.int .i64), .v .str, .v (.slice (.int .i64))])] }
def outs_spec_ContestedGlosses_0 : List (Exit × Pat) := [(.exit 2, { tmps := [.v (.slice (.st (.pair (.int .i64) (.pair (.int .i64) (.pair .str (.slice (.int .i64))))))), .any, .any, .any, .any, .any, .v (.slice .str), .any, .any, .any, .any, .any, .any, .any, .any, .v (.slice (.st (.pair (.int .i64) (.pair (.int .i64) (.pair .str (.slice (.int .i64))))))), .v (.int .i64), .v (.int .i64), .any, .any, .any, .any, .any, .any, .any, .any, .any, .any, .any, .any, .any, .any, .any, .any, .any, .any, .any, .any, .any, .any, .any, .any, .any, .any, .any, .any, .any, .any, .any, .any, .any, .any, .any, .any], blks := [] })]
noncomputable def step_spec_ContestedGlosses_1 (s : (List (Int × (Int × (ByteArray × (List Int))))) × (List ByteArray) × (List (Int × (Int × (ByteArray × (List Int))))) × Int × Int) : Option (((List (Int × (Int × (ByteArray × (List Int))))) × (List ByteArray) × (List (Int × (Int × (ByteArray × (List Int))))) × Int × Int) ⊕ (((List ByteArray)))) :=
  bif (decide (s.2.2.2.2 < s.2.2.2.1)) then
    bif decide (0 ≤ s.2.2.2.2) && decide (s.2.2.2.2 < (s.2.2.1.length : Int)) then
      match runL step_spec_ContestedGlosses_0 ((s.1, s.2.1, (s.2.2.1, s.2.2.2.1, (s.2.2.2.2, s.1, ((s.1.length : Int), 0, (s.2.2.1.getD (s.2.2.2.2).toNat (0, (0, ByteArray.empty, [])))))))) with
      | none => none
      | some o62 =>
        let v63 := IntKind.i64.wrap (o62.2.2.2.2 + 1)
        some (.inl ((o62.1, o62.2.1, (o62.2.2.1, o62.2.2.2.1, v63))))
    else none
  else
    some (.inr (s.2.1))
def pat_spec_ContestedGlosses_1 : Pat := { tmps := [.v (.slice (.st (.pair (.int .i64) (.pair (.int .i64) (.pair .str (.slice (.int .i64))))))), .any, .any, .any, .any, .any, .v (.slice .str), .any, .any, .any, .any, .any, .any, .any, .any, .v (.slice (.st (.pair (.int .i64) (.pair (.int .i64) (.pair .str (.slice (.int .i64))))))), .v (.int .i64), .v (.int .i64), .any, .any, .any, .any, .any, .any, .any, .any, .any, .any, .any, .any, .any, .any, .any, .any, .any, .any, .any, .any, .any, .any, .any, .any, .any, .any, .any, .any, .any, .any, .any, .any, .any, .any, .any, .any], blks := [] }
def outs_spec_ContestedGlosses_1 : List (Exit × Pat) := [(.exit 0, { tmps := [.any, .any, .any, .any, .any, .any, .v (.slice .str), .any, .any, .any, .any, .any, .any, .any, .any, .any, .any, .any, .any, .any, .any, .any, .any, .any, .any, .any, .any, .any, .any, .any, .any, .any, .any, .any, .any, .any, .any, .any, .any, .any, .any, .any, .any, .any, .any, .any, .any, .any, .any, .any, .any, .any, .any, .any], blks := [] })]
noncomputable def F_spec_ContestedGlosses (x : (List (Int × (Int × (ByteArray × (List Int))))) × Int) : Option ((List ByteArray) × Bool) :=
  match F_spec_ofGood (x) with
  | none => none
  | some y1 =>
    bif (!y1) then
      some (([], false))
    else
      match runL step_spec_ContestedGlosses_1 ((x.1, [], (x.1, (x.1.length : Int), 0))) with
      | none => none
      | some o64 =>
        some ((o64, true))
noncomputable def c_spec_ContestedGlosses : Con := { ps := [(.val, (.slice (.st (.pair (.int .i64) (.pair (.int .i64) (.pair .str (.slice (.int .i64)))))))), (.val, (.int .i64))], rs := [(.val, (.slice .str)), (.val, .bool)], F := F_spec_ContestedGlosses }
noncomputable def env_spec_ContestedGlosses : Env := { par := [], dp := false, settle := [], con := fun f => match f with | 39 => some c_spec_ofGood | 40 => some c_spec_ofPassed | 41 => some c_spec_ctPut | _ => none, clo := fun _ => none, T := tinf Tryz.prog }
noncomputable def loops_spec_ContestedGlosses : Nat → Option Loop := fun n => match n with | 8 => some { pat := pat_spec_ContestedGlosses_0, outs := outs_spec_ContestedGlosses_0, run := runL (step_spec_ContestedGlosses_0) } | 5 => some { pat := pat_spec_ContestedGlosses_1, outs := outs_spec_ContestedGlosses_1, run := runL (step_spec_ContestedGlosses_1) } | _ => none
theorem step_spec_ContestedGlosses_0_eq (s : (List (Int × (Int × (ByteArray × (List Int))))) × (List ByteArray) × (List (Int × (Int × (ByteArray × (List Int))))) × Int × Int × (List (Int × (Int × (ByteArray × (List Int))))) × Int × Int × Int × Int × ByteArray × (List Int)) : stepEv env_spec_ContestedGlosses loops_spec_ContestedGlosses pat_spec_ContestedGlosses_0 outs_spec_ContestedGlosses_0 Tryz.f11 8 s = step_spec_ContestedGlosses_0 s := by kernel_rfl
theorem step_spec_ContestedGlosses_1_eq (s : (List (Int × (Int × (ByteArray × (List Int))))) × (List ByteArray) × (List (Int × (Int × (ByteArray × (List Int))))) × Int × Int) : stepEv env_spec_ContestedGlosses loops_spec_ContestedGlosses pat_spec_ContestedGlosses_1 outs_spec_ContestedGlosses_1 Tryz.f11 5 s = step_spec_ContestedGlosses_1 s := by kernel_rfl
theorem F_spec_ContestedGlosses_eq (x : (List (Int × (Int × (ByteArray × (List Int))))) × Int) : Fev env_spec_ContestedGlosses loops_spec_ContestedGlosses c_spec_ContestedGlosses.ps c_spec_ContestedGlosses.rs Tryz.f11 x = F_spec_ContestedGlosses x := by kernel_rfl
theorem env_spec_ContestedGlosses_ok : EnvOK Tryz.prog env_spec_ContestedGlosses := envOK_of (fun f c h => by
  simp only [env_spec_ContestedGlosses] at h
  split at h
  · cases h; exact con_spec_ofGood
  · cases h; exact con_spec_ofPassed
  · cases h; exact con_spec_ctPut
  · cases h) (fun f c h => by cases h) rfl
theorem con_spec_ContestedGlosses : ConOK Tryz.prog 11 c_spec_ContestedGlosses := con_of_ev' (body := Tryz.f11.body.getD .skip) (Λ := loops_spec_ContestedGlosses) mixed Tryz.func11 (by kernel_rfl) (by kernel_rfl) env_spec_ContestedGlosses_ok (by kernel_rfl) (by kernel_rfl) (fun n L h => by
  unfold loops_spec_ContestedGlosses at h
  split at h
  · cases h; exact fun s o ho => loop_ok (stepF := stepEv env_spec_ContestedGlosses loops_spec_ContestedGlosses pat_spec_ContestedGlosses_0 outs_spec_ContestedGlosses_0 Tryz.f11 8) (step_spec_ContestedGlosses_0_eq) ho
  · cases h; exact fun s o ho => loop_ok (stepF := stepEv env_spec_ContestedGlosses loops_spec_ContestedGlosses pat_spec_ContestedGlosses_1 outs_spec_ContestedGlosses_1 Tryz.f11 5) (step_spec_ContestedGlosses_1_eq) ho
  · cases h) F_spec_ContestedGlosses_eq

noncomputable def step_laws_pSameTexts_0 (s : (List ByteArray) × (List ByteArray) × Int × Int) : Option (((List ByteArray) × (List ByteArray) × Int × Int) ⊕ ((Bool) ⊕ (Unit))) :=
  bif (decide (s.2.2.2 < s.2.2.1)) then
    bif decide (0 ≤ s.2.2.2) && decide (s.2.2.2 < (s.1.length : Int)) then
      bif decide (0 ≤ s.2.2.2) && decide (s.2.2.2 < (s.2.1.length : Int)) then
        bif (!((s.1.getD (s.2.2.2).toNat ByteArray.empty).toList == (s.2.1.getD (s.2.2.2).toNat ByteArray.empty).toList)) then
          some (.inr (.inl (false)))
        else
          let v2 := IntKind.i64.wrap (s.2.2.2 + 1)
          some (.inl ((s.1, (s.2.1, s.2.2.1, v2))))
      else none
    else none
  else
    some (.inr (.inr (())))
def pat_laws_pSameTexts_0 : Pat := { tmps := [.v (.slice .str), .v (.slice .str), .any, .any, .any, .any, .any, .any, .any, .any, .any, .any, .v (.int .i64), .v (.int .i64), .any, .any, .any, .any, .any, .any, .any, .any, .any, .any, .any, .any], blks := [] }
def outs_laws_pSameTexts_0 : List (Exit × Pat) := [(.ret, { tmps := [.any, .any, .any, .any, .v .bool, .any, .any, .any, .any, .any, .any, .any, .any, .any, .any, .any, .any, .any, .any, .any, .any, .any, .any, .any, .any, .any], blks := [] }), (.exit 0, { tmps := [.any, .any, .any, .any, .any, .any, .any, .any, .any, .any, .any, .any, .any, .any, .any, .any, .any, .any, .any, .any, .any, .any, .any, .any, .any, .any], blks := [] })]
noncomputable def F_laws_pSameTexts (x : (List ByteArray) × (List ByteArray)) : Option (Bool) :=
  bif (((x.1.length : Int) != (x.2.length : Int))) then
    some (false)
  else
    match runL step_laws_pSameTexts_0 ((x.1, (x.2, (x.1.length : Int), 0))) with
    | none => none
    | some (.inl o3) =>
      some (o3)
    | some (.inr o3) =>
      some (true)
noncomputable def c_laws_pSameTexts : Con := { ps := [(.val, (.slice .str)), (.val, (.slice .str))], rs := [(.val, .bool)], F := F_laws_pSameTexts }
noncomputable def env_laws_pSameTexts : Env := { par := [], dp := false, settle := [], con := fun _ => none, clo := fun _ => none, T := tinf Tryz.prog }
noncomputable def loops_laws_pSameTexts : Nat → Option Loop := fun n => match n with | 4 => some { pat := pat_laws_pSameTexts_0, outs := outs_laws_pSameTexts_0, run := runL (step_laws_pSameTexts_0) } | _ => none
theorem step_laws_pSameTexts_0_eq (s : (List ByteArray) × (List ByteArray) × Int × Int) : stepEv env_laws_pSameTexts loops_laws_pSameTexts pat_laws_pSameTexts_0 outs_laws_pSameTexts_0 Tryz.f12 4 s = step_laws_pSameTexts_0 s := by kernel_rfl
theorem F_laws_pSameTexts_eq (x : (List ByteArray) × (List ByteArray)) : Fev env_laws_pSameTexts loops_laws_pSameTexts c_laws_pSameTexts.ps c_laws_pSameTexts.rs Tryz.f12 x = F_laws_pSameTexts x := by kernel_rfl
theorem env_laws_pSameTexts_ok : EnvOK Tryz.prog env_laws_pSameTexts := envOK_of (fun f c h => by cases h) (fun f c h => by cases h) rfl
theorem con_laws_pSameTexts : ConOK Tryz.prog 12 c_laws_pSameTexts := con_of_ev' (body := Tryz.f12.body.getD .skip) (Λ := loops_laws_pSameTexts) mixed Tryz.func12 (by kernel_rfl) (by kernel_rfl) env_laws_pSameTexts_ok (by kernel_rfl) (by kernel_rfl) (fun n L h => by
  unfold loops_laws_pSameTexts at h
  split at h
  · cases h; exact fun s o ho => loop_ok (stepF := stepEv env_laws_pSameTexts loops_laws_pSameTexts pat_laws_pSameTexts_0 outs_laws_pSameTexts_0 Tryz.f12 4) (step_laws_pSameTexts_0_eq) ho
  · cases h) F_laws_pSameTexts_eq

noncomputable def step_laws_sameInts_0 (s : (List Int) × (List Int) × Int × Int) : Option (((List Int) × (List Int) × Int × Int) ⊕ ((Bool) ⊕ (Unit))) :=
  bif (decide (s.2.2.2 < s.2.2.1)) then
    bif decide (0 ≤ s.2.2.2) && decide (s.2.2.2 < (s.1.length : Int)) then
      bif decide (0 ≤ s.2.2.2) && decide (s.2.2.2 < (s.2.1.length : Int)) then
        bif (((s.1.getD (s.2.2.2).toNat 0) != (s.2.1.getD (s.2.2.2).toNat 0))) then
          some (.inr (.inl (false)))
        else
          let v2 := IntKind.i64.wrap (s.2.2.2 + 1)
          some (.inl ((s.1, (s.2.1, s.2.2.1, v2))))
      else none
    else none
  else
    some (.inr (.inr (())))
def pat_laws_sameInts_0 : Pat := { tmps := [.v (.slice (.int .i64)), .v (.slice (.int .i64)), .any, .any, .any, .any, .any, .any, .any, .any, .any, .any, .v (.int .i64), .v (.int .i64), .any, .any, .any, .any, .any, .any, .any, .any, .any, .any, .any, .any], blks := [] }
def outs_laws_sameInts_0 : List (Exit × Pat) := [(.ret, { tmps := [.any, .any, .any, .any, .v .bool, .any, .any, .any, .any, .any, .any, .any, .any, .any, .any, .any, .any, .any, .any, .any, .any, .any, .any, .any, .any, .any], blks := [] }), (.exit 0, { tmps := [.any, .any, .any, .any, .any, .any, .any, .any, .any, .any, .any, .any, .any, .any, .any, .any, .any, .any, .any, .any, .any, .any, .any, .any, .any, .any], blks := [] })]
noncomputable def F_laws_sameInts (x : (List Int) × (List Int)) : Option (Bool) :=
  bif (((x.1.length : Int) != (x.2.length : Int))) then
    some (false)
  else
    match runL step_laws_sameInts_0 ((x.1, (x.2, (x.1.length : Int), 0))) with
    | none => none
    | some (.inl o3) =>
      some (o3)
    | some (.inr o3) =>
      some (true)
noncomputable def c_laws_sameInts : Con := { ps := [(.val, (.slice (.int .i64))), (.val, (.slice (.int .i64)))], rs := [(.val, .bool)], F := F_laws_sameInts }
noncomputable def env_laws_sameInts : Env := { par := [], dp := false, settle := [], con := fun _ => none, clo := fun _ => none, T := tinf Tryz.prog }
noncomputable def loops_laws_sameInts : Nat → Option Loop := fun n => match n with | 4 => some { pat := pat_laws_sameInts_0, outs := outs_laws_sameInts_0, run := runL (step_laws_sameInts_0) } | _ => none
theorem step_laws_sameInts_0_eq (s : (List Int) × (List Int) × Int × Int) : stepEv env_laws_sameInts loops_laws_sameInts pat_laws_sameInts_0 outs_laws_sameInts_0 Tryz.f13 4 s = step_laws_sameInts_0 s := by kernel_rfl
theorem F_laws_sameInts_eq (x : (List Int) × (List Int)) : Fev env_laws_sameInts loops_laws_sameInts c_laws_sameInts.ps c_laws_sameInts.rs Tryz.f13 x = F_laws_sameInts x := by kernel_rfl
theorem env_laws_sameInts_ok : EnvOK Tryz.prog env_laws_sameInts := envOK_of (fun f c h => by cases h) (fun f c h => by cases h) rfl
theorem con_laws_sameInts : ConOK Tryz.prog 13 c_laws_sameInts := con_of_ev' (body := Tryz.f13.body.getD .skip) (Λ := loops_laws_sameInts) mixed Tryz.func13 (by kernel_rfl) (by kernel_rfl) env_laws_sameInts_ok (by kernel_rfl) (by kernel_rfl) (fun n L h => by
  unfold loops_laws_sameInts at h
  split at h
  · cases h; exact fun s o ho => loop_ok (stepF := stepEv env_laws_sameInts loops_laws_sameInts pat_laws_sameInts_0 outs_laws_sameInts_0 Tryz.f13 4) (step_laws_sameInts_0_eq) ho
  · cases h) F_laws_sameInts_eq

noncomputable def step_laws_pIn_0 (s : Int × (List Int) × Int × Int) : Option ((Int × (List Int) × Int × Int) ⊕ ((Bool) ⊕ (Unit))) :=
  bif (decide (s.2.2.2 < s.2.2.1)) then
    bif decide (0 ≤ s.2.2.2) && decide (s.2.2.2 < (s.2.1.length : Int)) then
      bif (((s.2.1.getD (s.2.2.2).toNat 0) == s.1)) then
        some (.inr (.inl (true)))
      else
        let v2 := IntKind.i64.wrap (s.2.2.2 + 1)
        some (.inl ((s.1, (s.2.1, s.2.2.1, v2))))
    else none
  else
    some (.inr (.inr (())))
def pat_laws_pIn_0 : Pat := { tmps := [.any, .v (.int .i64), .any, .any, .any, .any, .any, .v (.slice (.int .i64)), .v (.int .i64), .v (.int .i64), .any, .any, .any, .any, .any, .any, .any], blks := [] }
def outs_laws_pIn_0 : List (Exit × Pat) := [(.ret, { tmps := [.any, .any, .any, .any, .v .bool, .any, .any, .any, .any, .any, .any, .any, .any, .any, .any, .any, .any], blks := [] }), (.exit 0, { tmps := [.any, .any, .any, .any, .any, .any, .any, .any, .any, .any, .any, .any, .any, .any, .any, .any, .any], blks := [] })]
noncomputable def F_laws_pIn (x : (List Int) × Int) : Option (Bool) :=
  match runL step_laws_pIn_0 ((x.2, (x.1, (x.1.length : Int), 0))) with
  | none => none
  | some (.inl o3) =>
    some (o3)
  | some (.inr o3) =>
    some (false)
noncomputable def c_laws_pIn : Con := { ps := [(.val, (.slice (.int .i64))), (.val, (.int .i64))], rs := [(.val, .bool)], F := F_laws_pIn }
noncomputable def env_laws_pIn : Env := { par := [], dp := false, settle := [], con := fun _ => none, clo := fun _ => none, T := tinf Tryz.prog }
noncomputable def loops_laws_pIn : Nat → Option Loop := fun n => match n with | 2 => some { pat := pat_laws_pIn_0, outs := outs_laws_pIn_0, run := runL (step_laws_pIn_0) } | _ => none
theorem step_laws_pIn_0_eq (s : Int × (List Int) × Int × Int) : stepEv env_laws_pIn loops_laws_pIn pat_laws_pIn_0 outs_laws_pIn_0 Tryz.f15 2 s = step_laws_pIn_0 s := by kernel_rfl
theorem F_laws_pIn_eq (x : (List Int) × Int) : Fev env_laws_pIn loops_laws_pIn c_laws_pIn.ps c_laws_pIn.rs Tryz.f15 x = F_laws_pIn x := by kernel_rfl
theorem env_laws_pIn_ok : EnvOK Tryz.prog env_laws_pIn := envOK_of (fun f c h => by cases h) (fun f c h => by cases h) rfl
theorem con_laws_pIn : ConOK Tryz.prog 15 c_laws_pIn := con_of_ev' (body := Tryz.f15.body.getD .skip) (Λ := loops_laws_pIn) mixed Tryz.func15 (by kernel_rfl) (by kernel_rfl) env_laws_pIn_ok (by kernel_rfl) (by kernel_rfl) (fun n L h => by
  unfold loops_laws_pIn at h
  split at h
  · cases h; exact fun s o ho => loop_ok (stepF := stepEv env_laws_pIn loops_laws_pIn pat_laws_pIn_0 outs_laws_pIn_0 Tryz.f15 2) (step_laws_pIn_0_eq) ho
  · cases h) F_laws_pIn_eq

noncomputable def step_laws_pHas_0 (s : ByteArray × (List ByteArray) × Int × Int) : Option ((ByteArray × (List ByteArray) × Int × Int) ⊕ ((Bool) ⊕ (Unit))) :=
  bif (decide (s.2.2.2 < s.2.2.1)) then
    bif decide (0 ≤ s.2.2.2) && decide (s.2.2.2 < (s.2.1.length : Int)) then
      bif ((s.2.1.getD (s.2.2.2).toNat ByteArray.empty).toList == s.1.toList) then
        some (.inr (.inl (true)))
      else
        let v2 := IntKind.i64.wrap (s.2.2.2 + 1)
        some (.inl ((s.1, (s.2.1, s.2.2.1, v2))))
    else none
  else
    some (.inr (.inr (())))
def pat_laws_pHas_0 : Pat := { tmps := [.any, .v .str, .any, .any, .any, .any, .any, .v (.slice .str), .v (.int .i64), .v (.int .i64), .any, .any, .any, .any, .any, .any, .any], blks := [] }
def outs_laws_pHas_0 : List (Exit × Pat) := [(.ret, { tmps := [.any, .any, .any, .any, .v .bool, .any, .any, .any, .any, .any, .any, .any, .any, .any, .any, .any, .any], blks := [] }), (.exit 0, { tmps := [.any, .any, .any, .any, .any, .any, .any, .any, .any, .any, .any, .any, .any, .any, .any, .any, .any], blks := [] })]
noncomputable def F_laws_pHas (x : (List ByteArray) × ByteArray) : Option (Bool) :=
  match runL step_laws_pHas_0 ((x.2, (x.1, (x.1.length : Int), 0))) with
  | none => none
  | some (.inl o3) =>
    some (o3)
  | some (.inr o3) =>
    some (false)
noncomputable def c_laws_pHas : Con := { ps := [(.val, (.slice .str)), (.val, .str)], rs := [(.val, .bool)], F := F_laws_pHas }
noncomputable def env_laws_pHas : Env := { par := [], dp := false, settle := [], con := fun _ => none, clo := fun _ => none, T := tinf Tryz.prog }
noncomputable def loops_laws_pHas : Nat → Option Loop := fun n => match n with | 2 => some { pat := pat_laws_pHas_0, outs := outs_laws_pHas_0, run := runL (step_laws_pHas_0) } | _ => none
theorem step_laws_pHas_0_eq (s : ByteArray × (List ByteArray) × Int × Int) : stepEv env_laws_pHas loops_laws_pHas pat_laws_pHas_0 outs_laws_pHas_0 Tryz.f16 2 s = step_laws_pHas_0 s := by kernel_rfl
theorem F_laws_pHas_eq (x : (List ByteArray) × ByteArray) : Fev env_laws_pHas loops_laws_pHas c_laws_pHas.ps c_laws_pHas.rs Tryz.f16 x = F_laws_pHas x := by kernel_rfl
theorem env_laws_pHas_ok : EnvOK Tryz.prog env_laws_pHas := envOK_of (fun f c h => by cases h) (fun f c h => by cases h) rfl
theorem con_laws_pHas : ConOK Tryz.prog 16 c_laws_pHas := con_of_ev' (body := Tryz.f16.body.getD .skip) (Λ := loops_laws_pHas) mixed Tryz.func16 (by kernel_rfl) (by kernel_rfl) env_laws_pHas_ok (by kernel_rfl) (by kernel_rfl) (fun n L h => by
  unfold loops_laws_pHas at h
  split at h
  · cases h; exact fun s o ho => loop_ok (stepF := stepEv env_laws_pHas loops_laws_pHas pat_laws_pHas_0 outs_laws_pHas_0 Tryz.f16 2) (step_laws_pHas_0_eq) ho
  · cases h) F_laws_pHas_eq

noncomputable def F_spec_DrawAreProposals (x : (List Int)) : Option ((List (Int × (Int × (ByteArray × (List Int))))) × Int) :=
  match F_spec_l1Cur_proposals ((x, 0, 0)) with
  | none => none
  | some y1 =>
    some (y1.2)
noncomputable def c_spec_DrawAreProposals : Con := { ps := [(.val, (.slice (.int .u8)))], rs := [(.val, (.slice (.st (.pair (.int .i64) (.pair (.int .i64) (.pair .str (.slice (.int .i64)))))))), (.val, (.int .i64))], F := F_spec_DrawAreProposals }
noncomputable def env_spec_DrawAreProposals : Env := { par := [], dp := false, settle := [], con := fun f => match f with | 28 => some c_spec_l1Cur_proposals | _ => none, clo := fun _ => none, T := tinf Tryz.prog }
noncomputable def loops_spec_DrawAreProposals : Nat → Option Loop := fun n => none
theorem F_spec_DrawAreProposals_eq (x : (List Int)) : Fev env_spec_DrawAreProposals loops_spec_DrawAreProposals c_spec_DrawAreProposals.ps c_spec_DrawAreProposals.rs Tryz.f47 x = F_spec_DrawAreProposals x := by kernel_rfl
theorem env_spec_DrawAreProposals_ok : EnvOK Tryz.prog env_spec_DrawAreProposals := envOK_of (fun f c h => by
  simp only [env_spec_DrawAreProposals] at h
  split at h
  · cases h; exact con_spec_l1Cur_proposals
  · cases h) (fun f c h => by cases h) rfl
theorem con_spec_DrawAreProposals : ConOK Tryz.prog 47 c_spec_DrawAreProposals := con_of_ev' (body := Tryz.f47.body.getD .skip) (Λ := loops_spec_DrawAreProposals) mixed Tryz.func47 (by kernel_rfl) (by kernel_rfl) env_spec_DrawAreProposals_ok (by kernel_rfl) (by kernel_rfl) (fun n L h => by cases h) F_spec_DrawAreProposals_eq

noncomputable def F_spec_DrawAgreeingMembers (x : (List Int)) : Option ((List (Int × (Int × (ByteArray × (List Int))))) × Int) :=
  match F_spec_DrawAreProposals (x) with
  | none => none
  | some y1 =>
    some (y1)
noncomputable def c_spec_DrawAgreeingMembers : Con := { ps := [(.val, (.slice (.int .u8)))], rs := [(.val, (.slice (.st (.pair (.int .i64) (.pair (.int .i64) (.pair .str (.slice (.int .i64)))))))), (.val, (.int .i64))], F := F_spec_DrawAgreeingMembers }
noncomputable def env_spec_DrawAgreeingMembers : Env := { par := [], dp := false, settle := [], con := fun f => match f with | 47 => some c_spec_DrawAreProposals | _ => none, clo := fun _ => none, T := tinf Tryz.prog }
noncomputable def loops_spec_DrawAgreeingMembers : Nat → Option Loop := fun n => none
theorem F_spec_DrawAgreeingMembers_eq (x : (List Int)) : Fev env_spec_DrawAgreeingMembers loops_spec_DrawAgreeingMembers c_spec_DrawAgreeingMembers.ps c_spec_DrawAgreeingMembers.rs Tryz.f17 x = F_spec_DrawAgreeingMembers x := by kernel_rfl
theorem env_spec_DrawAgreeingMembers_ok : EnvOK Tryz.prog env_spec_DrawAgreeingMembers := envOK_of (fun f c h => by
  simp only [env_spec_DrawAgreeingMembers] at h
  split at h
  · cases h; exact con_spec_DrawAreProposals
  · cases h) (fun f c h => by cases h) rfl
theorem con_spec_DrawAgreeingMembers : ConOK Tryz.prog 17 c_spec_DrawAgreeingMembers := con_of_ev' (body := Tryz.f17.body.getD .skip) (Λ := loops_spec_DrawAgreeingMembers) mixed Tryz.func17 (by kernel_rfl) (by kernel_rfl) env_spec_DrawAgreeingMembers_ok (by kernel_rfl) (by kernel_rfl) (fun n L h => by cases h) F_spec_DrawAgreeingMembers_eq

noncomputable def F_impl_AgreeingMembers_1 (x : (Int × (Int × (ByteArray × (List Int)))) × Int × Int) : Option (Bool) :=
  bif decide (0 ≤ x.2.1) && decide (x.2.1 < (x.1.2.2.2.length : Int)) then
    bif (((x.1.2.2.2.getD (x.2.1).toNat 0) != 0)) then
      bif decide (0 ≤ x.2.1) && decide (x.2.1 < (x.1.2.2.2.length : Int)) then
        bif decide (0 ≤ x.2.2) && decide (x.2.2 < (x.1.2.2.2.length : Int)) then
          some ((((x.1.2.2.2.getD (x.2.1).toNat 0) == (x.1.2.2.2.getD (x.2.2).toNat 0))))
        else none
      else none
    else
      some (false)
  else none
noncomputable def c_impl_AgreeingMembers_1 : Con := { ps := [(.val, (.st (.pair (.int .i64) (.pair (.int .i64) (.pair .str (.slice (.int .i64))))))), (.val, (.ptr (.int .i64))), (.val, (.ptr (.int .i64)))], rs := [(.val, .bool)], F := F_impl_AgreeingMembers_1 }
noncomputable def env_impl_AgreeingMembers_1 : Env := { par := [], dp := false, settle := [], con := fun _ => none, clo := fun _ => none, T := tinf Tryz.prog }
noncomputable def loops_impl_AgreeingMembers_1 : Nat → Option Loop := fun n => none
theorem F_impl_AgreeingMembers_1_eq (x : (Int × (Int × (ByteArray × (List Int)))) × Int × Int) : Fev env_impl_AgreeingMembers_1 loops_impl_AgreeingMembers_1 c_impl_AgreeingMembers_1.ps c_impl_AgreeingMembers_1.rs Tryz.f49 x = F_impl_AgreeingMembers_1 x := by kernel_rfl
theorem env_impl_AgreeingMembers_1_ok : EnvOK Tryz.prog env_impl_AgreeingMembers_1 := envOK_of (fun f c h => by cases h) (fun f c h => by cases h) rfl
theorem con_impl_AgreeingMembers_1 : ConOK Tryz.prog 49 c_impl_AgreeingMembers_1 := con_of_ev' (body := Tryz.f49.body.getD .skip) (Λ := loops_impl_AgreeingMembers_1) mixed Tryz.func49 (by kernel_rfl) (by kernel_rfl) env_impl_AgreeingMembers_1_ok (by kernel_rfl) (by kernel_rfl) (fun n L h => by cases h) F_impl_AgreeingMembers_1_eq

noncomputable def step_impl_those_impl_Proposal_0 (s : ((Int × (Int × (ByteArray × (List Int)))) → Option Bool) × (List (Int × (Int × (ByteArray × (List Int))))) × Int × Int × (List Int)) : Option ((((Int × (Int × (ByteArray × (List Int)))) → Option Bool) × (List (Int × (Int × (ByteArray × (List Int))))) × Int × Int × (List Int)) ⊕ (((List Int)))) :=
  bif (decide (s.2.2.2.1 < s.2.2.1)) then
    bif decide (0 ≤ s.2.2.2.1) && decide (s.2.2.2.1 < (s.2.1.length : Int)) then
      match s.1 ((s.2.1.getD (s.2.2.2.1).toNat (0, (0, ByteArray.empty, [])))) with
      | none => none
      | some y8 =>
        bif y8 then
          bif decide ((s.2.2.2.2.length + [s.2.2.2.1].length) * 8 ≤ 140737488355328) then
            let v9 := s.2.2.2.2 ++ [s.2.2.2.1]
            let v10 := IntKind.i64.wrap (s.2.2.2.1 + 1)
            some (.inl ((s.1, s.2.1, (s.2.2.1, v10, v9))))
          else none
        else
          let v11 := IntKind.i64.wrap (s.2.2.2.1 + 1)
          some (.inl ((s.1, s.2.1, (s.2.2.1, v11, s.2.2.2.2))))
    else none
  else
    some (.inr (s.2.2.2.2))
def pat_impl_those_impl_Proposal_0 : Pat := { tmps := [.any, .v (.fn (.st (.pair (.int .i64) (.pair (.int .i64) (.pair .str (.slice (.int .i64)))))) .bool), .any, .any, .any, .own 1344, .any, .any, .v (.slice (.st (.pair (.int .i64) (.pair (.int .i64) (.pair .str (.slice (.int .i64))))))), .v (.int .i64), .v (.int .i64), .any, .any, .any, .any, .any, .any, .any, .any, .any, .any, .any, .any, .any], blks := [(1344, .row true (.int .i64))] }
def outs_impl_those_impl_Proposal_0 : List (Exit × Pat) := [(.exit 0, { tmps := [.any, .any, .any, .any, .any, .own 1344, .any, .any, .any, .any, .any, .any, .any, .any, .any, .any, .any, .any, .any, .any, .any, .any, .any, .any], blks := [(1344, .row true (.int .i64))] })]
noncomputable def F_impl_those_impl_Proposal (x : (List (Int × (Int × (ByteArray × (List Int))))) × ((Int × (Int × (ByteArray × (List Int)))) → Option Bool)) : Option ((List Int)) :=
  match runL step_impl_those_impl_Proposal_0 ((x.2, x.1, ((x.1.length : Int), 0, []))) with
  | none => none
  | some o12 =>
    some (o12)
noncomputable def c_impl_those_impl_Proposal : Con := { ps := [(.val, (.slice (.st (.pair (.int .i64) (.pair (.int .i64) (.pair .str (.slice (.int .i64)))))))), (.val, (.fn (.st (.pair (.int .i64) (.pair (.int .i64) (.pair .str (.slice (.int .i64)))))) .bool))], rs := [(.io true, (.slice (.int .i64)))], F := F_impl_those_impl_Proposal }
noncomputable def env_impl_those_impl_Proposal : Env := { par := [], dp := false, settle := [], con := fun _ => none, clo := fun _ => none, T := tinf Tryz.prog }
noncomputable def loops_impl_those_impl_Proposal : Nat → Option Loop := fun n => match n with | 3 => some { pat := pat_impl_those_impl_Proposal_0, outs := outs_impl_those_impl_Proposal_0, run := runL (step_impl_those_impl_Proposal_0) } | _ => none
theorem step_impl_those_impl_Proposal_0_eq (s : ((Int × (Int × (ByteArray × (List Int)))) → Option Bool) × (List (Int × (Int × (ByteArray × (List Int))))) × Int × Int × (List Int)) : stepEv env_impl_those_impl_Proposal loops_impl_those_impl_Proposal pat_impl_those_impl_Proposal_0 outs_impl_those_impl_Proposal_0 Tryz.f48 3 s = step_impl_those_impl_Proposal_0 s := by kernel_rfl
theorem F_impl_those_impl_Proposal_eq (x : (List (Int × (Int × (ByteArray × (List Int))))) × ((Int × (Int × (ByteArray × (List Int)))) → Option Bool)) : Fev env_impl_those_impl_Proposal loops_impl_those_impl_Proposal c_impl_those_impl_Proposal.ps c_impl_those_impl_Proposal.rs Tryz.f48 x = F_impl_those_impl_Proposal x := by kernel_rfl
theorem env_impl_those_impl_Proposal_ok : EnvOK Tryz.prog env_impl_those_impl_Proposal := envOK_of (fun f c h => by cases h) (fun f c h => by cases h) rfl
theorem con_impl_those_impl_Proposal : ConOK Tryz.prog 48 c_impl_those_impl_Proposal := con_of_ev' (body := Tryz.f48.body.getD .skip) (Λ := loops_impl_those_impl_Proposal) mixed Tryz.func48 (by kernel_rfl) (by kernel_rfl) env_impl_those_impl_Proposal_ok (by kernel_rfl) (by kernel_rfl) (fun n L h => by
  unfold loops_impl_those_impl_Proposal at h
  split at h
  · cases h; exact fun s o ho => loop_ok (stepF := stepEv env_impl_those_impl_Proposal loops_impl_those_impl_Proposal pat_impl_those_impl_Proposal_0 outs_impl_those_impl_Proposal_0 Tryz.f48 3) (step_impl_those_impl_Proposal_0_eq) ho
  · cases h) F_impl_those_impl_Proposal_eq

noncomputable def K_impl_AgreeingMembers_1 (q : Int × Int) (x : (Int × (Int × (ByteArray × (List Int))))) : Option (Bool) := F_impl_AgreeingMembers_1 (x, q)
noncomputable def k_impl_AgreeingMembers_1 : CloCon := { caps := [(.int .i64), (.int .i64)], a := (.st (.pair (.int .i64) (.pair (.int .i64) (.pair .str (.slice (.int .i64)))))), r := .bool, F := K_impl_AgreeingMembers_1 }
theorem clo_impl_AgreeingMembers_1 : CloOK Tryz.prog 49 k_impl_AgreeingMembers_1 := clo_of_con k_impl_AgreeingMembers_1 F_impl_AgreeingMembers_1 con_impl_AgreeingMembers_1 rfl (fun kx x y h => ⟨y, h, rfl⟩)
noncomputable def step_impl_AgreeingMembers_0 (s : (List (Int × (Int × (ByteArray × (List Int))))) × Int × Int × Int × Int × Int × Int × Int × Int) : Option (((List (Int × (Int × (ByteArray × (List Int))))) × Int × Int × Int × Int × Int × Int × Int × Int) ⊕ (((List (Int × (Int × (ByteArray × (List Int))))) × Int × Int × Int × Int × Int × Int))) :=
  bif (decide (s.2.2.2.2.2.2.2.1 < s.2.1)) then
    match F_impl_those_impl_Proposal ((s.1, (K_impl_AgreeingMembers_1 (s.2.2.2.2.2.2.2.2, s.2.2.2.2.2.2.2.1)))) with
    | none => none
    | some y15 =>
      bif (decide ((y15.length : Int) > s.2.2.2.2.1)) then
        let v16 := IntKind.i64.wrap (s.2.2.2.2.2.2.2.1 + 1)
        some (.inl ((s.1, s.2.1, (s.2.2.2.2.2.2.2.2, s.2.2.2.2.2.2.2.1, ((y15.length : Int), s.2.2.2.2.2.1, (s.2.2.2.2.2.2.1, v16, s.2.2.2.2.2.2.2.2))))))
      else
        let v17 := IntKind.i64.wrap (s.2.2.2.2.2.2.2.1 + 1)
        some (.inl ((s.1, s.2.1, (s.2.2.1, s.2.2.2.1, (s.2.2.2.2.1, s.2.2.2.2.2.1, (s.2.2.2.2.2.2.1, v17, s.2.2.2.2.2.2.2.2))))))
  else
    some (.inr ((s.1, s.2.1, (s.2.2.1, s.2.2.2.1, (s.2.2.2.2.1, s.2.2.2.2.2.1, s.2.2.2.2.2.2.1)))))
def pat_impl_AgreeingMembers_0 : Pat := { tmps := [.v (.slice (.st (.pair (.int .i64) (.pair (.int .i64) (.pair .str (.slice (.int .i64))))))), .v (.int .i64), .any, .any, .any, .any, .any, .any, .v (.int .i64), .v (.int .i64), .v (.int .i64), .ptr 704 0, .ptr 768 0, .any, .any, .any, .any, .any, .any, .any, .any, .any, .v (.int .i64), .v (.int .i64), .any, .any, .any, .any, .any, .any, .any, .any, .any, .any, .any, .any, .any, .any, .any, .any, .any, .any, .any, .any, .any, .any, .any, .any], blks := [(768, .box [.v (.int .i64)]), (704, .box [.v (.int .i64)])] }
def outs_impl_AgreeingMembers_0 : List (Exit × Pat) := [(.exit 2, { tmps := [.v (.slice (.st (.pair (.int .i64) (.pair (.int .i64) (.pair .str (.slice (.int .i64))))))), .v (.int .i64), .any, .any, .any, .any, .any, .any, .v (.int .i64), .v (.int .i64), .v (.int .i64), .any, .any, .any, .any, .any, .any, .any, .any, .any, .any, .any, .v (.int .i64), .v (.int .i64), .any, .any, .any, .any, .any, .any, .any, .any, .any, .any, .any, .any, .any, .any, .any, .any, .any, .any, .any, .any, .any, .any, .any, .any], blks := [] })]
noncomputable def step_impl_AgreeingMembers_1 (s : (List (Int × (Int × (ByteArray × (List Int))))) × Int × Int × Int × Int × Int × Int) : Option (((List (Int × (Int × (ByteArray × (List Int))))) × Int × Int × Int × Int × Int × Int) ⊕ ((Int × Int × Int))) :=
  bif (decide (s.2.2.2.2.2.2 < s.2.2.2.2.2.1)) then
    let v11 := IntKind.i64.wrap (s.2.2.2.2.2.2 + 1)
    match runL step_impl_AgreeingMembers_0 ((s.1, s.2.1, (s.2.2.1, s.2.2.2.1, (s.2.2.2.2.1, s.2.2.2.2.2.1, (s.2.2.2.2.2.2, v11, s.2.2.2.2.2.2))))) with
    | none => none
    | some o18 =>
      let v19 := IntKind.i64.wrap (o18.2.2.2.2.2.2 + 1)
      some (.inl ((o18.1, o18.2.1, (o18.2.2.1, o18.2.2.2.1, (o18.2.2.2.2.1, o18.2.2.2.2.2.1, v19)))))
  else
    some (.inr ((s.2.2.1, s.2.2.2.1, s.2.2.2.2.1)))
def pat_impl_AgreeingMembers_1 : Pat := { tmps := [.v (.slice (.st (.pair (.int .i64) (.pair (.int .i64) (.pair .str (.slice (.int .i64))))))), .v (.int .i64), .any, .any, .any, .any, .any, .any, .v (.int .i64), .v (.int .i64), .v (.int .i64), .any, .any, .any, .any, .any, .any, .any, .any, .any, .any, .any, .v (.int .i64), .v (.int .i64), .any, .any, .any, .any, .any, .any, .any, .any, .any, .any, .any, .any, .any, .any, .any, .any, .any, .any, .any, .any, .any, .any, .any, .any], blks := [] }
def outs_impl_AgreeingMembers_1 : List (Exit × Pat) := [(.exit 0, { tmps := [.any, .any, .any, .any, .any, .any, .any, .any, .v (.int .i64), .v (.int .i64), .v (.int .i64), .any, .any, .any, .any, .any, .any, .any, .any, .any, .any, .any, .any, .any, .any, .any, .any, .any, .any, .any, .any, .any, .any, .any, .any, .any, .any, .any, .any, .any, .any, .any, .any, .any, .any, .any, .any, .any], blks := [] })]
noncomputable def F_impl_AgreeingMembers (x : (List (Int × (Int × (ByteArray × (List Int))))) × Int) : Option (Int × Int × Int × Bool) :=
  match F_impl_AreProposals (x) with
  | none => none
  | some y1 =>
    bif (!y1) then
      some ((0, (0, 0, false)))
    else
      bif (decide (x.2 < 2)) then
        some ((0, (0, 0, false)))
      else
        match runL step_impl_AgreeingMembers_1 ((x.1, x.2, (0, 1, (0, x.2, 0)))) with
        | none => none
        | some o20 =>
          some ((o20.1, (o20.2.1, o20.2.2, true)))
noncomputable def c_impl_AgreeingMembers : Con := { ps := [(.val, (.slice (.st (.pair (.int .i64) (.pair (.int .i64) (.pair .str (.slice (.int .i64)))))))), (.val, (.int .i64))], rs := [(.val, (.int .i64)), (.val, (.int .i64)), (.val, (.int .i64)), (.val, .bool)], F := F_impl_AgreeingMembers }
noncomputable def env_impl_AgreeingMembers : Env := { par := [], dp := false, settle := [], con := fun f => match f with | 14 => some c_impl_AreProposals | 48 => some c_impl_those_impl_Proposal | _ => none, clo := fun f => match f with | 49 => some k_impl_AgreeingMembers_1 | _ => none, T := tinf Tryz.prog }
noncomputable def loops_impl_AgreeingMembers : Nat → Option Loop := fun n => match n with | 8 => some { pat := pat_impl_AgreeingMembers_0, outs := outs_impl_AgreeingMembers_0, run := runL (step_impl_AgreeingMembers_0) } | 5 => some { pat := pat_impl_AgreeingMembers_1, outs := outs_impl_AgreeingMembers_1, run := runL (step_impl_AgreeingMembers_1) } | _ => none
theorem step_impl_AgreeingMembers_0_eq (s : (List (Int × (Int × (ByteArray × (List Int))))) × Int × Int × Int × Int × Int × Int × Int × Int) : stepEv env_impl_AgreeingMembers loops_impl_AgreeingMembers pat_impl_AgreeingMembers_0 outs_impl_AgreeingMembers_0 Tryz.f18 8 s = step_impl_AgreeingMembers_0 s := by kernel_rfl
theorem step_impl_AgreeingMembers_1_eq (s : (List (Int × (Int × (ByteArray × (List Int))))) × Int × Int × Int × Int × Int × Int) : stepEv env_impl_AgreeingMembers loops_impl_AgreeingMembers pat_impl_AgreeingMembers_1 outs_impl_AgreeingMembers_1 Tryz.f18 5 s = step_impl_AgreeingMembers_1 s := by kernel_rfl
theorem F_impl_AgreeingMembers_eq (x : (List (Int × (Int × (ByteArray × (List Int))))) × Int) : Fev env_impl_AgreeingMembers loops_impl_AgreeingMembers c_impl_AgreeingMembers.ps c_impl_AgreeingMembers.rs Tryz.f18 x = F_impl_AgreeingMembers x := by kernel_rfl
theorem env_impl_AgreeingMembers_ok : EnvOK Tryz.prog env_impl_AgreeingMembers := envOK_of (fun f c h => by
  simp only [env_impl_AgreeingMembers] at h
  split at h
  · cases h; exact con_impl_AreProposals
  · cases h; exact con_impl_those_impl_Proposal
  · cases h) (fun f c h => by
  simp only [env_impl_AgreeingMembers] at h
  split at h
  · cases h; exact clo_impl_AgreeingMembers_1
  · cases h) rfl
theorem con_impl_AgreeingMembers : ConOK Tryz.prog 18 c_impl_AgreeingMembers := con_of_ev' (body := Tryz.f18.body.getD .skip) (Λ := loops_impl_AgreeingMembers) mixed Tryz.func18 (by kernel_rfl) (by kernel_rfl) env_impl_AgreeingMembers_ok (by kernel_rfl) (by kernel_rfl) (fun n L h => by
  unfold loops_impl_AgreeingMembers at h
  split at h
  · cases h; exact fun s o ho => loop_ok (stepF := stepEv env_impl_AgreeingMembers loops_impl_AgreeingMembers pat_impl_AgreeingMembers_0 outs_impl_AgreeingMembers_0 Tryz.f18 8) (step_impl_AgreeingMembers_0_eq) ho
  · cases h; exact fun s o ho => loop_ok (stepF := stepEv env_impl_AgreeingMembers loops_impl_AgreeingMembers pat_impl_AgreeingMembers_1 outs_impl_AgreeingMembers_1 Tryz.f18 5) (step_impl_AgreeingMembers_1_eq) ho
  · cases h) F_impl_AgreeingMembers_eq

noncomputable def step_spec_AgreeingMembers_0 (s : (List (Int × (Int × (ByteArray × (List Int))))) × Int × Int × Int × Int × Int × Int × Int × (List (Int × (Int × (ByteArray × (List Int))))) × Int × Int) : Option (((List (Int × (Int × (ByteArray × (List Int))))) × Int × Int × Int × Int × Int × Int × Int × (List (Int × (Int × (ByteArray × (List Int))))) × Int × Int) ⊕ (((List (Int × (Int × (ByteArray × (List Int))))) × Int × Int × Int × Int × Int × Int × Int))) :=
  bif (decide (s.2.2.2.2.2.2.2.2.2.2 < s.2.2.2.2.2.2.2.2.2.1)) then
    bif decide (0 ≤ s.2.2.2.2.2.2.2.2.2.2) && decide (s.2.2.2.2.2.2.2.2.2.2 < (s.2.2.2.2.2.2.2.2.1.length : Int)) then
      bif decide (0 ≤ s.2.2.2.2.2.1) && decide (s.2.2.2.2.2.1 < ((s.2.2.2.2.2.2.2.2.1.getD (s.2.2.2.2.2.2.2.2.2.2).toNat (0, (0, ByteArray.empty, []))).2.2.2.length : Int)) then
        bif ((((s.2.2.2.2.2.2.2.2.1.getD (s.2.2.2.2.2.2.2.2.2.2).toNat (0, (0, ByteArray.empty, []))).2.2.2.getD (s.2.2.2.2.2.1).toNat 0) != 0)) then
          bif decide (0 ≤ s.2.2.2.2.2.1) && decide (s.2.2.2.2.2.1 < ((s.2.2.2.2.2.2.2.2.1.getD (s.2.2.2.2.2.2.2.2.2.2).toNat (0, (0, ByteArray.empty, []))).2.2.2.length : Int)) then
            bif decide (0 ≤ s.2.2.2.2.2.2.1) && decide (s.2.2.2.2.2.2.1 < ((s.2.2.2.2.2.2.2.2.1.getD (s.2.2.2.2.2.2.2.2.2.2).toNat (0, (0, ByteArray.empty, []))).2.2.2.length : Int)) then
              bif ((((s.2.2.2.2.2.2.2.2.1.getD (s.2.2.2.2.2.2.2.2.2.2).toNat (0, (0, ByteArray.empty, []))).2.2.2.getD (s.2.2.2.2.2.1).toNat 0) == ((s.2.2.2.2.2.2.2.2.1.getD (s.2.2.2.2.2.2.2.2.2.2).toNat (0, (0, ByteArray.empty, []))).2.2.2.getD (s.2.2.2.2.2.2.1).toNat 0))) then
                let v43 := IntKind.i64.wrap (s.2.2.2.2.2.2.2.1 + 1)
                let v44 := IntKind.i64.wrap (s.2.2.2.2.2.2.2.2.2.2 + 1)
                some (.inl ((s.1, s.2.1, (s.2.2.1, s.2.2.2.1, (s.2.2.2.2.1, s.2.2.2.2.2.1, (s.2.2.2.2.2.2.1, v43, (s.2.2.2.2.2.2.2.2.1, s.2.2.2.2.2.2.2.2.2.1, v44)))))))
              else
                let v45 := IntKind.i64.wrap (s.2.2.2.2.2.2.2.2.2.2 + 1)
                some (.inl ((s.1, s.2.1, (s.2.2.1, s.2.2.2.1, (s.2.2.2.2.1, s.2.2.2.2.2.1, (s.2.2.2.2.2.2.1, s.2.2.2.2.2.2.2.1, (s.2.2.2.2.2.2.2.2.1, s.2.2.2.2.2.2.2.2.2.1, v45)))))))
            else none
          else none
        else
          let v46 := IntKind.i64.wrap (s.2.2.2.2.2.2.2.2.2.2 + 1)
          some (.inl ((s.1, s.2.1, (s.2.2.1, s.2.2.2.1, (s.2.2.2.2.1, s.2.2.2.2.2.1, (s.2.2.2.2.2.2.1, s.2.2.2.2.2.2.2.1, (s.2.2.2.2.2.2.2.2.1, s.2.2.2.2.2.2.2.2.2.1, v46)))))))
      else none
    else none
  else
    some (.inr ((s.1, (s.2.1, s.2.2.1, (s.2.2.2.1, s.2.2.2.2.1, (s.2.2.2.2.2.1, s.2.2.2.2.2.2.1, s.2.2.2.2.2.2.2.1))))))
def pat_spec_AgreeingMembers_0 : Pat := { tmps := [.v (.slice (.st (.pair (.int .i64) (.pair (.int .i64) (.pair .str (.slice (.int .i64))))))), .v (.int .i64), .any, .any, .any, .any, .any, .any, .v (.int .i64), .v (.int .i64), .v (.int .i64), .v (.int .i64), .v (.int .i64), .v (.int .i64), .any, .any, .any, .any, .any, .any, .any, .any, .any, .any, .any, .any, .any, .any, .any, .any, .any, .any, .any, .any, .any, .any, .v (.slice (.st (.pair (.int .i64) (.pair (.int .i64) (.pair .str (.slice (.int .i64))))))), .v (.int .i64), .v (.int .i64), .any, .any, .any, .any, .any, .any, .any, .any, .any, .any, .any, .any, .any, .any, .any, .any, .any, .any, .any, .any, .any, .any, .any, .any, .any, .any, .any, .any, .any, .any, .any, .any, .any, .any], blks := [] }
def outs_spec_AgreeingMembers_0 : List (Exit × Pat) := [(.exit 4, { tmps := [.v (.slice (.st (.pair (.int .i64) (.pair (.int .i64) (.pair .str (.slice (.int .i64))))))), .v (.int .i64), .any, .any, .any, .any, .any, .any, .v (.int .i64), .v (.int .i64), .v (.int .i64), .v (.int .i64), .v (.int .i64), .v (.int .i64), .any, .any, .any, .any, .any, .any, .any, .any, .any, .any, .any, .any, .any, .any, .any, .any, .any, .any, .any, .any, .any, .any, .any, .any, .any, .any, .any, .any, .any, .any, .any, .any, .any, .any, .any, .any, .any, .any, .any, .any, .any, .any, .any, .any, .any, .any, .any, .any, .any, .any, .any, .any, .any, .any, .any, .any, .any, .any, .any], blks := [] })]
noncomputable def step_spec_AgreeingMembers_1 (s : (List (Int × (Int × (ByteArray × (List Int))))) × Int × Int × Int × Int × Int × Int) : Option (((List (Int × (Int × (ByteArray × (List Int))))) × Int × Int × Int × Int × Int × Int) ⊕ (((List (Int × (Int × (ByteArray × (List Int))))) × Int × Int × Int × Int × Int))) :=
  bif (decide (s.2.2.2.2.2.2 < s.2.1)) then
    match runL step_spec_AgreeingMembers_0 ((s.1, s.2.1, (s.2.2.1, s.2.2.2.1, (s.2.2.2.2.1, s.2.2.2.2.2.1, (s.2.2.2.2.2.2, 0, (s.1, (s.1.length : Int), 0)))))) with
    | none => none
    | some o47 =>
      bif (decide (o47.2.2.2.2.2.2.2 > o47.2.2.2.2.1)) then
        let v48 := IntKind.i64.wrap (o47.2.2.2.2.2.2.1 + 1)
        some (.inl ((o47.1, o47.2.1, (o47.2.2.2.2.2.1, o47.2.2.2.2.2.2.1, (o47.2.2.2.2.2.2.2, o47.2.2.2.2.2.1, v48)))))
      else
        let v49 := IntKind.i64.wrap (o47.2.2.2.2.2.2.1 + 1)
        some (.inl ((o47.1, o47.2.1, (o47.2.2.1, o47.2.2.2.1, (o47.2.2.2.2.1, o47.2.2.2.2.2.1, v49)))))
  else
    some (.inr ((s.1, (s.2.1, s.2.2.1, (s.2.2.2.1, s.2.2.2.2.1, s.2.2.2.2.2.1)))))
def pat_spec_AgreeingMembers_1 : Pat := { tmps := [.v (.slice (.st (.pair (.int .i64) (.pair (.int .i64) (.pair .str (.slice (.int .i64))))))), .v (.int .i64), .any, .any, .any, .any, .any, .any, .v (.int .i64), .v (.int .i64), .v (.int .i64), .v (.int .i64), .v (.int .i64), .any, .any, .any, .any, .any, .any, .any, .any, .any, .any, .any, .any, .any, .any, .any, .any, .any, .any, .any, .any, .any, .any, .any, .any, .any, .any, .any, .any, .any, .any, .any, .any, .any, .any, .any, .any, .any, .any, .any, .any, .any, .any, .any, .any, .any, .any, .any, .any, .any, .any, .any, .any, .any, .any, .any, .any, .any, .any, .any, .any], blks := [] }
def outs_spec_AgreeingMembers_1 : List (Exit × Pat) := [(.exit 2, { tmps := [.v (.slice (.st (.pair (.int .i64) (.pair (.int .i64) (.pair .str (.slice (.int .i64))))))), .v (.int .i64), .any, .any, .any, .any, .any, .any, .v (.int .i64), .v (.int .i64), .v (.int .i64), .v (.int .i64), .any, .any, .any, .any, .any, .any, .any, .any, .any, .any, .any, .any, .any, .any, .any, .any, .any, .any, .any, .any, .any, .any, .any, .any, .any, .any, .any, .any, .any, .any, .any, .any, .any, .any, .any, .any, .any, .any, .any, .any, .any, .any, .any, .any, .any, .any, .any, .any, .any, .any, .any, .any, .any, .any, .any, .any, .any, .any, .any, .any, .any], blks := [] })]
noncomputable def step_spec_AgreeingMembers_2 (s : (List (Int × (Int × (ByteArray × (List Int))))) × Int × Int × Int × Int × Int) : Option (((List (Int × (Int × (ByteArray × (List Int))))) × Int × Int × Int × Int × Int) ⊕ ((Int × Int × Int))) :=
  bif (decide (s.2.2.2.2.2 < s.2.1)) then
    let v27 := IntKind.i64.wrap (s.2.2.2.2.2 + 1)
    match runL step_spec_AgreeingMembers_1 ((s.1, s.2.1, (s.2.2.1, s.2.2.2.1, (s.2.2.2.2.1, s.2.2.2.2.2, v27)))) with
    | none => none
    | some o50 =>
      let v51 := IntKind.i64.wrap (o50.2.2.2.2.2 + 1)
      some (.inl ((o50.1, (o50.2.1, o50.2.2.1, (o50.2.2.2.1, o50.2.2.2.2.1, v51)))))
  else
    some (.inr ((s.2.2.1, s.2.2.2.1, s.2.2.2.2.1)))
def pat_spec_AgreeingMembers_2 : Pat := { tmps := [.v (.slice (.st (.pair (.int .i64) (.pair (.int .i64) (.pair .str (.slice (.int .i64))))))), .v (.int .i64), .any, .any, .any, .any, .any, .any, .v (.int .i64), .v (.int .i64), .v (.int .i64), .v (.int .i64), .any, .any, .any, .any, .any, .any, .any, .any, .any, .any, .any, .any, .any, .any, .any, .any, .any, .any, .any, .any, .any, .any, .any, .any, .any, .any, .any, .any, .any, .any, .any, .any, .any, .any, .any, .any, .any, .any, .any, .any, .any, .any, .any, .any, .any, .any, .any, .any, .any, .any, .any, .any, .any, .any, .any, .any, .any, .any, .any, .any, .any], blks := [] }
def outs_spec_AgreeingMembers_2 : List (Exit × Pat) := [(.exit 0, { tmps := [.any, .any, .any, .any, .any, .any, .any, .any, .v (.int .i64), .v (.int .i64), .v (.int .i64), .any, .any, .any, .any, .any, .any, .any, .any, .any, .any, .any, .any, .any, .any, .any, .any, .any, .any, .any, .any, .any, .any, .any, .any, .any, .any, .any, .any, .any, .any, .any, .any, .any, .any, .any, .any, .any, .any, .any, .any, .any, .any, .any, .any, .any, .any, .any, .any, .any, .any, .any, .any, .any, .any, .any, .any, .any, .any, .any, .any, .any, .any], blks := [] })]
noncomputable def F_spec_AgreeingMembers (x : (List (Int × (Int × (ByteArray × (List Int))))) × Int) : Option (Int × Int × Int × Bool) :=
  match F_spec_ofGood (x) with
  | none => none
  | some y1 =>
    bif (!y1) then
      some ((0, (0, 0, false)))
    else
      bif ((x.2 == 1)) then
        some ((0, (0, 0, false)))
      else
        match runL step_spec_AgreeingMembers_2 ((x.1, (x.2, 0, (0, (-1), 0)))) with
        | none => none
        | some o52 =>
          some ((o52.1, (o52.2.1, o52.2.2, true)))
noncomputable def c_spec_AgreeingMembers : Con := { ps := [(.val, (.slice (.st (.pair (.int .i64) (.pair (.int .i64) (.pair .str (.slice (.int .i64)))))))), (.val, (.int .i64))], rs := [(.val, (.int .i64)), (.val, (.int .i64)), (.val, (.int .i64)), (.val, .bool)], F := F_spec_AgreeingMembers }
noncomputable def env_spec_AgreeingMembers : Env := { par := [], dp := false, settle := [], con := fun f => match f with | 39 => some c_spec_ofGood | _ => none, clo := fun _ => none, T := tinf Tryz.prog }
noncomputable def loops_spec_AgreeingMembers : Nat → Option Loop := fun n => match n with | 12 => some { pat := pat_spec_AgreeingMembers_0, outs := outs_spec_AgreeingMembers_0, run := runL (step_spec_AgreeingMembers_0) } | 8 => some { pat := pat_spec_AgreeingMembers_1, outs := outs_spec_AgreeingMembers_1, run := runL (step_spec_AgreeingMembers_1) } | 5 => some { pat := pat_spec_AgreeingMembers_2, outs := outs_spec_AgreeingMembers_2, run := runL (step_spec_AgreeingMembers_2) } | _ => none
theorem step_spec_AgreeingMembers_0_eq (s : (List (Int × (Int × (ByteArray × (List Int))))) × Int × Int × Int × Int × Int × Int × Int × (List (Int × (Int × (ByteArray × (List Int))))) × Int × Int) : stepEv env_spec_AgreeingMembers loops_spec_AgreeingMembers pat_spec_AgreeingMembers_0 outs_spec_AgreeingMembers_0 Tryz.f19 12 s = step_spec_AgreeingMembers_0 s := by kernel_rfl
theorem step_spec_AgreeingMembers_1_eq (s : (List (Int × (Int × (ByteArray × (List Int))))) × Int × Int × Int × Int × Int × Int) : stepEv env_spec_AgreeingMembers loops_spec_AgreeingMembers pat_spec_AgreeingMembers_1 outs_spec_AgreeingMembers_1 Tryz.f19 8 s = step_spec_AgreeingMembers_1 s := by kernel_rfl
theorem step_spec_AgreeingMembers_2_eq (s : (List (Int × (Int × (ByteArray × (List Int))))) × Int × Int × Int × Int × Int) : stepEv env_spec_AgreeingMembers loops_spec_AgreeingMembers pat_spec_AgreeingMembers_2 outs_spec_AgreeingMembers_2 Tryz.f19 5 s = step_spec_AgreeingMembers_2 s := by kernel_rfl
theorem F_spec_AgreeingMembers_eq (x : (List (Int × (Int × (ByteArray × (List Int))))) × Int) : Fev env_spec_AgreeingMembers loops_spec_AgreeingMembers c_spec_AgreeingMembers.ps c_spec_AgreeingMembers.rs Tryz.f19 x = F_spec_AgreeingMembers x := by kernel_rfl
theorem env_spec_AgreeingMembers_ok : EnvOK Tryz.prog env_spec_AgreeingMembers := envOK_of (fun f c h => by
  simp only [env_spec_AgreeingMembers] at h
  split at h
  · cases h; exact con_spec_ofGood
  · cases h) (fun f c h => by cases h) rfl
theorem con_spec_AgreeingMembers : ConOK Tryz.prog 19 c_spec_AgreeingMembers := con_of_ev' (body := Tryz.f19.body.getD .skip) (Λ := loops_spec_AgreeingMembers) mixed Tryz.func19 (by kernel_rfl) (by kernel_rfl) env_spec_AgreeingMembers_ok (by kernel_rfl) (by kernel_rfl) (fun n L h => by
  unfold loops_spec_AgreeingMembers at h
  split at h
  · cases h; exact fun s o ho => loop_ok (stepF := stepEv env_spec_AgreeingMembers loops_spec_AgreeingMembers pat_spec_AgreeingMembers_0 outs_spec_AgreeingMembers_0 Tryz.f19 12) (step_spec_AgreeingMembers_0_eq) ho
  · cases h; exact fun s o ho => loop_ok (stepF := stepEv env_spec_AgreeingMembers loops_spec_AgreeingMembers pat_spec_AgreeingMembers_1 outs_spec_AgreeingMembers_1 Tryz.f19 8) (step_spec_AgreeingMembers_1_eq) ho
  · cases h; exact fun s o ho => loop_ok (stepF := stepEv env_spec_AgreeingMembers loops_spec_AgreeingMembers pat_spec_AgreeingMembers_2 outs_spec_AgreeingMembers_2 Tryz.f19 5) (step_spec_AgreeingMembers_2_eq) ho
  · cases h) F_spec_AgreeingMembers_eq

noncomputable def F_spec_DrawPutProposal (x : (List Int)) : Option ((List (Int × (Int × (ByteArray × (List Int))))) × Int × Int × ByteArray) :=
  match F_spec_l1Cur_proposals ((x, 0, 0)) with
  | none => none
  | some y1 =>
    match F_spec_l1Cur_among ((y1.1, [(-1), 2])) with
    | none => none
    | some y2 =>
      match F_spec_l1Cur_among ((y2.1, [0, 1, 0, 1, y2.2])) with
      | none => none
      | some y3 =>
        match F_spec_l1Cur_anyGloss (y3.1) with
        | none => none
        | some y4 =>
          some ((y1.2.1, (y1.2.2, y3.2, y4.2)))
noncomputable def c_spec_DrawPutProposal : Con := { ps := [(.val, (.slice (.int .u8)))], rs := [(.val, (.slice (.st (.pair (.int .i64) (.pair (.int .i64) (.pair .str (.slice (.int .i64)))))))), (.val, (.int .i64)), (.val, (.int .i64)), (.val, .str)], F := F_spec_DrawPutProposal }
noncomputable def env_spec_DrawPutProposal : Env := { par := [], dp := false, settle := [], con := fun f => match f with | 27 => some c_spec_l1Cur_anyGloss | 28 => some c_spec_l1Cur_proposals | 50 => some c_spec_l1Cur_among | _ => none, clo := fun _ => none, T := tinf Tryz.prog }
noncomputable def loops_spec_DrawPutProposal : Nat → Option Loop := fun n => none
theorem F_spec_DrawPutProposal_eq (x : (List Int)) : Fev env_spec_DrawPutProposal loops_spec_DrawPutProposal c_spec_DrawPutProposal.ps c_spec_DrawPutProposal.rs Tryz.f20 x = F_spec_DrawPutProposal x := by kernel_rfl
theorem env_spec_DrawPutProposal_ok : EnvOK Tryz.prog env_spec_DrawPutProposal := envOK_of (fun f c h => by
  simp only [env_spec_DrawPutProposal] at h
  split at h
  · cases h; exact con_spec_l1Cur_anyGloss
  · cases h; exact con_spec_l1Cur_proposals
  · cases h; exact con_spec_l1Cur_among
  · cases h) (fun f c h => by cases h) rfl
theorem con_spec_DrawPutProposal : ConOK Tryz.prog 20 c_spec_DrawPutProposal := con_of_ev' (body := Tryz.f20.body.getD .skip) (Λ := loops_spec_DrawPutProposal) mixed Tryz.func20 (by kernel_rfl) (by kernel_rfl) env_spec_DrawPutProposal_ok (by kernel_rfl) (by kernel_rfl) (fun n L h => by cases h) F_spec_DrawPutProposal_eq

section
open Go.RowKit
theorem nil_slices_Clone_impl_Proposal_impl_Proposal (n c : Nat) (w : World) : Calls Tryz.prog 76 #[.slice none n c] w fun e w' => e = .returned (.slice none 0 0) ∧ w' = w := by
  have q : ∀ (w : World) (a : Option Addr) (n c n' c' : Nat), (binOp .eql 25 (.slice a n c) (.slice none n' c')).run Tryz.prog w = .ok (.bool a.isNone) w := fun w a n c n' c' => Lib.run_eql_slice_nil w _ _ a n c n' c' (show Tryz.prog.underlying 25 = some (.slice 40) by kernel_rfl)
  go_enter Tryz.func76, Tryz.ntmps76
  go_wp2
  go_ret
  exact ⟨rfl, rfl⟩
set_option maxHeartbeats 2000000 in
theorem some_slices_Clone_impl_Proposal_impl_Proposal (ad : Addr) (n c : Nat) (news : List Value) (w : World) (hl : news.length = n * 4) (hc : ∀ j u, news[j]? = some u → w.cell? (ad.add j) = some u) (h1 : ∀ u ∈ news, u.oneCell' = true) (hbig : n * 56 ≤ 140737488355328) :
    Calls Tryz.prog 76 #[.slice (some ad) n c] w fun e w' => ∃ v', e = .returned v' ∧ w'.ownsRow w.heap.size 40 4 v' n news ∧ Below w.heap.size w w' := by
  have q : ∀ (w : World) (a : Option Addr) (n c n' c' : Nat), (binOp .eql 25 (.slice a n c) (.slice none n' c')).run Tryz.prog w = .ok (.bool a.isNone) w := fun w a n c n' c' => Lib.run_eql_slice_nil w _ _ a n c n' c' (show Tryz.prog.underlying 25 = some (.slice 40) by kernel_rfl)
  obtain ⟨i0, hi, hz0, hz1, hz2⟩ := info_parts (P := Tryz.prog) (e := 40) (z := (.agg #[(.int .i64 0), (.int .i64 0), (.string ⟨#[]⟩), (.slice none 0 0)])) (size := 4) (bytes := 56) (by kernel_rfl)
  have A : Aside (∀ j u, news[j]? = some u → w.cell? (ad.add j) = some u) := hc
  clear hc
  go_enter Tryz.func76, Tryz.ntmps76
  go_wp2_with (at_builtin; refine wpList_append_own _ rfl _ _ 25 rfl w.heap.size 40 i0 (.agg #[(.int .i64 0), (.int .i64 0), (.string ⟨#[]⟩), (.slice none 0 0)]) 4 56 (by kernel_rfl) hi hz0 hz1 hz2 rfl (by decide) _ _ _ rfl (World.ownsRow_made w #[] 0 (Nat.le_refl _) (Nat.zero_le _) rfl) ad n c news rfl ?qc1 ?qc2 ?qc3 ?qc4 ?qc5 ?qc6 ?_)
  case qc1 => exact hl
  case qc2 => exact fun j u hj => Lib.cell?_alloc_some _ (A.out j u hj)
  case qc3 => exact h1
  case qc4 => unfold maxLen; omega
  case qc5 => omega
  case qc6 => simp
  intro v' w1 hown hgrow hnil
  go_wp2
  go_ret
  refine ⟨v', rfl, by simpa using hown, ?_⟩
  exact ((Below.refl _ w).alloc (Nat.le_refl _) _).grown hgrow (by simp) (by intro k hk; simp [Value.ownBlock] at hk; omega)
def F_slices_Clone_impl_Proposal_impl_Proposal (x : List (Int × (Int × (ByteArray × (List Int))))) : Option (List (Int × (Int × (ByteArray × (List Int))))) := bif decide (x.length * 56 ≤ 140737488355328) then some x else none
noncomputable def c_slices_Clone_impl_Proposal_impl_Proposal : Con := { ps := [(.val, .slice (.st (.pair (.int .i64) (.pair (.int .i64) (.pair .str (.slice (.int .i64)))))))], rs := [(.io false, .slice (.st (.pair (.int .i64) (.pair (.int .i64) (.pair .str (.slice (.int .i64)))))))], F := F_slices_Clone_impl_Proposal_impl_Proposal }
theorem con_slices_Clone_impl_Proposal_impl_Proposal : ConOK Tryz.prog 76 c_slices_Clone_impl_Proposal_impl_Proposal := con_clone ⟨Tryz.f76, Tryz.func76, by kernel_rfl, by kernel_rfl⟩ (.st (.pair (.int .i64) (.pair (.int .i64) (.pair .str (.slice (.int .i64)))))) false rfl 56 40 nil_slices_Clone_impl_Proposal_impl_Proposal some_slices_Clone_impl_Proposal_impl_Proposal
end

section
open Go.RowKit
theorem nil_slices_Clone_int_int (n c : Nat) (w : World) : Calls Tryz.prog 77 #[.slice none n c] w fun e w' => e = .returned (.slice none 0 0) ∧ w' = w := by
  have q : ∀ (w : World) (a : Option Addr) (n c n' c' : Nat), (binOp .eql 28 (.slice a n c) (.slice none n' c')).run Tryz.prog w = .ok (.bool a.isNone) w := fun w a n c n' c' => Lib.run_eql_slice_nil w _ _ a n c n' c' (show Tryz.prog.underlying 28 = some (.slice 3) by kernel_rfl)
  go_enter Tryz.func77, Tryz.ntmps77
  go_wp2
  go_ret
  exact ⟨rfl, rfl⟩
set_option maxHeartbeats 2000000 in
theorem some_slices_Clone_int_int (ad : Addr) (n c : Nat) (news : List Value) (w : World) (hl : news.length = n * 1) (hc : ∀ j u, news[j]? = some u → w.cell? (ad.add j) = some u) (h1 : ∀ u ∈ news, u.oneCell' = true) (hbig : n * 8 ≤ 140737488355328) :
    Calls Tryz.prog 77 #[.slice (some ad) n c] w fun e w' => ∃ v', e = .returned v' ∧ w'.ownsRow w.heap.size 3 1 v' n news ∧ Below w.heap.size w w' := by
  have q : ∀ (w : World) (a : Option Addr) (n c n' c' : Nat), (binOp .eql 28 (.slice a n c) (.slice none n' c')).run Tryz.prog w = .ok (.bool a.isNone) w := fun w a n c n' c' => Lib.run_eql_slice_nil w _ _ a n c n' c' (show Tryz.prog.underlying 28 = some (.slice 3) by kernel_rfl)
  obtain ⟨i0, hi, hz0, hz1, hz2⟩ := info_parts (P := Tryz.prog) (e := 3) (z := (.int .i64 0)) (size := 1) (bytes := 8) (by kernel_rfl)
  have A : Aside (∀ j u, news[j]? = some u → w.cell? (ad.add j) = some u) := hc
  clear hc
  go_enter Tryz.func77, Tryz.ntmps77
  go_wp2_with (at_builtin; refine wpList_append_own _ rfl _ _ 28 rfl w.heap.size 3 i0 (.int .i64 0) 1 8 (by kernel_rfl) hi hz0 hz1 hz2 rfl (by decide) _ _ _ rfl (World.ownsRow_made w #[] 0 (Nat.le_refl _) (Nat.zero_le _) rfl) ad n c news rfl ?qc1 ?qc2 ?qc3 ?qc4 ?qc5 ?qc6 ?_)
  case qc1 => exact hl
  case qc2 => exact fun j u hj => Lib.cell?_alloc_some _ (A.out j u hj)
  case qc3 => exact h1
  case qc4 => unfold maxLen; omega
  case qc5 => omega
  case qc6 => simp
  intro v' w1 hown hgrow hnil
  go_wp2
  go_ret
  refine ⟨v', rfl, by simpa using hown, ?_⟩
  exact ((Below.refl _ w).alloc (Nat.le_refl _) _).grown hgrow (by simp) (by intro k hk; simp [Value.ownBlock] at hk; omega)
def F_slices_Clone_int_int (x : List Int) : Option (List Int) := bif decide (x.length * 8 ≤ 140737488355328) then some x else none
noncomputable def c_slices_Clone_int_int : Con := { ps := [(.val, .slice (.int .i64))], rs := [(.io true, .slice (.int .i64))], F := F_slices_Clone_int_int }
theorem con_slices_Clone_int_int : ConOK Tryz.prog 77 c_slices_Clone_int_int := con_clone ⟨Tryz.f77, Tryz.func77, by kernel_rfl, by kernel_rfl⟩ (.int .i64) true rfl 8 3 nil_slices_Clone_int_int some_slices_Clone_int_int
end

end Go.Proofs.YtnfngofcdhaaaaaGreat
