/- Contracts of functions of the program, written by a program of this claim. No conditions. -/
import Derived.Test.YtbblmkogbokblaaEvZk
import Derived.Test.YtbblmkogbokblaaRows
import Derived.Shelf.Strings.Search1
import Derived.Test.YtbblmkogbokblaaEvZl
import Derived.OwnWalk
import Derived.Lib.SliceRun
import Derived.WalkKit
import Derived.Deep.LoopGhost
import Derived.Lib.Walk
import Derived.Test.YtbblmkogbokblaaEvZm
import Derived.Sort.Grow
import Derived.Test.YtbblmkogbokblaaShelf
set_option linter.unusedVariables false
set_option maxRecDepth 100000
namespace Go.Proofs.Ytbblmkogbokblaa
open Go
theorem mixed : Try.prog.follows .mixedOrders = true := by kernel_rfl
noncomputable def F_laws_szIntS (x : (List Int) × Int) : Option (Int) :=
  let v1 := IntKind.i64.wrap (x.2 - (x.1.length : Int))
  bif (decide (v1 < 0)) then
    some ((-1))
  else
    some (v1)
noncomputable def c_laws_szIntS : Con := { ps := [(.val, (.slice (.int .i64))), (.val, (.int .i64))], rs := [(.val, (.int .i64))], F := F_laws_szIntS }
noncomputable def env_laws_szIntS : Env := { par := [], dp := false, settle := [], con := fun _ => none, clo := fun _ => none, T := tinf Try.prog }
noncomputable def loops_laws_szIntS : Nat → Option Loop := fun n => none
theorem F_laws_szIntS_eq (x : (List Int) × Int) : Fev env_laws_szIntS loops_laws_szIntS c_laws_szIntS.ps c_laws_szIntS.rs Try.f46 x = F_laws_szIntS x := by kernel_rfl
theorem env_laws_szIntS_ok : EnvOK Try.prog env_laws_szIntS := envOK_of (fun f c h => by cases h) (fun f c h => by cases h) rfl
theorem con_laws_szIntS : ConOK Try.prog 46 c_laws_szIntS := con_of_ev' (body := Try.f46.body.getD .skip) (Λ := loops_laws_szIntS) mixed Try.func46 (by kernel_rfl) (by kernel_rfl) env_laws_szIntS_ok (by kernel_rfl) (by kernel_rfl) (fun n L h => by cases h) F_laws_szIntS_eq

noncomputable def F_laws_szProposal (x : (Int × (Int × (ByteArray × (List Int)))) × Int) : Option (Int) :=
  let v1 := IntKind.i64.wrap (x.2 - (x.1.2.2.1.size : Int))
  bif (decide (v1 < 0)) then
    some ((-1))
  else
    match F_laws_szIntS ((x.1.2.2.2, v1)) with
    | none => none
    | some y2 =>
      bif (decide (y2 < 0)) then
        some ((-1))
      else
        some (y2)
noncomputable def c_laws_szProposal : Con := { ps := [(.val, (.st (.pair (.int .i64) (.pair (.int .i64) (.pair .str (.slice (.int .i64))))))), (.val, (.int .i64))], rs := [(.val, (.int .i64))], F := F_laws_szProposal }
noncomputable def env_laws_szProposal : Env := { par := [], dp := false, settle := [], con := fun f => match f with | 46 => some c_laws_szIntS | _ => none, clo := fun _ => none, T := tinf Try.prog }
noncomputable def loops_laws_szProposal : Nat → Option Loop := fun n => none
theorem F_laws_szProposal_eq (x : (Int × (Int × (ByteArray × (List Int)))) × Int) : Fev env_laws_szProposal loops_laws_szProposal c_laws_szProposal.ps c_laws_szProposal.rs Try.f29 x = F_laws_szProposal x := by kernel_rfl
theorem env_laws_szProposal_ok : EnvOK Try.prog env_laws_szProposal := envOK_of (fun f c h => by
  simp only [env_laws_szProposal] at h
  split at h
  · cases h; exact con_laws_szIntS
  · cases h) (fun f c h => by cases h) rfl
theorem con_laws_szProposal : ConOK Try.prog 29 c_laws_szProposal := con_of_ev' (body := Try.f29.body.getD .skip) (Λ := loops_laws_szProposal) mixed Try.func29 (by kernel_rfl) (by kernel_rfl) env_laws_szProposal_ok (by kernel_rfl) (by kernel_rfl) (fun n L h => by cases h) F_laws_szProposal_eq

noncomputable def step_laws_szProposalS_0 (s : (List (Int × (Int × (ByteArray × (List Int))))) × Int × Int) : Option (((List (Int × (Int × (ByteArray × (List Int))))) × Int × Int) ⊕ ((Int) ⊕ (Int))) :=
  bif (decide (s.2.2 < (s.1.length : Int))) then
    bif decide (0 ≤ s.2.2) && decide (s.2.2 < (s.1.length : Int)) then
      match F_laws_szProposal (((s.1.getD (s.2.2).toNat (0, (0, ByteArray.empty, []))), s.2.1)) with
      | none => none
      | some y4 =>
        bif (decide (y4 < 0)) then
          some (.inr (.inl ((-1))))
        else
          let v5 := IntKind.i64.wrap (s.2.2 + 1)
          some (.inl ((s.1, y4, v5)))
    else none
  else
    some (.inr (.inr (s.2.1)))
def pat_laws_szProposalS_0 : Pat := { tmps := [.v (.slice (.st (.pair (.int .i64) (.pair (.int .i64) (.pair .str (.slice (.int .i64))))))), .v (.int .i64), .any, .any, .any, .v (.int .i64), .any, .any, .any, .any, .any, .any, .any, .any, .any, .any, .any, .any, .any, .any, .any, .any, .any, .any, .any, .any, .any], blks := [] }
def outs_laws_szProposalS_0 : List (Exit × Pat) := [(.ret, { tmps := [.any, .any, .any, .any, .v (.int .i64), .any, .any, .any, .any, .any, .any, .any, .any, .any, .any, .any, .any, .any, .any, .any, .any, .any, .any, .any, .any, .any, .any], blks := [] }), (.exit 0, { tmps := [.any, .v (.int .i64), .any, .any, .any, .any, .any, .any, .any, .any, .any, .any, .any, .any, .any, .any, .any, .any, .any, .any, .any, .any, .any, .any, .any, .any, .any], blks := [] })]
noncomputable def F_laws_szProposalS (x : (List (Int × (Int × (ByteArray × (List Int))))) × Int) : Option (Int) :=
  let v1 := IntKind.i64.wrap (x.2 - (x.1.length : Int))
  bif (decide (v1 < 0)) then
    some ((-1))
  else
    match runL step_laws_szProposalS_0 ((x.1, v1, 0)) with
    | none => none
    | some (.inl o6) =>
      some (o6)
    | some (.inr o6) =>
      some (o6)
noncomputable def c_laws_szProposalS : Con := { ps := [(.val, (.slice (.st (.pair (.int .i64) (.pair (.int .i64) (.pair .str (.slice (.int .i64)))))))), (.val, (.int .i64))], rs := [(.val, (.int .i64))], F := F_laws_szProposalS }
noncomputable def env_laws_szProposalS : Env := { par := [], dp := false, settle := [], con := fun f => match f with | 29 => some c_laws_szProposal | _ => none, clo := fun _ => none, T := tinf Try.prog }
noncomputable def loops_laws_szProposalS : Nat → Option Loop := fun n => match n with | 5 => some { pat := pat_laws_szProposalS_0, outs := outs_laws_szProposalS_0, run := runL (step_laws_szProposalS_0) } | _ => none
theorem step_laws_szProposalS_0_eq (s : (List (Int × (Int × (ByteArray × (List Int))))) × Int × Int) : stepEv env_laws_szProposalS loops_laws_szProposalS pat_laws_szProposalS_0 outs_laws_szProposalS_0 Try.f14 5 s = step_laws_szProposalS_0 s := by kernel_rfl
theorem F_laws_szProposalS_eq (x : (List (Int × (Int × (ByteArray × (List Int))))) × Int) : Fev env_laws_szProposalS loops_laws_szProposalS c_laws_szProposalS.ps c_laws_szProposalS.rs Try.f14 x = F_laws_szProposalS x := by kernel_rfl
theorem env_laws_szProposalS_ok : EnvOK Try.prog env_laws_szProposalS := envOK_of (fun f c h => by
  simp only [env_laws_szProposalS] at h
  split at h
  · cases h; exact con_laws_szProposal
  · cases h) (fun f c h => by cases h) rfl
theorem con_laws_szProposalS : ConOK Try.prog 14 c_laws_szProposalS := con_of_ev' (body := Try.f14.body.getD .skip) (Λ := loops_laws_szProposalS) mixed Try.func14 (by kernel_rfl) (by kernel_rfl) env_laws_szProposalS_ok (by kernel_rfl) (by kernel_rfl) (fun n L h => by
  unfold loops_laws_szProposalS at h
  split at h
  · cases h; exact fun s o ho => loop_ok (stepF := stepEv env_laws_szProposalS loops_laws_szProposalS pat_laws_szProposalS_0 outs_laws_szProposalS_0 Try.f14 5) (step_laws_szProposalS_0_eq) ho
  · cases h) F_laws_szProposalS_eq

noncomputable def step_laws_toIntS_0 (s : (List Int) × Int × (List Int)) : Option (((List Int) × Int × (List Int)) ⊕ (((List Int)))) :=
  bif (decide (s.2.1 < (s.1.length : Int))) then
    bif decide (0 ≤ s.2.1) && decide (s.2.1 < (s.1.length : Int)) then
      bif decide (0 ≤ s.2.1) && decide (s.2.1 < (s.2.2.length : Int)) then
        let v3 := s.2.2.set (s.2.1).toNat ((s.1.getD (s.2.1).toNat 0))
        let v4 := IntKind.i64.wrap (s.2.1 + 1)
        some (.inl ((s.1, v4, v3)))
      else none
    else none
  else
    some (.inr (s.2.2))
def pat_laws_toIntS_0 : Pat := { tmps := [.v (.slice (.int .i64)), .any, .any, .own 448, .v (.int .i64), .any, .any, .any, .any, .any, .any, .any, .any, .any, .any, .any, .any, .any, .any, .any, .any, .any], blks := [(448, .row true (.int .i64))] }
def outs_laws_toIntS_0 : List (Exit × Pat) := [(.exit 0, { tmps := [.any, .any, .any, .own 448, .any, .any, .any, .any, .any, .any, .any, .any, .any, .any, .any, .any, .any, .any, .any, .any, .any, .any], blks := [(448, .row true (.int .i64))] })]
noncomputable def F_laws_toIntS (x : (List Int)) : Option ((List Int)) :=
  bif decide (0 ≤ (x.length : Int)) && decide ((x.length : Int) ≤ (x.length : Int)) && decide ((x.length : Int) * (8 : Int) ≤ 140737488355328) then
    match runL step_laws_toIntS_0 ((x, 0, (List.replicate ((x.length : Int)).toNat ((0) : Int)))) with
    | none => none
    | some o5 =>
      some (o5)
  else none
noncomputable def c_laws_toIntS : Con := { ps := [(.val, (.slice (.int .i64)))], rs := [(.io true, (.slice (.int .i64)))], F := F_laws_toIntS }
noncomputable def env_laws_toIntS : Env := { par := [], dp := false, settle := [], con := fun _ => none, clo := fun _ => none, T := tinf Try.prog }
noncomputable def loops_laws_toIntS : Nat → Option Loop := fun n => match n with | 3 => some { pat := pat_laws_toIntS_0, outs := outs_laws_toIntS_0, run := runL (step_laws_toIntS_0) } | _ => none
theorem step_laws_toIntS_0_eq (s : (List Int) × Int × (List Int)) : stepEv env_laws_toIntS loops_laws_toIntS pat_laws_toIntS_0 outs_laws_toIntS_0 Try.f50 3 s = step_laws_toIntS_0 s := by kernel_rfl
theorem F_laws_toIntS_eq (x : (List Int)) : Fev env_laws_toIntS loops_laws_toIntS c_laws_toIntS.ps c_laws_toIntS.rs Try.f50 x = F_laws_toIntS x := by kernel_rfl
theorem env_laws_toIntS_ok : EnvOK Try.prog env_laws_toIntS := envOK_of (fun f c h => by cases h) (fun f c h => by cases h) rfl
theorem con_laws_toIntS : ConOK Try.prog 50 c_laws_toIntS := con_of_ev' (body := Try.f50.body.getD .skip) (Λ := loops_laws_toIntS) mixed Try.func50 (by kernel_rfl) (by kernel_rfl) env_laws_toIntS_ok (by kernel_rfl) (by kernel_rfl) (fun n L h => by
  unfold loops_laws_toIntS at h
  split at h
  · cases h; exact fun s o ho => loop_ok (stepF := stepEv env_laws_toIntS loops_laws_toIntS pat_laws_toIntS_0 outs_laws_toIntS_0 Try.f50 3) (step_laws_toIntS_0_eq) ho
  · cases h) F_laws_toIntS_eq

noncomputable def F_laws_toProposal (x : (Int × (Int × (ByteArray × (List Int))))) : Option ((Int × (Int × (ByteArray × (List Int))))) :=
  match F_laws_toIntS (x.2.2.2) with
  | none => none
  | some y1 =>
    some ((x.1, (x.2.1, x.2.2.1, y1)))
noncomputable def c_laws_toProposal : Con := { ps := [(.val, (.st (.pair (.int .i64) (.pair (.int .i64) (.pair .str (.slice (.int .i64)))))))], rs := [(.io true, (.st (.pair (.int .i64) (.pair (.int .i64) (.pair .str (.slice (.int .i64)))))))], F := F_laws_toProposal }
noncomputable def env_laws_toProposal : Env := { par := [], dp := false, settle := [], con := fun f => match f with | 50 => some c_laws_toIntS | _ => none, clo := fun _ => none, T := tinf Try.prog }
noncomputable def loops_laws_toProposal : Nat → Option Loop := fun n => none
theorem F_laws_toProposal_eq (x : (Int × (Int × (ByteArray × (List Int))))) : Fev env_laws_toProposal loops_laws_toProposal c_laws_toProposal.ps c_laws_toProposal.rs Try.f33 x = F_laws_toProposal x := by kernel_rfl
theorem env_laws_toProposal_ok : EnvOK Try.prog env_laws_toProposal := envOK_of (fun f c h => by
  simp only [env_laws_toProposal] at h
  split at h
  · cases h; exact con_laws_toIntS
  · cases h) (fun f c h => by cases h) rfl
theorem con_laws_toProposal : ConOK Try.prog 33 c_laws_toProposal := con_of_ev' (body := Try.f33.body.getD .skip) (Λ := loops_laws_toProposal) mixed Try.func33 (by kernel_rfl) (by kernel_rfl) env_laws_toProposal_ok (by kernel_rfl) (by kernel_rfl) (fun n L h => by cases h) F_laws_toProposal_eq

noncomputable def step_laws_toProposalS_0 (s : (List (Int × (Int × (ByteArray × (List Int))))) × Int × (List (Int × (Int × (ByteArray × (List Int)))))) : Option (((List (Int × (Int × (ByteArray × (List Int))))) × Int × (List (Int × (Int × (ByteArray × (List Int)))))) ⊕ (((List (Int × (Int × (ByteArray × (List Int)))))))) :=
  bif (decide (s.2.1 < (s.1.length : Int))) then
    bif decide (0 ≤ s.2.1) && decide (s.2.1 < (s.1.length : Int)) then
      match F_laws_toProposal ((s.1.getD (s.2.1).toNat (0, (0, ByteArray.empty, [])))) with
      | none => none
      | some y4 =>
        bif decide (0 ≤ s.2.1) && decide (s.2.1 < (s.2.2.length : Int)) then
          let v5 := s.2.2.set (s.2.1).toNat (y4)
          let v6 := IntKind.i64.wrap (s.2.1 + 1)
          some (.inl ((s.1, v6, v5)))
        else none
    else none
  else
    some (.inr (s.2.2))
def pat_laws_toProposalS_0 : Pat := { tmps := [.v (.slice (.st (.pair (.int .i64) (.pair (.int .i64) (.pair .str (.slice (.int .i64))))))), .any, .any, .own 448, .v (.int .i64), .any, .any, .any, .any, .any, .any, .any, .any, .any, .any, .any, .any, .any, .any, .any, .any, .any, .any], blks := [(448, .row true (.st (.pair (.int .i64) (.pair (.int .i64) (.pair .str (.slice (.int .i64)))))))] }
def outs_laws_toProposalS_0 : List (Exit × Pat) := [(.exit 0, { tmps := [.any, .any, .any, .own 448, .any, .any, .any, .any, .any, .any, .any, .any, .any, .any, .any, .any, .any, .any, .any, .any, .any, .any, .any], blks := [(448, .row true (.st (.pair (.int .i64) (.pair (.int .i64) (.pair .str (.slice (.int .i64)))))))] })]
noncomputable def F_laws_toProposalS (x : (List (Int × (Int × (ByteArray × (List Int)))))) : Option ((List (Int × (Int × (ByteArray × (List Int)))))) :=
  bif decide (0 ≤ (x.length : Int)) && decide ((x.length : Int) ≤ (x.length : Int)) && decide ((x.length : Int) * (56 : Int) ≤ 140737488355328) then
    match runL step_laws_toProposalS_0 ((x, 0, (List.replicate ((x.length : Int)).toNat (((0, (0, ByteArray.empty, []))) : (Int × (Int × (ByteArray × (List Int)))))))) with
    | none => none
    | some o7 =>
      some (o7)
  else none
noncomputable def c_laws_toProposalS : Con := { ps := [(.val, (.slice (.st (.pair (.int .i64) (.pair (.int .i64) (.pair .str (.slice (.int .i64))))))))], rs := [(.io true, (.slice (.st (.pair (.int .i64) (.pair (.int .i64) (.pair .str (.slice (.int .i64))))))))], F := F_laws_toProposalS }
noncomputable def env_laws_toProposalS : Env := { par := [], dp := true, settle := [], con := fun f => match f with | 33 => some c_laws_toProposal | _ => none, clo := fun _ => none, T := tinf Try.prog }
noncomputable def loops_laws_toProposalS : Nat → Option Loop := fun n => match n with | 3 => some { pat := pat_laws_toProposalS_0, outs := outs_laws_toProposalS_0, run := runL (step_laws_toProposalS_0) } | _ => none
theorem step_laws_toProposalS_0_eq (s : (List (Int × (Int × (ByteArray × (List Int))))) × Int × (List (Int × (Int × (ByteArray × (List Int)))))) : stepEv env_laws_toProposalS loops_laws_toProposalS pat_laws_toProposalS_0 outs_laws_toProposalS_0 Try.f16 3 s = step_laws_toProposalS_0 s := by kernel_rfl
theorem F_laws_toProposalS_eq (x : (List (Int × (Int × (ByteArray × (List Int)))))) : Fev env_laws_toProposalS loops_laws_toProposalS c_laws_toProposalS.ps c_laws_toProposalS.rs Try.f16 x = F_laws_toProposalS x := by kernel_rfl
theorem env_laws_toProposalS_ok : EnvOK Try.prog env_laws_toProposalS := envOK_of (fun f c h => by
  simp only [env_laws_toProposalS] at h
  split at h
  · cases h; exact con_laws_toProposal
  · cases h) (fun f c h => by cases h) rfl
theorem con_laws_toProposalS : ConOK Try.prog 16 c_laws_toProposalS := con_of_ev' (body := Try.f16.body.getD .skip) (Λ := loops_laws_toProposalS) mixed Try.func16 (by kernel_rfl) (by kernel_rfl) env_laws_toProposalS_ok (by kernel_rfl) (by kernel_rfl) (fun n L h => by
  unfold loops_laws_toProposalS at h
  split at h
  · cases h; exact fun s o ho => loop_ok (stepF := stepEv env_laws_toProposalS loops_laws_toProposalS pat_laws_toProposalS_0 outs_laws_toProposalS_0 Try.f16 3) (step_laws_toProposalS_0_eq) ho
  · cases h) F_laws_toProposalS_eq

noncomputable def F_spec_l1In (x : Int × Int × Int) : Option (Bool) :=
  bif (decide (x.1 ≥ x.2.1)) then
    some ((decide (x.1 ≤ x.2.2)))
  else
    some (false)
noncomputable def c_spec_l1In : Con := { ps := [(.val, (.int .i64)), (.val, (.int .i64)), (.val, (.int .i64))], rs := [(.val, .bool)], F := F_spec_l1In }
noncomputable def env_spec_l1In : Env := { par := [], dp := false, settle := [], con := fun _ => none, clo := fun _ => none, T := tinf Try.prog }
noncomputable def loops_spec_l1In : Nat → Option Loop := fun n => none
theorem F_spec_l1In_eq (x : Int × Int × Int) : Fev env_spec_l1In loops_spec_l1In c_spec_l1In.ps c_spec_l1In.rs Try.f58 x = F_spec_l1In x := by kernel_rfl
theorem env_spec_l1In_ok : EnvOK Try.prog env_spec_l1In := envOK_of (fun f c h => by cases h) (fun f c h => by cases h) rfl
theorem con_spec_l1In : ConOK Try.prog 58 c_spec_l1In := con_of_ev' (body := Try.f58.body.getD .skip) (Λ := loops_spec_l1In) mixed Try.func58 (by kernel_rfl) (by kernel_rfl) env_spec_l1In_ok (by kernel_rfl) (by kernel_rfl) (fun n L h => by cases h) F_spec_l1In_eq

noncomputable def step_spec_enGloss_0 (s : ByteArray × Int) : Option ((ByteArray × Int) ⊕ ((Bool) ⊕ (ByteArray))) :=
  bif (decide (s.2 < (s.1.size : Int))) then
    bif decide (0 ≤ s.2) && decide (s.2 < (s.1.size : Int)) then
      bif (decide ((byteAt s.1 (s.2).toNat) < 65)) then
        some (.inr (.inl (false)))
      else
        bif decide (0 ≤ s.2) && decide (s.2 < (s.1.size : Int)) then
          bif (decide ((byteAt s.1 (s.2).toNat) > 90)) then
            some (.inr (.inl (false)))
          else
            let v2 := IntKind.i64.wrap (s.2 + 1)
            some (.inl ((s.1, v2)))
        else none
    else none
  else
    some (.inr (.inr (s.1)))
def pat_spec_enGloss_0 : Pat := { tmps := [.v .str, .any, .any, .v (.int .i64), .any, .any, .any, .any, .any, .any, .any, .any, .any, .any, .any, .any, .any, .any, .any, .any, .any, .any, .any], blks := [] }
def outs_spec_enGloss_0 : List (Exit × Pat) := [(.ret, { tmps := [.any, .any, .v .bool, .any, .any, .any, .any, .any, .any, .any, .any, .any, .any, .any, .any, .any, .any, .any, .any, .any, .any, .any, .any], blks := [] }), (.exit 0, { tmps := [.v .str, .any, .any, .any, .any, .any, .any, .any, .any, .any, .any, .any, .any, .any, .any, .any, .any, .any, .any, .any, .any, .any, .any], blks := [] })]
noncomputable def F_spec_enGloss (x : ByteArray) : Option (Bool) :=
  match runL step_spec_enGloss_0 ((x, 0)) with
  | none => none
  | some (.inl o3) =>
    some (o3)
  | some (.inr o3) =>
    match F_spec_l1In (((o3.size : Int), 1, 8)) with
    | none => none
    | some y4 =>
      some (y4)
noncomputable def c_spec_enGloss : Con := { ps := [(.val, .str)], rs := [(.val, .bool)], F := F_spec_enGloss }
noncomputable def env_spec_enGloss : Env := { par := [], dp := false, settle := [], con := fun f => match f with | 58 => some c_spec_l1In | _ => none, clo := fun _ => none, T := tinf Try.prog }
noncomputable def loops_spec_enGloss : Nat → Option Loop := fun n => match n with | 2 => some { pat := pat_spec_enGloss_0, outs := outs_spec_enGloss_0, run := runL (step_spec_enGloss_0) } | _ => none
theorem step_spec_enGloss_0_eq (s : ByteArray × Int) : stepEv env_spec_enGloss loops_spec_enGloss pat_spec_enGloss_0 outs_spec_enGloss_0 Try.f63 2 s = step_spec_enGloss_0 s := by kernel_rfl
theorem F_spec_enGloss_eq (x : ByteArray) : Fev env_spec_enGloss loops_spec_enGloss c_spec_enGloss.ps c_spec_enGloss.rs Try.f63 x = F_spec_enGloss x := by kernel_rfl
theorem env_spec_enGloss_ok : EnvOK Try.prog env_spec_enGloss := envOK_of (fun f c h => by
  simp only [env_spec_enGloss] at h
  split at h
  · cases h; exact con_spec_l1In
  · cases h) (fun f c h => by cases h) rfl
theorem con_spec_enGloss : ConOK Try.prog 63 c_spec_enGloss := con_of_ev' (body := Try.f63.body.getD .skip) (Λ := loops_spec_enGloss) mixed Try.func63 (by kernel_rfl) (by kernel_rfl) env_spec_enGloss_ok (by kernel_rfl) (by kernel_rfl) (fun n L h => by
  unfold loops_spec_enGloss at h
  split at h
  · cases h; exact fun s o ho => loop_ok (stepF := stepEv env_spec_enGloss loops_spec_enGloss pat_spec_enGloss_0 outs_spec_enGloss_0 Try.f63 2) (step_spec_enGloss_0_eq) ho
  · cases h) F_spec_enGloss_eq

noncomputable def step_spec_l1All_0 (s : Int × Int × (List Int) × Int × Int) : Option ((Int × Int × (List Int) × Int × Int) ⊕ ((Bool) ⊕ (Unit))) :=
  bif (decide (s.2.2.2.2 < s.2.2.2.1)) then
    bif decide (0 ≤ s.2.2.2.2) && decide (s.2.2.2.2 < (s.2.2.1.length : Int)) then
      match F_spec_l1In (((s.2.2.1.getD (s.2.2.2.2).toNat 0), s.1, s.2.1)) with
      | none => none
      | some y3 =>
        bif (!y3) then
          some (.inr (.inl (false)))
        else
          let v4 := IntKind.i64.wrap (s.2.2.2.2 + 1)
          some (.inl ((s.1, s.2.1, (s.2.2.1, s.2.2.2.1, v4))))
    else none
  else
    some (.inr (.inr (())))
def pat_spec_l1All_0 : Pat := { tmps := [.any, .v (.int .i64), .v (.int .i64), .any, .any, .any, .any, .any, .any, .v (.slice (.int .i64)), .v (.int .i64), .v (.int .i64), .any, .any, .any, .any, .any, .any, .any, .any, .any], blks := [] }
def outs_spec_l1All_0 : List (Exit × Pat) := [(.ret, { tmps := [.any, .any, .any, .any, .any, .any, .v .bool, .any, .any, .any, .any, .any, .any, .any, .any, .any, .any, .any, .any, .any, .any], blks := [] }), (.exit 0, { tmps := [.any, .any, .any, .any, .any, .any, .any, .any, .any, .any, .any, .any, .any, .any, .any, .any, .any, .any, .any, .any, .any], blks := [] })]
noncomputable def F_spec_l1All (x : (List Int) × Int × Int) : Option (Bool) :=
  match runL step_spec_l1All_0 ((x.2.1, x.2.2, (x.1, (x.1.length : Int), 0))) with
  | none => none
  | some (.inl o5) =>
    some (o5)
  | some (.inr o5) =>
    some (true)
noncomputable def c_spec_l1All : Con := { ps := [(.val, (.slice (.int .i64))), (.val, (.int .i64)), (.val, (.int .i64))], rs := [(.val, .bool)], F := F_spec_l1All }
noncomputable def env_spec_l1All : Env := { par := [], dp := false, settle := [], con := fun f => match f with | 58 => some c_spec_l1In | _ => none, clo := fun _ => none, T := tinf Try.prog }
noncomputable def loops_spec_l1All : Nat → Option Loop := fun n => match n with | 2 => some { pat := pat_spec_l1All_0, outs := outs_spec_l1All_0, run := runL (step_spec_l1All_0) } | _ => none
theorem step_spec_l1All_0_eq (s : Int × Int × (List Int) × Int × Int) : stepEv env_spec_l1All loops_spec_l1All pat_spec_l1All_0 outs_spec_l1All_0 Try.f64 2 s = step_spec_l1All_0 s := by kernel_rfl
theorem F_spec_l1All_eq (x : (List Int) × Int × Int) : Fev env_spec_l1All loops_spec_l1All c_spec_l1All.ps c_spec_l1All.rs Try.f64 x = F_spec_l1All x := by kernel_rfl
theorem env_spec_l1All_ok : EnvOK Try.prog env_spec_l1All := envOK_of (fun f c h => by
  simp only [env_spec_l1All] at h
  split at h
  · cases h; exact con_spec_l1In
  · cases h) (fun f c h => by cases h) rfl
theorem con_spec_l1All : ConOK Try.prog 64 c_spec_l1All := con_of_ev' (body := Try.f64.body.getD .skip) (Λ := loops_spec_l1All) mixed Try.func64 (by kernel_rfl) (by kernel_rfl) env_spec_l1All_ok (by kernel_rfl) (by kernel_rfl) (fun n L h => by
  unfold loops_spec_l1All at h
  split at h
  · cases h; exact fun s o ho => loop_ok (stepF := stepEv env_spec_l1All loops_spec_l1All pat_spec_l1All_0 outs_spec_l1All_0 Try.f64 2) (step_spec_l1All_0_eq) ho
  · cases h) F_spec_l1All_eq

noncomputable def F_spec_ofOne (x : (Int × (Int × (ByteArray × (List Int)))) × Int) : Option (Bool) :=
  match F_spec_l1In ((x.1.1, 1, 999)) with
  | none => none
  | some y1 =>
    bif y1 then
      match F_spec_l1In ((x.1.2.1, 0, 1)) with
      | none => none
      | some y2 =>
        bif y2 then
          match F_spec_enGloss (x.1.2.2.1) with
          | none => none
          | some y3 =>
            bif y3 then
              bif (((x.1.2.2.2.length : Int) == x.2)) then
                match F_spec_l1All ((x.1.2.2.2, (-1), 1)) with
                | none => none
                | some y4 =>
                  some (y4)
              else
                some (false)
            else
              some (false)
        else
          some (false)
    else
      some (false)
noncomputable def c_spec_ofOne : Con := { ps := [(.val, (.st (.pair (.int .i64) (.pair (.int .i64) (.pair .str (.slice (.int .i64))))))), (.val, (.int .i64))], rs := [(.val, .bool)], F := F_spec_ofOne }
noncomputable def env_spec_ofOne : Env := { par := [], dp := false, settle := [], con := fun f => match f with | 58 => some c_spec_l1In | 63 => some c_spec_enGloss | 64 => some c_spec_l1All | _ => none, clo := fun _ => none, T := tinf Try.prog }
noncomputable def loops_spec_ofOne : Nat → Option Loop := fun n => none
theorem F_spec_ofOne_eq (x : (Int × (Int × (ByteArray × (List Int)))) × Int) : Fev env_spec_ofOne loops_spec_ofOne c_spec_ofOne.ps c_spec_ofOne.rs Try.f47 x = F_spec_ofOne x := by kernel_rfl
theorem env_spec_ofOne_ok : EnvOK Try.prog env_spec_ofOne := envOK_of (fun f c h => by
  simp only [env_spec_ofOne] at h
  split at h
  · cases h; exact con_spec_l1In
  · cases h; exact con_spec_enGloss
  · cases h; exact con_spec_l1All
  · cases h) (fun f c h => by cases h) rfl
theorem con_spec_ofOne : ConOK Try.prog 47 c_spec_ofOne := con_of_ev' (body := Try.f47.body.getD .skip) (Λ := loops_spec_ofOne) mixed Try.func47 (by kernel_rfl) (by kernel_rfl) env_spec_ofOne_ok (by kernel_rfl) (by kernel_rfl) (fun n L h => by cases h) F_spec_ofOne_eq

noncomputable def F_spec_ofMembers (x : Int) : Option (Bool) :=
  match F_spec_l1In ((x, 1, 7)) with
  | none => none
  | some y1 =>
    some (y1)
noncomputable def c_spec_ofMembers : Con := { ps := [(.val, (.int .i64))], rs := [(.val, .bool)], F := F_spec_ofMembers }
noncomputable def env_spec_ofMembers : Env := { par := [], dp := false, settle := [], con := fun f => match f with | 58 => some c_spec_l1In | _ => none, clo := fun _ => none, T := tinf Try.prog }
noncomputable def loops_spec_ofMembers : Nat → Option Loop := fun n => none
theorem F_spec_ofMembers_eq (x : Int) : Fev env_spec_ofMembers loops_spec_ofMembers c_spec_ofMembers.ps c_spec_ofMembers.rs Try.f48 x = F_spec_ofMembers x := by kernel_rfl
theorem env_spec_ofMembers_ok : EnvOK Try.prog env_spec_ofMembers := envOK_of (fun f c h => by
  simp only [env_spec_ofMembers] at h
  split at h
  · cases h; exact con_spec_l1In
  · cases h) (fun f c h => by cases h) rfl
theorem con_spec_ofMembers : ConOK Try.prog 48 c_spec_ofMembers := con_of_ev' (body := Try.f48.body.getD .skip) (Λ := loops_spec_ofMembers) mixed Try.func48 (by kernel_rfl) (by kernel_rfl) env_spec_ofMembers_ok (by kernel_rfl) (by kernel_rfl) (fun n L h => by cases h) F_spec_ofMembers_eq

noncomputable def step_spec_ofGood_0 (s : (List (Int × (Int × (ByteArray × (List Int))))) × Int × (List (Int × (Int × (ByteArray × (List Int))))) × Int × Int) : Option (((List (Int × (Int × (ByteArray × (List Int))))) × Int × (List (Int × (Int × (ByteArray × (List Int))))) × Int × Int) ⊕ ((Bool) ⊕ ((List (Int × (Int × (ByteArray × (List Int))))) × Int))) :=
  bif (decide (s.2.2.2.2 < s.2.2.2.1)) then
    bif decide (0 ≤ s.2.2.2.2) && decide (s.2.2.2.2 < (s.2.2.1.length : Int)) then
      match F_spec_ofOne (((s.2.2.1.getD (s.2.2.2.2).toNat (0, (0, ByteArray.empty, []))), s.2.1)) with
      | none => none
      | some y5 =>
        bif (!y5) then
          some (.inr (.inl (false)))
        else
          bif (decide (s.2.2.2.2 > 0)) then
            let v6 := IntKind.i64.wrap (s.2.2.2.2 - 1)
            bif decide (0 ≤ v6) && decide (v6 < (s.1.length : Int)) then
              bif (decide ((s.1.getD (v6).toNat (0, (0, ByteArray.empty, []))).1 ≥ (s.2.2.1.getD (s.2.2.2.2).toNat (0, (0, ByteArray.empty, []))).1)) then
                some (.inr (.inl (false)))
              else
                let v7 := IntKind.i64.wrap (s.2.2.2.2 + 1)
                some (.inl ((s.1, s.2.1, (s.2.2.1, s.2.2.2.1, v7))))
            else none
          else
            let v8 := IntKind.i64.wrap (s.2.2.2.2 + 1)
            some (.inl ((s.1, s.2.1, (s.2.2.1, s.2.2.2.1, v8))))
    else none
  else
    some (.inr (.inr ((s.1, s.2.1))))
def pat_spec_ofGood_0 : Pat := { tmps := [.v (.slice (.st (.pair (.int .i64) (.pair (.int .i64) (.pair .str (.slice (.int .i64))))))), .v (.int .i64), .any, .any, .any, .any, .any, .v (.slice (.st (.pair (.int .i64) (.pair (.int .i64) (.pair .str (.slice (.int .i64))))))), .v (.int .i64), .v (.int .i64), .any, .any, .any, .any, .any, .any, .any, .any, .any, .any, .any, .any, .any, .any, .any, .any, .any, .any, .any, .any, .any, .any, .any, .any, .any, .any, .any, .any, .any, .any, .any], blks := [] }
def outs_spec_ofGood_0 : List (Exit × Pat) := [(.ret, { tmps := [.any, .any, .any, .any, .v .bool, .any, .any, .any, .any, .any, .any, .any, .any, .any, .any, .any, .any, .any, .any, .any, .any, .any, .any, .any, .any, .any, .any, .any, .any, .any, .any, .any, .any, .any, .any, .any, .any, .any, .any, .any, .any], blks := [] }), (.exit 0, { tmps := [.v (.slice (.st (.pair (.int .i64) (.pair (.int .i64) (.pair .str (.slice (.int .i64))))))), .v (.int .i64), .any, .any, .any, .any, .any, .any, .any, .any, .any, .any, .any, .any, .any, .any, .any, .any, .any, .any, .any, .any, .any, .any, .any, .any, .any, .any, .any, .any, .any, .any, .any, .any, .any, .any, .any, .any, .any, .any, .any], blks := [] })]
noncomputable def F_spec_ofGood (x : (List (Int × (Int × (ByteArray × (List Int))))) × Int) : Option (Bool) :=
  match runL step_spec_ofGood_0 ((x.1, x.2, (x.1, (x.1.length : Int), 0))) with
  | none => none
  | some (.inl o9) =>
    some (o9)
  | some (.inr o9) =>
    match F_spec_ofMembers (o9.2) with
    | none => none
    | some y10 =>
      bif y10 then
        some ((decide ((o9.1.length : Int) ≤ 12)))
      else
        some (false)
noncomputable def c_spec_ofGood : Con := { ps := [(.val, (.slice (.st (.pair (.int .i64) (.pair (.int .i64) (.pair .str (.slice (.int .i64)))))))), (.val, (.int .i64))], rs := [(.val, .bool)], F := F_spec_ofGood }
noncomputable def env_spec_ofGood : Env := { par := [], dp := false, settle := [], con := fun f => match f with | 47 => some c_spec_ofOne | 48 => some c_spec_ofMembers | _ => none, clo := fun _ => none, T := tinf Try.prog }
noncomputable def loops_spec_ofGood : Nat → Option Loop := fun n => match n with | 2 => some { pat := pat_spec_ofGood_0, outs := outs_spec_ofGood_0, run := runL (step_spec_ofGood_0) } | _ => none
theorem step_spec_ofGood_0_eq (s : (List (Int × (Int × (ByteArray × (List Int))))) × Int × (List (Int × (Int × (ByteArray × (List Int))))) × Int × Int) : stepEv env_spec_ofGood loops_spec_ofGood pat_spec_ofGood_0 outs_spec_ofGood_0 Try.f30 2 s = step_spec_ofGood_0 s := by kernel_rfl
theorem F_spec_ofGood_eq (x : (List (Int × (Int × (ByteArray × (List Int))))) × Int) : Fev env_spec_ofGood loops_spec_ofGood c_spec_ofGood.ps c_spec_ofGood.rs Try.f30 x = F_spec_ofGood x := by kernel_rfl
theorem env_spec_ofGood_ok : EnvOK Try.prog env_spec_ofGood := envOK_of (fun f c h => by
  simp only [env_spec_ofGood] at h
  split at h
  · cases h; exact con_spec_ofOne
  · cases h; exact con_spec_ofMembers
  · cases h) (fun f c h => by cases h) rfl
theorem con_spec_ofGood : ConOK Try.prog 30 c_spec_ofGood := con_of_ev' (body := Try.f30.body.getD .skip) (Λ := loops_spec_ofGood) mixed Try.func30 (by kernel_rfl) (by kernel_rfl) env_spec_ofGood_ok (by kernel_rfl) (by kernel_rfl) (fun n L h => by
  unfold loops_spec_ofGood at h
  split at h
  · cases h; exact fun s o ho => loop_ok (stepF := stepEv env_spec_ofGood loops_spec_ofGood pat_spec_ofGood_0 outs_spec_ofGood_0 Try.f30 2) (step_spec_ofGood_0_eq) ho
  · cases h) F_spec_ofGood_eq

noncomputable def step_spec_ofCount_0 (s : Int × Int × (List Int) × Int × Int) : Option ((Int × Int × (List Int) × Int × Int) ⊕ ((Int))) :=
  bif (decide (s.2.2.2.2 < s.2.2.2.1)) then
    bif decide (0 ≤ s.2.2.2.2) && decide (s.2.2.2.2 < (s.2.2.1.length : Int)) then
      bif (((s.2.2.1.getD (s.2.2.2.2).toNat 0) == s.1)) then
        let v4 := IntKind.i64.wrap (s.2.1 + 1)
        let v5 := IntKind.i64.wrap (s.2.2.2.2 + 1)
        some (.inl ((s.1, v4, (s.2.2.1, s.2.2.2.1, v5))))
      else
        let v6 := IntKind.i64.wrap (s.2.2.2.2 + 1)
        some (.inl ((s.1, s.2.1, (s.2.2.1, s.2.2.2.1, v6))))
    else none
  else
    some (.inr (s.2.1))
def pat_spec_ofCount_0 : Pat := { tmps := [.any, .v (.int .i64), .any, .any, .any, .v (.int .i64), .any, .any, .any, .v (.slice (.int .i64)), .v (.int .i64), .v (.int .i64), .any, .any, .any, .any, .any, .any, .any, .any, .any, .any], blks := [] }
def outs_spec_ofCount_0 : List (Exit × Pat) := [(.exit 0, { tmps := [.any, .any, .any, .any, .any, .v (.int .i64), .any, .any, .any, .any, .any, .any, .any, .any, .any, .any, .any, .any, .any, .any, .any, .any], blks := [] })]
noncomputable def F_spec_ofCount (x : (Int × (Int × (ByteArray × (List Int)))) × Int) : Option (Int) :=
  match runL step_spec_ofCount_0 ((x.2, 0, (x.1.2.2.2, (x.1.2.2.2.length : Int), 0))) with
  | none => none
  | some o7 =>
    some (o7)
noncomputable def c_spec_ofCount : Con := { ps := [(.val, (.st (.pair (.int .i64) (.pair (.int .i64) (.pair .str (.slice (.int .i64))))))), (.val, (.int .i64))], rs := [(.val, (.int .i64))], F := F_spec_ofCount }
noncomputable def env_spec_ofCount : Env := { par := [], dp := false, settle := [], con := fun _ => none, clo := fun _ => none, T := tinf Try.prog }
noncomputable def loops_spec_ofCount : Nat → Option Loop := fun n => match n with | 3 => some { pat := pat_spec_ofCount_0, outs := outs_spec_ofCount_0, run := runL (step_spec_ofCount_0) } | _ => none
theorem step_spec_ofCount_0_eq (s : Int × Int × (List Int) × Int × Int) : stepEv env_spec_ofCount loops_spec_ofCount pat_spec_ofCount_0 outs_spec_ofCount_0 Try.f49 3 s = step_spec_ofCount_0 s := by kernel_rfl
theorem F_spec_ofCount_eq (x : (Int × (Int × (ByteArray × (List Int)))) × Int) : Fev env_spec_ofCount loops_spec_ofCount c_spec_ofCount.ps c_spec_ofCount.rs Try.f49 x = F_spec_ofCount x := by kernel_rfl
theorem env_spec_ofCount_ok : EnvOK Try.prog env_spec_ofCount := envOK_of (fun f c h => by cases h) (fun f c h => by cases h) rfl
theorem con_spec_ofCount : ConOK Try.prog 49 c_spec_ofCount := con_of_ev' (body := Try.f49.body.getD .skip) (Λ := loops_spec_ofCount) mixed Try.func49 (by kernel_rfl) (by kernel_rfl) env_spec_ofCount_ok (by kernel_rfl) (by kernel_rfl) (fun n L h => by
  unfold loops_spec_ofCount at h
  split at h
  · cases h; exact fun s o ho => loop_ok (stepF := stepEv env_spec_ofCount loops_spec_ofCount pat_spec_ofCount_0 outs_spec_ofCount_0 Try.f49 3) (step_spec_ofCount_0_eq) ho
  · cases h) F_spec_ofCount_eq

noncomputable def F_spec_ofPassed (x : (Int × (Int × (ByteArray × (List Int)))) × Int) : Option (Bool) :=
  match F_spec_ofCount ((x.1, 1)) with
  | none => none
  | some y1 =>
    let v2 := IntKind.i64.wrap (y1 + x.2)
    match F_spec_ofCount ((x.1, (-1))) with
    | none => none
    | some y3 =>
      let v4 := IntKind.i64.wrap (v2 + y3)
      let v5 := IntKind.i64.wrap (2 * v4)
      bif (decide (v5 > (x.1.2.2.2.length : Int))) then
        some ((decide (v2 > y3)))
      else
        some (false)
noncomputable def c_spec_ofPassed : Con := { ps := [(.val, (.st (.pair (.int .i64) (.pair (.int .i64) (.pair .str (.slice (.int .i64))))))), (.val, (.int .i64))], rs := [(.val, .bool)], F := F_spec_ofPassed }
noncomputable def env_spec_ofPassed : Env := { par := [], dp := false, settle := [], con := fun f => match f with | 49 => some c_spec_ofCount | _ => none, clo := fun _ => none, T := tinf Try.prog }
noncomputable def loops_spec_ofPassed : Nat → Option Loop := fun n => none
theorem F_spec_ofPassed_eq (x : (Int × (Int × (ByteArray × (List Int)))) × Int) : Fev env_spec_ofPassed loops_spec_ofPassed c_spec_ofPassed.ps c_spec_ofPassed.rs Try.f31 x = F_spec_ofPassed x := by kernel_rfl
theorem env_spec_ofPassed_ok : EnvOK Try.prog env_spec_ofPassed := envOK_of (fun f c h => by
  simp only [env_spec_ofPassed] at h
  split at h
  · cases h; exact con_spec_ofCount
  · cases h) (fun f c h => by cases h) rfl
theorem con_spec_ofPassed : ConOK Try.prog 31 c_spec_ofPassed := con_of_ev' (body := Try.f31.body.getD .skip) (Λ := loops_spec_ofPassed) mixed Try.func31 (by kernel_rfl) (by kernel_rfl) env_spec_ofPassed_ok (by kernel_rfl) (by kernel_rfl) (fun n L h => by cases h) F_spec_ofPassed_eq

noncomputable def step_spec_ctPut_0 (s : (List ByteArray) × ByteArray × Int) : Option (((List ByteArray) × ByteArray × Int) ⊕ (((List ByteArray) × ByteArray × Int))) :=
  bif (decide (s.2.2 < (s.1.length : Int))) then
    bif decide (0 ≤ s.2.2) && decide (s.2.2 < (s.1.length : Int)) then
      bif (Op.bytesLess (s.1.getD (s.2.2).toNat ByteArray.empty).toList s.2.1.toList) then
        let v2 := IntKind.i64.wrap (s.2.2 + 1)
        some (.inl ((s.1, s.2.1, v2)))
      else
        some (.inr (s))
    else none
  else
    some (.inr (s))
def pat_spec_ctPut_0 : Pat := { tmps := [.v (.slice .str), .v .str, .any, .any, .any, .v (.int .i64), .any, .any, .any, .any, .any, .any, .any, .any, .any, .any, .any, .any, .any, .any, .any, .any, .any, .any, .any, .any, .any, .any, .any, .any, .any, .any, .any, .any, .any, .any, .any, .any, .any, .any, .any, .any, .any, .any, .any], blks := [] }
def outs_spec_ctPut_0 : List (Exit × Pat) := [(.exit 0, { tmps := [.v (.slice .str), .v .str, .any, .any, .any, .v (.int .i64), .any, .any, .any, .any, .any, .any, .any, .any, .any, .any, .any, .any, .any, .any, .any, .any, .any, .any, .any, .any, .any, .any, .any, .any, .any, .any, .any, .any, .any, .any, .any, .any, .any, .any, .any, .any, .any, .any, .any], blks := [] })]
noncomputable def F_spec_ctPut (x : (List ByteArray) × ByteArray) : Option ((List ByteArray)) :=
  match runL step_spec_ctPut_0 ((x.1, x.2, 0)) with
  | none => none
  | some o3 =>
    bif (decide (o3.2.2 < (o3.1.length : Int))) then
      bif decide (0 ≤ o3.2.2) && decide (o3.2.2 < (o3.1.length : Int)) then
        bif ((o3.1.getD (o3.2.2).toNat ByteArray.empty).toList == o3.2.1.toList) then
          some (o3.1)
        else
          bif decide (0 ≤ (0 : Int)) && decide ((0 : Int) ≤ o3.2.2) && decide (o3.2.2 ≤ (o3.1.length : Int)) then
            bif decide (0 ≤ o3.2.2) && decide (o3.2.2 ≤ (o3.1.length : Int)) && decide ((o3.1.length : Int) ≤ (o3.1.length : Int)) then
              bif decide ((([] : List ByteArray).length + ((o3.1.drop ((0 : Int)).toNat).take ((o3.2.2).toNat - ((0 : Int)).toNat)).length) * 16 ≤ 140737488355328) then
                let v4 := ([] : List ByteArray) ++ ((o3.1.drop ((0 : Int)).toNat).take ((o3.2.2).toNat - ((0 : Int)).toNat))
                bif decide ((v4.length + ([o3.2.1] : List (ByteArray)).length) * 16 ≤ 140737488355328) then
                  let v5 := v4 ++ ([o3.2.1] : List (ByteArray))
                  bif decide ((v5.length + ((o3.1.drop (o3.2.2).toNat).take (((o3.1.length : Int)).toNat - (o3.2.2).toNat)).length) * 16 ≤ 140737488355328) then
                    let v6 := v5 ++ ((o3.1.drop (o3.2.2).toNat).take (((o3.1.length : Int)).toNat - (o3.2.2).toNat))
                    some (v6)
                  else none
                else none
              else none
            else none
          else none
      else none
    else
      bif decide (0 ≤ (0 : Int)) && decide ((0 : Int) ≤ o3.2.2) && decide (o3.2.2 ≤ (o3.1.length : Int)) then
        bif decide (0 ≤ o3.2.2) && decide (o3.2.2 ≤ (o3.1.length : Int)) && decide ((o3.1.length : Int) ≤ (o3.1.length : Int)) then
          bif decide ((([] : List ByteArray).length + ((o3.1.drop ((0 : Int)).toNat).take ((o3.2.2).toNat - ((0 : Int)).toNat)).length) * 16 ≤ 140737488355328) then
            let v7 := ([] : List ByteArray) ++ ((o3.1.drop ((0 : Int)).toNat).take ((o3.2.2).toNat - ((0 : Int)).toNat))
            bif decide ((v7.length + ([o3.2.1] : List (ByteArray)).length) * 16 ≤ 140737488355328) then
              let v8 := v7 ++ ([o3.2.1] : List (ByteArray))
              bif decide ((v8.length + ((o3.1.drop (o3.2.2).toNat).take (((o3.1.length : Int)).toNat - (o3.2.2).toNat)).length) * 16 ≤ 140737488355328) then
                let v9 := v8 ++ ((o3.1.drop (o3.2.2).toNat).take (((o3.1.length : Int)).toNat - (o3.2.2).toNat))
                some (v9)
              else none
            else none
          else none
        else none
      else none
noncomputable def c_spec_ctPut : Con := { ps := [(.val, (.slice .str)), (.val, .str)], rs := [(.val, (.slice .str))], F := F_spec_ctPut }
noncomputable def env_spec_ctPut : Env := { par := [], dp := false, settle := [], con := fun _ => none, clo := fun _ => none, T := tinf Try.prog }
noncomputable def loops_spec_ctPut : Nat → Option Loop := fun n => match n with | 2 => some { pat := pat_spec_ctPut_0, outs := outs_spec_ctPut_0, run := runL (step_spec_ctPut_0) } | _ => none
theorem step_spec_ctPut_0_eq (s : (List ByteArray) × ByteArray × Int) : stepEv env_spec_ctPut loops_spec_ctPut pat_spec_ctPut_0 outs_spec_ctPut_0 Try.f32 2 s = step_spec_ctPut_0 s := by kernel_rfl
theorem F_spec_ctPut_eq (x : (List ByteArray) × ByteArray) : Fev env_spec_ctPut loops_spec_ctPut c_spec_ctPut.ps c_spec_ctPut.rs Try.f32 x = F_spec_ctPut x := by kernel_rfl
theorem env_spec_ctPut_ok : EnvOK Try.prog env_spec_ctPut := envOK_of (fun f c h => by cases h) (fun f c h => by cases h) rfl
theorem con_spec_ctPut : ConOK Try.prog 32 c_spec_ctPut := con_of_ev' (body := Try.f32.body.getD .skip) (Λ := loops_spec_ctPut) mixed Try.func32 (by kernel_rfl) (by kernel_rfl) env_spec_ctPut_ok (by kernel_rfl) (by kernel_rfl) (fun n L h => by
  unfold loops_spec_ctPut at h
  split at h
  · cases h; exact fun s o ho => loop_ok (stepF := stepEv env_spec_ctPut loops_spec_ctPut pat_spec_ctPut_0 outs_spec_ctPut_0 Try.f32 2) (step_spec_ctPut_0_eq) ho
  · cases h) F_spec_ctPut_eq

noncomputable def step_spec_ContestedGlosses_0 (s : (List (Int × (Int × (ByteArray × (List Int))))) × (List ByteArray) × (List (Int × (Int × (ByteArray × (List Int))))) × Int × Int × (List (Int × (Int × (ByteArray × (List Int))))) × Int × Int × Int × Int × ByteArray × (List Int)) : Option (((List (Int × (Int × (ByteArray × (List Int))))) × (List ByteArray) × (List (Int × (Int × (ByteArray × (List Int))))) × Int × Int × (List (Int × (Int × (ByteArray × (List Int))))) × Int × Int × Int × Int × ByteArray × (List Int)) ⊕ (((List (Int × (Int × (ByteArray × (List Int))))) × (List ByteArray) × (List (Int × (Int × (ByteArray × (List Int))))) × Int × Int))) :=
  bif (decide (s.2.2.2.2.2.2.2.1 < s.2.2.2.2.2.2.1)) then
    bif decide (0 ≤ s.2.2.2.2.2.2.2.1) && decide (s.2.2.2.2.2.2.2.1 < (s.2.2.2.2.2.1.length : Int)) then
      bif (s.2.2.2.2.2.2.2.2.2.2.1.toList == (s.2.2.2.2.2.1.getD (s.2.2.2.2.2.2.2.1).toNat (0, (0, ByteArray.empty, []))).2.2.1.toList) then
        bif ((s.2.2.2.2.2.2.2.2.2.1 != (s.2.2.2.2.2.1.getD (s.2.2.2.2.2.2.2.1).toNat (0, (0, ByteArray.empty, []))).2.1)) then
          match F_spec_ofPassed ((s.2.2.2.2.2.2.2.2, 0)) with
          | none => none
          | some y54 =>
            bif y54 then
              match F_spec_ofPassed (((s.2.2.2.2.2.1.getD (s.2.2.2.2.2.2.2.1).toNat (0, (0, ByteArray.empty, []))), 0)) with
              | none => none
              | some y55 =>
                bif y55 then
                  match F_spec_ctPut ((s.2.1, s.2.2.2.2.2.2.2.2.2.2.1)) with
                  | none => none
                  | some y56 =>
                    let v57 := IntKind.i64.wrap (s.2.2.2.2.2.2.2.1 + 1)
                    some (.inl ((s.1, y56, (s.2.2.1, s.2.2.2.1, (s.2.2.2.2.1, s.2.2.2.2.2.1, (s.2.2.2.2.2.2.1, v57, s.2.2.2.2.2.2.2.2))))))
                else
                  let v58 := IntKind.i64.wrap (s.2.2.2.2.2.2.2.1 + 1)
                  some (.inl ((s.1, s.2.1, (s.2.2.1, s.2.2.2.1, (s.2.2.2.2.1, s.2.2.2.2.2.1, (s.2.2.2.2.2.2.1, v58, s.2.2.2.2.2.2.2.2))))))
            else
              let v59 := IntKind.i64.wrap (s.2.2.2.2.2.2.2.1 + 1)
              some (.inl ((s.1, s.2.1, (s.2.2.1, s.2.2.2.1, (s.2.2.2.2.1, s.2.2.2.2.2.1, (s.2.2.2.2.2.2.1, v59, s.2.2.2.2.2.2.2.2))))))
        else
          let v60 := IntKind.i64.wrap (s.2.2.2.2.2.2.2.1 + 1)
          some (.inl ((s.1, s.2.1, (s.2.2.1, s.2.2.2.1, (s.2.2.2.2.1, s.2.2.2.2.2.1, (s.2.2.2.2.2.2.1, v60, s.2.2.2.2.2.2.2.2))))))
      else
        let v61 := IntKind.i64.wrap (s.2.2.2.2.2.2.2.1 + 1)
        some (.inl ((s.1, s.2.1, (s.2.2.1, s.2.2.2.1, (s.2.2.2.2.1, s.2.2.2.2.2.1, (s.2.2.2.2.2.2.1, v61, s.2.2.2.2.2.2.2.2))))))
    else none
  else
    some (.inr ((s.1, s.2.1, (s.2.2.1, s.2.2.2.1, s.2.2.2.2.1))))
def pat_spec_ContestedGlosses_0 : Pat := { tmps := [.v (.slice (.st (.pair (.int .i64) (.pair (.int .i64) (.pair .str (.slice (.int .i64))))))), .any, .any, .any, .any, .any, .v (.slice .str), .any, .ptr 512 0, .any, .any, .any, .any, .any, .any, .v (.slice (.st (.pair (.int .i64) (.pair (.int .i64) (.pair .str (.slice (.int .i64))))))), .v (.int .i64), .v (.int .i64), .any, .any, .any, .v (.slice (.st (.pair (.int .i64) (.pair (.int .i64) (.pair .str (.slice (.int .i64))))))), .v (.int .i64), .v (.int .i64), .any, .any, .any, .any, .any, .any, .any, .any, .any, .any, .any, .any, .any, .any, .any, .any, .any, .any, .any, .any, .any, .any, .any, .any, .any, .any, .any, .any, .any, .any], blks := [(512, .box [.v (.int .i64), .v (.int .i64), .v .str, .v (.slice (.int .i64))])] }
def outs_spec_ContestedGlosses_0 : List (Exit × Pat) := [(.exit 2, { tmps := [.v (.slice (.st (.pair (.int .i64) (.pair (.int .i64) (.pair .str (.slice (.int .i64))))))), .any, .any, .any, .any, .any, .v (.slice .str), .any, .any, .any, .any, .any, .any, .any, .any, .v (.slice (.st (.pair (.int .i64) (.pair (.int .i64) (.pair .str (.slice (.int .i64))))))), .v (.int .i64), .v (.int .i64), .any, .any, .any, .any, .any, .any, .any, .any, .any, .any, .any, .any, .any, .any, .any, .any, .any, .any, .any, .any, .any, .any, .any, .any, .any, .any, .any, .any, .any, .any, .any, .any, .any, .any, .any, .any], blks := [] })]
noncomputable def step_spec_ContestedGlosses_1 (s : (List (Int × (Int × (ByteArray × (List Int))))) × (List ByteArray) × (List (Int × (Int × (ByteArray × (List Int))))) × Int × Int) : Option (((List (Int × (Int × (ByteArray × (List Int))))) × (List ByteArray) × (List (Int × (Int × (ByteArray × (List Int))))) × Int × Int) ⊕ (((List ByteArray)))) :=
  bif (decide (s.2.2.2.2 < s.2.2.2.1)) then
    bif decide (0 ≤ s.2.2.2.2) && decide (s.2.2.2.2 < (s.2.2.1.length : Int)) then
      match runL step_spec_ContestedGlosses_0 ((s.1, s.2.1, (s.2.2.1, s.2.2.2.1, (s.2.2.2.2, s.1, ((s.1.length : Int), 0, (s.2.2.1.getD (s.2.2.2.2).toNat (0, (0, ByteArray.empty, [])))))))) with
      | none => none
      | some o62 =>
        let v63 := IntKind.i64.wrap (o62.2.2.2.2 + 1)
        some (.inl ((o62.1, o62.2.1, (o62.2.2.1, o62.2.2.2.1, v63))))
    else none
  else
    some (.inr (s.2.1))
def pat_spec_ContestedGlosses_1 : Pat := { tmps := [.v (.slice (.st (.pair (.int .i64) (.pair (.int .i64) (.pair .str (.slice (.int .i64))))))), .any, .any, .any, .any, .any, .v (.slice .str), .any, .any, .any, .any, .any, .any, .any, .any, .v (.slice (.st (.pair (.int .i64) (.pair (.int .i64) (.pair .str (.slice (.int .i64))))))), .v (.int .i64), .v (.int .i64), .any, .any, .any, .any, .any, .any, .any, .any, .any, .any, .any, .any, .any, .any, .any, .any, .any, .any, .any, .any, .any, .any, .any, .any, .any, .any, .any, .any, .any, .any, .any, .any, .any, .any, .any, .any], blks := [] }
def outs_spec_ContestedGlosses_1 : List (Exit × Pat) := [(.exit 0, { tmps := [.any, .any, .any, .any, .any, .any, .v (.slice .str), .any, .any, .any, .any, .any, .any, .any, .any, .any, .any, .any, .any, .any, .any, .any, .any, .any, .any, .any, .any, .any, .any, .any, .any, .any, .any, .any, .any, .any, .any, .any, .any, .any, .any, .any, .any, .any, .any, .any, .any, .any, .any, .any, .any, .any, .any, .any], blks := [] })]
noncomputable def F_spec_ContestedGlosses (x : (List (Int × (Int × (ByteArray × (List Int))))) × Int) : Option ((List ByteArray) × Bool) :=
  match F_spec_ofGood (x) with
  | none => none
  | some y1 =>
    bif (!y1) then
      some (([], false))
    else
      match runL step_spec_ContestedGlosses_1 ((x.1, [], (x.1, (x.1.length : Int), 0))) with
      | none => none
      | some o64 =>
        some ((o64, true))
noncomputable def c_spec_ContestedGlosses : Con := { ps := [(.val, (.slice (.st (.pair (.int .i64) (.pair (.int .i64) (.pair .str (.slice (.int .i64)))))))), (.val, (.int .i64))], rs := [(.val, (.slice .str)), (.val, .bool)], F := F_spec_ContestedGlosses }
noncomputable def env_spec_ContestedGlosses : Env := { par := [], dp := false, settle := [], con := fun f => match f with | 30 => some c_spec_ofGood | 31 => some c_spec_ofPassed | 32 => some c_spec_ctPut | _ => none, clo := fun _ => none, T := tinf Try.prog }
noncomputable def loops_spec_ContestedGlosses : Nat → Option Loop := fun n => match n with | 8 => some { pat := pat_spec_ContestedGlosses_0, outs := outs_spec_ContestedGlosses_0, run := runL (step_spec_ContestedGlosses_0) } | 5 => some { pat := pat_spec_ContestedGlosses_1, outs := outs_spec_ContestedGlosses_1, run := runL (step_spec_ContestedGlosses_1) } | _ => none
theorem step_spec_ContestedGlosses_0_eq (s : (List (Int × (Int × (ByteArray × (List Int))))) × (List ByteArray) × (List (Int × (Int × (ByteArray × (List Int))))) × Int × Int × (List (Int × (Int × (ByteArray × (List Int))))) × Int × Int × Int × Int × ByteArray × (List Int)) : stepEv env_spec_ContestedGlosses loops_spec_ContestedGlosses pat_spec_ContestedGlosses_0 outs_spec_ContestedGlosses_0 Try.f15 8 s = step_spec_ContestedGlosses_0 s := by kernel_rfl
theorem step_spec_ContestedGlosses_1_eq (s : (List (Int × (Int × (ByteArray × (List Int))))) × (List ByteArray) × (List (Int × (Int × (ByteArray × (List Int))))) × Int × Int) : stepEv env_spec_ContestedGlosses loops_spec_ContestedGlosses pat_spec_ContestedGlosses_1 outs_spec_ContestedGlosses_1 Try.f15 5 s = step_spec_ContestedGlosses_1 s := by kernel_rfl
theorem F_spec_ContestedGlosses_eq (x : (List (Int × (Int × (ByteArray × (List Int))))) × Int) : Fev env_spec_ContestedGlosses loops_spec_ContestedGlosses c_spec_ContestedGlosses.ps c_spec_ContestedGlosses.rs Try.f15 x = F_spec_ContestedGlosses x := by kernel_rfl
theorem env_spec_ContestedGlosses_ok : EnvOK Try.prog env_spec_ContestedGlosses := envOK_of (fun f c h => by
  simp only [env_spec_ContestedGlosses] at h
  split at h
  · cases h; exact con_spec_ofGood
  · cases h; exact con_spec_ofPassed
  · cases h; exact con_spec_ctPut
  · cases h) (fun f c h => by cases h) rfl
theorem con_spec_ContestedGlosses : ConOK Try.prog 15 c_spec_ContestedGlosses := con_of_ev' (body := Try.f15.body.getD .skip) (Λ := loops_spec_ContestedGlosses) mixed Try.func15 (by kernel_rfl) (by kernel_rfl) env_spec_ContestedGlosses_ok (by kernel_rfl) (by kernel_rfl) (fun n L h => by
  unfold loops_spec_ContestedGlosses at h
  split at h
  · cases h; exact fun s o ho => loop_ok (stepF := stepEv env_spec_ContestedGlosses loops_spec_ContestedGlosses pat_spec_ContestedGlosses_0 outs_spec_ContestedGlosses_0 Try.f15 8) (step_spec_ContestedGlosses_0_eq) ho
  · cases h; exact fun s o ho => loop_ok (stepF := stepEv env_spec_ContestedGlosses loops_spec_ContestedGlosses pat_spec_ContestedGlosses_1 outs_spec_ContestedGlosses_1 Try.f15 5) (step_spec_ContestedGlosses_1_eq) ho
  · cases h) F_spec_ContestedGlosses_eq

noncomputable def F_impl_within (x : Int × Int × Int) : Option (Bool) :=
  bif (decide (x.1 ≥ x.2.1)) then
    some ((decide (x.1 ≤ x.2.2)))
  else
    some (false)
noncomputable def c_impl_within : Con := { ps := [(.val, (.int .i64)), (.val, (.int .i64)), (.val, (.int .i64))], rs := [(.val, .bool)], F := F_impl_within }
noncomputable def env_impl_within : Env := { par := [], dp := false, settle := [], con := fun _ => none, clo := fun _ => none, T := tinf Try.prog }
noncomputable def loops_impl_within : Nat → Option Loop := fun n => none
theorem F_impl_within_eq (x : Int × Int × Int) : Fev env_impl_within loops_impl_within c_impl_within.ps c_impl_within.rs Try.f52 x = F_impl_within x := by kernel_rfl
theorem env_impl_within_ok : EnvOK Try.prog env_impl_within := envOK_of (fun f c h => by cases h) (fun f c h => by cases h) rfl
theorem con_impl_within : ConOK Try.prog 52 c_impl_within := con_of_ev' (body := Try.f52.body.getD .skip) (Λ := loops_impl_within) mixed Try.func52 (by kernel_rfl) (by kernel_rfl) env_impl_within_ok (by kernel_rfl) (by kernel_rfl) (fun n L h => by cases h) F_impl_within_eq

set_option maxHeartbeats 1000000 in
theorem calls_strings_IndexByte (s : ByteArray) (c : Int) (w : World) :
    Calls Try.prog 88 #[.string s, .int .u8 c] w fun e w' => e = .returned (.int .i64 (Lib.indexByte s.data.toList c.toNat.toUInt8)) ∧ w' = w := by
  go_enter Try.func88, Try.ntmps88
  go_wp2
  rw [run_callFunc_extern Try.func91 (by kernel_rfl) (by kernel_rfl) (by kernel_rfl) (e := Extern.BytealgIndexByte.indexByte) (by kernel_rfl), Lib.run_indexByteString]
  simp only [Result.andThen]
  rw [Oper.upon_value]
  go_wp2
  go_ret
  exact ⟨rfl, rfl⟩
def F_strings_IndexByte (x : ByteArray × Int) : Option Int := some (Lib.indexByte x.1.data.toList x.2.toNat.toUInt8)
def c_strings_IndexByte : Con := { ps := [(.val, .str), (.val, .int .u8)], rs := [(.val, .int .i64)], F := F_strings_IndexByte }
theorem con_strings_IndexByte : ConOK Try.prog 88 c_strings_IndexByte := con_of_pure ⟨Try.f88, Try.func88, by kernel_rfl, by kernel_rfl⟩ rfl rfl fun w x y hy _ => by
  have e : y = Lib.indexByte x.1.data.toList x.2.toNat.toUInt8 := (Option.some.inj hy).symm
  subst e
  refine (calls_strings_IndexByte x.1 x.2 w).mono ?_
  rintro e w' ⟨rfl, rfl⟩
  exact ⟨rfl, Fr.refl _ _⟩

noncomputable def step_impl_hasOnly_0 (s : ByteArray × ByteArray × Int × Int) : Option ((ByteArray × ByteArray × Int × Int) ⊕ ((Bool) ⊕ (Unit))) :=
  bif (decide (s.2.2.2 < s.2.2.1)) then
    bif decide (0 ≤ s.2.2.2) && decide (s.2.2.2 < (s.1.size : Int)) then
      match F_strings_IndexByte ((s.2.1, (byteAt s.1 (s.2.2.2).toNat))) with
      | none => none
      | some y3 =>
        bif (decide (y3 < 0)) then
          some (.inr (.inl (false)))
        else
          let v4 := IntKind.i64.wrap (s.2.2.2 + 1)
          some (.inl ((s.1, (s.2.1, s.2.2.1, v4))))
    else none
  else
    some (.inr (.inr (())))
def pat_impl_hasOnly_0 : Pat := { tmps := [.v .str, .v .str, .any, .any, .any, .any, .any, .v (.int .i64), .v (.int .i64), .any, .any, .any, .any, .any, .any, .any, .any, .any], blks := [] }
def outs_impl_hasOnly_0 : List (Exit × Pat) := [(.ret, { tmps := [.any, .any, .any, .any, .v .bool, .any, .any, .any, .any, .any, .any, .any, .any, .any, .any, .any, .any, .any], blks := [] }), (.exit 0, { tmps := [.any, .any, .any, .any, .any, .any, .any, .any, .any, .any, .any, .any, .any, .any, .any, .any, .any, .any], blks := [] })]
noncomputable def F_impl_hasOnly (x : ByteArray × ByteArray) : Option (Bool) :=
  match runL step_impl_hasOnly_0 ((x.1, (x.2, (x.1.size : Int), 0))) with
  | none => none
  | some (.inl o5) =>
    some (o5)
  | some (.inr o5) =>
    some (true)
noncomputable def c_impl_hasOnly : Con := { ps := [(.val, .str), (.val, .str)], rs := [(.val, .bool)], F := F_impl_hasOnly }
noncomputable def env_impl_hasOnly : Env := { par := [], dp := false, settle := [], con := fun f => match f with | 88 => some c_strings_IndexByte | _ => none, clo := fun _ => none, T := tinf Try.prog }
noncomputable def loops_impl_hasOnly : Nat → Option Loop := fun n => match n with | 2 => some { pat := pat_impl_hasOnly_0, outs := outs_impl_hasOnly_0, run := runL (step_impl_hasOnly_0) } | _ => none
theorem step_impl_hasOnly_0_eq (s : ByteArray × ByteArray × Int × Int) : stepEv env_impl_hasOnly loops_impl_hasOnly pat_impl_hasOnly_0 outs_impl_hasOnly_0 Try.f80 2 s = step_impl_hasOnly_0 s := by kernel_rfl
theorem F_impl_hasOnly_eq (x : ByteArray × ByteArray) : Fev env_impl_hasOnly loops_impl_hasOnly c_impl_hasOnly.ps c_impl_hasOnly.rs Try.f80 x = F_impl_hasOnly x := by kernel_rfl
theorem env_impl_hasOnly_ok : EnvOK Try.prog env_impl_hasOnly := envOK_of (fun f c h => by
  simp only [env_impl_hasOnly] at h
  split at h
  · cases h; exact con_strings_IndexByte
  · cases h) (fun f c h => by cases h) rfl
theorem con_impl_hasOnly : ConOK Try.prog 80 c_impl_hasOnly := con_of_ev' (body := Try.f80.body.getD .skip) (Λ := loops_impl_hasOnly) mixed Try.func80 (by kernel_rfl) (by kernel_rfl) env_impl_hasOnly_ok (by kernel_rfl) (by kernel_rfl) (fun n L h => by
  unfold loops_impl_hasOnly at h
  split at h
  · cases h; exact fun s o ho => loop_ok (stepF := stepEv env_impl_hasOnly loops_impl_hasOnly pat_impl_hasOnly_0 outs_impl_hasOnly_0 Try.f80 2) (step_impl_hasOnly_0_eq) ho
  · cases h) F_impl_hasOnly_eq

noncomputable def F_impl_isWordOf (x : ByteArray × ByteArray) : Option (Bool) :=
  match F_impl_within (((x.1.size : Int), 1, 8)) with
  | none => none
  | some y1 =>
    bif y1 then
      match F_impl_hasOnly (x) with
      | none => none
      | some y2 =>
        some (y2)
    else
      some (false)
noncomputable def c_impl_isWordOf : Con := { ps := [(.val, .str), (.val, .str)], rs := [(.val, .bool)], F := F_impl_isWordOf }
noncomputable def env_impl_isWordOf : Env := { par := [], dp := false, settle := [], con := fun f => match f with | 52 => some c_impl_within | 80 => some c_impl_hasOnly | _ => none, clo := fun _ => none, T := tinf Try.prog }
noncomputable def loops_impl_isWordOf : Nat → Option Loop := fun n => none
theorem F_impl_isWordOf_eq (x : ByteArray × ByteArray) : Fev env_impl_isWordOf loops_impl_isWordOf c_impl_isWordOf.ps c_impl_isWordOf.rs Try.f66 x = F_impl_isWordOf x := by kernel_rfl
theorem env_impl_isWordOf_ok : EnvOK Try.prog env_impl_isWordOf := envOK_of (fun f c h => by
  simp only [env_impl_isWordOf] at h
  split at h
  · cases h; exact con_impl_within
  · cases h; exact con_impl_hasOnly
  · cases h) (fun f c h => by cases h) rfl
theorem con_impl_isWordOf : ConOK Try.prog 66 c_impl_isWordOf := con_of_ev' (body := Try.f66.body.getD .skip) (Λ := loops_impl_isWordOf) mixed Try.func66 (by kernel_rfl) (by kernel_rfl) env_impl_isWordOf_ok (by kernel_rfl) (by kernel_rfl) (fun n L h => by cases h) F_impl_isWordOf_eq

noncomputable def F_impl_IsGloss (x : ByteArray) : Option (Bool) :=
  match F_impl_isWordOf ((x, (⟨#[65, 66, 67, 68, 69, 70, 71, 72, 73, 74, 75, 76, 77, 78, 79, 80, 81, 82, 83, 84, 85, 86, 87, 88, 89, 90]⟩ : ByteArray))) with
  | none => none
  | some y1 =>
    some (y1)
noncomputable def c_impl_IsGloss : Con := { ps := [(.val, .str)], rs := [(.val, .bool)], F := F_impl_IsGloss }
noncomputable def env_impl_IsGloss : Env := { par := [], dp := false, settle := [], con := fun f => match f with | 66 => some c_impl_isWordOf | _ => none, clo := fun _ => none, T := tinf Try.prog }
noncomputable def loops_impl_IsGloss : Nat → Option Loop := fun n => none
theorem F_impl_IsGloss_eq (x : ByteArray) : Fev env_impl_IsGloss loops_impl_IsGloss c_impl_IsGloss.ps c_impl_IsGloss.rs Try.f60 x = F_impl_IsGloss x := by kernel_rfl
theorem env_impl_IsGloss_ok : EnvOK Try.prog env_impl_IsGloss := envOK_of (fun f c h => by
  simp only [env_impl_IsGloss] at h
  split at h
  · cases h; exact con_impl_isWordOf
  · cases h) (fun f c h => by cases h) rfl
theorem con_impl_IsGloss : ConOK Try.prog 60 c_impl_IsGloss := con_of_ev' (body := Try.f60.body.getD .skip) (Λ := loops_impl_IsGloss) mixed Try.func60 (by kernel_rfl) (by kernel_rfl) env_impl_IsGloss_ok (by kernel_rfl) (by kernel_rfl) (fun n L h => by cases h) F_impl_IsGloss_eq

noncomputable def F_impl_allWithin_1 (x : Int × Int × Int) : Option (Bool) :=
  match F_impl_within (x) with
  | none => none
  | some y1 =>
    some ((!y1))
noncomputable def c_impl_allWithin_1 : Con := { ps := [(.val, (.int .i64)), (.val, (.ptr (.int .i64))), (.val, (.ptr (.int .i64)))], rs := [(.val, .bool)], F := F_impl_allWithin_1 }
noncomputable def env_impl_allWithin_1 : Env := { par := [], dp := false, settle := [], con := fun f => match f with | 52 => some c_impl_within | _ => none, clo := fun _ => none, T := tinf Try.prog }
noncomputable def loops_impl_allWithin_1 : Nat → Option Loop := fun n => none
theorem F_impl_allWithin_1_eq (x : Int × Int × Int) : Fev env_impl_allWithin_1 loops_impl_allWithin_1 c_impl_allWithin_1.ps c_impl_allWithin_1.rs Try.f79 x = F_impl_allWithin_1 x := by kernel_rfl
theorem env_impl_allWithin_1_ok : EnvOK Try.prog env_impl_allWithin_1 := envOK_of (fun f c h => by
  simp only [env_impl_allWithin_1] at h
  split at h
  · cases h; exact con_impl_within
  · cases h) (fun f c h => by cases h) rfl
theorem con_impl_allWithin_1 : ConOK Try.prog 79 c_impl_allWithin_1 := con_of_ev' (body := Try.f79.body.getD .skip) (Λ := loops_impl_allWithin_1) mixed Try.func79 (by kernel_rfl) (by kernel_rfl) env_impl_allWithin_1_ok (by kernel_rfl) (by kernel_rfl) (fun n L h => by cases h) F_impl_allWithin_1_eq

noncomputable def step_slices_IndexFunc_int_int_0 (s : (List Int) × (Int → Option Bool) × Int × Int) : Option (((List Int) × (Int → Option Bool) × Int × Int) ⊕ ((Int) ⊕ (Unit))) :=
  bif (decide (s.2.2.2 < s.2.2.1)) then
    bif decide (0 ≤ s.2.2.2) && decide (s.2.2.2 < (s.1.length : Int)) then
      match s.2.1 ((s.1.getD (s.2.2.2).toNat 0)) with
      | none => none
      | some y3 =>
        bif y3 then
          some (.inr (.inl (s.2.2.2)))
        else
          let v4 := IntKind.i64.wrap (s.2.2.2 + 1)
          some (.inl ((s.1, (s.2.1, s.2.2.1, v4))))
    else none
  else
    some (.inr (.inr (())))
def pat_slices_IndexFunc_int_int_0 : Pat := { tmps := [.v (.slice (.int .i64)), .v (.fn (.int .i64) .bool), .any, .any, .any, .any, .any, .v (.int .i64), .v (.int .i64), .any, .any, .any, .any, .any, .any, .any, .any, .any, .any], blks := [] }
def outs_slices_IndexFunc_int_int_0 : List (Exit × Pat) := [(.ret, { tmps := [.any, .any, .any, .any, .v (.int .i64), .any, .any, .any, .any, .any, .any, .any, .any, .any, .any, .any, .any, .any, .any], blks := [] }), (.exit 0, { tmps := [.any, .any, .any, .any, .any, .any, .any, .any, .any, .any, .any, .any, .any, .any, .any, .any, .any, .any, .any], blks := [] })]
noncomputable def F_slices_IndexFunc_int_int (x : (List Int) × (Int → Option Bool)) : Option (Int) :=
  match runL step_slices_IndexFunc_int_int_0 ((x.1, (x.2, (x.1.length : Int), 0))) with
  | none => none
  | some (.inl o5) =>
    some (o5)
  | some (.inr o5) =>
    some ((-1))
noncomputable def c_slices_IndexFunc_int_int : Con := { ps := [(.val, (.slice (.int .i64))), (.val, (.fn (.int .i64) .bool))], rs := [(.val, (.int .i64))], F := F_slices_IndexFunc_int_int }
noncomputable def env_slices_IndexFunc_int_int : Env := { par := [], dp := false, settle := [], con := fun _ => none, clo := fun _ => none, T := tinf Try.prog }
noncomputable def loops_slices_IndexFunc_int_int : Nat → Option Loop := fun n => match n with | 2 => some { pat := pat_slices_IndexFunc_int_int_0, outs := outs_slices_IndexFunc_int_int_0, run := runL (step_slices_IndexFunc_int_int_0) } | _ => none
theorem step_slices_IndexFunc_int_int_0_eq (s : (List Int) × (Int → Option Bool) × Int × Int) : stepEv env_slices_IndexFunc_int_int loops_slices_IndexFunc_int_int pat_slices_IndexFunc_int_int_0 outs_slices_IndexFunc_int_int_0 Try.f87 2 s = step_slices_IndexFunc_int_int_0 s := by kernel_rfl
theorem F_slices_IndexFunc_int_int_eq (x : (List Int) × (Int → Option Bool)) : Fev env_slices_IndexFunc_int_int loops_slices_IndexFunc_int_int c_slices_IndexFunc_int_int.ps c_slices_IndexFunc_int_int.rs Try.f87 x = F_slices_IndexFunc_int_int x := by kernel_rfl
theorem env_slices_IndexFunc_int_int_ok : EnvOK Try.prog env_slices_IndexFunc_int_int := envOK_of (fun f c h => by cases h) (fun f c h => by cases h) rfl
theorem con_slices_IndexFunc_int_int : ConOK Try.prog 87 c_slices_IndexFunc_int_int := con_of_ev' (body := Try.f87.body.getD .skip) (Λ := loops_slices_IndexFunc_int_int) mixed Try.func87 (by kernel_rfl) (by kernel_rfl) env_slices_IndexFunc_int_int_ok (by kernel_rfl) (by kernel_rfl) (fun n L h => by
  unfold loops_slices_IndexFunc_int_int at h
  split at h
  · cases h; exact fun s o ho => loop_ok (stepF := stepEv env_slices_IndexFunc_int_int loops_slices_IndexFunc_int_int pat_slices_IndexFunc_int_int_0 outs_slices_IndexFunc_int_int_0 Try.f87 2) (step_slices_IndexFunc_int_int_0_eq) ho
  · cases h) F_slices_IndexFunc_int_int_eq

noncomputable def F_slices_ContainsFunc_int_int (x : (List Int) × (Int → Option Bool)) : Option (Bool) :=
  match F_slices_IndexFunc_int_int (x) with
  | none => none
  | some y1 =>
    some ((decide (y1 ≥ 0)))
noncomputable def c_slices_ContainsFunc_int_int : Con := { ps := [(.val, (.slice (.int .i64))), (.val, (.fn (.int .i64) .bool))], rs := [(.val, .bool)], F := F_slices_ContainsFunc_int_int }
noncomputable def env_slices_ContainsFunc_int_int : Env := { par := [], dp := false, settle := [], con := fun f => match f with | 87 => some c_slices_IndexFunc_int_int | _ => none, clo := fun _ => none, T := tinf Try.prog }
noncomputable def loops_slices_ContainsFunc_int_int : Nat → Option Loop := fun n => none
theorem F_slices_ContainsFunc_int_int_eq (x : (List Int) × (Int → Option Bool)) : Fev env_slices_ContainsFunc_int_int loops_slices_ContainsFunc_int_int c_slices_ContainsFunc_int_int.ps c_slices_ContainsFunc_int_int.rs Try.f78 x = F_slices_ContainsFunc_int_int x := by kernel_rfl
theorem env_slices_ContainsFunc_int_int_ok : EnvOK Try.prog env_slices_ContainsFunc_int_int := envOK_of (fun f c h => by
  simp only [env_slices_ContainsFunc_int_int] at h
  split at h
  · cases h; exact con_slices_IndexFunc_int_int
  · cases h) (fun f c h => by cases h) rfl
theorem con_slices_ContainsFunc_int_int : ConOK Try.prog 78 c_slices_ContainsFunc_int_int := con_of_ev' (body := Try.f78.body.getD .skip) (Λ := loops_slices_ContainsFunc_int_int) mixed Try.func78 (by kernel_rfl) (by kernel_rfl) env_slices_ContainsFunc_int_int_ok (by kernel_rfl) (by kernel_rfl) (fun n L h => by cases h) F_slices_ContainsFunc_int_int_eq

noncomputable def K_impl_allWithin_1 (q : Int × Int) (x : Int) : Option (Bool) := F_impl_allWithin_1 (x, q)
noncomputable def k_impl_allWithin_1 : CloCon := { caps := [(.int .i64), (.int .i64)], a := (.int .i64), r := .bool, F := K_impl_allWithin_1 }
theorem clo_impl_allWithin_1 : CloOK Try.prog 79 k_impl_allWithin_1 := clo_of_con k_impl_allWithin_1 F_impl_allWithin_1 con_impl_allWithin_1 rfl (fun kx x y h => ⟨y, h, rfl⟩)
noncomputable def F_impl_allWithin (x : (List Int) × Int × Int) : Option (Bool) :=
  match F_slices_ContainsFunc_int_int ((x.1, (K_impl_allWithin_1 x.2))) with
  | none => none
  | some y1 =>
    some ((!y1))
noncomputable def c_impl_allWithin : Con := { ps := [(.val, (.slice (.int .i64))), (.val, (.int .i64)), (.val, (.int .i64))], rs := [(.val, .bool)], F := F_impl_allWithin }
noncomputable def env_impl_allWithin : Env := { par := [], dp := false, settle := [], con := fun f => match f with | 78 => some c_slices_ContainsFunc_int_int | _ => none, clo := fun f => match f with | 79 => some k_impl_allWithin_1 | _ => none, T := tinf Try.prog }
noncomputable def loops_impl_allWithin : Nat → Option Loop := fun n => none
theorem F_impl_allWithin_eq (x : (List Int) × Int × Int) : Fev env_impl_allWithin loops_impl_allWithin c_impl_allWithin.ps c_impl_allWithin.rs Try.f65 x = F_impl_allWithin x := by kernel_rfl
theorem env_impl_allWithin_ok : EnvOK Try.prog env_impl_allWithin := envOK_of (fun f c h => by
  simp only [env_impl_allWithin] at h
  split at h
  · cases h; exact con_slices_ContainsFunc_int_int
  · cases h) (fun f c h => by
  simp only [env_impl_allWithin] at h
  split at h
  · cases h; exact clo_impl_allWithin_1
  · cases h) rfl
theorem con_impl_allWithin : ConOK Try.prog 65 c_impl_allWithin := con_of_ev' (body := Try.f65.body.getD .skip) (Λ := loops_impl_allWithin) mixed Try.func65 (by kernel_rfl) (by kernel_rfl) env_impl_allWithin_ok (by kernel_rfl) (by kernel_rfl) (fun n L h => by cases h) F_impl_allWithin_eq

noncomputable def F_impl_isProposal (x : (Int × (Int × (ByteArray × (List Int))))) : Option (Bool) :=
  match F_impl_within ((x.1, 1, 999)) with
  | none => none
  | some y1 =>
    bif y1 then
      match F_impl_within ((x.2.1, 0, 1)) with
      | none => none
      | some y2 =>
        bif y2 then
          match F_impl_IsGloss (x.2.2.1) with
          | none => none
          | some y3 =>
            bif y3 then
              bif (decide ((x.2.2.2.length : Int) ≤ 7)) then
                match F_impl_allWithin ((x.2.2.2, (-1), 1)) with
                | none => none
                | some y4 =>
                  some (y4)
              else
                some (false)
            else
              some (false)
        else
          some (false)
    else
      some (false)
noncomputable def c_impl_isProposal : Con := { ps := [(.val, (.st (.pair (.int .i64) (.pair (.int .i64) (.pair .str (.slice (.int .i64)))))))], rs := [(.val, .bool)], F := F_impl_isProposal }
noncomputable def env_impl_isProposal : Env := { par := [], dp := false, settle := [], con := fun f => match f with | 52 => some c_impl_within | 60 => some c_impl_IsGloss | 65 => some c_impl_allWithin | _ => none, clo := fun _ => none, T := tinf Try.prog }
noncomputable def loops_impl_isProposal : Nat → Option Loop := fun n => none
theorem F_impl_isProposal_eq (x : (Int × (Int × (ByteArray × (List Int))))) : Fev env_impl_isProposal loops_impl_isProposal c_impl_isProposal.ps c_impl_isProposal.rs Try.f51 x = F_impl_isProposal x := by kernel_rfl
theorem env_impl_isProposal_ok : EnvOK Try.prog env_impl_isProposal := envOK_of (fun f c h => by
  simp only [env_impl_isProposal] at h
  split at h
  · cases h; exact con_impl_within
  · cases h; exact con_impl_IsGloss
  · cases h; exact con_impl_allWithin
  · cases h) (fun f c h => by cases h) rfl
theorem con_impl_isProposal : ConOK Try.prog 51 c_impl_isProposal := con_of_ev' (body := Try.f51.body.getD .skip) (Λ := loops_impl_isProposal) mixed Try.func51 (by kernel_rfl) (by kernel_rfl) env_impl_isProposal_ok (by kernel_rfl) (by kernel_rfl) (fun n L h => by cases h) F_impl_isProposal_eq

noncomputable def step_impl_AreProposals_0 (s : (List (Int × (Int × (ByteArray × (List Int))))) × Int × (List (Int × (Int × (ByteArray × (List Int))))) × Int × Int) : Option (((List (Int × (Int × (ByteArray × (List Int))))) × Int × (List (Int × (Int × (ByteArray × (List Int))))) × Int × Int) ⊕ ((Bool) ⊕ ((List (Int × (Int × (ByteArray × (List Int))))) × Int))) :=
  bif (decide (s.2.2.2.2 < s.2.2.2.1)) then
    bif decide (0 ≤ s.2.2.2.2) && decide (s.2.2.2.2 < (s.2.2.1.length : Int)) then
      match F_impl_isProposal ((s.2.2.1.getD (s.2.2.2.2).toNat (0, (0, ByteArray.empty, [])))) with
      | none => none
      | some y5 =>
        bif (!y5) then
          some (.inr (.inl (false)))
        else
          bif ((((s.2.2.1.getD (s.2.2.2.2).toNat (0, (0, ByteArray.empty, []))).2.2.2.length : Int) != s.2.1)) then
            some (.inr (.inl (false)))
          else
            bif (decide (s.2.2.2.2 > 0)) then
              let v6 := IntKind.i64.wrap (s.2.2.2.2 - 1)
              bif decide (0 ≤ v6) && decide (v6 < (s.1.length : Int)) then
                bif (decide ((s.2.2.1.getD (s.2.2.2.2).toNat (0, (0, ByteArray.empty, []))).1 ≤ (s.1.getD (v6).toNat (0, (0, ByteArray.empty, []))).1)) then
                  some (.inr (.inl (false)))
                else
                  let v7 := IntKind.i64.wrap (s.2.2.2.2 + 1)
                  some (.inl ((s.1, s.2.1, (s.2.2.1, s.2.2.2.1, v7))))
              else none
            else
              let v8 := IntKind.i64.wrap (s.2.2.2.2 + 1)
              some (.inl ((s.1, s.2.1, (s.2.2.1, s.2.2.2.1, v8))))
    else none
  else
    some (.inr (.inr ((s.1, s.2.1))))
def pat_impl_AreProposals_0 : Pat := { tmps := [.v (.slice (.st (.pair (.int .i64) (.pair (.int .i64) (.pair .str (.slice (.int .i64))))))), .v (.int .i64), .any, .any, .any, .any, .any, .v (.slice (.st (.pair (.int .i64) (.pair (.int .i64) (.pair .str (.slice (.int .i64))))))), .v (.int .i64), .v (.int .i64), .any, .any, .any, .any, .any, .any, .any, .any, .any, .any, .any, .any, .any, .any, .any, .any, .any, .any, .any, .any, .any, .any, .any, .any, .any, .any, .any, .any, .any, .any, .any, .any, .any, .any, .any, .any, .any], blks := [] }
def outs_impl_AreProposals_0 : List (Exit × Pat) := [(.ret, { tmps := [.any, .any, .any, .any, .v .bool, .any, .any, .any, .any, .any, .any, .any, .any, .any, .any, .any, .any, .any, .any, .any, .any, .any, .any, .any, .any, .any, .any, .any, .any, .any, .any, .any, .any, .any, .any, .any, .any, .any, .any, .any, .any, .any, .any, .any, .any, .any, .any], blks := [] }), (.exit 0, { tmps := [.v (.slice (.st (.pair (.int .i64) (.pair (.int .i64) (.pair .str (.slice (.int .i64))))))), .v (.int .i64), .any, .any, .any, .any, .any, .any, .any, .any, .any, .any, .any, .any, .any, .any, .any, .any, .any, .any, .any, .any, .any, .any, .any, .any, .any, .any, .any, .any, .any, .any, .any, .any, .any, .any, .any, .any, .any, .any, .any, .any, .any, .any, .any, .any, .any], blks := [] })]
noncomputable def F_impl_AreProposals (x : (List (Int × (Int × (ByteArray × (List Int))))) × Int) : Option (Bool) :=
  match runL step_impl_AreProposals_0 ((x.1, x.2, (x.1, (x.1.length : Int), 0))) with
  | none => none
  | some (.inl o9) =>
    some (o9)
  | some (.inr o9) =>
    match F_impl_within ((o9.2, 1, 7)) with
    | none => none
    | some y10 =>
      bif y10 then
        some ((decide ((o9.1.length : Int) ≤ 12)))
      else
        some (false)
noncomputable def c_impl_AreProposals : Con := { ps := [(.val, (.slice (.st (.pair (.int .i64) (.pair (.int .i64) (.pair .str (.slice (.int .i64)))))))), (.val, (.int .i64))], rs := [(.val, .bool)], F := F_impl_AreProposals }
noncomputable def env_impl_AreProposals : Env := { par := [], dp := false, settle := [], con := fun f => match f with | 51 => some c_impl_isProposal | 52 => some c_impl_within | _ => none, clo := fun _ => none, T := tinf Try.prog }
noncomputable def loops_impl_AreProposals : Nat → Option Loop := fun n => match n with | 2 => some { pat := pat_impl_AreProposals_0, outs := outs_impl_AreProposals_0, run := runL (step_impl_AreProposals_0) } | _ => none
theorem step_impl_AreProposals_0_eq (s : (List (Int × (Int × (ByteArray × (List Int))))) × Int × (List (Int × (Int × (ByteArray × (List Int))))) × Int × Int) : stepEv env_impl_AreProposals loops_impl_AreProposals pat_impl_AreProposals_0 outs_impl_AreProposals_0 Try.f34 2 s = step_impl_AreProposals_0 s := by kernel_rfl
theorem F_impl_AreProposals_eq (x : (List (Int × (Int × (ByteArray × (List Int))))) × Int) : Fev env_impl_AreProposals loops_impl_AreProposals c_impl_AreProposals.ps c_impl_AreProposals.rs Try.f34 x = F_impl_AreProposals x := by kernel_rfl
theorem env_impl_AreProposals_ok : EnvOK Try.prog env_impl_AreProposals := envOK_of (fun f c h => by
  simp only [env_impl_AreProposals] at h
  split at h
  · cases h; exact con_impl_isProposal
  · cases h; exact con_impl_within
  · cases h) (fun f c h => by cases h) rfl
theorem con_impl_AreProposals : ConOK Try.prog 34 c_impl_AreProposals := con_of_ev' (body := Try.f34.body.getD .skip) (Λ := loops_impl_AreProposals) mixed Try.func34 (by kernel_rfl) (by kernel_rfl) env_impl_AreProposals_ok (by kernel_rfl) (by kernel_rfl) (fun n L h => by
  unfold loops_impl_AreProposals at h
  split at h
  · cases h; exact fun s o ho => loop_ok (stepF := stepEv env_impl_AreProposals loops_impl_AreProposals pat_impl_AreProposals_0 outs_impl_AreProposals_0 Try.f34 2) (step_impl_AreProposals_0_eq) ho
  · cases h) F_impl_AreProposals_eq

noncomputable def step_impl_those_int_0 (s : (Int → Option Bool) × (List Int) × Int × Int × (List Int)) : Option (((Int → Option Bool) × (List Int) × Int × Int × (List Int)) ⊕ (((List Int)))) :=
  bif (decide (s.2.2.2.1 < s.2.2.1)) then
    bif decide (0 ≤ s.2.2.2.1) && decide (s.2.2.2.1 < (s.2.1.length : Int)) then
      match s.1 ((s.2.1.getD (s.2.2.2.1).toNat 0)) with
      | none => none
      | some y8 =>
        bif y8 then
          bif decide ((s.2.2.2.2.length + [s.2.2.2.1].length) * 8 ≤ 140737488355328) then
            let v9 := s.2.2.2.2 ++ [s.2.2.2.1]
            let v10 := IntKind.i64.wrap (s.2.2.2.1 + 1)
            some (.inl ((s.1, s.2.1, (s.2.2.1, v10, v9))))
          else none
        else
          let v11 := IntKind.i64.wrap (s.2.2.2.1 + 1)
          some (.inl ((s.1, s.2.1, (s.2.2.1, v11, s.2.2.2.2))))
    else none
  else
    some (.inr (s.2.2.2.2))
def pat_impl_those_int_0 : Pat := { tmps := [.any, .v (.fn (.int .i64) .bool), .any, .any, .any, .own 1344, .any, .any, .v (.slice (.int .i64)), .v (.int .i64), .v (.int .i64), .any, .any, .any, .any, .any, .any, .any, .any, .any, .any, .any, .any, .any], blks := [(1344, .row true (.int .i64))] }
def outs_impl_those_int_0 : List (Exit × Pat) := [(.exit 0, { tmps := [.any, .any, .any, .any, .any, .own 1344, .any, .any, .any, .any, .any, .any, .any, .any, .any, .any, .any, .any, .any, .any, .any, .any, .any, .any], blks := [(1344, .row true (.int .i64))] })]
noncomputable def F_impl_those_int (x : (List Int) × (Int → Option Bool)) : Option ((List Int)) :=
  match runL step_impl_those_int_0 ((x.2, x.1, ((x.1.length : Int), 0, []))) with
  | none => none
  | some o12 =>
    some (o12)
noncomputable def c_impl_those_int : Con := { ps := [(.val, (.slice (.int .i64))), (.val, (.fn (.int .i64) .bool))], rs := [(.io true, (.slice (.int .i64)))], F := F_impl_those_int }
noncomputable def env_impl_those_int : Env := { par := [], dp := false, settle := [], con := fun _ => none, clo := fun _ => none, T := tinf Try.prog }
noncomputable def loops_impl_those_int : Nat → Option Loop := fun n => match n with | 3 => some { pat := pat_impl_those_int_0, outs := outs_impl_those_int_0, run := runL (step_impl_those_int_0) } | _ => none
theorem step_impl_those_int_0_eq (s : (Int → Option Bool) × (List Int) × Int × Int × (List Int)) : stepEv env_impl_those_int loops_impl_those_int pat_impl_those_int_0 outs_impl_those_int_0 Try.f53 3 s = step_impl_those_int_0 s := by kernel_rfl
theorem F_impl_those_int_eq (x : (List Int) × (Int → Option Bool)) : Fev env_impl_those_int loops_impl_those_int c_impl_those_int.ps c_impl_those_int.rs Try.f53 x = F_impl_those_int x := by kernel_rfl
theorem env_impl_those_int_ok : EnvOK Try.prog env_impl_those_int := envOK_of (fun f c h => by cases h) (fun f c h => by cases h) rfl
theorem con_impl_those_int : ConOK Try.prog 53 c_impl_those_int := con_of_ev' (body := Try.f53.body.getD .skip) (Λ := loops_impl_those_int) mixed Try.func53 (by kernel_rfl) (by kernel_rfl) env_impl_those_int_ok (by kernel_rfl) (by kernel_rfl) (fun n L h => by
  unfold loops_impl_those_int at h
  split at h
  · cases h; exact fun s o ho => loop_ok (stepF := stepEv env_impl_those_int loops_impl_those_int pat_impl_those_int_0 outs_impl_those_int_0 Try.f53 3) (step_impl_those_int_0_eq) ho
  · cases h) F_impl_those_int_eq

noncomputable def F_impl_Proposal_passed_1 (x : Int) : Option (Bool) :=
  some (((x != 0)))
noncomputable def c_impl_Proposal_passed_1 : Con := { ps := [(.val, (.int .i64))], rs := [(.val, .bool)], F := F_impl_Proposal_passed_1 }
noncomputable def env_impl_Proposal_passed_1 : Env := { par := [], dp := false, settle := [], con := fun _ => none, clo := fun _ => none, T := tinf Try.prog }
noncomputable def loops_impl_Proposal_passed_1 : Nat → Option Loop := fun n => none
theorem F_impl_Proposal_passed_1_eq (x : Int) : Fev env_impl_Proposal_passed_1 loops_impl_Proposal_passed_1 c_impl_Proposal_passed_1.ps c_impl_Proposal_passed_1.rs Try.f54 x = F_impl_Proposal_passed_1 x := by kernel_rfl
theorem env_impl_Proposal_passed_1_ok : EnvOK Try.prog env_impl_Proposal_passed_1 := envOK_of (fun f c h => by cases h) (fun f c h => by cases h) rfl
theorem con_impl_Proposal_passed_1 : ConOK Try.prog 54 c_impl_Proposal_passed_1 := con_of_ev' (body := Try.f54.body.getD .skip) (Λ := loops_impl_Proposal_passed_1) mixed Try.func54 (by kernel_rfl) (by kernel_rfl) env_impl_Proposal_passed_1_ok (by kernel_rfl) (by kernel_rfl) (fun n L h => by cases h) F_impl_Proposal_passed_1_eq

noncomputable def step_impl_sumOf_0 (s : Int × (List Int) × Int × Int) : Option ((Int × (List Int) × Int × Int) ⊕ ((Int))) :=
  bif (decide (s.2.2.2 < s.2.2.1)) then
    bif decide (0 ≤ s.2.2.2) && decide (s.2.2.2 < (s.2.1.length : Int)) then
      let v3 := IntKind.i64.wrap (s.1 + (s.2.1.getD (s.2.2.2).toNat 0))
      let v4 := IntKind.i64.wrap (s.2.2.2 + 1)
      some (.inl ((v3, (s.2.1, s.2.2.1, v4))))
    else none
  else
    some (.inr (s.1))
def pat_impl_sumOf_0 : Pat := { tmps := [.any, .any, .any, .v (.int .i64), .any, .any, .v (.slice (.int .i64)), .v (.int .i64), .v (.int .i64), .any, .any, .any, .any, .any, .any, .any, .any], blks := [] }
def outs_impl_sumOf_0 : List (Exit × Pat) := [(.exit 0, { tmps := [.any, .any, .any, .v (.int .i64), .any, .any, .any, .any, .any, .any, .any, .any, .any, .any, .any, .any, .any], blks := [] })]
noncomputable def F_impl_sumOf (x : (List Int)) : Option (Int) :=
  match runL step_impl_sumOf_0 ((0, (x, (x.length : Int), 0))) with
  | none => none
  | some o5 =>
    some (o5)
noncomputable def c_impl_sumOf : Con := { ps := [(.val, (.slice (.int .i64)))], rs := [(.val, (.int .i64))], F := F_impl_sumOf }
noncomputable def env_impl_sumOf : Env := { par := [], dp := false, settle := [], con := fun _ => none, clo := fun _ => none, T := tinf Try.prog }
noncomputable def loops_impl_sumOf : Nat → Option Loop := fun n => match n with | 3 => some { pat := pat_impl_sumOf_0, outs := outs_impl_sumOf_0, run := runL (step_impl_sumOf_0) } | _ => none
theorem step_impl_sumOf_0_eq (s : Int × (List Int) × Int × Int) : stepEv env_impl_sumOf loops_impl_sumOf pat_impl_sumOf_0 outs_impl_sumOf_0 Try.f55 3 s = step_impl_sumOf_0 s := by kernel_rfl
theorem F_impl_sumOf_eq (x : (List Int)) : Fev env_impl_sumOf loops_impl_sumOf c_impl_sumOf.ps c_impl_sumOf.rs Try.f55 x = F_impl_sumOf x := by kernel_rfl
theorem env_impl_sumOf_ok : EnvOK Try.prog env_impl_sumOf := envOK_of (fun f c h => by cases h) (fun f c h => by cases h) rfl
theorem con_impl_sumOf : ConOK Try.prog 55 c_impl_sumOf := con_of_ev' (body := Try.f55.body.getD .skip) (Λ := loops_impl_sumOf) mixed Try.func55 (by kernel_rfl) (by kernel_rfl) env_impl_sumOf_ok (by kernel_rfl) (by kernel_rfl) (fun n L h => by
  unfold loops_impl_sumOf at h
  split at h
  · cases h; exact fun s o ho => loop_ok (stepF := stepEv env_impl_sumOf loops_impl_sumOf pat_impl_sumOf_0 outs_impl_sumOf_0 Try.f55 3) (step_impl_sumOf_0_eq) ho
  · cases h) F_impl_sumOf_eq

noncomputable def K_impl_Proposal_passed_1 (q : Unit) (x : Int) : Option (Bool) := F_impl_Proposal_passed_1 x
noncomputable def k_impl_Proposal_passed_1 : CloCon := { caps := [], a := (.int .i64), r := .bool, F := K_impl_Proposal_passed_1 }
theorem clo_impl_Proposal_passed_1 : CloOK Try.prog 54 k_impl_Proposal_passed_1 := clo_of_con k_impl_Proposal_passed_1 F_impl_Proposal_passed_1 con_impl_Proposal_passed_1 rfl (fun kx x y h => ⟨y, h, rfl⟩)
noncomputable def F_impl_Proposal_passed (x : (Int × (Int × (ByteArray × (List Int)))) × Int) : Option (Bool) :=
  match F_impl_those_int ((x.1.2.2.2, (K_impl_Proposal_passed_1 ()))) with
  | none => none
  | some y1 =>
    let v2 := IntKind.i64.wrap (x.2 + (y1.length : Int))
    let v3 := IntKind.i64.wrap (2 * v2)
    bif (decide (v3 > (x.1.2.2.2.length : Int))) then
      match F_impl_sumOf (x.1.2.2.2) with
      | none => none
      | some y4 =>
        let v5 := IntKind.i64.wrap (y4 + x.2)
        some ((decide (v5 > 0)))
    else
      some (false)
noncomputable def c_impl_Proposal_passed : Con := { ps := [(.val, (.st (.pair (.int .i64) (.pair (.int .i64) (.pair .str (.slice (.int .i64))))))), (.val, (.int .i64))], rs := [(.val, .bool)], F := F_impl_Proposal_passed }
noncomputable def env_impl_Proposal_passed : Env := { par := [], dp := false, settle := [], con := fun f => match f with | 53 => some c_impl_those_int | 55 => some c_impl_sumOf | _ => none, clo := fun f => match f with | 54 => some k_impl_Proposal_passed_1 | _ => none, T := tinf Try.prog }
noncomputable def loops_impl_Proposal_passed : Nat → Option Loop := fun n => none
theorem F_impl_Proposal_passed_eq (x : (Int × (Int × (ByteArray × (List Int)))) × Int) : Fev env_impl_Proposal_passed loops_impl_Proposal_passed c_impl_Proposal_passed.ps c_impl_Proposal_passed.rs Try.f35 x = F_impl_Proposal_passed x := by kernel_rfl
theorem env_impl_Proposal_passed_ok : EnvOK Try.prog env_impl_Proposal_passed := envOK_of (fun f c h => by
  simp only [env_impl_Proposal_passed] at h
  split at h
  · cases h; exact con_impl_those_int
  · cases h; exact con_impl_sumOf
  · cases h) (fun f c h => by
  simp only [env_impl_Proposal_passed] at h
  split at h
  · cases h; exact clo_impl_Proposal_passed_1
  · cases h) rfl
theorem con_impl_Proposal_passed : ConOK Try.prog 35 c_impl_Proposal_passed := con_of_ev' (body := Try.f35.body.getD .skip) (Λ := loops_impl_Proposal_passed) mixed Try.func35 (by kernel_rfl) (by kernel_rfl) env_impl_Proposal_passed_ok (by kernel_rfl) (by kernel_rfl) (fun n L h => by cases h) F_impl_Proposal_passed_eq

section
open Go.RowKit
theorem nil_slices_Clone_string_string (n c : Nat) (w : World) : Calls Try.prog 43 #[.slice none n c] w fun e w' => e = .returned (.slice none 0 0) ∧ w' = w := by
  have q : ∀ (w : World) (a : Option Addr) (n c n' c' : Nat), (binOp .eql 24 (.slice a n c) (.slice none n' c')).run Try.prog w = .ok (.bool a.isNone) w := fun w a n c n' c' => Lib.run_eql_slice_nil w _ _ a n c n' c' (show Try.prog.underlying 24 = some (.slice 9) by kernel_rfl)
  go_enter Try.func43, Try.ntmps43
  go_wp2
  go_ret
  exact ⟨rfl, rfl⟩
set_option maxHeartbeats 2000000 in
theorem some_slices_Clone_string_string (ad : Addr) (n c : Nat) (news : List Value) (w : World) (hl : news.length = n * 1) (hc : ∀ j u, news[j]? = some u → w.cell? (ad.add j) = some u) (h1 : ∀ u ∈ news, u.oneCell' = true) (hbig : n * 16 ≤ 140737488355328) :
    Calls Try.prog 43 #[.slice (some ad) n c] w fun e w' => ∃ v', e = .returned v' ∧ w'.ownsRow w.heap.size 9 1 v' n news ∧ Below w.heap.size w w' := by
  have q : ∀ (w : World) (a : Option Addr) (n c n' c' : Nat), (binOp .eql 24 (.slice a n c) (.slice none n' c')).run Try.prog w = .ok (.bool a.isNone) w := fun w a n c n' c' => Lib.run_eql_slice_nil w _ _ a n c n' c' (show Try.prog.underlying 24 = some (.slice 9) by kernel_rfl)
  obtain ⟨i0, hi, hz0, hz1, hz2⟩ := info_parts (P := Try.prog) (e := 9) (z := (.string ⟨#[]⟩)) (size := 1) (bytes := 16) (by kernel_rfl)
  have A : Aside (∀ j u, news[j]? = some u → w.cell? (ad.add j) = some u) := hc
  clear hc
  go_enter Try.func43, Try.ntmps43
  go_wp2_with (at_builtin; refine wpList_append_own _ rfl _ _ 24 rfl w.heap.size 9 i0 (.string ⟨#[]⟩) 1 16 (by kernel_rfl) hi hz0 hz1 hz2 rfl (by decide) _ _ _ rfl (World.ownsRow_made w #[] 0 (Nat.le_refl _) (Nat.zero_le _) rfl) ad n c news rfl ?qc1 ?qc2 ?qc3 ?qc4 ?qc5 ?qc6 ?_)
  case qc1 => exact hl
  case qc2 => exact fun j u hj => Lib.cell?_alloc_some _ (A.out j u hj)
  case qc3 => exact h1
  case qc4 => unfold maxLen; omega
  case qc5 => omega
  case qc6 => simp
  intro v' w1 hown hgrow hnil
  go_wp2
  go_ret
  refine ⟨v', rfl, by simpa using hown, ?_⟩
  exact ((Below.refl _ w).alloc (Nat.le_refl _) _).grown hgrow (by simp) (by intro k hk; simp [Value.ownBlock] at hk; omega)
def F_slices_Clone_string_string (x : List ByteArray) : Option (List ByteArray) := bif decide (x.length * 16 ≤ 140737488355328) then some x else none
noncomputable def c_slices_Clone_string_string : Con := { ps := [(.val, .slice .str)], rs := [(.io true, .slice .str)], F := F_slices_Clone_string_string }
theorem con_slices_Clone_string_string : ConOK Try.prog 43 c_slices_Clone_string_string := con_clone ⟨Try.f43, Try.func43, by kernel_rfl, by kernel_rfl⟩ .str true rfl 16 9 nil_slices_Clone_string_string some_slices_Clone_string_string
end

section
open Go.RowKit Go.Sort
noncomputable def F_slices_Sort_string_string (x : List ByteArray) : Option (List ByteArray) := F_sort (α := List UInt8) .str (fun b => b.data.toList) (fun l => ⟨l.toArray⟩) (fun l => l.mergeSort fun x y => decide (x ≤ y)) x
noncomputable def c_slices_Sort_string_string : Con := { ps := [(.io true, .slice .str)], rs := [], F := F_slices_Sort_string_string }
theorem con_slices_Sort_string_string : ConOK Try.prog 44 c_slices_Sort_string_string := con_sort (α := List UInt8) ⟨Try.f44, Try.func44, by kernel_rfl, by kernel_rfl⟩ .str rfl rfl encStr (fun b => b.data.toList) (fun l => ⟨l.toArray⟩) (by rintro ⟨⟨l⟩⟩; rfl) (fun a => rfl) _ (fun l => by simp)
  (fun A w => (Try.slices_Sort_string_none A 0 w).mono (by rintro e w' ⟨rfl, rfl⟩; exact ⟨rfl, Fr.refl _ _⟩)) (fun g cap zs w hH hlt hsz => Try.slices_Sort_string g 0 cap zs w hH hlt hsz)
end

noncomputable def step_slices_Compact_string_string_0 (s : Int × Int × Int × Int × (List ByteArray)) : Option ((Int × Int × Int × Int × (List ByteArray)) ⊕ ((Int × (List ByteArray)))) :=
  bif (decide (s.2.2.2.1 < ((s.2.2.1).toNat : Int))) then
    bif decide (0 ≤ s.2.2.2.1) && decide (s.2.2.2.1 < ((s.2.2.1).toNat : Int)) then
      let v21 := IntKind.i64.wrap (s.2.2.2.1 - 1)
      bif decide (0 ≤ v21) && decide (v21 < ((s.2.2.1).toNat : Int)) then
        bif (!((s.2.2.2.2.getD ((s.2.1).toNat + (s.2.2.2.1).toNat) ByteArray.empty).toList == (s.2.2.2.2.getD ((s.2.1).toNat + (v21).toNat) ByteArray.empty).toList)) then
          bif decide (0 ≤ s.2.2.2.1) && decide (s.2.2.2.1 < ((s.2.2.1).toNat : Int)) then
            bif decide (0 ≤ s.1) && decide (s.1 < (s.2.2.2.2.length : Int)) then
              let v22 := s.2.2.2.2.set (s.1).toNat ((s.2.2.2.2.getD ((s.2.1).toNat + (s.2.2.2.1).toNat) ByteArray.empty))
              let v23 := IntKind.i64.wrap (s.1 + 1)
              let v24 := IntKind.i64.wrap (s.2.2.2.1 + 1)
              some (.inl ((v23, (((s.2.1).toNat : Nat) : Int), ((((s.2.2.1).toNat : Nat) : Int), v24, v22))))
            else none
          else none
        else
          let v25 := IntKind.i64.wrap (s.2.2.2.1 + 1)
          some (.inl ((s.1, (((s.2.1).toNat : Nat) : Int), ((((s.2.2.1).toNat : Nat) : Int), v25, s.2.2.2.2))))
      else none
    else none
  else
    some (.inr ((s.1, s.2.2.2.2)))
def pat_slices_Compact_string_string_0 : Pat := { tmps := [.own 62, .any, .any, .v (.int .i64), .sub 62, .v (.int .i64), .any, .any, .any, .any, .any, .any, .any, .any, .any, .any, .any, .any, .any, .any, .any, .any, .any, .any, .any, .any, .any, .any, .any, .any, .any, .any, .any, .any, .any, .any, .any, .any, .any, .any, .any, .any, .any, .any, .any, .any, .any, .any, .any, .any, .any, .any, .any, .any, .any, .any, .any, .any, .any, .any, .any], blks := [(62, .row true .str)] }
def outs_slices_Compact_string_string_0 : List (Exit × Pat) := [(.exit 2, { tmps := [.own 62, .any, .any, .v (.int .i64), .any, .any, .any, .any, .any, .any, .any, .any, .any, .any, .any, .any, .any, .any, .any, .any, .any, .any, .any, .any, .any, .any, .any, .any, .any, .any, .any, .any, .any, .any, .any, .any, .any, .any, .any, .any, .any, .any, .any, .any, .any, .any, .any, .any, .any, .any, .any, .any, .any, .any, .any, .any, .any, .any, .any, .any, .any], blks := [(62, .row true .str)] })]
noncomputable def step_slices_Compact_string_string_1 (s : Int × (List ByteArray)) : Option ((Int × (List ByteArray)) ⊕ ((Int × Int × (List ByteArray)) ⊕ ((List ByteArray)))) :=
  bif (decide (s.1 < (s.2.length : Int))) then
    bif decide (0 ≤ s.1) && decide (s.1 < (s.2.length : Int)) then
      let v15 := IntKind.i64.wrap (s.1 - 1)
      bif decide (0 ≤ v15) && decide (v15 < (s.2.length : Int)) then
        bif ((s.2.getD (s.1).toNat ByteArray.empty).toList == (s.2.getD (v15).toNat ByteArray.empty).toList) then
          bif decide (0 ≤ s.1) && decide (s.1 ≤ (s.2.length : Int)) && decide ((s.2.length : Int) ≤ (s.2.length : Int)) then
            match runL step_slices_Compact_string_string_0 ((s.1, (((s.1).toNat : Nat) : Int), ((((((s.2.length : Int)).toNat - (s.1).toNat) : Nat) : Int), 1, s.2))) with
            | none => none
            | some o26 =>
              bif decide (0 ≤ o26.1) && decide (o26.1 ≤ (o26.2.length : Int)) && decide ((o26.2.length : Int) ≤ (o26.2.length : Int)) then
                bif decide ((o26.1).toNat + (((o26.2.length : Int)).toNat - (o26.1).toNat) ≤ o26.2.length) then
                  let v27 := o26.2.take (o26.1).toNat ++ List.replicate (((o26.2.length : Int)).toNat - (o26.1).toNat) (ByteArray.empty) ++ o26.2.drop ((o26.1).toNat + (((o26.2.length : Int)).toNat - (o26.1).toNat))
                  bif decide (0 ≤ (0 : Int)) && decide ((0 : Int) ≤ o26.1) && decide (o26.1 ≤ (v27.length : Int)) then
                    some (.inr (.inl ((((((0 : Int)).toNat : Nat) : Int), ((((o26.1).toNat - ((0 : Int)).toNat) : Nat) : Int), v27))))
                  else none
                else none
              else none
          else none
        else
          let v28 := IntKind.i64.wrap (s.1 + 1)
          some (.inl ((v28, s.2)))
      else none
    else none
  else
    some (.inr (.inr (s.2)))
def pat_slices_Compact_string_string_1 : Pat := { tmps := [.own 62, .any, .any, .v (.int .i64), .any, .any, .any, .any, .any, .any, .any, .any, .any, .any, .any, .any, .any, .any, .any, .any, .any, .any, .any, .any, .any, .any, .any, .any, .any, .any, .any, .any, .any, .any, .any, .any, .any, .any, .any, .any, .any, .any, .any, .any, .any, .any, .any, .any, .any, .any, .any, .any, .any, .any, .any, .any, .any, .any, .any, .any, .any], blks := [(62, .row true .str)] }
def outs_slices_Compact_string_string_1 : List (Exit × Pat) := [(.ret, { tmps := [.any, .any, .sub 62, .any, .any, .any, .any, .any, .any, .any, .any, .any, .any, .any, .any, .any, .any, .any, .any, .any, .any, .any, .any, .any, .any, .any, .any, .any, .any, .any, .any, .any, .any, .any, .any, .any, .any, .any, .any, .any, .any, .any, .any, .any, .any, .any, .any, .any, .any, .any, .any, .any, .any, .any, .any, .any, .any, .any, .any, .any, .any], blks := [(62, .row true .str)] }), (.exit 0, { tmps := [.own 62, .any, .any, .any, .any, .any, .any, .any, .any, .any, .any, .any, .any, .any, .any, .any, .any, .any, .any, .any, .any, .any, .any, .any, .any, .any, .any, .any, .any, .any, .any, .any, .any, .any, .any, .any, .any, .any, .any, .any, .any, .any, .any, .any, .any, .any, .any, .any, .any, .any, .any, .any, .any, .any, .any, .any, .any, .any, .any, .any, .any], blks := [(62, .row true .str)] })]
noncomputable def F_slices_Compact_string_string (x : (List ByteArray)) : Option ((List ByteArray)) :=
  bif (decide ((x.length : Int) < 2)) then
    some (x)
  else
    match runL step_slices_Compact_string_string_1 ((1, x)) with
    | none => none
    | some (.inl o29) =>
      bif (decide ((o29.1).toNat = 0) && true) then
        some ((o29.2.2.take (o29.2.1).toNat))
      else none
    | some (.inr o29) =>
      some (o29)
noncomputable def c_slices_Compact_string_string : Con := { ps := [(.eat true, (.slice .str))], rs := [(.io true, (.slice .str))], F := F_slices_Compact_string_string }
noncomputable def env_slices_Compact_string_string : Env := { par := [62], dp := false, settle := [], con := fun _ => none, clo := fun _ => none, T := tinf Try.prog }
noncomputable def loops_slices_Compact_string_string : Nat → Option Loop := fun n => match n with | 9 => some { pat := pat_slices_Compact_string_string_0, outs := outs_slices_Compact_string_string_0, run := runL (step_slices_Compact_string_string_0) } | 4 => some { pat := pat_slices_Compact_string_string_1, outs := outs_slices_Compact_string_string_1, run := runL (step_slices_Compact_string_string_1) } | _ => none
theorem step_slices_Compact_string_string_0_eq (s : Int × Int × Int × Int × (List ByteArray)) : stepEv env_slices_Compact_string_string loops_slices_Compact_string_string pat_slices_Compact_string_string_0 outs_slices_Compact_string_string_0 Try.f45 9 s = step_slices_Compact_string_string_0 s := by kernel_rfl
theorem step_slices_Compact_string_string_1_eq (s : Int × (List ByteArray)) : stepEv env_slices_Compact_string_string loops_slices_Compact_string_string pat_slices_Compact_string_string_1 outs_slices_Compact_string_string_1 Try.f45 4 s = step_slices_Compact_string_string_1 s := by kernel_rfl
theorem F_slices_Compact_string_string_eq (x : (List ByteArray)) : Fev env_slices_Compact_string_string loops_slices_Compact_string_string c_slices_Compact_string_string.ps c_slices_Compact_string_string.rs Try.f45 x = F_slices_Compact_string_string x := by kernel_rfl
theorem env_slices_Compact_string_string_ok : EnvOK Try.prog env_slices_Compact_string_string := envOK_of (fun f c h => by cases h) (fun f c h => by cases h) rfl
theorem con_slices_Compact_string_string : ConOK Try.prog 45 c_slices_Compact_string_string := con_of_ev' (body := Try.f45.body.getD .skip) (Λ := loops_slices_Compact_string_string) mixed Try.func45 (by kernel_rfl) (by kernel_rfl) env_slices_Compact_string_string_ok (by kernel_rfl) (by kernel_rfl) (fun n L h => by
  unfold loops_slices_Compact_string_string at h
  split at h
  · cases h; exact fun s o ho => loop_ok (stepF := stepEv env_slices_Compact_string_string loops_slices_Compact_string_string pat_slices_Compact_string_string_0 outs_slices_Compact_string_string_0 Try.f45 9) (step_slices_Compact_string_string_0_eq) ho
  · cases h; exact fun s o ho => loop_ok (stepF := stepEv env_slices_Compact_string_string loops_slices_Compact_string_string pat_slices_Compact_string_string_1 outs_slices_Compact_string_string_1 Try.f45 4) (step_slices_Compact_string_string_1_eq) ho
  · cases h) F_slices_Compact_string_string_eq

noncomputable def F_impl_distinct_string (x : (List ByteArray)) : Option ((List ByteArray)) :=
  match F_slices_Clone_string_string (x) with
  | none => none
  | some y1 =>
    match F_slices_Sort_string_string (y1) with
    | none => none
    | some y2 =>
      match F_slices_Compact_string_string (y2) with
      | none => none
      | some y3 =>
        some (y3)
noncomputable def c_impl_distinct_string : Con := { ps := [(.val, (.slice .str))], rs := [(.io true, (.slice .str))], F := F_impl_distinct_string }
noncomputable def env_impl_distinct_string : Env := { par := [], dp := false, settle := [], con := fun f => match f with | 43 => some c_slices_Clone_string_string | 44 => some c_slices_Sort_string_string | 45 => some c_slices_Compact_string_string | _ => none, clo := fun _ => none, T := tinf Try.prog }
noncomputable def loops_impl_distinct_string : Nat → Option Loop := fun n => none
theorem F_impl_distinct_string_eq (x : (List ByteArray)) : Fev env_impl_distinct_string loops_impl_distinct_string c_impl_distinct_string.ps c_impl_distinct_string.rs Try.f25 x = F_impl_distinct_string x := by kernel_rfl
theorem env_impl_distinct_string_ok : EnvOK Try.prog env_impl_distinct_string := envOK_of (fun f c h => by
  simp only [env_impl_distinct_string] at h
  split at h
  · cases h; exact con_slices_Clone_string_string
  · cases h; exact con_slices_Sort_string_string
  · cases h; exact con_slices_Compact_string_string
  · cases h) (fun f c h => by cases h) rfl
theorem con_impl_distinct_string : ConOK Try.prog 25 c_impl_distinct_string := con_of_ev' (body := Try.f25.body.getD .skip) (Λ := loops_impl_distinct_string) mixed Try.func25 (by kernel_rfl) (by kernel_rfl) env_impl_distinct_string_ok (by kernel_rfl) (by kernel_rfl) (fun n L h => by cases h) F_impl_distinct_string_eq

noncomputable def step_slices_Index_string_string_0 (s : (List ByteArray) × ByteArray × Int × Int) : Option (((List ByteArray) × ByteArray × Int × Int) ⊕ ((Int) ⊕ (Unit))) :=
  bif (decide (s.2.2.2 < s.2.2.1)) then
    bif decide (0 ≤ s.2.2.2) && decide (s.2.2.2 < (s.1.length : Int)) then
      bif (s.2.1.toList == (s.1.getD (s.2.2.2).toNat ByteArray.empty).toList) then
        some (.inr (.inl (s.2.2.2)))
      else
        let v2 := IntKind.i64.wrap (s.2.2.2 + 1)
        some (.inl ((s.1, (s.2.1, s.2.2.1, v2))))
    else none
  else
    some (.inr (.inr (())))
def pat_slices_Index_string_string_0 : Pat := { tmps := [.v (.slice .str), .v .str, .any, .any, .any, .any, .any, .v (.int .i64), .v (.int .i64), .any, .any, .any, .any, .any, .any, .any, .any, .any, .any], blks := [] }
def outs_slices_Index_string_string_0 : List (Exit × Pat) := [(.ret, { tmps := [.any, .any, .any, .any, .v (.int .i64), .any, .any, .any, .any, .any, .any, .any, .any, .any, .any, .any, .any, .any, .any], blks := [] }), (.exit 0, { tmps := [.any, .any, .any, .any, .any, .any, .any, .any, .any, .any, .any, .any, .any, .any, .any, .any, .any, .any, .any], blks := [] })]
noncomputable def F_slices_Index_string_string (x : (List ByteArray) × ByteArray) : Option (Int) :=
  match runL step_slices_Index_string_string_0 ((x.1, (x.2, (x.1.length : Int), 0))) with
  | none => none
  | some (.inl o3) =>
    some (o3)
  | some (.inr o3) =>
    some ((-1))
noncomputable def c_slices_Index_string_string : Con := { ps := [(.val, (.slice .str)), (.val, .str)], rs := [(.val, (.int .i64))], F := F_slices_Index_string_string }
noncomputable def env_slices_Index_string_string : Env := { par := [], dp := false, settle := [], con := fun _ => none, clo := fun _ => none, T := tinf Try.prog }
noncomputable def loops_slices_Index_string_string : Nat → Option Loop := fun n => match n with | 2 => some { pat := pat_slices_Index_string_string_0, outs := outs_slices_Index_string_string_0, run := runL (step_slices_Index_string_string_0) } | _ => none
theorem step_slices_Index_string_string_0_eq (s : (List ByteArray) × ByteArray × Int × Int) : stepEv env_slices_Index_string_string loops_slices_Index_string_string pat_slices_Index_string_string_0 outs_slices_Index_string_string_0 Try.f56 2 s = step_slices_Index_string_string_0 s := by kernel_rfl
theorem F_slices_Index_string_string_eq (x : (List ByteArray) × ByteArray) : Fev env_slices_Index_string_string loops_slices_Index_string_string c_slices_Index_string_string.ps c_slices_Index_string_string.rs Try.f56 x = F_slices_Index_string_string x := by kernel_rfl
theorem env_slices_Index_string_string_ok : EnvOK Try.prog env_slices_Index_string_string := envOK_of (fun f c h => by cases h) (fun f c h => by cases h) rfl
theorem con_slices_Index_string_string : ConOK Try.prog 56 c_slices_Index_string_string := con_of_ev' (body := Try.f56.body.getD .skip) (Λ := loops_slices_Index_string_string) mixed Try.func56 (by kernel_rfl) (by kernel_rfl) env_slices_Index_string_string_ok (by kernel_rfl) (by kernel_rfl) (fun n L h => by
  unfold loops_slices_Index_string_string at h
  split at h
  · cases h; exact fun s o ho => loop_ok (stepF := stepEv env_slices_Index_string_string loops_slices_Index_string_string pat_slices_Index_string_string_0 outs_slices_Index_string_string_0 Try.f56 2) (step_slices_Index_string_string_0_eq) ho
  · cases h) F_slices_Index_string_string_eq

noncomputable def F_slices_Contains_string_string (x : (List ByteArray) × ByteArray) : Option (Bool) :=
  match F_slices_Index_string_string (x) with
  | none => none
  | some y1 =>
    some ((decide (y1 ≥ 0)))
noncomputable def c_slices_Contains_string_string : Con := { ps := [(.val, (.slice .str)), (.val, .str)], rs := [(.val, .bool)], F := F_slices_Contains_string_string }
noncomputable def env_slices_Contains_string_string : Env := { par := [], dp := false, settle := [], con := fun f => match f with | 56 => some c_slices_Index_string_string | _ => none, clo := fun _ => none, T := tinf Try.prog }
noncomputable def loops_slices_Contains_string_string : Nat → Option Loop := fun n => none
theorem F_slices_Contains_string_string_eq (x : (List ByteArray) × ByteArray) : Fev env_slices_Contains_string_string loops_slices_Contains_string_string c_slices_Contains_string_string.ps c_slices_Contains_string_string.rs Try.f37 x = F_slices_Contains_string_string x := by kernel_rfl
theorem env_slices_Contains_string_string_ok : EnvOK Try.prog env_slices_Contains_string_string := envOK_of (fun f c h => by
  simp only [env_slices_Contains_string_string] at h
  split at h
  · cases h; exact con_slices_Index_string_string
  · cases h) (fun f c h => by cases h) rfl
theorem con_slices_Contains_string_string : ConOK Try.prog 37 c_slices_Contains_string_string := con_of_ev' (body := Try.f37.body.getD .skip) (Λ := loops_slices_Contains_string_string) mixed Try.func37 (by kernel_rfl) (by kernel_rfl) env_slices_Contains_string_string_ok (by kernel_rfl) (by kernel_rfl) (fun n L h => by cases h) F_slices_Contains_string_string_eq

noncomputable def F_impl_ContestedGlosses_1 (x : ByteArray × ((List ByteArray) × (List ByteArray))) : Option (Bool) :=
  match F_slices_Contains_string_string ((x.2.2, x.1)) with
  | none => none
  | some y1 =>
    some ((!y1))
noncomputable def c_impl_ContestedGlosses_1 : Con := { ps := [(.val, .str), (.val, (.ptr (.st (.pair (.slice .str) (.slice .str)))))], rs := [(.val, .bool)], F := F_impl_ContestedGlosses_1 }
noncomputable def env_impl_ContestedGlosses_1 : Env := { par := [], dp := false, settle := [], con := fun f => match f with | 37 => some c_slices_Contains_string_string | _ => none, clo := fun _ => none, T := tinf Try.prog }
noncomputable def loops_impl_ContestedGlosses_1 : Nat → Option Loop := fun n => none
theorem F_impl_ContestedGlosses_1_eq (x : ByteArray × ((List ByteArray) × (List ByteArray))) : Fev env_impl_ContestedGlosses_1 loops_impl_ContestedGlosses_1 c_impl_ContestedGlosses_1.ps c_impl_ContestedGlosses_1.rs Try.f36 x = F_impl_ContestedGlosses_1 x := by kernel_rfl
theorem env_impl_ContestedGlosses_1_ok : EnvOK Try.prog env_impl_ContestedGlosses_1 := envOK_of (fun f c h => by
  simp only [env_impl_ContestedGlosses_1] at h
  split at h
  · cases h; exact con_slices_Contains_string_string
  · cases h) (fun f c h => by cases h) rfl
theorem con_impl_ContestedGlosses_1 : ConOK Try.prog 36 c_impl_ContestedGlosses_1 := con_of_ev' (body := Try.f36.body.getD .skip) (Λ := loops_impl_ContestedGlosses_1) mixed Try.func36 (by kernel_rfl) (by kernel_rfl) env_impl_ContestedGlosses_1_ok (by kernel_rfl) (by kernel_rfl) (fun n L h => by cases h) F_impl_ContestedGlosses_1_eq

noncomputable def step_slices_IndexFunc_string_string_0 (s : (List ByteArray) × (ByteArray → Option Bool) × Int × Int) : Option (((List ByteArray) × (ByteArray → Option Bool) × Int × Int) ⊕ ((Int) ⊕ (Unit))) :=
  bif (decide (s.2.2.2 < s.2.2.1)) then
    bif decide (0 ≤ s.2.2.2) && decide (s.2.2.2 < (s.1.length : Int)) then
      match s.2.1 ((s.1.getD (s.2.2.2).toNat ByteArray.empty)) with
      | none => none
      | some y3 =>
        bif y3 then
          some (.inr (.inl (s.2.2.2)))
        else
          let v4 := IntKind.i64.wrap (s.2.2.2 + 1)
          some (.inl ((s.1, (s.2.1, s.2.2.1, v4))))
    else none
  else
    some (.inr (.inr (())))
def pat_slices_IndexFunc_string_string_0 : Pat := { tmps := [.v (.slice .str), .v (.fn .str .bool), .any, .any, .any, .any, .any, .v (.int .i64), .v (.int .i64), .any, .any, .any, .any, .any, .any, .any, .any, .any, .any], blks := [] }
def outs_slices_IndexFunc_string_string_0 : List (Exit × Pat) := [(.ret, { tmps := [.any, .any, .any, .any, .v (.int .i64), .any, .any, .any, .any, .any, .any, .any, .any, .any, .any, .any, .any, .any, .any], blks := [] }), (.exit 0, { tmps := [.any, .any, .any, .any, .any, .any, .any, .any, .any, .any, .any, .any, .any, .any, .any, .any, .any, .any, .any], blks := [] })]
noncomputable def F_slices_IndexFunc_string_string (x : (List ByteArray) × (ByteArray → Option Bool)) : Option (Int) :=
  match runL step_slices_IndexFunc_string_string_0 ((x.1, (x.2, (x.1.length : Int), 0))) with
  | none => none
  | some (.inl o5) =>
    some (o5)
  | some (.inr o5) =>
    some ((-1))
noncomputable def c_slices_IndexFunc_string_string : Con := { ps := [(.val, (.slice .str)), (.val, (.fn .str .bool))], rs := [(.val, (.int .i64))], F := F_slices_IndexFunc_string_string }
noncomputable def env_slices_IndexFunc_string_string : Env := { par := [], dp := false, settle := [], con := fun _ => none, clo := fun _ => none, T := tinf Try.prog }
noncomputable def loops_slices_IndexFunc_string_string : Nat → Option Loop := fun n => match n with | 2 => some { pat := pat_slices_IndexFunc_string_string_0, outs := outs_slices_IndexFunc_string_string_0, run := runL (step_slices_IndexFunc_string_string_0) } | _ => none
theorem step_slices_IndexFunc_string_string_0_eq (s : (List ByteArray) × (ByteArray → Option Bool) × Int × Int) : stepEv env_slices_IndexFunc_string_string loops_slices_IndexFunc_string_string pat_slices_IndexFunc_string_string_0 outs_slices_IndexFunc_string_string_0 Try.f42 2 s = step_slices_IndexFunc_string_string_0 s := by kernel_rfl
theorem F_slices_IndexFunc_string_string_eq (x : (List ByteArray) × (ByteArray → Option Bool)) : Fev env_slices_IndexFunc_string_string loops_slices_IndexFunc_string_string c_slices_IndexFunc_string_string.ps c_slices_IndexFunc_string_string.rs Try.f42 x = F_slices_IndexFunc_string_string x := by kernel_rfl
theorem env_slices_IndexFunc_string_string_ok : EnvOK Try.prog env_slices_IndexFunc_string_string := envOK_of (fun f c h => by cases h) (fun f c h => by cases h) rfl
theorem con_slices_IndexFunc_string_string : ConOK Try.prog 42 c_slices_IndexFunc_string_string := con_of_ev' (body := Try.f42.body.getD .skip) (Λ := loops_slices_IndexFunc_string_string) mixed Try.func42 (by kernel_rfl) (by kernel_rfl) env_slices_IndexFunc_string_string_ok (by kernel_rfl) (by kernel_rfl) (fun n L h => by
  unfold loops_slices_IndexFunc_string_string at h
  split at h
  · cases h; exact fun s o ho => loop_ok (stepF := stepEv env_slices_IndexFunc_string_string loops_slices_IndexFunc_string_string pat_slices_IndexFunc_string_string_0 outs_slices_IndexFunc_string_string_0 Try.f42 2) (step_slices_IndexFunc_string_string_0_eq) ho
  · cases h) F_slices_IndexFunc_string_string_eq

noncomputable def step_slices_DeleteFunc_string_string_0 (s : (ByteArray → Option Bool) × Int × Int × (List ByteArray)) : Option (((ByteArray → Option Bool) × Int × Int × (List ByteArray)) ⊕ ((Int × (List ByteArray)))) :=
  bif (decide (s.2.2.1 < (s.2.2.2.length : Int))) then
    bif decide (0 ≤ s.2.2.1) && decide (s.2.2.1 < (s.2.2.2.length : Int)) then
      match s.1 ((s.2.2.2.getD (s.2.2.1).toNat ByteArray.empty)) with
      | none => none
      | some y8 =>
        bif (!y8) then
          bif decide (0 ≤ s.2.1) && decide (s.2.1 < (s.2.2.2.length : Int)) then
            let v9 := s.2.2.2.set (s.2.1).toNat ((s.2.2.2.getD (s.2.2.1).toNat ByteArray.empty))
            let v10 := IntKind.i64.wrap (s.2.1 + 1)
            let v11 := IntKind.i64.wrap (s.2.2.1 + 1)
            some (.inl ((s.1, (v10, v11, v9))))
          else none
        else
          let v12 := IntKind.i64.wrap (s.2.2.1 + 1)
          some (.inl ((s.1, (s.2.1, v12, s.2.2.2))))
    else none
  else
    some (.inr ((s.2.1, s.2.2.2)))
def pat_slices_DeleteFunc_string_string_0 : Pat := { tmps := [.own 62, .v (.fn .str .bool), .any, .any, .any, .v (.int .i64), .v (.int .i64), .any, .any, .any, .any, .any, .any, .any, .any, .any, .any, .any, .any, .any, .any, .any, .any, .any, .any, .any, .any, .any, .any, .any, .any, .any, .any, .any, .any, .any, .any, .any, .any, .any, .any, .any], blks := [(62, .row true .str)] }
def outs_slices_DeleteFunc_string_string_0 : List (Exit × Pat) := [(.exit 0, { tmps := [.own 62, .any, .any, .any, .any, .v (.int .i64), .any, .any, .any, .any, .any, .any, .any, .any, .any, .any, .any, .any, .any, .any, .any, .any, .any, .any, .any, .any, .any, .any, .any, .any, .any, .any, .any, .any, .any, .any, .any, .any, .any, .any, .any, .any], blks := [(62, .row true .str)] })]
noncomputable def F_slices_DeleteFunc_string_string (x : (List ByteArray) × (ByteArray → Option Bool)) : Option ((List ByteArray)) :=
  match F_slices_IndexFunc_string_string (x) with
  | none => none
  | some y1 =>
    bif ((y1 == (-1))) then
      some (x.1)
    else
      let v2 := IntKind.i64.wrap (y1 + 1)
      match runL step_slices_DeleteFunc_string_string_0 ((x.2, (y1, v2, x.1))) with
      | none => none
      | some o13 =>
        bif decide (0 ≤ o13.1) && decide (o13.1 ≤ (o13.2.length : Int)) && decide ((o13.2.length : Int) ≤ (o13.2.length : Int)) then
          bif decide ((o13.1).toNat + (((o13.2.length : Int)).toNat - (o13.1).toNat) ≤ o13.2.length) then
            let v14 := o13.2.take (o13.1).toNat ++ List.replicate (((o13.2.length : Int)).toNat - (o13.1).toNat) (ByteArray.empty) ++ o13.2.drop ((o13.1).toNat + (((o13.2.length : Int)).toNat - (o13.1).toNat))
            bif decide (0 ≤ (0 : Int)) && decide ((0 : Int) ≤ o13.1) && decide (o13.1 ≤ (v14.length : Int)) then
              some ((v14.take ((o13.1).toNat - ((0 : Int)).toNat)))
            else none
          else none
        else none
noncomputable def c_slices_DeleteFunc_string_string : Con := { ps := [(.eat true, (.slice .str)), (.val, (.fn .str .bool))], rs := [(.io true, (.slice .str))], F := F_slices_DeleteFunc_string_string }
noncomputable def env_slices_DeleteFunc_string_string : Env := { par := [62], dp := false, settle := [], con := fun f => match f with | 42 => some c_slices_IndexFunc_string_string | _ => none, clo := fun _ => none, T := tinf Try.prog }
noncomputable def loops_slices_DeleteFunc_string_string : Nat → Option Loop := fun n => match n with | 5 => some { pat := pat_slices_DeleteFunc_string_string_0, outs := outs_slices_DeleteFunc_string_string_0, run := runL (step_slices_DeleteFunc_string_string_0) } | _ => none
theorem step_slices_DeleteFunc_string_string_0_eq (s : (ByteArray → Option Bool) × Int × Int × (List ByteArray)) : stepEv env_slices_DeleteFunc_string_string loops_slices_DeleteFunc_string_string pat_slices_DeleteFunc_string_string_0 outs_slices_DeleteFunc_string_string_0 Try.f24 5 s = step_slices_DeleteFunc_string_string_0 s := by kernel_rfl
theorem F_slices_DeleteFunc_string_string_eq (x : (List ByteArray) × (ByteArray → Option Bool)) : Fev env_slices_DeleteFunc_string_string loops_slices_DeleteFunc_string_string c_slices_DeleteFunc_string_string.ps c_slices_DeleteFunc_string_string.rs Try.f24 x = F_slices_DeleteFunc_string_string x := by kernel_rfl
theorem env_slices_DeleteFunc_string_string_ok : EnvOK Try.prog env_slices_DeleteFunc_string_string := envOK_of (fun f c h => by
  simp only [env_slices_DeleteFunc_string_string] at h
  split at h
  · cases h; exact con_slices_IndexFunc_string_string
  · cases h) (fun f c h => by cases h) rfl
theorem con_slices_DeleteFunc_string_string : ConOK Try.prog 24 c_slices_DeleteFunc_string_string := con_of_ev' (body := Try.f24.body.getD .skip) (Λ := loops_slices_DeleteFunc_string_string) mixed Try.func24 (by kernel_rfl) (by kernel_rfl) env_slices_DeleteFunc_string_string_ok (by kernel_rfl) (by kernel_rfl) (fun n L h => by
  unfold loops_slices_DeleteFunc_string_string at h
  split at h
  · cases h; exact fun s o ho => loop_ok (stepF := stepEv env_slices_DeleteFunc_string_string loops_slices_DeleteFunc_string_string pat_slices_DeleteFunc_string_string_0 outs_slices_DeleteFunc_string_string_0 Try.f24 5) (step_slices_DeleteFunc_string_string_0_eq) ho
  · cases h) F_slices_DeleteFunc_string_string_eq

noncomputable def K_impl_ContestedGlosses_1 (q : ((List ByteArray) × (List ByteArray))) (x : ByteArray) : Option (Bool) := F_impl_ContestedGlosses_1 (x, q)
noncomputable def k_impl_ContestedGlosses_1 : CloCon := { caps := [(.st (.pair (.slice .str) (.slice .str)))], a := .str, r := .bool, F := K_impl_ContestedGlosses_1 }
theorem clo_impl_ContestedGlosses_1 : CloOK Try.prog 36 k_impl_ContestedGlosses_1 := clo_of_con k_impl_ContestedGlosses_1 F_impl_ContestedGlosses_1 con_impl_ContestedGlosses_1 rfl (fun kx x y h => ⟨y, h, rfl⟩)
noncomputable def step_impl_ContestedGlosses_0 (s : (List (Int × (Int × (ByteArray × (List Int))))) × Int × Int × (List ByteArray) × (List ByteArray)) : Option (((List (Int × (Int × (ByteArray × (List Int))))) × Int × Int × (List ByteArray) × (List ByteArray)) ⊕ (((List ByteArray) × (List ByteArray)))) :=
  bif (decide (s.2.2.1 < s.2.1)) then
    bif decide (0 ≤ s.2.2.1) && decide (s.2.2.1 < (s.1.length : Int)) then
      match F_impl_Proposal_passed (((s.1.getD (s.2.2.1).toNat (0, (0, ByteArray.empty, []))), 0)) with
      | none => none
      | some y16 =>
        bif y16 then
          bif ((s.1.getD (s.2.2.1).toNat (0, (0, ByteArray.empty, []))).2.1 == 0) then
            bif ((s.1.getD (s.2.2.1).toNat (0, (0, ByteArray.empty, []))).2.1 == (s.1.getD (s.2.2.1).toNat (0, (0, ByteArray.empty, []))).2.1) then
              bif decide ((s.2.2.2.1.length + [(s.1.getD (s.2.2.1).toNat (0, (0, ByteArray.empty, []))).2.2.1].length) * 16 ≤ 140737488355328) then
                let v17 := s.2.2.2.1 ++ [(s.1.getD (s.2.2.1).toNat (0, (0, ByteArray.empty, []))).2.2.1]
                bif ((s.1.getD (s.2.2.1).toNat (0, (0, ByteArray.empty, []))).2.1 == (s.1.getD (s.2.2.1).toNat (0, (0, ByteArray.empty, []))).2.1) then
                  bif ((s.1.getD (s.2.2.1).toNat (0, (0, ByteArray.empty, []))).2.1 == 0) then
                    let v18 := IntKind.i64.wrap (s.2.2.1 + 1)
                    some (.inl ((s.1, s.2.1, (v18, v17, s.2.2.2.2))))
                  else
                    bif ((s.1.getD (s.2.2.1).toNat (0, (0, ByteArray.empty, []))).2.1 == 1) then
                      let v19 := IntKind.i64.wrap (s.2.2.1 + 1)
                      none
                    else
                      none
                else none
              else none
            else none
          else
            bif ((s.1.getD (s.2.2.1).toNat (0, (0, ByteArray.empty, []))).2.1 == 1) then
              bif ((s.1.getD (s.2.2.1).toNat (0, (0, ByteArray.empty, []))).2.1 == (s.1.getD (s.2.2.1).toNat (0, (0, ByteArray.empty, []))).2.1) then
                bif decide ((s.2.2.2.2.length + [(s.1.getD (s.2.2.1).toNat (0, (0, ByteArray.empty, []))).2.2.1].length) * 16 ≤ 140737488355328) then
                  let v20 := s.2.2.2.2 ++ [(s.1.getD (s.2.2.1).toNat (0, (0, ByteArray.empty, []))).2.2.1]
                  bif ((s.1.getD (s.2.2.1).toNat (0, (0, ByteArray.empty, []))).2.1 == (s.1.getD (s.2.2.1).toNat (0, (0, ByteArray.empty, []))).2.1) then
                    bif ((s.1.getD (s.2.2.1).toNat (0, (0, ByteArray.empty, []))).2.1 == 0) then
                      let v21 := IntKind.i64.wrap (s.2.2.1 + 1)
                      none
                    else
                      bif ((s.1.getD (s.2.2.1).toNat (0, (0, ByteArray.empty, []))).2.1 == 1) then
                        let v22 := IntKind.i64.wrap (s.2.2.1 + 1)
                        some (.inl ((s.1, s.2.1, (v22, s.2.2.2.1, v20))))
                      else
                        none
                  else none
                else none
              else none
            else
              none
        else
          let v23 := IntKind.i64.wrap (s.2.2.1 + 1)
          some (.inl ((s.1, (s.2.1, v23, s.2.2.2))))
    else none
  else
    some (.inr ((s.2.2.2.2, s.2.2.2.1)))
def pat_impl_ContestedGlosses_0 : Pat := { tmps := [.any, .any, .any, .any, .any, .any, .ptr 384 0, .any, .any, .any, .any, .any, .any, .v (.slice (.st (.pair (.int .i64) (.pair (.int .i64) (.pair .str (.slice (.int .i64))))))), .v (.int .i64), .v (.int .i64), .any, .any, .any, .any, .any, .any, .any, .any, .any, .any, .any, .any, .any, .any, .any, .any, .any, .any, .any, .any, .any, .any], blks := [(384, .box [.own 1920, .own 1921]), (1920, .row true .str), (1921, .row true .str)] }
def outs_impl_ContestedGlosses_0 : List (Exit × Pat) := [(.exit 0, { tmps := [.any, .any, .any, .any, .any, .any, .ptr 384 0, .any, .any, .any, .any, .any, .any, .any, .any, .any, .any, .any, .any, .any, .any, .any, .any, .any, .any, .any, .any, .any, .any, .any, .any, .any, .any, .any, .any, .any, .any, .any], blks := [(384, .box [.own 1920, .own 1921]), (1921, .row true .str), (1920, .row true .str)] })]
noncomputable def F_impl_ContestedGlosses (x : (List (Int × (Int × (ByteArray × (List Int))))) × Int) : Option ((List ByteArray) × Bool) :=
  match F_impl_AreProposals (x) with
  | none => none
  | some y1 =>
    bif (!y1) then
      some (([], false))
    else
      match runL step_impl_ContestedGlosses_0 ((x.1, (x.1.length : Int), (0, [], []))) with
      | none => none
      | some o24 =>
        match F_impl_distinct_string (o24.2) with
        | none => none
        | some y25 =>
          match F_slices_DeleteFunc_string_string ((y25, (K_impl_ContestedGlosses_1 (o24.2, o24.1)))) with
          | none => none
          | some y26 =>
            some ((y26, true))
noncomputable def c_impl_ContestedGlosses : Con := { ps := [(.val, (.slice (.st (.pair (.int .i64) (.pair (.int .i64) (.pair .str (.slice (.int .i64)))))))), (.val, (.int .i64))], rs := [(.io true, (.slice .str)), (.val, .bool)], F := F_impl_ContestedGlosses }
noncomputable def env_impl_ContestedGlosses : Env := { par := [], dp := false, settle := [], con := fun f => match f with | 24 => some c_slices_DeleteFunc_string_string | 25 => some c_impl_distinct_string | 34 => some c_impl_AreProposals | 35 => some c_impl_Proposal_passed | _ => none, clo := fun f => match f with | 36 => some k_impl_ContestedGlosses_1 | _ => none, T := tinf Try.prog }
noncomputable def loops_impl_ContestedGlosses : Nat → Option Loop := fun n => match n with | 5 => some { pat := pat_impl_ContestedGlosses_0, outs := outs_impl_ContestedGlosses_0, run := runL (step_impl_ContestedGlosses_0) } | _ => none
theorem step_impl_ContestedGlosses_0_eq (s : (List (Int × (Int × (ByteArray × (List Int))))) × Int × Int × (List ByteArray) × (List ByteArray)) : stepEv env_impl_ContestedGlosses loops_impl_ContestedGlosses pat_impl_ContestedGlosses_0 outs_impl_ContestedGlosses_0 Try.f17 5 s = step_impl_ContestedGlosses_0 s := by kernel_rfl
theorem F_impl_ContestedGlosses_eq (x : (List (Int × (Int × (ByteArray × (List Int))))) × Int) : Fev env_impl_ContestedGlosses loops_impl_ContestedGlosses c_impl_ContestedGlosses.ps c_impl_ContestedGlosses.rs Try.f17 x = F_impl_ContestedGlosses x := by kernel_rfl
theorem env_impl_ContestedGlosses_ok : EnvOK Try.prog env_impl_ContestedGlosses := envOK_of (fun f c h => by
  simp only [env_impl_ContestedGlosses] at h
  split at h
  · cases h; exact con_slices_DeleteFunc_string_string
  · cases h; exact con_impl_distinct_string
  · cases h; exact con_impl_AreProposals
  · cases h; exact con_impl_Proposal_passed
  · cases h) (fun f c h => by
  simp only [env_impl_ContestedGlosses] at h
  split at h
  · cases h; exact clo_impl_ContestedGlosses_1
  · cases h) rfl
theorem con_impl_ContestedGlosses : ConOK Try.prog 17 c_impl_ContestedGlosses := con_of_ev' (body := Try.f17.body.getD .skip) (Λ := loops_impl_ContestedGlosses) mixed Try.func17 (by kernel_rfl) (by kernel_rfl) env_impl_ContestedGlosses_ok (by kernel_rfl) (by kernel_rfl) (fun n L h => by
  unfold loops_impl_ContestedGlosses at h
  split at h
  · cases h; exact fun s o ho => loop_ok (stepF := stepEv env_impl_ContestedGlosses loops_impl_ContestedGlosses pat_impl_ContestedGlosses_0 outs_impl_ContestedGlosses_0 Try.f17 5) (step_impl_ContestedGlosses_0_eq) ho
  · cases h) F_impl_ContestedGlosses_eq

noncomputable def step_laws_eqStringS_0 (s : (List ByteArray) × (List ByteArray) × Int) : Option (((List ByteArray) × (List ByteArray) × Int) ⊕ ((Bool) ⊕ (Unit))) :=
  bif (decide (s.2.2 < (s.1.length : Int))) then
    bif decide (0 ≤ s.2.2) && decide (s.2.2 < (s.1.length : Int)) then
      bif decide (0 ≤ s.2.2) && decide (s.2.2 < (s.2.1.length : Int)) then
        bif (!((s.1.getD (s.2.2).toNat ByteArray.empty).toList == (s.2.1.getD (s.2.2).toNat ByteArray.empty).toList)) then
          some (.inr (.inl (false)))
        else
          let v2 := IntKind.i64.wrap (s.2.2 + 1)
          some (.inl ((s.1, s.2.1, v2)))
      else none
    else none
  else
    some (.inr (.inr (())))
def pat_laws_eqStringS_0 : Pat := { tmps := [.v (.slice .str), .v (.slice .str), .any, .any, .any, .v (.int .i64), .any, .any, .any, .any, .any, .any, .any, .any, .any, .any, .any, .any, .any, .any, .any, .any, .any, .any, .any, .any], blks := [] }
def outs_laws_eqStringS_0 : List (Exit × Pat) := [(.ret, { tmps := [.any, .any, .any, .any, .v .bool, .any, .any, .any, .any, .any, .any, .any, .any, .any, .any, .any, .any, .any, .any, .any, .any, .any, .any, .any, .any, .any], blks := [] }), (.exit 0, { tmps := [.any, .any, .any, .any, .any, .any, .any, .any, .any, .any, .any, .any, .any, .any, .any, .any, .any, .any, .any, .any, .any, .any, .any, .any, .any, .any], blks := [] })]
noncomputable def F_laws_eqStringS (x : (List ByteArray) × (List ByteArray)) : Option (Bool) :=
  bif (((x.1.length : Int) != (x.2.length : Int))) then
    some (false)
  else
    match runL step_laws_eqStringS_0 ((x.1, x.2, 0)) with
    | none => none
    | some (.inl o3) =>
      some (o3)
    | some (.inr o3) =>
      some (true)
noncomputable def c_laws_eqStringS : Con := { ps := [(.val, (.slice .str)), (.val, (.slice .str))], rs := [(.val, .bool)], F := F_laws_eqStringS }
noncomputable def env_laws_eqStringS : Env := { par := [], dp := false, settle := [], con := fun _ => none, clo := fun _ => none, T := tinf Try.prog }
noncomputable def loops_laws_eqStringS : Nat → Option Loop := fun n => match n with | 4 => some { pat := pat_laws_eqStringS_0, outs := outs_laws_eqStringS_0, run := runL (step_laws_eqStringS_0) } | _ => none
theorem step_laws_eqStringS_0_eq (s : (List ByteArray) × (List ByteArray) × Int) : stepEv env_laws_eqStringS loops_laws_eqStringS pat_laws_eqStringS_0 outs_laws_eqStringS_0 Try.f9 4 s = step_laws_eqStringS_0 s := by kernel_rfl
theorem F_laws_eqStringS_eq (x : (List ByteArray) × (List ByteArray)) : Fev env_laws_eqStringS loops_laws_eqStringS c_laws_eqStringS.ps c_laws_eqStringS.rs Try.f9 x = F_laws_eqStringS x := by kernel_rfl
theorem env_laws_eqStringS_ok : EnvOK Try.prog env_laws_eqStringS := envOK_of (fun f c h => by cases h) (fun f c h => by cases h) rfl
theorem con_laws_eqStringS : ConOK Try.prog 9 c_laws_eqStringS := con_of_ev' (body := Try.f9.body.getD .skip) (Λ := loops_laws_eqStringS) mixed Try.func9 (by kernel_rfl) (by kernel_rfl) env_laws_eqStringS_ok (by kernel_rfl) (by kernel_rfl) (fun n L h => by
  unfold loops_laws_eqStringS at h
  split at h
  · cases h; exact fun s o ho => loop_ok (stepF := stepEv env_laws_eqStringS loops_laws_eqStringS pat_laws_eqStringS_0 outs_laws_eqStringS_0 Try.f9 4) (step_laws_eqStringS_0_eq) ho
  · cases h) F_laws_eqStringS_eq

noncomputable def step_laws_eqIntS_0 (s : (List Int) × (List Int) × Int) : Option (((List Int) × (List Int) × Int) ⊕ ((Bool) ⊕ (Unit))) :=
  bif (decide (s.2.2 < (s.1.length : Int))) then
    bif decide (0 ≤ s.2.2) && decide (s.2.2 < (s.1.length : Int)) then
      bif decide (0 ≤ s.2.2) && decide (s.2.2 < (s.2.1.length : Int)) then
        bif (((s.1.getD (s.2.2).toNat 0) != (s.2.1.getD (s.2.2).toNat 0))) then
          some (.inr (.inl (false)))
        else
          let v2 := IntKind.i64.wrap (s.2.2 + 1)
          some (.inl ((s.1, s.2.1, v2)))
      else none
    else none
  else
    some (.inr (.inr (())))
def pat_laws_eqIntS_0 : Pat := { tmps := [.v (.slice (.int .i64)), .v (.slice (.int .i64)), .any, .any, .any, .v (.int .i64), .any, .any, .any, .any, .any, .any, .any, .any, .any, .any, .any, .any, .any, .any, .any, .any, .any, .any, .any, .any], blks := [] }
def outs_laws_eqIntS_0 : List (Exit × Pat) := [(.ret, { tmps := [.any, .any, .any, .any, .v .bool, .any, .any, .any, .any, .any, .any, .any, .any, .any, .any, .any, .any, .any, .any, .any, .any, .any, .any, .any, .any, .any], blks := [] }), (.exit 0, { tmps := [.any, .any, .any, .any, .any, .any, .any, .any, .any, .any, .any, .any, .any, .any, .any, .any, .any, .any, .any, .any, .any, .any, .any, .any, .any, .any], blks := [] })]
noncomputable def F_laws_eqIntS (x : (List Int) × (List Int)) : Option (Bool) :=
  bif (((x.1.length : Int) != (x.2.length : Int))) then
    some (false)
  else
    match runL step_laws_eqIntS_0 ((x.1, x.2, 0)) with
    | none => none
    | some (.inl o3) =>
      some (o3)
    | some (.inr o3) =>
      some (true)
noncomputable def c_laws_eqIntS : Con := { ps := [(.val, (.slice (.int .i64))), (.val, (.slice (.int .i64)))], rs := [(.val, .bool)], F := F_laws_eqIntS }
noncomputable def env_laws_eqIntS : Env := { par := [], dp := false, settle := [], con := fun _ => none, clo := fun _ => none, T := tinf Try.prog }
noncomputable def loops_laws_eqIntS : Nat → Option Loop := fun n => match n with | 4 => some { pat := pat_laws_eqIntS_0, outs := outs_laws_eqIntS_0, run := runL (step_laws_eqIntS_0) } | _ => none
theorem step_laws_eqIntS_0_eq (s : (List Int) × (List Int) × Int) : stepEv env_laws_eqIntS loops_laws_eqIntS pat_laws_eqIntS_0 outs_laws_eqIntS_0 Try.f57 4 s = step_laws_eqIntS_0 s := by kernel_rfl
theorem F_laws_eqIntS_eq (x : (List Int) × (List Int)) : Fev env_laws_eqIntS loops_laws_eqIntS c_laws_eqIntS.ps c_laws_eqIntS.rs Try.f57 x = F_laws_eqIntS x := by kernel_rfl
theorem env_laws_eqIntS_ok : EnvOK Try.prog env_laws_eqIntS := envOK_of (fun f c h => by cases h) (fun f c h => by cases h) rfl
theorem con_laws_eqIntS : ConOK Try.prog 57 c_laws_eqIntS := con_of_ev' (body := Try.f57.body.getD .skip) (Λ := loops_laws_eqIntS) mixed Try.func57 (by kernel_rfl) (by kernel_rfl) env_laws_eqIntS_ok (by kernel_rfl) (by kernel_rfl) (fun n L h => by
  unfold loops_laws_eqIntS at h
  split at h
  · cases h; exact fun s o ho => loop_ok (stepF := stepEv env_laws_eqIntS loops_laws_eqIntS pat_laws_eqIntS_0 outs_laws_eqIntS_0 Try.f57 4) (step_laws_eqIntS_0_eq) ho
  · cases h) F_laws_eqIntS_eq

noncomputable def F_laws_eqProposal (x : (Int × (Int × (ByteArray × (List Int)))) × (Int × (Int × (ByteArray × (List Int))))) : Option (Bool) :=
  bif ((x.1.1 != x.2.1)) then
    some (false)
  else
    bif ((x.1.2.1 != x.2.2.1)) then
      some (false)
    else
      bif (!(x.1.2.2.1.toList == x.2.2.2.1.toList)) then
        some (false)
      else
        match F_laws_eqIntS ((x.1.2.2.2, x.2.2.2.2)) with
        | none => none
        | some y1 =>
          bif (!y1) then
            some (false)
          else
            some (true)
noncomputable def c_laws_eqProposal : Con := { ps := [(.val, (.st (.pair (.int .i64) (.pair (.int .i64) (.pair .str (.slice (.int .i64))))))), (.val, (.st (.pair (.int .i64) (.pair (.int .i64) (.pair .str (.slice (.int .i64)))))))], rs := [(.val, .bool)], F := F_laws_eqProposal }
noncomputable def env_laws_eqProposal : Env := { par := [], dp := false, settle := [], con := fun f => match f with | 57 => some c_laws_eqIntS | _ => none, clo := fun _ => none, T := tinf Try.prog }
noncomputable def loops_laws_eqProposal : Nat → Option Loop := fun n => none
theorem F_laws_eqProposal_eq (x : (Int × (Int × (ByteArray × (List Int)))) × (Int × (Int × (ByteArray × (List Int))))) : Fev env_laws_eqProposal loops_laws_eqProposal c_laws_eqProposal.ps c_laws_eqProposal.rs Try.f38 x = F_laws_eqProposal x := by kernel_rfl
theorem env_laws_eqProposal_ok : EnvOK Try.prog env_laws_eqProposal := envOK_of (fun f c h => by
  simp only [env_laws_eqProposal] at h
  split at h
  · cases h; exact con_laws_eqIntS
  · cases h) (fun f c h => by cases h) rfl
theorem con_laws_eqProposal : ConOK Try.prog 38 c_laws_eqProposal := con_of_ev' (body := Try.f38.body.getD .skip) (Λ := loops_laws_eqProposal) mixed Try.func38 (by kernel_rfl) (by kernel_rfl) env_laws_eqProposal_ok (by kernel_rfl) (by kernel_rfl) (fun n L h => by cases h) F_laws_eqProposal_eq

noncomputable def step_laws_eqProposalS_0 (s : (List (Int × (Int × (ByteArray × (List Int))))) × (List (Int × (Int × (ByteArray × (List Int))))) × Int) : Option (((List (Int × (Int × (ByteArray × (List Int))))) × (List (Int × (Int × (ByteArray × (List Int))))) × Int) ⊕ ((Bool) ⊕ (Unit))) :=
  bif (decide (s.2.2 < (s.1.length : Int))) then
    bif decide (0 ≤ s.2.2) && decide (s.2.2 < (s.1.length : Int)) then
      bif decide (0 ≤ s.2.2) && decide (s.2.2 < (s.2.1.length : Int)) then
        match F_laws_eqProposal (((s.1.getD (s.2.2).toNat (0, (0, ByteArray.empty, []))), (s.2.1.getD (s.2.2).toNat (0, (0, ByteArray.empty, []))))) with
        | none => none
        | some y3 =>
          bif (!y3) then
            some (.inr (.inl (false)))
          else
            let v4 := IntKind.i64.wrap (s.2.2 + 1)
            some (.inl ((s.1, s.2.1, v4)))
      else none
    else none
  else
    some (.inr (.inr (())))
def pat_laws_eqProposalS_0 : Pat := { tmps := [.v (.slice (.st (.pair (.int .i64) (.pair (.int .i64) (.pair .str (.slice (.int .i64))))))), .v (.slice (.st (.pair (.int .i64) (.pair (.int .i64) (.pair .str (.slice (.int .i64))))))), .any, .any, .any, .v (.int .i64), .any, .any, .any, .any, .any, .any, .any, .any, .any, .any, .any, .any, .any, .any, .any, .any, .any, .any, .any, .any, .any], blks := [] }
def outs_laws_eqProposalS_0 : List (Exit × Pat) := [(.ret, { tmps := [.any, .any, .any, .any, .v .bool, .any, .any, .any, .any, .any, .any, .any, .any, .any, .any, .any, .any, .any, .any, .any, .any, .any, .any, .any, .any, .any, .any], blks := [] }), (.exit 0, { tmps := [.any, .any, .any, .any, .any, .any, .any, .any, .any, .any, .any, .any, .any, .any, .any, .any, .any, .any, .any, .any, .any, .any, .any, .any, .any, .any, .any], blks := [] })]
noncomputable def F_laws_eqProposalS (x : (List (Int × (Int × (ByteArray × (List Int))))) × (List (Int × (Int × (ByteArray × (List Int)))))) : Option (Bool) :=
  bif (((x.1.length : Int) != (x.2.length : Int))) then
    some (false)
  else
    match runL step_laws_eqProposalS_0 ((x.1, x.2, 0)) with
    | none => none
    | some (.inl o5) =>
      some (o5)
    | some (.inr o5) =>
      some (true)
noncomputable def c_laws_eqProposalS : Con := { ps := [(.val, (.slice (.st (.pair (.int .i64) (.pair (.int .i64) (.pair .str (.slice (.int .i64)))))))), (.val, (.slice (.st (.pair (.int .i64) (.pair (.int .i64) (.pair .str (.slice (.int .i64))))))))], rs := [(.val, .bool)], F := F_laws_eqProposalS }
noncomputable def env_laws_eqProposalS : Env := { par := [], dp := false, settle := [], con := fun f => match f with | 38 => some c_laws_eqProposal | _ => none, clo := fun _ => none, T := tinf Try.prog }
noncomputable def loops_laws_eqProposalS : Nat → Option Loop := fun n => match n with | 4 => some { pat := pat_laws_eqProposalS_0, outs := outs_laws_eqProposalS_0, run := runL (step_laws_eqProposalS_0) } | _ => none
theorem step_laws_eqProposalS_0_eq (s : (List (Int × (Int × (ByteArray × (List Int))))) × (List (Int × (Int × (ByteArray × (List Int))))) × Int) : stepEv env_laws_eqProposalS loops_laws_eqProposalS pat_laws_eqProposalS_0 outs_laws_eqProposalS_0 Try.f18 4 s = step_laws_eqProposalS_0 s := by kernel_rfl
theorem F_laws_eqProposalS_eq (x : (List (Int × (Int × (ByteArray × (List Int))))) × (List (Int × (Int × (ByteArray × (List Int)))))) : Fev env_laws_eqProposalS loops_laws_eqProposalS c_laws_eqProposalS.ps c_laws_eqProposalS.rs Try.f18 x = F_laws_eqProposalS x := by kernel_rfl
theorem env_laws_eqProposalS_ok : EnvOK Try.prog env_laws_eqProposalS := envOK_of (fun f c h => by
  simp only [env_laws_eqProposalS] at h
  split at h
  · cases h; exact con_laws_eqProposal
  · cases h) (fun f c h => by cases h) rfl
theorem con_laws_eqProposalS : ConOK Try.prog 18 c_laws_eqProposalS := con_of_ev' (body := Try.f18.body.getD .skip) (Λ := loops_laws_eqProposalS) mixed Try.func18 (by kernel_rfl) (by kernel_rfl) env_laws_eqProposalS_ok (by kernel_rfl) (by kernel_rfl) (fun n L h => by
  unfold loops_laws_eqProposalS at h
  split at h
  · cases h; exact fun s o ho => loop_ok (stepF := stepEv env_laws_eqProposalS loops_laws_eqProposalS pat_laws_eqProposalS_0 outs_laws_eqProposalS_0 Try.f18 4) (step_laws_eqProposalS_0_eq) ho
  · cases h) F_laws_eqProposalS_eq

noncomputable def step_laws_markText_0 (s : Int × ByteArray) : Option ((Int × ByteArray) ⊕ ((ByteArray))) :=
  bif (decide (s.1 > 0)) then
    bif !decide (10 = 0) then
      let v5 := (s.1).tmod 10
      let v6 := IntKind.i64.wrap (48 + v5)
      let v7 := IntKind.u8.wrap v6
      bif decide ((bytesStr [v7]).size + s.2.size ≤ 9223372036854775807) then
        bif !decide (10 = 0) then
          let v8 := IntKind.i64.wrap ((s.1).tdiv 10)
          some (.inl ((v8, ((bytesStr [v7]) ++ s.2))))
        else none
      else none
    else none
  else
    some (.inr (s.2))
def pat_laws_markText_0 : Pat := { tmps := [.v (.int .i64), .any, .any, .v .str, .any, .any, .any, .any, .any, .any, .any, .any, .any, .any, .any, .any, .any, .any, .any, .any], blks := [] }
def outs_laws_markText_0 : List (Exit × Pat) := [(.exit 0, { tmps := [.any, .any, .any, .v .str, .any, .any, .any, .any, .any, .any, .any, .any, .any, .any, .any, .any, .any, .any, .any, .any], blks := [] })]
noncomputable def F_laws_markText (x : Int) : Option (ByteArray) :=
  bif (decide (x ≤ 0)) then
    some ((⟨#[109, 48]⟩ : ByteArray))
  else
    match runL step_laws_markText_0 ((x, (⟨#[]⟩ : ByteArray))) with
    | none => none
    | some o9 =>
      bif decide ((⟨#[109]⟩ : ByteArray).size + o9.size ≤ 9223372036854775807) then
        some (((⟨#[109]⟩ : ByteArray) ++ o9))
      else none
noncomputable def c_laws_markText : Con := { ps := [(.val, (.int .i64))], rs := [(.val, .str)], F := F_laws_markText }
noncomputable def env_laws_markText : Env := { par := [], dp := false, settle := [], con := fun _ => none, clo := fun _ => none, T := tinf Try.prog }
noncomputable def loops_laws_markText : Nat → Option Loop := fun n => match n with | 4 => some { pat := pat_laws_markText_0, outs := outs_laws_markText_0, run := runL (step_laws_markText_0) } | _ => none
theorem step_laws_markText_0_eq (s : Int × ByteArray) : stepEv env_laws_markText loops_laws_markText pat_laws_markText_0 outs_laws_markText_0 Try.f28 4 s = step_laws_markText_0 s := by kernel_rfl
theorem F_laws_markText_eq (x : Int) : Fev env_laws_markText loops_laws_markText c_laws_markText.ps c_laws_markText.rs Try.f28 x = F_laws_markText x := by kernel_rfl
theorem env_laws_markText_ok : EnvOK Try.prog env_laws_markText := envOK_of (fun f c h => by cases h) (fun f c h => by cases h) rfl
theorem con_laws_markText : ConOK Try.prog 28 c_laws_markText := con_of_ev' (body := Try.f28.body.getD .skip) (Λ := loops_laws_markText) mixed Try.func28 (by kernel_rfl) (by kernel_rfl) env_laws_markText_ok (by kernel_rfl) (by kernel_rfl) (fun n L h => by
  unfold loops_laws_markText at h
  split at h
  · cases h; exact fun s o ho => loop_ok (stepF := stepEv env_laws_markText loops_laws_markText pat_laws_markText_0 outs_laws_markText_0 Try.f28 4) (step_laws_markText_0_eq) ho
  · cases h) F_laws_markText_eq

noncomputable def step_laws_markIntS_0 (s : Int × Int × (List Int)) : Option ((Int × Int × (List Int)) ⊕ ((Int × (List Int)))) :=
  bif (decide (s.2.1 < (s.2.2.length : Int))) then
    bif decide (0 ≤ s.2.1) && decide (s.2.1 < (s.2.2.length : Int)) then
      let v4 := s.2.2.set (s.2.1).toNat (s.1)
      let v5 := IntKind.i64.wrap (s.1 + 1)
      let v6 := IntKind.i64.wrap (s.2.1 + 1)
      some (.inl ((v5, v6, v4)))
    else none
  else
    some (.inr ((s.1, s.2.2)))
def pat_laws_markIntS_0 : Pat := { tmps := [.own 63, .v (.int .i64), .any, .any, .any, .v (.int .i64), .any, .any, .any, .any, .any, .any, .any, .any, .any, .any, .any, .any, .any], blks := [(63, .row true (.int .i64))] }
def outs_laws_markIntS_0 : List (Exit × Pat) := [(.exit 0, { tmps := [.any, .v (.int .i64), .any, .any, .any, .any, .any, .any, .any, .any, .any, .any, .any, .any, .any, .any, .any, .any, .any], blks := [(63, .row true (.int .i64))] })]
noncomputable def F_laws_markIntS (x : (List Int) × Int) : Option ((List Int) × Int) :=
  match runL step_laws_markIntS_0 ((x.2, 0, x.1)) with
  | none => none
  | some o7 =>
    some ((o7.2, o7.1))
noncomputable def c_laws_markIntS : Con := { ps := [(.io true, (.slice (.int .i64))), (.val, (.int .i64))], rs := [(.val, (.int .i64))], F := F_laws_markIntS }
noncomputable def env_laws_markIntS : Env := { par := [63], dp := false, settle := [], con := fun _ => none, clo := fun _ => none, T := tinf Try.prog }
noncomputable def loops_laws_markIntS : Nat → Option Loop := fun n => match n with | 2 => some { pat := pat_laws_markIntS_0, outs := outs_laws_markIntS_0, run := runL (step_laws_markIntS_0) } | _ => none
theorem step_laws_markIntS_0_eq (s : Int × Int × (List Int)) : stepEv env_laws_markIntS loops_laws_markIntS pat_laws_markIntS_0 outs_laws_markIntS_0 Try.f39 2 s = step_laws_markIntS_0 s := by kernel_rfl
theorem F_laws_markIntS_eq (x : (List Int) × Int) : Fev env_laws_markIntS loops_laws_markIntS c_laws_markIntS.ps c_laws_markIntS.rs Try.f39 x = F_laws_markIntS x := by kernel_rfl
theorem env_laws_markIntS_ok : EnvOK Try.prog env_laws_markIntS := envOK_of (fun f c h => by cases h) (fun f c h => by cases h) rfl
theorem con_laws_markIntS : ConOK Try.prog 39 c_laws_markIntS := con_of_ev' (body := Try.f39.body.getD .skip) (Λ := loops_laws_markIntS) mixed Try.func39 (by kernel_rfl) (by kernel_rfl) env_laws_markIntS_ok (by kernel_rfl) (by kernel_rfl) (fun n L h => by
  unfold loops_laws_markIntS at h
  split at h
  · cases h; exact fun s o ho => loop_ok (stepF := stepEv env_laws_markIntS loops_laws_markIntS pat_laws_markIntS_0 outs_laws_markIntS_0 Try.f39 2) (step_laws_markIntS_0_eq) ho
  · cases h) F_laws_markIntS_eq

noncomputable def step_laws_markProposalS_0 (s : Int × Int × (List (Int × (Int × (ByteArray × (List Int)))))) : Option ((Int × Int × (List (Int × (Int × (ByteArray × (List Int)))))) ⊕ ((Int × (List (Int × (Int × (ByteArray × (List Int)))))))) :=
  bif (decide (s.2.1 < (s.2.2.length : Int))) then
    bif decide (0 ≤ s.2.1) && decide (s.2.1 < (s.2.2.length : Int)) then
      let v11 := s.2.2.set (s.2.1).toNat ((s.1, (s.2.2.getD (s.2.1).toNat (0, (0, ByteArray.empty, []))).2))
      let v12 := IntKind.i64.wrap (s.1 + 1)
      bif decide (0 ≤ s.2.1) && decide (s.2.1 < (v11.length : Int)) then
        let v13 := v11.set (s.2.1).toNat (((v11.getD (s.2.1).toNat (0, (0, ByteArray.empty, []))).1, v12, (v11.getD (s.2.1).toNat (0, (0, ByteArray.empty, []))).2.2))
        let v14 := IntKind.i64.wrap (v12 + 1)
        match F_laws_markText (v14) with
        | none => none
        | some y15 =>
          bif decide (0 ≤ s.2.1) && decide (s.2.1 < (v13.length : Int)) then
            let v16 := v13.set (s.2.1).toNat (((v13.getD (s.2.1).toNat (0, (0, ByteArray.empty, []))).1, ((v13.getD (s.2.1).toNat (0, (0, ByteArray.empty, []))).2.1, y15, (v13.getD (s.2.1).toNat (0, (0, ByteArray.empty, []))).2.2.2)))
            let v17 := IntKind.i64.wrap (v14 + 1)
            bif decide (0 ≤ s.2.1) && decide (s.2.1 < (v16.length : Int)) then
              match F_laws_markIntS (((v16.getD (s.2.1).toNat (0, (0, ByteArray.empty, []))).2.2.2, v17)) with
              | none => none
              | some y18 =>
                let v19 := v16.set (s.2.1).toNat (((v16.getD (s.2.1).toNat (0, (0, ByteArray.empty, []))).1, ((v16.getD (s.2.1).toNat (0, (0, ByteArray.empty, []))).2.1, (v16.getD (s.2.1).toNat (0, (0, ByteArray.empty, []))).2.2.1, y18.1)))
                let v20 := IntKind.i64.wrap (s.2.1 + 1)
                some (.inl ((y18.2, v20, v19)))
            else none
          else none
      else none
    else none
  else
    some (.inr ((s.1, s.2.2)))
def pat_laws_markProposalS_0 : Pat := { tmps := [.own 63, .v (.int .i64), .any, .any, .any, .v (.int .i64), .any, .any, .any, .any, .any, .any, .any, .any, .any, .any, .any, .any, .any, .any, .any, .any, .any, .any, .any, .any, .any, .any, .any, .any, .any, .any, .any, .any, .any, .any, .any, .any, .any, .any, .any, .any], blks := [(63, .row true (.st (.pair (.int .i64) (.pair (.int .i64) (.pair .str (.slice (.int .i64)))))))] }
def outs_laws_markProposalS_0 : List (Exit × Pat) := [(.exit 0, { tmps := [.any, .v (.int .i64), .any, .any, .any, .any, .any, .any, .any, .any, .any, .any, .any, .any, .any, .any, .any, .any, .any, .any, .any, .any, .any, .any, .any, .any, .any, .any, .any, .any, .any, .any, .any, .any, .any, .any, .any, .any, .any, .any, .any, .any], blks := [(63, .row true (.st (.pair (.int .i64) (.pair (.int .i64) (.pair .str (.slice (.int .i64)))))))] })]
noncomputable def F_laws_markProposalS (x : (List (Int × (Int × (ByteArray × (List Int))))) × Int) : Option ((List (Int × (Int × (ByteArray × (List Int))))) × Int) :=
  match runL step_laws_markProposalS_0 ((x.2, 0, x.1)) with
  | none => none
  | some o21 =>
    some ((o21.2, o21.1))
noncomputable def c_laws_markProposalS : Con := { ps := [(.io true, (.slice (.st (.pair (.int .i64) (.pair (.int .i64) (.pair .str (.slice (.int .i64)))))))), (.val, (.int .i64))], rs := [(.val, (.int .i64))], F := F_laws_markProposalS }
noncomputable def env_laws_markProposalS : Env := { par := [63, 9961534], dp := false, settle := [], con := fun f => match f with | 28 => some c_laws_markText | 39 => some c_laws_markIntS | _ => none, clo := fun _ => none, T := tinf Try.prog }
noncomputable def loops_laws_markProposalS : Nat → Option Loop := fun n => match n with | 2 => some { pat := pat_laws_markProposalS_0, outs := outs_laws_markProposalS_0, run := runL (step_laws_markProposalS_0) } | _ => none
theorem step_laws_markProposalS_0_eq (s : Int × Int × (List (Int × (Int × (ByteArray × (List Int)))))) : stepEv env_laws_markProposalS loops_laws_markProposalS pat_laws_markProposalS_0 outs_laws_markProposalS_0 Try.f19 2 s = step_laws_markProposalS_0 s := by kernel_rfl
theorem F_laws_markProposalS_eq (x : (List (Int × (Int × (ByteArray × (List Int))))) × Int) : Fev env_laws_markProposalS loops_laws_markProposalS c_laws_markProposalS.ps c_laws_markProposalS.rs Try.f19 x = F_laws_markProposalS x := by kernel_rfl
theorem env_laws_markProposalS_ok : EnvOK Try.prog env_laws_markProposalS := envOK_of (fun f c h => by
  simp only [env_laws_markProposalS] at h
  split at h
  · cases h; exact con_laws_markText
  · cases h; exact con_laws_markIntS
  · cases h) (fun f c h => by cases h) rfl
theorem con_laws_markProposalS : ConOK Try.prog 19 c_laws_markProposalS := con_of_ev' (body := Try.f19.body.getD .skip) (Λ := loops_laws_markProposalS) mixed Try.func19 (by kernel_rfl) (by kernel_rfl) env_laws_markProposalS_ok (by kernel_rfl) (by kernel_rfl) (fun n L h => by
  unfold loops_laws_markProposalS at h
  split at h
  · cases h; exact fun s o ho => loop_ok (stepF := stepEv env_laws_markProposalS loops_laws_markProposalS pat_laws_markProposalS_0 outs_laws_markProposalS_0 Try.f19 2) (step_laws_markProposalS_0_eq) ho
  · cases h) F_laws_markProposalS_eq

noncomputable def step_laws_markStringS_0 (s : Int × Int × (List ByteArray)) : Option ((Int × Int × (List ByteArray)) ⊕ ((Int × (List ByteArray)))) :=
  bif (decide (s.2.1 < (s.2.2.length : Int))) then
    match F_laws_markText (s.1) with
    | none => none
    | some y5 =>
      bif decide (0 ≤ s.2.1) && decide (s.2.1 < (s.2.2.length : Int)) then
        let v6 := s.2.2.set (s.2.1).toNat (y5)
        let v7 := IntKind.i64.wrap (s.1 + 1)
        let v8 := IntKind.i64.wrap (s.2.1 + 1)
        some (.inl ((v7, v8, v6)))
      else none
  else
    some (.inr ((s.1, s.2.2)))
def pat_laws_markStringS_0 : Pat := { tmps := [.own 63, .v (.int .i64), .any, .any, .any, .v (.int .i64), .any, .any, .any, .any, .any, .any, .any, .any, .any, .any, .any, .any, .any, .any], blks := [(63, .row true .str)] }
def outs_laws_markStringS_0 : List (Exit × Pat) := [(.exit 0, { tmps := [.any, .v (.int .i64), .any, .any, .any, .any, .any, .any, .any, .any, .any, .any, .any, .any, .any, .any, .any, .any, .any, .any], blks := [(63, .row true .str)] })]
noncomputable def F_laws_markStringS (x : (List ByteArray) × Int) : Option ((List ByteArray) × Int) :=
  match runL step_laws_markStringS_0 ((x.2, 0, x.1)) with
  | none => none
  | some o9 =>
    some ((o9.2, o9.1))
noncomputable def c_laws_markStringS : Con := { ps := [(.io true, (.slice .str)), (.val, (.int .i64))], rs := [(.val, (.int .i64))], F := F_laws_markStringS }
noncomputable def env_laws_markStringS : Env := { par := [63], dp := false, settle := [], con := fun f => match f with | 28 => some c_laws_markText | _ => none, clo := fun _ => none, T := tinf Try.prog }
noncomputable def loops_laws_markStringS : Nat → Option Loop := fun n => match n with | 2 => some { pat := pat_laws_markStringS_0, outs := outs_laws_markStringS_0, run := runL (step_laws_markStringS_0) } | _ => none
theorem step_laws_markStringS_0_eq (s : Int × Int × (List ByteArray)) : stepEv env_laws_markStringS loops_laws_markStringS pat_laws_markStringS_0 outs_laws_markStringS_0 Try.f12 2 s = step_laws_markStringS_0 s := by kernel_rfl
theorem F_laws_markStringS_eq (x : (List ByteArray) × Int) : Fev env_laws_markStringS loops_laws_markStringS c_laws_markStringS.ps c_laws_markStringS.rs Try.f12 x = F_laws_markStringS x := by kernel_rfl
theorem env_laws_markStringS_ok : EnvOK Try.prog env_laws_markStringS := envOK_of (fun f c h => by
  simp only [env_laws_markStringS] at h
  split at h
  · cases h; exact con_laws_markText
  · cases h) (fun f c h => by cases h) rfl
theorem con_laws_markStringS : ConOK Try.prog 12 c_laws_markStringS := con_of_ev' (body := Try.f12.body.getD .skip) (Λ := loops_laws_markStringS) mixed Try.func12 (by kernel_rfl) (by kernel_rfl) env_laws_markStringS_ok (by kernel_rfl) (by kernel_rfl) (fun n L h => by
  unfold loops_laws_markStringS at h
  split at h
  · cases h; exact fun s o ho => loop_ok (stepF := stepEv env_laws_markStringS loops_laws_markStringS pat_laws_markStringS_0 outs_laws_markStringS_0 Try.f12 2) (step_laws_markStringS_0_eq) ho
  · cases h) F_laws_markStringS_eq

noncomputable def step_laws_heldStringS_0 (s : (List ByteArray) × Int × Int) : Option (((List ByteArray) × Int × Int) ⊕ ((Int) ⊕ (Int))) :=
  bif (decide (s.2.2 < (s.1.length : Int))) then
    bif decide (0 ≤ s.2.2) && decide (s.2.2 < (s.1.length : Int)) then
      match F_laws_markText (s.2.1) with
      | none => none
      | some y4 =>
        bif (!((s.1.getD (s.2.2).toNat ByteArray.empty).toList == y4.toList)) then
          some (.inr (.inl ((-1))))
        else
          let v5 := IntKind.i64.wrap (s.2.1 + 1)
          let v6 := IntKind.i64.wrap (s.2.2 + 1)
          some (.inl ((s.1, v5, v6)))
    else none
  else
    some (.inr (.inr (s.2.1)))
def pat_laws_heldStringS_0 : Pat := { tmps := [.v (.slice .str), .v (.int .i64), .any, .any, .any, .v (.int .i64), .any, .any, .any, .any, .any, .any, .any, .any, .any, .any, .any, .any, .any, .any, .any, .any], blks := [] }
def outs_laws_heldStringS_0 : List (Exit × Pat) := [(.ret, { tmps := [.any, .any, .any, .any, .v (.int .i64), .any, .any, .any, .any, .any, .any, .any, .any, .any, .any, .any, .any, .any, .any, .any, .any, .any], blks := [] }), (.exit 0, { tmps := [.any, .v (.int .i64), .any, .any, .any, .any, .any, .any, .any, .any, .any, .any, .any, .any, .any, .any, .any, .any, .any, .any, .any, .any], blks := [] })]
noncomputable def F_laws_heldStringS (x : (List ByteArray) × Int) : Option (Int) :=
  match runL step_laws_heldStringS_0 ((x.1, x.2, 0)) with
  | none => none
  | some (.inl o7) =>
    some (o7)
  | some (.inr o7) =>
    some (o7)
noncomputable def c_laws_heldStringS : Con := { ps := [(.val, (.slice .str)), (.val, (.int .i64))], rs := [(.val, (.int .i64))], F := F_laws_heldStringS }
noncomputable def env_laws_heldStringS : Env := { par := [], dp := false, settle := [], con := fun f => match f with | 28 => some c_laws_markText | _ => none, clo := fun _ => none, T := tinf Try.prog }
noncomputable def loops_laws_heldStringS : Nat → Option Loop := fun n => match n with | 2 => some { pat := pat_laws_heldStringS_0, outs := outs_laws_heldStringS_0, run := runL (step_laws_heldStringS_0) } | _ => none
theorem step_laws_heldStringS_0_eq (s : (List ByteArray) × Int × Int) : stepEv env_laws_heldStringS loops_laws_heldStringS pat_laws_heldStringS_0 outs_laws_heldStringS_0 Try.f13 2 s = step_laws_heldStringS_0 s := by kernel_rfl
theorem F_laws_heldStringS_eq (x : (List ByteArray) × Int) : Fev env_laws_heldStringS loops_laws_heldStringS c_laws_heldStringS.ps c_laws_heldStringS.rs Try.f13 x = F_laws_heldStringS x := by kernel_rfl
theorem env_laws_heldStringS_ok : EnvOK Try.prog env_laws_heldStringS := envOK_of (fun f c h => by
  simp only [env_laws_heldStringS] at h
  split at h
  · cases h; exact con_laws_markText
  · cases h) (fun f c h => by cases h) rfl
theorem con_laws_heldStringS : ConOK Try.prog 13 c_laws_heldStringS := con_of_ev' (body := Try.f13.body.getD .skip) (Λ := loops_laws_heldStringS) mixed Try.func13 (by kernel_rfl) (by kernel_rfl) env_laws_heldStringS_ok (by kernel_rfl) (by kernel_rfl) (fun n L h => by
  unfold loops_laws_heldStringS at h
  split at h
  · cases h; exact fun s o ho => loop_ok (stepF := stepEv env_laws_heldStringS loops_laws_heldStringS pat_laws_heldStringS_0 outs_laws_heldStringS_0 Try.f13 2) (step_laws_heldStringS_0_eq) ho
  · cases h) F_laws_heldStringS_eq

noncomputable def F_laws_FnExactContestedGlosses (x : (List (Int × (Int × (ByteArray × (List Int))))) × Int) : Option (Bool) :=
  match F_laws_szProposalS ((x.1, 1048576)) with
  | none => none
  | some y1 =>
    bif (decide (y1 < 0)) then
      some (true)
    else
      match F_laws_toProposalS (x.1) with
      | none => none
      | some y2 =>
        match F_spec_ContestedGlosses ((y2, x.2)) with
        | none => none
        | some y3 =>
          match F_laws_toProposalS (x.1) with
          | none => none
          | some y4 =>
            match F_impl_ContestedGlosses ((y4, x.2)) with
            | none => none
            | some y5 =>
              match F_laws_eqStringS ((y5.1, y3.1)) with
              | none => none
              | some y6 =>
                bif (!y6) then
                  some (false)
                else
                  bif (!(y5.2 == y3.2)) then
                    some (false)
                  else
                    match F_laws_toProposalS (x.1) with
                    | none => none
                    | some y7 =>
                      match F_laws_eqProposalS ((y4, y7)) with
                      | none => none
                      | some y8 =>
                        bif (!y8) then
                          some (false)
                        else
                          match F_laws_markProposalS ((y4, 1)) with
                          | none => none
                          | some y9 =>
                            bif (decide (y9.2 < 0)) then
                              some (false)
                            else
                              match F_laws_eqStringS ((y5.1, y3.1)) with
                              | none => none
                              | some y10 =>
                                bif (!y10) then
                                  some (false)
                                else
                                  bif (!(y5.2 == y3.2)) then
                                    some (false)
                                  else
                                    match F_laws_markStringS ((y5.1, 1)) with
                                    | none => none
                                    | some y11 =>
                                      match F_laws_heldStringS ((y11.1, 1)) with
                                      | none => none
                                      | some y12 =>
                                        bif (decide (y12 < 0)) then
                                          some (false)
                                        else
                                          bif ((y12 != y11.2)) then
                                            some (false)
                                          else
                                            match F_laws_toProposalS (x.1) with
                                            | none => none
                                            | some y13 =>
                                              match F_impl_ContestedGlosses ((y13, x.2)) with
                                              | none => none
                                              | some y14 =>
                                                match F_laws_eqStringS ((y14.1, y3.1)) with
                                                | none => none
                                                | some y15 =>
                                                  bif (!y15) then
                                                    some (false)
                                                  else
                                                    bif (!(y14.2 == y3.2)) then
                                                      some (false)
                                                    else
                                                      match F_laws_heldStringS ((y11.1, 1)) with
                                                      | none => none
                                                      | some y16 =>
                                                        bif (decide (y16 < 0)) then
                                                          some (false)
                                                        else
                                                          bif ((y16 != y11.2)) then
                                                            some (false)
                                                          else
                                                            some (true)
noncomputable def c_laws_FnExactContestedGlosses : Con := { ps := [(.val, (.slice (.st (.pair (.int .i64) (.pair (.int .i64) (.pair .str (.slice (.int .i64)))))))), (.val, (.int .i64))], rs := [(.val, .bool)], F := F_laws_FnExactContestedGlosses }
noncomputable def env_laws_FnExactContestedGlosses : Env := { par := [], dp := false, settle := [], con := fun f => match f with | 9 => some c_laws_eqStringS | 12 => some c_laws_markStringS | 13 => some c_laws_heldStringS | 14 => some c_laws_szProposalS | 15 => some c_spec_ContestedGlosses | 16 => some c_laws_toProposalS | 17 => some c_impl_ContestedGlosses | 18 => some c_laws_eqProposalS | 19 => some c_laws_markProposalS | _ => none, clo := fun _ => none, T := tinf Try.prog }
noncomputable def loops_laws_FnExactContestedGlosses : Nat → Option Loop := fun n => none
theorem F_laws_FnExactContestedGlosses_eq (x : (List (Int × (Int × (ByteArray × (List Int))))) × Int) : Fev env_laws_FnExactContestedGlosses loops_laws_FnExactContestedGlosses c_laws_FnExactContestedGlosses.ps c_laws_FnExactContestedGlosses.rs Try.f4 x = F_laws_FnExactContestedGlosses x := by kernel_rfl
theorem env_laws_FnExactContestedGlosses_ok : EnvOK Try.prog env_laws_FnExactContestedGlosses := envOK_of (fun f c h => by
  simp only [env_laws_FnExactContestedGlosses] at h
  split at h
  · cases h; exact con_laws_eqStringS
  · cases h; exact con_laws_markStringS
  · cases h; exact con_laws_heldStringS
  · cases h; exact con_laws_szProposalS
  · cases h; exact con_spec_ContestedGlosses
  · cases h; exact con_laws_toProposalS
  · cases h; exact con_impl_ContestedGlosses
  · cases h; exact con_laws_eqProposalS
  · cases h; exact con_laws_markProposalS
  · cases h) (fun f c h => by cases h) rfl
theorem con_laws_FnExactContestedGlosses : ConOK Try.prog 4 c_laws_FnExactContestedGlosses := con_of_ev' (body := Try.f4.body.getD .skip) (Λ := loops_laws_FnExactContestedGlosses) mixed Try.func4 (by kernel_rfl) (by kernel_rfl) env_laws_FnExactContestedGlosses_ok (by kernel_rfl) (by kernel_rfl) (fun n L h => by cases h) F_laws_FnExactContestedGlosses_eq

end Go.Proofs.Ytbblmkogbokblaa
