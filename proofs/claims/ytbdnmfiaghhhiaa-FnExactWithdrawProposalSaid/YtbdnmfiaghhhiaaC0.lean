/- Contracts of functions of the program, written by a program of this claim. No conditions. -/
import Derived.Test.YtbdnmfiaghhhiaaEvZk
import Derived.Test.YtbdnmfiaghhhiaaRows
import Derived.Shelf.Strings.Search1
import Derived.Test.YtbdnmfiaghhhiaaEvZl
import Derived.OwnWalk
import Derived.Lib.SliceRun
import Derived.WalkKit
import Derived.Deep.LoopGhost
import Derived.Lib.Walk
import Derived.Test.YtbdnmfiaghhhiaaEvZn
import Derived.Deep.RegionLaw
import Derived.Shelf.RegionOpenPlain
import Derived.Sort.WalkB12
set_option linter.unusedVariables false
set_option maxRecDepth 100000
namespace Go.Proofs.Ytbdnmfiaghhhiaa
open Go
theorem mixed : Try.prog.follows .mixedOrders = true := by kernel_rfl
noncomputable def F_laws_szIntS (x : (List Int) × Int) : Option (Int) :=
  let v1 := IntKind.i64.wrap (x.2 - (x.1.length : Int))
  bif (decide (v1 < 0)) then
    some ((-1))
  else
    some (v1)
noncomputable def c_laws_szIntS : Con := { ps := [(.val, (.slice (.int .i64))), (.val, (.int .i64))], rs := [(.val, (.int .i64))], F := F_laws_szIntS }
noncomputable def env_laws_szIntS : Env := { par := [], dp := false, settle := [], con := fun _ => none, clo := fun _ => none, T := tinf Try.prog }
noncomputable def loops_laws_szIntS : Nat → Option Loop := fun n => none
theorem F_laws_szIntS_eq (x : (List Int) × Int) : Fev env_laws_szIntS loops_laws_szIntS c_laws_szIntS.ps c_laws_szIntS.rs Try.f71 x = F_laws_szIntS x := by kernel_rfl
theorem env_laws_szIntS_ok : EnvOK Try.prog env_laws_szIntS := envOK_of (fun f c h => by cases h) (fun f c h => by cases h) rfl
theorem con_laws_szIntS : ConOK Try.prog 71 c_laws_szIntS := con_of_ev' (body := Try.f71.body.getD .skip) (Λ := loops_laws_szIntS) mixed Try.func71 (by kernel_rfl) (by kernel_rfl) env_laws_szIntS_ok (by kernel_rfl) (by kernel_rfl) (fun n L h => by cases h) F_laws_szIntS_eq

noncomputable def F_laws_szProposal (x : (Int × (Int × (ByteArray × (List Int)))) × Int) : Option (Int) :=
  let v1 := IntKind.i64.wrap (x.2 - (x.1.2.2.1.size : Int))
  bif (decide (v1 < 0)) then
    some ((-1))
  else
    match F_laws_szIntS ((x.1.2.2.2, v1)) with
    | none => none
    | some y2 =>
      bif (decide (y2 < 0)) then
        some ((-1))
      else
        some (y2)
noncomputable def c_laws_szProposal : Con := { ps := [(.val, (.st (.pair (.int .i64) (.pair (.int .i64) (.pair .str (.slice (.int .i64))))))), (.val, (.int .i64))], rs := [(.val, (.int .i64))], F := F_laws_szProposal }
noncomputable def env_laws_szProposal : Env := { par := [], dp := false, settle := [], con := fun f => match f with | 71 => some c_laws_szIntS | _ => none, clo := fun _ => none, T := tinf Try.prog }
noncomputable def loops_laws_szProposal : Nat → Option Loop := fun n => none
theorem F_laws_szProposal_eq (x : (Int × (Int × (ByteArray × (List Int)))) × Int) : Fev env_laws_szProposal loops_laws_szProposal c_laws_szProposal.ps c_laws_szProposal.rs Try.f39 x = F_laws_szProposal x := by kernel_rfl
theorem env_laws_szProposal_ok : EnvOK Try.prog env_laws_szProposal := envOK_of (fun f c h => by
  simp only [env_laws_szProposal] at h
  split at h
  · cases h; exact con_laws_szIntS
  · cases h) (fun f c h => by cases h) rfl
theorem con_laws_szProposal : ConOK Try.prog 39 c_laws_szProposal := con_of_ev' (body := Try.f39.body.getD .skip) (Λ := loops_laws_szProposal) mixed Try.func39 (by kernel_rfl) (by kernel_rfl) env_laws_szProposal_ok (by kernel_rfl) (by kernel_rfl) (fun n L h => by cases h) F_laws_szProposal_eq

noncomputable def step_laws_szProposalS_0 (s : (List (Int × (Int × (ByteArray × (List Int))))) × Int × Int) : Option (((List (Int × (Int × (ByteArray × (List Int))))) × Int × Int) ⊕ ((Int) ⊕ (Int))) :=
  bif (decide (s.2.2 < (s.1.length : Int))) then
    bif decide (0 ≤ s.2.2) && decide (s.2.2 < (s.1.length : Int)) then
      match F_laws_szProposal (((s.1.getD (s.2.2).toNat (0, (0, ByteArray.empty, []))), s.2.1)) with
      | none => none
      | some y4 =>
        bif (decide (y4 < 0)) then
          some (.inr (.inl ((-1))))
        else
          let v5 := IntKind.i64.wrap (s.2.2 + 1)
          some (.inl ((s.1, y4, v5)))
    else none
  else
    some (.inr (.inr (s.2.1)))
def pat_laws_szProposalS_0 : Pat := { tmps := [.v (.slice (.st (.pair (.int .i64) (.pair (.int .i64) (.pair .str (.slice (.int .i64))))))), .v (.int .i64), .any, .any, .any, .v (.int .i64), .any, .any, .any, .any, .any, .any, .any, .any, .any, .any, .any, .any, .any, .any, .any, .any, .any, .any, .any, .any, .any], blks := [] }
def outs_laws_szProposalS_0 : List (Exit × Pat) := [(.ret, { tmps := [.any, .any, .any, .any, .v (.int .i64), .any, .any, .any, .any, .any, .any, .any, .any, .any, .any, .any, .any, .any, .any, .any, .any, .any, .any, .any, .any, .any, .any], blks := [] }), (.exit 0, { tmps := [.any, .v (.int .i64), .any, .any, .any, .any, .any, .any, .any, .any, .any, .any, .any, .any, .any, .any, .any, .any, .any, .any, .any, .any, .any, .any, .any, .any, .any], blks := [] })]
noncomputable def F_laws_szProposalS (x : (List (Int × (Int × (ByteArray × (List Int))))) × Int) : Option (Int) :=
  let v1 := IntKind.i64.wrap (x.2 - (x.1.length : Int))
  bif (decide (v1 < 0)) then
    some ((-1))
  else
    match runL step_laws_szProposalS_0 ((x.1, v1, 0)) with
    | none => none
    | some (.inl o6) =>
      some (o6)
    | some (.inr o6) =>
      some (o6)
noncomputable def c_laws_szProposalS : Con := { ps := [(.val, (.slice (.st (.pair (.int .i64) (.pair (.int .i64) (.pair .str (.slice (.int .i64)))))))), (.val, (.int .i64))], rs := [(.val, (.int .i64))], F := F_laws_szProposalS }
noncomputable def env_laws_szProposalS : Env := { par := [], dp := false, settle := [], con := fun f => match f with | 39 => some c_laws_szProposal | _ => none, clo := fun _ => none, T := tinf Try.prog }
noncomputable def loops_laws_szProposalS : Nat → Option Loop := fun n => match n with | 5 => some { pat := pat_laws_szProposalS_0, outs := outs_laws_szProposalS_0, run := runL (step_laws_szProposalS_0) } | _ => none
theorem step_laws_szProposalS_0_eq (s : (List (Int × (Int × (ByteArray × (List Int))))) × Int × Int) : stepEv env_laws_szProposalS loops_laws_szProposalS pat_laws_szProposalS_0 outs_laws_szProposalS_0 Try.f10 5 s = step_laws_szProposalS_0 s := by kernel_rfl
theorem F_laws_szProposalS_eq (x : (List (Int × (Int × (ByteArray × (List Int))))) × Int) : Fev env_laws_szProposalS loops_laws_szProposalS c_laws_szProposalS.ps c_laws_szProposalS.rs Try.f10 x = F_laws_szProposalS x := by kernel_rfl
theorem env_laws_szProposalS_ok : EnvOK Try.prog env_laws_szProposalS := envOK_of (fun f c h => by
  simp only [env_laws_szProposalS] at h
  split at h
  · cases h; exact con_laws_szProposal
  · cases h) (fun f c h => by cases h) rfl
theorem con_laws_szProposalS : ConOK Try.prog 10 c_laws_szProposalS := con_of_ev' (body := Try.f10.body.getD .skip) (Λ := loops_laws_szProposalS) mixed Try.func10 (by kernel_rfl) (by kernel_rfl) env_laws_szProposalS_ok (by kernel_rfl) (by kernel_rfl) (fun n L h => by
  unfold loops_laws_szProposalS at h
  split at h
  · cases h; exact fun s o ho => loop_ok (stepF := stepEv env_laws_szProposalS loops_laws_szProposalS pat_laws_szProposalS_0 outs_laws_szProposalS_0 Try.f10 5) (step_laws_szProposalS_0_eq) ho
  · cases h) F_laws_szProposalS_eq

noncomputable def step_laws_toIntS_0 (s : (List Int) × Int × (List Int)) : Option (((List Int) × Int × (List Int)) ⊕ (((List Int)))) :=
  bif (decide (s.2.1 < (s.1.length : Int))) then
    bif decide (0 ≤ s.2.1) && decide (s.2.1 < (s.1.length : Int)) then
      bif decide (0 ≤ s.2.1) && decide (s.2.1 < (s.2.2.length : Int)) then
        let v3 := s.2.2.set (s.2.1).toNat ((s.1.getD (s.2.1).toNat 0))
        let v4 := IntKind.i64.wrap (s.2.1 + 1)
        some (.inl ((s.1, v4, v3)))
      else none
    else none
  else
    some (.inr (s.2.2))
def pat_laws_toIntS_0 : Pat := { tmps := [.v (.slice (.int .i64)), .any, .any, .own 448, .v (.int .i64), .any, .any, .any, .any, .any, .any, .any, .any, .any, .any, .any, .any, .any, .any, .any, .any, .any], blks := [(448, .row true (.int .i64))] }
def outs_laws_toIntS_0 : List (Exit × Pat) := [(.exit 0, { tmps := [.any, .any, .any, .own 448, .any, .any, .any, .any, .any, .any, .any, .any, .any, .any, .any, .any, .any, .any, .any, .any, .any, .any], blks := [(448, .row true (.int .i64))] })]
noncomputable def F_laws_toIntS (x : (List Int)) : Option ((List Int)) :=
  bif decide (0 ≤ (x.length : Int)) && decide ((x.length : Int) ≤ (x.length : Int)) && decide ((x.length : Int) * (8 : Int) ≤ 140737488355328) then
    match runL step_laws_toIntS_0 ((x, 0, (List.replicate ((x.length : Int)).toNat (0)))) with
    | none => none
    | some o5 =>
      some (o5)
  else none
noncomputable def c_laws_toIntS : Con := { ps := [(.val, (.slice (.int .i64)))], rs := [(.io true, (.slice (.int .i64)))], F := F_laws_toIntS }
noncomputable def env_laws_toIntS : Env := { par := [], dp := false, settle := [], con := fun _ => none, clo := fun _ => none, T := tinf Try.prog }
noncomputable def loops_laws_toIntS : Nat → Option Loop := fun n => match n with | 3 => some { pat := pat_laws_toIntS_0, outs := outs_laws_toIntS_0, run := runL (step_laws_toIntS_0) } | _ => none
theorem step_laws_toIntS_0_eq (s : (List Int) × Int × (List Int)) : stepEv env_laws_toIntS loops_laws_toIntS pat_laws_toIntS_0 outs_laws_toIntS_0 Try.f74 3 s = step_laws_toIntS_0 s := by kernel_rfl
theorem F_laws_toIntS_eq (x : (List Int)) : Fev env_laws_toIntS loops_laws_toIntS c_laws_toIntS.ps c_laws_toIntS.rs Try.f74 x = F_laws_toIntS x := by kernel_rfl
theorem env_laws_toIntS_ok : EnvOK Try.prog env_laws_toIntS := envOK_of (fun f c h => by cases h) (fun f c h => by cases h) rfl
theorem con_laws_toIntS : ConOK Try.prog 74 c_laws_toIntS := con_of_ev' (body := Try.f74.body.getD .skip) (Λ := loops_laws_toIntS) mixed Try.func74 (by kernel_rfl) (by kernel_rfl) env_laws_toIntS_ok (by kernel_rfl) (by kernel_rfl) (fun n L h => by
  unfold loops_laws_toIntS at h
  split at h
  · cases h; exact fun s o ho => loop_ok (stepF := stepEv env_laws_toIntS loops_laws_toIntS pat_laws_toIntS_0 outs_laws_toIntS_0 Try.f74 3) (step_laws_toIntS_0_eq) ho
  · cases h) F_laws_toIntS_eq

noncomputable def F_laws_toProposal (x : (Int × (Int × (ByteArray × (List Int))))) : Option ((Int × (Int × (ByteArray × (List Int))))) :=
  match F_laws_toIntS (x.2.2.2) with
  | none => none
  | some y1 =>
    some ((x.1, (x.2.1, x.2.2.1, y1)))
noncomputable def c_laws_toProposal : Con := { ps := [(.val, (.st (.pair (.int .i64) (.pair (.int .i64) (.pair .str (.slice (.int .i64)))))))], rs := [(.io true, (.st (.pair (.int .i64) (.pair (.int .i64) (.pair .str (.slice (.int .i64)))))))], F := F_laws_toProposal }
noncomputable def env_laws_toProposal : Env := { par := [], dp := false, settle := [], con := fun f => match f with | 74 => some c_laws_toIntS | _ => none, clo := fun _ => none, T := tinf Try.prog }
noncomputable def loops_laws_toProposal : Nat → Option Loop := fun n => none
theorem F_laws_toProposal_eq (x : (Int × (Int × (ByteArray × (List Int))))) : Fev env_laws_toProposal loops_laws_toProposal c_laws_toProposal.ps c_laws_toProposal.rs Try.f44 x = F_laws_toProposal x := by kernel_rfl
theorem env_laws_toProposal_ok : EnvOK Try.prog env_laws_toProposal := envOK_of (fun f c h => by
  simp only [env_laws_toProposal] at h
  split at h
  · cases h; exact con_laws_toIntS
  · cases h) (fun f c h => by cases h) rfl
theorem con_laws_toProposal : ConOK Try.prog 44 c_laws_toProposal := con_of_ev' (body := Try.f44.body.getD .skip) (Λ := loops_laws_toProposal) mixed Try.func44 (by kernel_rfl) (by kernel_rfl) env_laws_toProposal_ok (by kernel_rfl) (by kernel_rfl) (fun n L h => by cases h) F_laws_toProposal_eq

noncomputable def step_laws_toProposalS_0 (s : (List (Int × (Int × (ByteArray × (List Int))))) × Int × (List (Int × (Int × (ByteArray × (List Int)))))) : Option (((List (Int × (Int × (ByteArray × (List Int))))) × Int × (List (Int × (Int × (ByteArray × (List Int)))))) ⊕ (((List (Int × (Int × (ByteArray × (List Int)))))))) :=
  bif (decide (s.2.1 < (s.1.length : Int))) then
    bif decide (0 ≤ s.2.1) && decide (s.2.1 < (s.1.length : Int)) then
      match F_laws_toProposal ((s.1.getD (s.2.1).toNat (0, (0, ByteArray.empty, [])))) with
      | none => none
      | some y4 =>
        bif decide (0 ≤ s.2.1) && decide (s.2.1 < (s.2.2.length : Int)) then
          let v5 := s.2.2.set (s.2.1).toNat (y4)
          let v6 := IntKind.i64.wrap (s.2.1 + 1)
          some (.inl ((s.1, v6, v5)))
        else none
    else none
  else
    some (.inr (s.2.2))
def pat_laws_toProposalS_0 : Pat := { tmps := [.v (.slice (.st (.pair (.int .i64) (.pair (.int .i64) (.pair .str (.slice (.int .i64))))))), .any, .any, .own 448, .v (.int .i64), .any, .any, .any, .any, .any, .any, .any, .any, .any, .any, .any, .any, .any, .any, .any, .any, .any, .any], blks := [(448, .row true (.st (.pair (.int .i64) (.pair (.int .i64) (.pair .str (.slice (.int .i64)))))))] }
def outs_laws_toProposalS_0 : List (Exit × Pat) := [(.exit 0, { tmps := [.any, .any, .any, .own 448, .any, .any, .any, .any, .any, .any, .any, .any, .any, .any, .any, .any, .any, .any, .any, .any, .any, .any, .any], blks := [(448, .row true (.st (.pair (.int .i64) (.pair (.int .i64) (.pair .str (.slice (.int .i64)))))))] })]
noncomputable def F_laws_toProposalS (x : (List (Int × (Int × (ByteArray × (List Int)))))) : Option ((List (Int × (Int × (ByteArray × (List Int)))))) :=
  bif decide (0 ≤ (x.length : Int)) && decide ((x.length : Int) ≤ (x.length : Int)) && decide ((x.length : Int) * (56 : Int) ≤ 140737488355328) then
    match runL step_laws_toProposalS_0 ((x, 0, (List.replicate ((x.length : Int)).toNat ((0, (0, ByteArray.empty, [])))))) with
    | none => none
    | some o7 =>
      some (o7)
  else none
noncomputable def c_laws_toProposalS : Con := { ps := [(.val, (.slice (.st (.pair (.int .i64) (.pair (.int .i64) (.pair .str (.slice (.int .i64))))))))], rs := [(.io true, (.slice (.st (.pair (.int .i64) (.pair (.int .i64) (.pair .str (.slice (.int .i64))))))))], F := F_laws_toProposalS }
noncomputable def env_laws_toProposalS : Env := { par := [], dp := true, settle := [], con := fun f => match f with | 44 => some c_laws_toProposal | _ => none, clo := fun _ => none, T := tinf Try.prog }
noncomputable def loops_laws_toProposalS : Nat → Option Loop := fun n => match n with | 3 => some { pat := pat_laws_toProposalS_0, outs := outs_laws_toProposalS_0, run := runL (step_laws_toProposalS_0) } | _ => none
theorem step_laws_toProposalS_0_eq (s : (List (Int × (Int × (ByteArray × (List Int))))) × Int × (List (Int × (Int × (ByteArray × (List Int)))))) : stepEv env_laws_toProposalS loops_laws_toProposalS pat_laws_toProposalS_0 outs_laws_toProposalS_0 Try.f12 3 s = step_laws_toProposalS_0 s := by kernel_rfl
theorem F_laws_toProposalS_eq (x : (List (Int × (Int × (ByteArray × (List Int)))))) : Fev env_laws_toProposalS loops_laws_toProposalS c_laws_toProposalS.ps c_laws_toProposalS.rs Try.f12 x = F_laws_toProposalS x := by kernel_rfl
theorem env_laws_toProposalS_ok : EnvOK Try.prog env_laws_toProposalS := envOK_of (fun f c h => by
  simp only [env_laws_toProposalS] at h
  split at h
  · cases h; exact con_laws_toProposal
  · cases h) (fun f c h => by cases h) rfl
theorem con_laws_toProposalS : ConOK Try.prog 12 c_laws_toProposalS := con_of_ev' (body := Try.f12.body.getD .skip) (Λ := loops_laws_toProposalS) mixed Try.func12 (by kernel_rfl) (by kernel_rfl) env_laws_toProposalS_ok (by kernel_rfl) (by kernel_rfl) (fun n L h => by
  unfold loops_laws_toProposalS at h
  split at h
  · cases h; exact fun s o ho => loop_ok (stepF := stepEv env_laws_toProposalS loops_laws_toProposalS pat_laws_toProposalS_0 outs_laws_toProposalS_0 Try.f12 3) (step_laws_toProposalS_0_eq) ho
  · cases h) F_laws_toProposalS_eq

noncomputable def step_spec_ofFind_0 (s : Int × (List (Int × (Int × (ByteArray × (List Int))))) × Int × Int) : Option ((Int × (List (Int × (Int × (ByteArray × (List Int))))) × Int × Int) ⊕ ((Int) ⊕ (Unit))) :=
  bif (decide (s.2.2.2 < s.2.2.1)) then
    bif decide (0 ≤ s.2.2.2) && decide (s.2.2.2 < (s.2.1.length : Int)) then
      bif (((s.2.1.getD (s.2.2.2).toNat (0, (0, ByteArray.empty, []))).1 == s.1)) then
        some (.inr (.inl (s.2.2.2)))
      else
        let v2 := IntKind.i64.wrap (s.2.2.2 + 1)
        some (.inl ((s.1, (s.2.1, s.2.2.1, v2))))
    else none
  else
    some (.inr (.inr (())))
def pat_spec_ofFind_0 : Pat := { tmps := [.any, .v (.int .i64), .any, .any, .any, .any, .any, .v (.slice (.st (.pair (.int .i64) (.pair (.int .i64) (.pair .str (.slice (.int .i64))))))), .v (.int .i64), .v (.int .i64), .any, .any, .any, .any, .any, .any, .any, .any, .any, .any], blks := [] }
def outs_spec_ofFind_0 : List (Exit × Pat) := [(.ret, { tmps := [.any, .any, .any, .any, .v (.int .i64), .any, .any, .any, .any, .any, .any, .any, .any, .any, .any, .any, .any, .any, .any, .any], blks := [] }), (.exit 0, { tmps := [.any, .any, .any, .any, .any, .any, .any, .any, .any, .any, .any, .any, .any, .any, .any, .any, .any, .any, .any, .any], blks := [] })]
noncomputable def F_spec_ofFind (x : (List (Int × (Int × (ByteArray × (List Int))))) × Int) : Option (Int) :=
  match runL step_spec_ofFind_0 ((x.2, (x.1, (x.1.length : Int), 0))) with
  | none => none
  | some (.inl o3) =>
    some (o3)
  | some (.inr o3) =>
    some ((-1))
noncomputable def c_spec_ofFind : Con := { ps := [(.val, (.slice (.st (.pair (.int .i64) (.pair (.int .i64) (.pair .str (.slice (.int .i64)))))))), (.val, (.int .i64))], rs := [(.val, (.int .i64))], F := F_spec_ofFind }
noncomputable def env_spec_ofFind : Env := { par := [], dp := false, settle := [], con := fun _ => none, clo := fun _ => none, T := tinf Try.prog }
noncomputable def loops_spec_ofFind : Nat → Option Loop := fun n => match n with | 2 => some { pat := pat_spec_ofFind_0, outs := outs_spec_ofFind_0, run := runL (step_spec_ofFind_0) } | _ => none
theorem step_spec_ofFind_0_eq (s : Int × (List (Int × (Int × (ByteArray × (List Int))))) × Int × Int) : stepEv env_spec_ofFind loops_spec_ofFind pat_spec_ofFind_0 outs_spec_ofFind_0 Try.f40 2 s = step_spec_ofFind_0 s := by kernel_rfl
theorem F_spec_ofFind_eq (x : (List (Int × (Int × (ByteArray × (List Int))))) × Int) : Fev env_spec_ofFind loops_spec_ofFind c_spec_ofFind.ps c_spec_ofFind.rs Try.f40 x = F_spec_ofFind x := by kernel_rfl
theorem env_spec_ofFind_ok : EnvOK Try.prog env_spec_ofFind := envOK_of (fun f c h => by cases h) (fun f c h => by cases h) rfl
theorem con_spec_ofFind : ConOK Try.prog 40 c_spec_ofFind := con_of_ev' (body := Try.f40.body.getD .skip) (Λ := loops_spec_ofFind) mixed Try.func40 (by kernel_rfl) (by kernel_rfl) env_spec_ofFind_ok (by kernel_rfl) (by kernel_rfl) (fun n L h => by
  unfold loops_spec_ofFind at h
  split at h
  · cases h; exact fun s o ho => loop_ok (stepF := stepEv env_spec_ofFind loops_spec_ofFind pat_spec_ofFind_0 outs_spec_ofFind_0 Try.f40 2) (step_spec_ofFind_0_eq) ho
  · cases h) F_spec_ofFind_eq

noncomputable def F_spec_l1In (x : Int × Int × Int) : Option (Bool) :=
  bif (decide (x.1 ≥ x.2.1)) then
    some ((decide (x.1 ≤ x.2.2)))
  else
    some (false)
noncomputable def c_spec_l1In : Con := { ps := [(.val, (.int .i64)), (.val, (.int .i64)), (.val, (.int .i64))], rs := [(.val, .bool)], F := F_spec_l1In }
noncomputable def env_spec_l1In : Env := { par := [], dp := false, settle := [], con := fun _ => none, clo := fun _ => none, T := tinf Try.prog }
noncomputable def loops_spec_l1In : Nat → Option Loop := fun n => none
theorem F_spec_l1In_eq (x : Int × Int × Int) : Fev env_spec_l1In loops_spec_l1In c_spec_l1In.ps c_spec_l1In.rs Try.f55 x = F_spec_l1In x := by kernel_rfl
theorem env_spec_l1In_ok : EnvOK Try.prog env_spec_l1In := envOK_of (fun f c h => by cases h) (fun f c h => by cases h) rfl
theorem con_spec_l1In : ConOK Try.prog 55 c_spec_l1In := con_of_ev' (body := Try.f55.body.getD .skip) (Λ := loops_spec_l1In) mixed Try.func55 (by kernel_rfl) (by kernel_rfl) env_spec_l1In_ok (by kernel_rfl) (by kernel_rfl) (fun n L h => by cases h) F_spec_l1In_eq

noncomputable def step_spec_enGloss_0 (s : ByteArray × Int) : Option ((ByteArray × Int) ⊕ ((Bool) ⊕ (ByteArray))) :=
  bif (decide (s.2 < (s.1.size : Int))) then
    bif decide (0 ≤ s.2) && decide (s.2 < (s.1.size : Int)) then
      bif (decide ((byteAt s.1 (s.2).toNat) < 65)) then
        some (.inr (.inl (false)))
      else
        bif decide (0 ≤ s.2) && decide (s.2 < (s.1.size : Int)) then
          bif (decide ((byteAt s.1 (s.2).toNat) > 90)) then
            some (.inr (.inl (false)))
          else
            let v2 := IntKind.i64.wrap (s.2 + 1)
            some (.inl ((s.1, v2)))
        else none
    else none
  else
    some (.inr (.inr (s.1)))
def pat_spec_enGloss_0 : Pat := { tmps := [.v .str, .any, .any, .v (.int .i64), .any, .any, .any, .any, .any, .any, .any, .any, .any, .any, .any, .any, .any, .any, .any, .any, .any, .any, .any], blks := [] }
def outs_spec_enGloss_0 : List (Exit × Pat) := [(.ret, { tmps := [.any, .any, .v .bool, .any, .any, .any, .any, .any, .any, .any, .any, .any, .any, .any, .any, .any, .any, .any, .any, .any, .any, .any, .any], blks := [] }), (.exit 0, { tmps := [.v .str, .any, .any, .any, .any, .any, .any, .any, .any, .any, .any, .any, .any, .any, .any, .any, .any, .any, .any, .any, .any, .any, .any], blks := [] })]
noncomputable def F_spec_enGloss (x : ByteArray) : Option (Bool) :=
  match runL step_spec_enGloss_0 ((x, 0)) with
  | none => none
  | some (.inl o3) =>
    some (o3)
  | some (.inr o3) =>
    match F_spec_l1In (((o3.size : Int), 1, 8)) with
    | none => none
    | some y4 =>
      some (y4)
noncomputable def c_spec_enGloss : Con := { ps := [(.val, .str)], rs := [(.val, .bool)], F := F_spec_enGloss }
noncomputable def env_spec_enGloss : Env := { par := [], dp := false, settle := [], con := fun f => match f with | 55 => some c_spec_l1In | _ => none, clo := fun _ => none, T := tinf Try.prog }
noncomputable def loops_spec_enGloss : Nat → Option Loop := fun n => match n with | 2 => some { pat := pat_spec_enGloss_0, outs := outs_spec_enGloss_0, run := runL (step_spec_enGloss_0) } | _ => none
theorem step_spec_enGloss_0_eq (s : ByteArray × Int) : stepEv env_spec_enGloss loops_spec_enGloss pat_spec_enGloss_0 outs_spec_enGloss_0 Try.f92 2 s = step_spec_enGloss_0 s := by kernel_rfl
theorem F_spec_enGloss_eq (x : ByteArray) : Fev env_spec_enGloss loops_spec_enGloss c_spec_enGloss.ps c_spec_enGloss.rs Try.f92 x = F_spec_enGloss x := by kernel_rfl
theorem env_spec_enGloss_ok : EnvOK Try.prog env_spec_enGloss := envOK_of (fun f c h => by
  simp only [env_spec_enGloss] at h
  split at h
  · cases h; exact con_spec_l1In
  · cases h) (fun f c h => by cases h) rfl
theorem con_spec_enGloss : ConOK Try.prog 92 c_spec_enGloss := con_of_ev' (body := Try.f92.body.getD .skip) (Λ := loops_spec_enGloss) mixed Try.func92 (by kernel_rfl) (by kernel_rfl) env_spec_enGloss_ok (by kernel_rfl) (by kernel_rfl) (fun n L h => by
  unfold loops_spec_enGloss at h
  split at h
  · cases h; exact fun s o ho => loop_ok (stepF := stepEv env_spec_enGloss loops_spec_enGloss pat_spec_enGloss_0 outs_spec_enGloss_0 Try.f92 2) (step_spec_enGloss_0_eq) ho
  · cases h) F_spec_enGloss_eq

noncomputable def step_spec_l1All_0 (s : Int × Int × (List Int) × Int × Int) : Option ((Int × Int × (List Int) × Int × Int) ⊕ ((Bool) ⊕ (Unit))) :=
  bif (decide (s.2.2.2.2 < s.2.2.2.1)) then
    bif decide (0 ≤ s.2.2.2.2) && decide (s.2.2.2.2 < (s.2.2.1.length : Int)) then
      match F_spec_l1In (((s.2.2.1.getD (s.2.2.2.2).toNat 0), s.1, s.2.1)) with
      | none => none
      | some y3 =>
        bif (!y3) then
          some (.inr (.inl (false)))
        else
          let v4 := IntKind.i64.wrap (s.2.2.2.2 + 1)
          some (.inl ((s.1, s.2.1, (s.2.2.1, s.2.2.2.1, v4))))
    else none
  else
    some (.inr (.inr (())))
def pat_spec_l1All_0 : Pat := { tmps := [.any, .v (.int .i64), .v (.int .i64), .any, .any, .any, .any, .any, .any, .v (.slice (.int .i64)), .v (.int .i64), .v (.int .i64), .any, .any, .any, .any, .any, .any, .any, .any, .any], blks := [] }
def outs_spec_l1All_0 : List (Exit × Pat) := [(.ret, { tmps := [.any, .any, .any, .any, .any, .any, .v .bool, .any, .any, .any, .any, .any, .any, .any, .any, .any, .any, .any, .any, .any, .any], blks := [] }), (.exit 0, { tmps := [.any, .any, .any, .any, .any, .any, .any, .any, .any, .any, .any, .any, .any, .any, .any, .any, .any, .any, .any, .any, .any], blks := [] })]
noncomputable def F_spec_l1All (x : (List Int) × Int × Int) : Option (Bool) :=
  match runL step_spec_l1All_0 ((x.2.1, x.2.2, (x.1, (x.1.length : Int), 0))) with
  | none => none
  | some (.inl o5) =>
    some (o5)
  | some (.inr o5) =>
    some (true)
noncomputable def c_spec_l1All : Con := { ps := [(.val, (.slice (.int .i64))), (.val, (.int .i64)), (.val, (.int .i64))], rs := [(.val, .bool)], F := F_spec_l1All }
noncomputable def env_spec_l1All : Env := { par := [], dp := false, settle := [], con := fun f => match f with | 55 => some c_spec_l1In | _ => none, clo := fun _ => none, T := tinf Try.prog }
noncomputable def loops_spec_l1All : Nat → Option Loop := fun n => match n with | 2 => some { pat := pat_spec_l1All_0, outs := outs_spec_l1All_0, run := runL (step_spec_l1All_0) } | _ => none
theorem step_spec_l1All_0_eq (s : Int × Int × (List Int) × Int × Int) : stepEv env_spec_l1All loops_spec_l1All pat_spec_l1All_0 outs_spec_l1All_0 Try.f93 2 s = step_spec_l1All_0 s := by kernel_rfl
theorem F_spec_l1All_eq (x : (List Int) × Int × Int) : Fev env_spec_l1All loops_spec_l1All c_spec_l1All.ps c_spec_l1All.rs Try.f93 x = F_spec_l1All x := by kernel_rfl
theorem env_spec_l1All_ok : EnvOK Try.prog env_spec_l1All := envOK_of (fun f c h => by
  simp only [env_spec_l1All] at h
  split at h
  · cases h; exact con_spec_l1In
  · cases h) (fun f c h => by cases h) rfl
theorem con_spec_l1All : ConOK Try.prog 93 c_spec_l1All := con_of_ev' (body := Try.f93.body.getD .skip) (Λ := loops_spec_l1All) mixed Try.func93 (by kernel_rfl) (by kernel_rfl) env_spec_l1All_ok (by kernel_rfl) (by kernel_rfl) (fun n L h => by
  unfold loops_spec_l1All at h
  split at h
  · cases h; exact fun s o ho => loop_ok (stepF := stepEv env_spec_l1All loops_spec_l1All pat_spec_l1All_0 outs_spec_l1All_0 Try.f93 2) (step_spec_l1All_0_eq) ho
  · cases h) F_spec_l1All_eq

noncomputable def F_spec_ofOne (x : (Int × (Int × (ByteArray × (List Int)))) × Int) : Option (Bool) :=
  match F_spec_l1In ((x.1.1, 1, 999)) with
  | none => none
  | some y1 =>
    bif y1 then
      match F_spec_l1In ((x.1.2.1, 0, 1)) with
      | none => none
      | some y2 =>
        bif y2 then
          match F_spec_enGloss (x.1.2.2.1) with
          | none => none
          | some y3 =>
            bif y3 then
              bif (((x.1.2.2.2.length : Int) == x.2)) then
                match F_spec_l1All ((x.1.2.2.2, (-1), 1)) with
                | none => none
                | some y4 =>
                  some (y4)
              else
                some (false)
            else
              some (false)
        else
          some (false)
    else
      some (false)
noncomputable def c_spec_ofOne : Con := { ps := [(.val, (.st (.pair (.int .i64) (.pair (.int .i64) (.pair .str (.slice (.int .i64))))))), (.val, (.int .i64))], rs := [(.val, .bool)], F := F_spec_ofOne }
noncomputable def env_spec_ofOne : Env := { par := [], dp := false, settle := [], con := fun f => match f with | 55 => some c_spec_l1In | 92 => some c_spec_enGloss | 93 => some c_spec_l1All | _ => none, clo := fun _ => none, T := tinf Try.prog }
noncomputable def loops_spec_ofOne : Nat → Option Loop := fun n => none
theorem F_spec_ofOne_eq (x : (Int × (Int × (ByteArray × (List Int)))) × Int) : Fev env_spec_ofOne loops_spec_ofOne c_spec_ofOne.ps c_spec_ofOne.rs Try.f72 x = F_spec_ofOne x := by kernel_rfl
theorem env_spec_ofOne_ok : EnvOK Try.prog env_spec_ofOne := envOK_of (fun f c h => by
  simp only [env_spec_ofOne] at h
  split at h
  · cases h; exact con_spec_l1In
  · cases h; exact con_spec_enGloss
  · cases h; exact con_spec_l1All
  · cases h) (fun f c h => by cases h) rfl
theorem con_spec_ofOne : ConOK Try.prog 72 c_spec_ofOne := con_of_ev' (body := Try.f72.body.getD .skip) (Λ := loops_spec_ofOne) mixed Try.func72 (by kernel_rfl) (by kernel_rfl) env_spec_ofOne_ok (by kernel_rfl) (by kernel_rfl) (fun n L h => by cases h) F_spec_ofOne_eq

noncomputable def F_spec_ofMembers (x : Int) : Option (Bool) :=
  match F_spec_l1In ((x, 1, 7)) with
  | none => none
  | some y1 =>
    some (y1)
noncomputable def c_spec_ofMembers : Con := { ps := [(.val, (.int .i64))], rs := [(.val, .bool)], F := F_spec_ofMembers }
noncomputable def env_spec_ofMembers : Env := { par := [], dp := false, settle := [], con := fun f => match f with | 55 => some c_spec_l1In | _ => none, clo := fun _ => none, T := tinf Try.prog }
noncomputable def loops_spec_ofMembers : Nat → Option Loop := fun n => none
theorem F_spec_ofMembers_eq (x : Int) : Fev env_spec_ofMembers loops_spec_ofMembers c_spec_ofMembers.ps c_spec_ofMembers.rs Try.f73 x = F_spec_ofMembers x := by kernel_rfl
theorem env_spec_ofMembers_ok : EnvOK Try.prog env_spec_ofMembers := envOK_of (fun f c h => by
  simp only [env_spec_ofMembers] at h
  split at h
  · cases h; exact con_spec_l1In
  · cases h) (fun f c h => by cases h) rfl
theorem con_spec_ofMembers : ConOK Try.prog 73 c_spec_ofMembers := con_of_ev' (body := Try.f73.body.getD .skip) (Λ := loops_spec_ofMembers) mixed Try.func73 (by kernel_rfl) (by kernel_rfl) env_spec_ofMembers_ok (by kernel_rfl) (by kernel_rfl) (fun n L h => by cases h) F_spec_ofMembers_eq

noncomputable def step_spec_ofGood_0 (s : (List (Int × (Int × (ByteArray × (List Int))))) × Int × (List (Int × (Int × (ByteArray × (List Int))))) × Int × Int) : Option (((List (Int × (Int × (ByteArray × (List Int))))) × Int × (List (Int × (Int × (ByteArray × (List Int))))) × Int × Int) ⊕ ((Bool) ⊕ ((List (Int × (Int × (ByteArray × (List Int))))) × Int))) :=
  bif (decide (s.2.2.2.2 < s.2.2.2.1)) then
    bif decide (0 ≤ s.2.2.2.2) && decide (s.2.2.2.2 < (s.2.2.1.length : Int)) then
      match F_spec_ofOne (((s.2.2.1.getD (s.2.2.2.2).toNat (0, (0, ByteArray.empty, []))), s.2.1)) with
      | none => none
      | some y5 =>
        bif (!y5) then
          some (.inr (.inl (false)))
        else
          bif (decide (s.2.2.2.2 > 0)) then
            let v6 := IntKind.i64.wrap (s.2.2.2.2 - 1)
            bif decide (0 ≤ v6) && decide (v6 < (s.1.length : Int)) then
              bif (decide ((s.1.getD (v6).toNat (0, (0, ByteArray.empty, []))).1 ≥ (s.2.2.1.getD (s.2.2.2.2).toNat (0, (0, ByteArray.empty, []))).1)) then
                some (.inr (.inl (false)))
              else
                let v7 := IntKind.i64.wrap (s.2.2.2.2 + 1)
                some (.inl ((s.1, s.2.1, (s.2.2.1, s.2.2.2.1, v7))))
            else none
          else
            let v8 := IntKind.i64.wrap (s.2.2.2.2 + 1)
            some (.inl ((s.1, s.2.1, (s.2.2.1, s.2.2.2.1, v8))))
    else none
  else
    some (.inr (.inr ((s.1, s.2.1))))
def pat_spec_ofGood_0 : Pat := { tmps := [.v (.slice (.st (.pair (.int .i64) (.pair (.int .i64) (.pair .str (.slice (.int .i64))))))), .v (.int .i64), .any, .any, .any, .any, .any, .v (.slice (.st (.pair (.int .i64) (.pair (.int .i64) (.pair .str (.slice (.int .i64))))))), .v (.int .i64), .v (.int .i64), .any, .any, .any, .any, .any, .any, .any, .any, .any, .any, .any, .any, .any, .any, .any, .any, .any, .any, .any, .any, .any, .any, .any, .any, .any, .any, .any, .any, .any, .any, .any], blks := [] }
def outs_spec_ofGood_0 : List (Exit × Pat) := [(.ret, { tmps := [.any, .any, .any, .any, .v .bool, .any, .any, .any, .any, .any, .any, .any, .any, .any, .any, .any, .any, .any, .any, .any, .any, .any, .any, .any, .any, .any, .any, .any, .any, .any, .any, .any, .any, .any, .any, .any, .any, .any, .any, .any, .any], blks := [] }), (.exit 0, { tmps := [.v (.slice (.st (.pair (.int .i64) (.pair (.int .i64) (.pair .str (.slice (.int .i64))))))), .v (.int .i64), .any, .any, .any, .any, .any, .any, .any, .any, .any, .any, .any, .any, .any, .any, .any, .any, .any, .any, .any, .any, .any, .any, .any, .any, .any, .any, .any, .any, .any, .any, .any, .any, .any, .any, .any, .any, .any, .any, .any], blks := [] })]
noncomputable def F_spec_ofGood (x : (List (Int × (Int × (ByteArray × (List Int))))) × Int) : Option (Bool) :=
  match runL step_spec_ofGood_0 ((x.1, x.2, (x.1, (x.1.length : Int), 0))) with
  | none => none
  | some (.inl o9) =>
    some (o9)
  | some (.inr o9) =>
    match F_spec_ofMembers (o9.2) with
    | none => none
    | some y10 =>
      bif y10 then
        some ((decide ((o9.1.length : Int) ≤ 12)))
      else
        some (false)
noncomputable def c_spec_ofGood : Con := { ps := [(.val, (.slice (.st (.pair (.int .i64) (.pair (.int .i64) (.pair .str (.slice (.int .i64)))))))), (.val, (.int .i64))], rs := [(.val, .bool)], F := F_spec_ofGood }
noncomputable def env_spec_ofGood : Env := { par := [], dp := false, settle := [], con := fun f => match f with | 72 => some c_spec_ofOne | 73 => some c_spec_ofMembers | _ => none, clo := fun _ => none, T := tinf Try.prog }
noncomputable def loops_spec_ofGood : Nat → Option Loop := fun n => match n with | 2 => some { pat := pat_spec_ofGood_0, outs := outs_spec_ofGood_0, run := runL (step_spec_ofGood_0) } | _ => none
theorem step_spec_ofGood_0_eq (s : (List (Int × (Int × (ByteArray × (List Int))))) × Int × (List (Int × (Int × (ByteArray × (List Int))))) × Int × Int) : stepEv env_spec_ofGood loops_spec_ofGood pat_spec_ofGood_0 outs_spec_ofGood_0 Try.f41 2 s = step_spec_ofGood_0 s := by kernel_rfl
theorem F_spec_ofGood_eq (x : (List (Int × (Int × (ByteArray × (List Int))))) × Int) : Fev env_spec_ofGood loops_spec_ofGood c_spec_ofGood.ps c_spec_ofGood.rs Try.f41 x = F_spec_ofGood x := by kernel_rfl
theorem env_spec_ofGood_ok : EnvOK Try.prog env_spec_ofGood := envOK_of (fun f c h => by
  simp only [env_spec_ofGood] at h
  split at h
  · cases h; exact con_spec_ofOne
  · cases h; exact con_spec_ofMembers
  · cases h) (fun f c h => by cases h) rfl
theorem con_spec_ofGood : ConOK Try.prog 41 c_spec_ofGood := con_of_ev' (body := Try.f41.body.getD .skip) (Λ := loops_spec_ofGood) mixed Try.func41 (by kernel_rfl) (by kernel_rfl) env_spec_ofGood_ok (by kernel_rfl) (by kernel_rfl) (fun n L h => by
  unfold loops_spec_ofGood at h
  split at h
  · cases h; exact fun s o ho => loop_ok (stepF := stepEv env_spec_ofGood loops_spec_ofGood pat_spec_ofGood_0 outs_spec_ofGood_0 Try.f41 2) (step_spec_ofGood_0_eq) ho
  · cases h) F_spec_ofGood_eq

noncomputable def step_spec_ofCount_0 (s : Int × Int × (List Int) × Int × Int) : Option ((Int × Int × (List Int) × Int × Int) ⊕ ((Int))) :=
  bif (decide (s.2.2.2.2 < s.2.2.2.1)) then
    bif decide (0 ≤ s.2.2.2.2) && decide (s.2.2.2.2 < (s.2.2.1.length : Int)) then
      bif (((s.2.2.1.getD (s.2.2.2.2).toNat 0) == s.1)) then
        let v4 := IntKind.i64.wrap (s.2.1 + 1)
        let v5 := IntKind.i64.wrap (s.2.2.2.2 + 1)
        some (.inl ((s.1, v4, (s.2.2.1, s.2.2.2.1, v5))))
      else
        let v6 := IntKind.i64.wrap (s.2.2.2.2 + 1)
        some (.inl ((s.1, s.2.1, (s.2.2.1, s.2.2.2.1, v6))))
    else none
  else
    some (.inr (s.2.1))
def pat_spec_ofCount_0 : Pat := { tmps := [.any, .v (.int .i64), .any, .any, .any, .v (.int .i64), .any, .any, .any, .v (.slice (.int .i64)), .v (.int .i64), .v (.int .i64), .any, .any, .any, .any, .any, .any, .any, .any, .any, .any], blks := [] }
def outs_spec_ofCount_0 : List (Exit × Pat) := [(.exit 0, { tmps := [.any, .any, .any, .any, .any, .v (.int .i64), .any, .any, .any, .any, .any, .any, .any, .any, .any, .any, .any, .any, .any, .any, .any, .any], blks := [] })]
noncomputable def F_spec_ofCount (x : (Int × (Int × (ByteArray × (List Int)))) × Int) : Option (Int) :=
  match runL step_spec_ofCount_0 ((x.2, 0, (x.1.2.2.2, (x.1.2.2.2.length : Int), 0))) with
  | none => none
  | some o7 =>
    some (o7)
noncomputable def c_spec_ofCount : Con := { ps := [(.val, (.st (.pair (.int .i64) (.pair (.int .i64) (.pair .str (.slice (.int .i64))))))), (.val, (.int .i64))], rs := [(.val, (.int .i64))], F := F_spec_ofCount }
noncomputable def env_spec_ofCount : Env := { par := [], dp := false, settle := [], con := fun _ => none, clo := fun _ => none, T := tinf Try.prog }
noncomputable def loops_spec_ofCount : Nat → Option Loop := fun n => match n with | 3 => some { pat := pat_spec_ofCount_0, outs := outs_spec_ofCount_0, run := runL (step_spec_ofCount_0) } | _ => none
theorem step_spec_ofCount_0_eq (s : Int × Int × (List Int) × Int × Int) : stepEv env_spec_ofCount loops_spec_ofCount pat_spec_ofCount_0 outs_spec_ofCount_0 Try.f42 3 s = step_spec_ofCount_0 s := by kernel_rfl
theorem F_spec_ofCount_eq (x : (Int × (Int × (ByteArray × (List Int)))) × Int) : Fev env_spec_ofCount loops_spec_ofCount c_spec_ofCount.ps c_spec_ofCount.rs Try.f42 x = F_spec_ofCount x := by kernel_rfl
theorem env_spec_ofCount_ok : EnvOK Try.prog env_spec_ofCount := envOK_of (fun f c h => by cases h) (fun f c h => by cases h) rfl
theorem con_spec_ofCount : ConOK Try.prog 42 c_spec_ofCount := con_of_ev' (body := Try.f42.body.getD .skip) (Λ := loops_spec_ofCount) mixed Try.func42 (by kernel_rfl) (by kernel_rfl) env_spec_ofCount_ok (by kernel_rfl) (by kernel_rfl) (fun n L h => by
  unfold loops_spec_ofCount at h
  split at h
  · cases h; exact fun s o ho => loop_ok (stepF := stepEv env_spec_ofCount loops_spec_ofCount pat_spec_ofCount_0 outs_spec_ofCount_0 Try.f42 3) (step_spec_ofCount_0_eq) ho
  · cases h) F_spec_ofCount_eq

noncomputable def F_spec_l1Own (x : (List Int)) : Option ((List Int)) :=
  bif decide ((([] : List Int).length + x.length) * 8 ≤ 140737488355328) then
    let v1 := ([] : List Int) ++ x
    some (v1)
  else none
noncomputable def c_spec_l1Own : Con := { ps := [(.val, (.slice (.int .i64)))], rs := [(.io true, (.slice (.int .i64)))], F := F_spec_l1Own }
noncomputable def env_spec_l1Own : Env := { par := [], dp := false, settle := [], con := fun _ => none, clo := fun _ => none, T := tinf Try.prog }
noncomputable def loops_spec_l1Own : Nat → Option Loop := fun n => none
theorem F_spec_l1Own_eq (x : (List Int)) : Fev env_spec_l1Own loops_spec_l1Own c_spec_l1Own.ps c_spec_l1Own.rs Try.f80 x = F_spec_l1Own x := by kernel_rfl
theorem env_spec_l1Own_ok : EnvOK Try.prog env_spec_l1Own := envOK_of (fun f c h => by cases h) (fun f c h => by cases h) rfl
theorem con_spec_l1Own : ConOK Try.prog 80 c_spec_l1Own := con_of_ev' (body := Try.f80.body.getD .skip) (Λ := loops_spec_l1Own) mixed Try.func80 (by kernel_rfl) (by kernel_rfl) env_spec_l1Own_ok (by kernel_rfl) (by kernel_rfl) (fun n L h => by cases h) F_spec_l1Own_eq

noncomputable def step_spec_ofOwn_0 (s : (List (Int × (Int × (ByteArray × (List Int))))) × Int × Int × (List (Int × (Int × (ByteArray × (List Int)))))) : Option (((List (Int × (Int × (ByteArray × (List Int))))) × Int × Int × (List (Int × (Int × (ByteArray × (List Int)))))) ⊕ (((List (Int × (Int × (ByteArray × (List Int)))))))) :=
  bif (decide (s.2.2.1 < s.2.1)) then
    bif decide (0 ≤ s.2.2.1) && decide (s.2.2.1 < (s.1.length : Int)) then
      match F_spec_l1Own ((s.1.getD (s.2.2.1).toNat (0, (0, ByteArray.empty, []))).2.2.2) with
      | none => none
      | some y6 =>
        bif decide ((s.2.2.2.length + ([((s.1.getD (s.2.2.1).toNat (0, (0, ByteArray.empty, []))).1, ((s.1.getD (s.2.2.1).toNat (0, (0, ByteArray.empty, []))).2.1, (s.1.getD (s.2.2.1).toNat (0, (0, ByteArray.empty, []))).2.2.1, y6))] : List ((Int × (Int × (ByteArray × (List Int)))))).length) * 56 ≤ 140737488355328) && true && true then
          let v7 := s.2.2.2 ++ ([((s.1.getD (s.2.2.1).toNat (0, (0, ByteArray.empty, []))).1, ((s.1.getD (s.2.2.1).toNat (0, (0, ByteArray.empty, []))).2.1, (s.1.getD (s.2.2.1).toNat (0, (0, ByteArray.empty, []))).2.2.1, y6))] : List ((Int × (Int × (ByteArray × (List Int))))))
          let v8 := IntKind.i64.wrap (s.2.2.1 + 1)
          some (.inl ((s.1, (s.2.1, v8, v7))))
        else none
    else none
  else
    some (.inr (s.2.2.2))
def pat_spec_ofOwn_0 : Pat := { tmps := [.any, .any, .any, .own 1216, .any, .any, .v (.slice (.st (.pair (.int .i64) (.pair (.int .i64) (.pair .str (.slice (.int .i64))))))), .v (.int .i64), .v (.int .i64), .any, .any, .any, .any, .any, .any, .any, .any, .any, .any, .any, .any, .any], blks := [(1216, .row true (.st (.pair (.int .i64) (.pair (.int .i64) (.pair .str (.slice (.int .i64)))))))] }
def outs_spec_ofOwn_0 : List (Exit × Pat) := [(.exit 0, { tmps := [.any, .any, .any, .own 1216, .any, .any, .any, .any, .any, .any, .any, .any, .any, .any, .any, .any, .any, .any, .any, .any, .any, .any], blks := [(1216, .row true (.st (.pair (.int .i64) (.pair (.int .i64) (.pair .str (.slice (.int .i64)))))))] })]
noncomputable def F_spec_ofOwn (x : (List (Int × (Int × (ByteArray × (List Int)))))) : Option ((List (Int × (Int × (ByteArray × (List Int)))))) :=
  match runL step_spec_ofOwn_0 ((x, ((x.length : Int), 0, []))) with
  | none => none
  | some o9 =>
    some (o9)
noncomputable def c_spec_ofOwn : Con := { ps := [(.val, (.slice (.st (.pair (.int .i64) (.pair (.int .i64) (.pair .str (.slice (.int .i64))))))))], rs := [(.io true, (.slice (.st (.pair (.int .i64) (.pair (.int .i64) (.pair .str (.slice (.int .i64))))))))], F := F_spec_ofOwn }
noncomputable def env_spec_ofOwn : Env := { par := [], dp := true, settle := [], con := fun f => match f with | 80 => some c_spec_l1Own | _ => none, clo := fun _ => none, T := tinf Try.prog }
noncomputable def loops_spec_ofOwn : Nat → Option Loop := fun n => match n with | 3 => some { pat := pat_spec_ofOwn_0, outs := outs_spec_ofOwn_0, run := runL (step_spec_ofOwn_0) } | _ => none
theorem step_spec_ofOwn_0_eq (s : (List (Int × (Int × (ByteArray × (List Int))))) × Int × Int × (List (Int × (Int × (ByteArray × (List Int)))))) : stepEv env_spec_ofOwn loops_spec_ofOwn pat_spec_ofOwn_0 outs_spec_ofOwn_0 Try.f52 3 s = step_spec_ofOwn_0 s := by kernel_rfl
theorem F_spec_ofOwn_eq (x : (List (Int × (Int × (ByteArray × (List Int)))))) : Fev env_spec_ofOwn loops_spec_ofOwn c_spec_ofOwn.ps c_spec_ofOwn.rs Try.f52 x = F_spec_ofOwn x := by kernel_rfl
theorem env_spec_ofOwn_ok : EnvOK Try.prog env_spec_ofOwn := envOK_of (fun f c h => by
  simp only [env_spec_ofOwn] at h
  split at h
  · cases h; exact con_spec_l1Own
  · cases h) (fun f c h => by cases h) rfl
theorem con_spec_ofOwn : ConOK Try.prog 52 c_spec_ofOwn := con_of_ev' (body := Try.f52.body.getD .skip) (Λ := loops_spec_ofOwn) mixed Try.func52 (by kernel_rfl) (by kernel_rfl) env_spec_ofOwn_ok (by kernel_rfl) (by kernel_rfl) (fun n L h => by
  unfold loops_spec_ofOwn at h
  split at h
  · cases h; exact fun s o ho => loop_ok (stepF := stepEv env_spec_ofOwn loops_spec_ofOwn pat_spec_ofOwn_0 outs_spec_ofOwn_0 Try.f52 3) (step_spec_ofOwn_0_eq) ho
  · cases h) F_spec_ofOwn_eq

noncomputable def F_spec_WithdrawProposal (x : (List (Int × (Int × (ByteArray × (List Int))))) × Int × Int) : Option ((List (Int × (Int × (ByteArray × (List Int))))) × Bool) :=
  match F_spec_ofFind ((x.1, x.2.2)) with
  | none => none
  | some y1 =>
    match F_spec_ofGood ((x.1, x.2.1)) with
    | none => none
    | some y2 =>
      bif (!y2) then
        some (([], false))
      else
        bif (decide (y1 < 0)) then
          some (([], false))
        else
          bif decide (0 ≤ y1) && decide (y1 < (x.1.length : Int)) then
            match F_spec_ofCount (((x.1.getD (y1).toNat (0, (0, ByteArray.empty, []))), 0)) with
            | none => none
            | some y3 =>
              bif (decide (y3 < x.2.1)) then
                some (([], false))
              else
                bif decide (0 ≤ (0 : Int)) && decide ((0 : Int) ≤ y1) && decide (y1 ≤ (x.1.length : Int)) then
                  let v4 := IntKind.i64.wrap (y1 + 1)
                  bif decide (0 ≤ v4) && decide (v4 ≤ (x.1.length : Int)) && decide ((x.1.length : Int) ≤ (x.1.length : Int)) then
                    match F_spec_ofOwn (((x.1.drop ((0 : Int)).toNat).take ((y1).toNat - ((0 : Int)).toNat))) with
                    | none => none
                    | some y5 =>
                      match F_spec_ofOwn (((x.1.drop (v4).toNat).take (((x.1.length : Int)).toNat - (v4).toNat))) with
                      | none => none
                      | some y6 =>
                        bif decide ((y5.length + y6.length) * 56 ≤ 140737488355328) && true && true then
                          let v7 := y5 ++ y6
                          some ((v7, true))
                        else none
                  else none
                else none
          else none
noncomputable def c_spec_WithdrawProposal : Con := { ps := [(.val, (.slice (.st (.pair (.int .i64) (.pair (.int .i64) (.pair .str (.slice (.int .i64)))))))), (.val, (.int .i64)), (.val, (.int .i64))], rs := [(.io true, (.slice (.st (.pair (.int .i64) (.pair (.int .i64) (.pair .str (.slice (.int .i64)))))))), (.val, .bool)], F := F_spec_WithdrawProposal }
noncomputable def env_spec_WithdrawProposal : Env := { par := [], dp := true, settle := [], con := fun f => match f with | 40 => some c_spec_ofFind | 41 => some c_spec_ofGood | 42 => some c_spec_ofCount | 52 => some c_spec_ofOwn | _ => none, clo := fun _ => none, T := tinf Try.prog }
noncomputable def loops_spec_WithdrawProposal : Nat → Option Loop := fun n => none
theorem F_spec_WithdrawProposal_eq (x : (List (Int × (Int × (ByteArray × (List Int))))) × Int × Int) : Fev env_spec_WithdrawProposal loops_spec_WithdrawProposal c_spec_WithdrawProposal.ps c_spec_WithdrawProposal.rs Try.f26 x = F_spec_WithdrawProposal x := by kernel_rfl
theorem env_spec_WithdrawProposal_ok : EnvOK Try.prog env_spec_WithdrawProposal := envOK_of (fun f c h => by
  simp only [env_spec_WithdrawProposal] at h
  split at h
  · cases h; exact con_spec_ofFind
  · cases h; exact con_spec_ofGood
  · cases h; exact con_spec_ofCount
  · cases h; exact con_spec_ofOwn
  · cases h) (fun f c h => by cases h) rfl
theorem con_spec_WithdrawProposal : ConOK Try.prog 26 c_spec_WithdrawProposal := con_of_ev' (body := Try.f26.body.getD .skip) (Λ := loops_spec_WithdrawProposal) mixed Try.func26 (by kernel_rfl) (by kernel_rfl) env_spec_WithdrawProposal_ok (by kernel_rfl) (by kernel_rfl) (fun n L h => by cases h) F_spec_WithdrawProposal_eq

noncomputable def F_impl_proposalAt_1 (x : (Int × (Int × (ByteArray × (List Int)))) × Int) : Option (Bool) :=
  some (((x.1.1 == x.2)))
noncomputable def c_impl_proposalAt_1 : Con := { ps := [(.val, (.st (.pair (.int .i64) (.pair (.int .i64) (.pair .str (.slice (.int .i64))))))), (.val, (.ptr (.int .i64)))], rs := [(.val, .bool)], F := F_impl_proposalAt_1 }
noncomputable def env_impl_proposalAt_1 : Env := { par := [], dp := false, settle := [], con := fun _ => none, clo := fun _ => none, T := tinf Try.prog }
noncomputable def loops_impl_proposalAt_1 : Nat → Option Loop := fun n => none
theorem F_impl_proposalAt_1_eq (x : (Int × (Int × (ByteArray × (List Int)))) × Int) : Fev env_impl_proposalAt_1 loops_impl_proposalAt_1 c_impl_proposalAt_1.ps c_impl_proposalAt_1.rs Try.f76 x = F_impl_proposalAt_1 x := by kernel_rfl
theorem env_impl_proposalAt_1_ok : EnvOK Try.prog env_impl_proposalAt_1 := envOK_of (fun f c h => by cases h) (fun f c h => by cases h) rfl
theorem con_impl_proposalAt_1 : ConOK Try.prog 76 c_impl_proposalAt_1 := con_of_ev' (body := Try.f76.body.getD .skip) (Λ := loops_impl_proposalAt_1) mixed Try.func76 (by kernel_rfl) (by kernel_rfl) env_impl_proposalAt_1_ok (by kernel_rfl) (by kernel_rfl) (fun n L h => by cases h) F_impl_proposalAt_1_eq

noncomputable def step_slices_IndexFunc_impl_Proposal_impl_Proposal_0 (s : (List (Int × (Int × (ByteArray × (List Int))))) × ((Int × (Int × (ByteArray × (List Int)))) → Option Bool) × Int × Int) : Option (((List (Int × (Int × (ByteArray × (List Int))))) × ((Int × (Int × (ByteArray × (List Int)))) → Option Bool) × Int × Int) ⊕ ((Int) ⊕ (Unit))) :=
  bif (decide (s.2.2.2 < s.2.2.1)) then
    bif decide (0 ≤ s.2.2.2) && decide (s.2.2.2 < (s.1.length : Int)) then
      match s.2.1 ((s.1.getD (s.2.2.2).toNat (0, (0, ByteArray.empty, [])))) with
      | none => none
      | some y3 =>
        bif y3 then
          some (.inr (.inl (s.2.2.2)))
        else
          let v4 := IntKind.i64.wrap (s.2.2.2 + 1)
          some (.inl ((s.1, (s.2.1, s.2.2.1, v4))))
    else none
  else
    some (.inr (.inr (())))
def pat_slices_IndexFunc_impl_Proposal_impl_Proposal_0 : Pat := { tmps := [.v (.slice (.st (.pair (.int .i64) (.pair (.int .i64) (.pair .str (.slice (.int .i64))))))), .v (.fn (.st (.pair (.int .i64) (.pair (.int .i64) (.pair .str (.slice (.int .i64)))))) .bool), .any, .any, .any, .any, .any, .v (.int .i64), .v (.int .i64), .any, .any, .any, .any, .any, .any, .any, .any, .any, .any], blks := [] }
def outs_slices_IndexFunc_impl_Proposal_impl_Proposal_0 : List (Exit × Pat) := [(.ret, { tmps := [.any, .any, .any, .any, .v (.int .i64), .any, .any, .any, .any, .any, .any, .any, .any, .any, .any, .any, .any, .any, .any], blks := [] }), (.exit 0, { tmps := [.any, .any, .any, .any, .any, .any, .any, .any, .any, .any, .any, .any, .any, .any, .any, .any, .any, .any, .any], blks := [] })]
noncomputable def F_slices_IndexFunc_impl_Proposal_impl_Proposal (x : (List (Int × (Int × (ByteArray × (List Int))))) × ((Int × (Int × (ByteArray × (List Int)))) → Option Bool)) : Option (Int) :=
  match runL step_slices_IndexFunc_impl_Proposal_impl_Proposal_0 ((x.1, (x.2, (x.1.length : Int), 0))) with
  | none => none
  | some (.inl o5) =>
    some (o5)
  | some (.inr o5) =>
    some ((-1))
noncomputable def c_slices_IndexFunc_impl_Proposal_impl_Proposal : Con := { ps := [(.val, (.slice (.st (.pair (.int .i64) (.pair (.int .i64) (.pair .str (.slice (.int .i64)))))))), (.val, (.fn (.st (.pair (.int .i64) (.pair (.int .i64) (.pair .str (.slice (.int .i64)))))) .bool))], rs := [(.val, (.int .i64))], F := F_slices_IndexFunc_impl_Proposal_impl_Proposal }
noncomputable def env_slices_IndexFunc_impl_Proposal_impl_Proposal : Env := { par := [], dp := false, settle := [], con := fun _ => none, clo := fun _ => none, T := tinf Try.prog }
noncomputable def loops_slices_IndexFunc_impl_Proposal_impl_Proposal : Nat → Option Loop := fun n => match n with | 2 => some { pat := pat_slices_IndexFunc_impl_Proposal_impl_Proposal_0, outs := outs_slices_IndexFunc_impl_Proposal_impl_Proposal_0, run := runL (step_slices_IndexFunc_impl_Proposal_impl_Proposal_0) } | _ => none
theorem step_slices_IndexFunc_impl_Proposal_impl_Proposal_0_eq (s : (List (Int × (Int × (ByteArray × (List Int))))) × ((Int × (Int × (ByteArray × (List Int)))) → Option Bool) × Int × Int) : stepEv env_slices_IndexFunc_impl_Proposal_impl_Proposal loops_slices_IndexFunc_impl_Proposal_impl_Proposal pat_slices_IndexFunc_impl_Proposal_impl_Proposal_0 outs_slices_IndexFunc_impl_Proposal_impl_Proposal_0 Try.f75 2 s = step_slices_IndexFunc_impl_Proposal_impl_Proposal_0 s := by kernel_rfl
theorem F_slices_IndexFunc_impl_Proposal_impl_Proposal_eq (x : (List (Int × (Int × (ByteArray × (List Int))))) × ((Int × (Int × (ByteArray × (List Int)))) → Option Bool)) : Fev env_slices_IndexFunc_impl_Proposal_impl_Proposal loops_slices_IndexFunc_impl_Proposal_impl_Proposal c_slices_IndexFunc_impl_Proposal_impl_Proposal.ps c_slices_IndexFunc_impl_Proposal_impl_Proposal.rs Try.f75 x = F_slices_IndexFunc_impl_Proposal_impl_Proposal x := by kernel_rfl
theorem env_slices_IndexFunc_impl_Proposal_impl_Proposal_ok : EnvOK Try.prog env_slices_IndexFunc_impl_Proposal_impl_Proposal := envOK_of (fun f c h => by cases h) (fun f c h => by cases h) rfl
theorem con_slices_IndexFunc_impl_Proposal_impl_Proposal : ConOK Try.prog 75 c_slices_IndexFunc_impl_Proposal_impl_Proposal := con_of_ev' (body := Try.f75.body.getD .skip) (Λ := loops_slices_IndexFunc_impl_Proposal_impl_Proposal) mixed Try.func75 (by kernel_rfl) (by kernel_rfl) env_slices_IndexFunc_impl_Proposal_impl_Proposal_ok (by kernel_rfl) (by kernel_rfl) (fun n L h => by
  unfold loops_slices_IndexFunc_impl_Proposal_impl_Proposal at h
  split at h
  · cases h; exact fun s o ho => loop_ok (stepF := stepEv env_slices_IndexFunc_impl_Proposal_impl_Proposal loops_slices_IndexFunc_impl_Proposal_impl_Proposal pat_slices_IndexFunc_impl_Proposal_impl_Proposal_0 outs_slices_IndexFunc_impl_Proposal_impl_Proposal_0 Try.f75 2) (step_slices_IndexFunc_impl_Proposal_impl_Proposal_0_eq) ho
  · cases h) F_slices_IndexFunc_impl_Proposal_impl_Proposal_eq

noncomputable def K_impl_proposalAt_1 (q : Int) (x : (Int × (Int × (ByteArray × (List Int))))) : Option (Bool) := F_impl_proposalAt_1 (x, q)
noncomputable def k_impl_proposalAt_1 : CloCon := { caps := [(.int .i64)], a := (.st (.pair (.int .i64) (.pair (.int .i64) (.pair .str (.slice (.int .i64)))))), r := .bool, F := K_impl_proposalAt_1 }
theorem clo_impl_proposalAt_1 : CloOK Try.prog 76 k_impl_proposalAt_1 := clo_of_con k_impl_proposalAt_1 F_impl_proposalAt_1 con_impl_proposalAt_1 rfl (fun kx x y h => ⟨y, h, rfl⟩)
noncomputable def F_impl_proposalAt (x : (List (Int × (Int × (ByteArray × (List Int))))) × Int) : Option (Int) :=
  match F_slices_IndexFunc_impl_Proposal_impl_Proposal ((x.1, (K_impl_proposalAt_1 x.2))) with
  | none => none
  | some y1 =>
    some (y1)
noncomputable def c_impl_proposalAt : Con := { ps := [(.val, (.slice (.st (.pair (.int .i64) (.pair (.int .i64) (.pair .str (.slice (.int .i64)))))))), (.val, (.int .i64))], rs := [(.val, (.int .i64))], F := F_impl_proposalAt }
noncomputable def env_impl_proposalAt : Env := { par := [], dp := false, settle := [], con := fun f => match f with | 75 => some c_slices_IndexFunc_impl_Proposal_impl_Proposal | _ => none, clo := fun f => match f with | 76 => some k_impl_proposalAt_1 | _ => none, T := tinf Try.prog }
noncomputable def loops_impl_proposalAt : Nat → Option Loop := fun n => none
theorem F_impl_proposalAt_eq (x : (List (Int × (Int × (ByteArray × (List Int))))) × Int) : Fev env_impl_proposalAt loops_impl_proposalAt c_impl_proposalAt.ps c_impl_proposalAt.rs Try.f45 x = F_impl_proposalAt x := by kernel_rfl
theorem env_impl_proposalAt_ok : EnvOK Try.prog env_impl_proposalAt := envOK_of (fun f c h => by
  simp only [env_impl_proposalAt] at h
  split at h
  · cases h; exact con_slices_IndexFunc_impl_Proposal_impl_Proposal
  · cases h) (fun f c h => by
  simp only [env_impl_proposalAt] at h
  split at h
  · cases h; exact clo_impl_proposalAt_1
  · cases h) rfl
theorem con_impl_proposalAt : ConOK Try.prog 45 c_impl_proposalAt := con_of_ev' (body := Try.f45.body.getD .skip) (Λ := loops_impl_proposalAt) mixed Try.func45 (by kernel_rfl) (by kernel_rfl) env_impl_proposalAt_ok (by kernel_rfl) (by kernel_rfl) (fun n L h => by cases h) F_impl_proposalAt_eq

noncomputable def F_impl_within (x : Int × Int × Int) : Option (Bool) :=
  bif (decide (x.1 ≥ x.2.1)) then
    some ((decide (x.1 ≤ x.2.2)))
  else
    some (false)
noncomputable def c_impl_within : Con := { ps := [(.val, (.int .i64)), (.val, (.int .i64)), (.val, (.int .i64))], rs := [(.val, .bool)], F := F_impl_within }
noncomputable def env_impl_within : Env := { par := [], dp := false, settle := [], con := fun _ => none, clo := fun _ => none, T := tinf Try.prog }
noncomputable def loops_impl_within : Nat → Option Loop := fun n => none
theorem F_impl_within_eq (x : Int × Int × Int) : Fev env_impl_within loops_impl_within c_impl_within.ps c_impl_within.rs Try.f56 x = F_impl_within x := by kernel_rfl
theorem env_impl_within_ok : EnvOK Try.prog env_impl_within := envOK_of (fun f c h => by cases h) (fun f c h => by cases h) rfl
theorem con_impl_within : ConOK Try.prog 56 c_impl_within := con_of_ev' (body := Try.f56.body.getD .skip) (Λ := loops_impl_within) mixed Try.func56 (by kernel_rfl) (by kernel_rfl) env_impl_within_ok (by kernel_rfl) (by kernel_rfl) (fun n L h => by cases h) F_impl_within_eq

set_option maxHeartbeats 1000000 in
theorem calls_strings_IndexByte (s : ByteArray) (c : Int) (w : World) :
    Calls Try.prog 100 #[.string s, .int .u8 c] w fun e w' => e = .returned (.int .i64 (Lib.indexByte s.data.toList c.toNat.toUInt8)) ∧ w' = w := by
  go_enter Try.func100, Try.ntmps100
  go_wp2
  rw [run_callFunc_extern Try.func119 (by kernel_rfl) (by kernel_rfl) (by kernel_rfl) (e := Extern.BytealgIndexByte.indexByte) (by kernel_rfl), Lib.run_indexByteString]
  simp only [Result.andThen]
  rw [Oper.upon_value]
  go_wp2
  go_ret
  exact ⟨rfl, rfl⟩
def F_strings_IndexByte (x : ByteArray × Int) : Option Int := some (Lib.indexByte x.1.data.toList x.2.toNat.toUInt8)
def c_strings_IndexByte : Con := { ps := [(.val, .str), (.val, .int .u8)], rs := [(.val, .int .i64)], F := F_strings_IndexByte }
theorem con_strings_IndexByte : ConOK Try.prog 100 c_strings_IndexByte := con_of_pure ⟨Try.f100, Try.func100, by kernel_rfl, by kernel_rfl⟩ rfl rfl fun w x y hy _ => by
  have e : y = Lib.indexByte x.1.data.toList x.2.toNat.toUInt8 := (Option.some.inj hy).symm
  subst e
  refine (calls_strings_IndexByte x.1 x.2 w).mono ?_
  rintro e w' ⟨rfl, rfl⟩
  exact ⟨rfl, Fr.refl _ _⟩

noncomputable def step_impl_hasOnly_0 (s : ByteArray × ByteArray × Int × Int) : Option ((ByteArray × ByteArray × Int × Int) ⊕ ((Bool) ⊕ (Unit))) :=
  bif (decide (s.2.2.2 < s.2.2.1)) then
    bif decide (0 ≤ s.2.2.2) && decide (s.2.2.2 < (s.1.size : Int)) then
      match F_strings_IndexByte ((s.2.1, (byteAt s.1 (s.2.2.2).toNat))) with
      | none => none
      | some y3 =>
        bif (decide (y3 < 0)) then
          some (.inr (.inl (false)))
        else
          let v4 := IntKind.i64.wrap (s.2.2.2 + 1)
          some (.inl ((s.1, (s.2.1, s.2.2.1, v4))))
    else none
  else
    some (.inr (.inr (())))
def pat_impl_hasOnly_0 : Pat := { tmps := [.v .str, .v .str, .any, .any, .any, .any, .any, .v (.int .i64), .v (.int .i64), .any, .any, .any, .any, .any, .any, .any, .any, .any], blks := [] }
def outs_impl_hasOnly_0 : List (Exit × Pat) := [(.ret, { tmps := [.any, .any, .any, .any, .v .bool, .any, .any, .any, .any, .any, .any, .any, .any, .any, .any, .any, .any, .any], blks := [] }), (.exit 0, { tmps := [.any, .any, .any, .any, .any, .any, .any, .any, .any, .any, .any, .any, .any, .any, .any, .any, .any, .any], blks := [] })]
noncomputable def F_impl_hasOnly (x : ByteArray × ByteArray) : Option (Bool) :=
  match runL step_impl_hasOnly_0 ((x.1, (x.2, (x.1.size : Int), 0))) with
  | none => none
  | some (.inl o5) =>
    some (o5)
  | some (.inr o5) =>
    some (true)
noncomputable def c_impl_hasOnly : Con := { ps := [(.val, .str), (.val, .str)], rs := [(.val, .bool)], F := F_impl_hasOnly }
noncomputable def env_impl_hasOnly : Env := { par := [], dp := false, settle := [], con := fun f => match f with | 100 => some c_strings_IndexByte | _ => none, clo := fun _ => none, T := tinf Try.prog }
noncomputable def loops_impl_hasOnly : Nat → Option Loop := fun n => match n with | 2 => some { pat := pat_impl_hasOnly_0, outs := outs_impl_hasOnly_0, run := runL (step_impl_hasOnly_0) } | _ => none
theorem step_impl_hasOnly_0_eq (s : ByteArray × ByteArray × Int × Int) : stepEv env_impl_hasOnly loops_impl_hasOnly pat_impl_hasOnly_0 outs_impl_hasOnly_0 Try.f95 2 s = step_impl_hasOnly_0 s := by kernel_rfl
theorem F_impl_hasOnly_eq (x : ByteArray × ByteArray) : Fev env_impl_hasOnly loops_impl_hasOnly c_impl_hasOnly.ps c_impl_hasOnly.rs Try.f95 x = F_impl_hasOnly x := by kernel_rfl
theorem env_impl_hasOnly_ok : EnvOK Try.prog env_impl_hasOnly := envOK_of (fun f c h => by
  simp only [env_impl_hasOnly] at h
  split at h
  · cases h; exact con_strings_IndexByte
  · cases h) (fun f c h => by cases h) rfl
theorem con_impl_hasOnly : ConOK Try.prog 95 c_impl_hasOnly := con_of_ev' (body := Try.f95.body.getD .skip) (Λ := loops_impl_hasOnly) mixed Try.func95 (by kernel_rfl) (by kernel_rfl) env_impl_hasOnly_ok (by kernel_rfl) (by kernel_rfl) (fun n L h => by
  unfold loops_impl_hasOnly at h
  split at h
  · cases h; exact fun s o ho => loop_ok (stepF := stepEv env_impl_hasOnly loops_impl_hasOnly pat_impl_hasOnly_0 outs_impl_hasOnly_0 Try.f95 2) (step_impl_hasOnly_0_eq) ho
  · cases h) F_impl_hasOnly_eq

noncomputable def F_impl_isWordOf (x : ByteArray × ByteArray) : Option (Bool) :=
  match F_impl_within (((x.1.size : Int), 1, 8)) with
  | none => none
  | some y1 =>
    bif y1 then
      match F_impl_hasOnly (x) with
      | none => none
      | some y2 =>
        some (y2)
    else
      some (false)
noncomputable def c_impl_isWordOf : Con := { ps := [(.val, .str), (.val, .str)], rs := [(.val, .bool)], F := F_impl_isWordOf }
noncomputable def env_impl_isWordOf : Env := { par := [], dp := false, settle := [], con := fun f => match f with | 56 => some c_impl_within | 95 => some c_impl_hasOnly | _ => none, clo := fun _ => none, T := tinf Try.prog }
noncomputable def loops_impl_isWordOf : Nat → Option Loop := fun n => none
theorem F_impl_isWordOf_eq (x : ByteArray × ByteArray) : Fev env_impl_isWordOf loops_impl_isWordOf c_impl_isWordOf.ps c_impl_isWordOf.rs Try.f81 x = F_impl_isWordOf x := by kernel_rfl
theorem env_impl_isWordOf_ok : EnvOK Try.prog env_impl_isWordOf := envOK_of (fun f c h => by
  simp only [env_impl_isWordOf] at h
  split at h
  · cases h; exact con_impl_within
  · cases h; exact con_impl_hasOnly
  · cases h) (fun f c h => by cases h) rfl
theorem con_impl_isWordOf : ConOK Try.prog 81 c_impl_isWordOf := con_of_ev' (body := Try.f81.body.getD .skip) (Λ := loops_impl_isWordOf) mixed Try.func81 (by kernel_rfl) (by kernel_rfl) env_impl_isWordOf_ok (by kernel_rfl) (by kernel_rfl) (fun n L h => by cases h) F_impl_isWordOf_eq

noncomputable def F_impl_IsGloss (x : ByteArray) : Option (Bool) :=
  match F_impl_isWordOf ((x, (⟨#[65, 66, 67, 68, 69, 70, 71, 72, 73, 74, 75, 76, 77, 78, 79, 80, 81, 82, 83, 84, 85, 86, 87, 88, 89, 90]⟩ : ByteArray))) with
  | none => none
  | some y1 =>
    some (y1)
noncomputable def c_impl_IsGloss : Con := { ps := [(.val, .str)], rs := [(.val, .bool)], F := F_impl_IsGloss }
noncomputable def env_impl_IsGloss : Env := { par := [], dp := false, settle := [], con := fun f => match f with | 81 => some c_impl_isWordOf | _ => none, clo := fun _ => none, T := tinf Try.prog }
noncomputable def loops_impl_IsGloss : Nat → Option Loop := fun n => none
theorem F_impl_IsGloss_eq (x : ByteArray) : Fev env_impl_IsGloss loops_impl_IsGloss c_impl_IsGloss.ps c_impl_IsGloss.rs Try.f53 x = F_impl_IsGloss x := by kernel_rfl
theorem env_impl_IsGloss_ok : EnvOK Try.prog env_impl_IsGloss := envOK_of (fun f c h => by
  simp only [env_impl_IsGloss] at h
  split at h
  · cases h; exact con_impl_isWordOf
  · cases h) (fun f c h => by cases h) rfl
theorem con_impl_IsGloss : ConOK Try.prog 53 c_impl_IsGloss := con_of_ev' (body := Try.f53.body.getD .skip) (Λ := loops_impl_IsGloss) mixed Try.func53 (by kernel_rfl) (by kernel_rfl) env_impl_IsGloss_ok (by kernel_rfl) (by kernel_rfl) (fun n L h => by cases h) F_impl_IsGloss_eq

noncomputable def F_impl_allWithin_1 (x : Int × Int × Int) : Option (Bool) :=
  match F_impl_within (x) with
  | none => none
  | some y1 =>
    some ((!y1))
noncomputable def c_impl_allWithin_1 : Con := { ps := [(.val, (.int .i64)), (.val, (.ptr (.int .i64))), (.val, (.ptr (.int .i64)))], rs := [(.val, .bool)], F := F_impl_allWithin_1 }
noncomputable def env_impl_allWithin_1 : Env := { par := [], dp := false, settle := [], con := fun f => match f with | 56 => some c_impl_within | _ => none, clo := fun _ => none, T := tinf Try.prog }
noncomputable def loops_impl_allWithin_1 : Nat → Option Loop := fun n => none
theorem F_impl_allWithin_1_eq (x : Int × Int × Int) : Fev env_impl_allWithin_1 loops_impl_allWithin_1 c_impl_allWithin_1.ps c_impl_allWithin_1.rs Try.f99 x = F_impl_allWithin_1 x := by kernel_rfl
theorem env_impl_allWithin_1_ok : EnvOK Try.prog env_impl_allWithin_1 := envOK_of (fun f c h => by
  simp only [env_impl_allWithin_1] at h
  split at h
  · cases h; exact con_impl_within
  · cases h) (fun f c h => by cases h) rfl
theorem con_impl_allWithin_1 : ConOK Try.prog 99 c_impl_allWithin_1 := con_of_ev' (body := Try.f99.body.getD .skip) (Λ := loops_impl_allWithin_1) mixed Try.func99 (by kernel_rfl) (by kernel_rfl) env_impl_allWithin_1_ok (by kernel_rfl) (by kernel_rfl) (fun n L h => by cases h) F_impl_allWithin_1_eq

noncomputable def step_slices_IndexFunc_int_int_0 (s : (List Int) × (Int → Option Bool) × Int × Int) : Option (((List Int) × (Int → Option Bool) × Int × Int) ⊕ ((Int) ⊕ (Unit))) :=
  bif (decide (s.2.2.2 < s.2.2.1)) then
    bif decide (0 ≤ s.2.2.2) && decide (s.2.2.2 < (s.1.length : Int)) then
      match s.2.1 ((s.1.getD (s.2.2.2).toNat 0)) with
      | none => none
      | some y3 =>
        bif y3 then
          some (.inr (.inl (s.2.2.2)))
        else
          let v4 := IntKind.i64.wrap (s.2.2.2 + 1)
          some (.inl ((s.1, (s.2.1, s.2.2.1, v4))))
    else none
  else
    some (.inr (.inr (())))
def pat_slices_IndexFunc_int_int_0 : Pat := { tmps := [.v (.slice (.int .i64)), .v (.fn (.int .i64) .bool), .any, .any, .any, .any, .any, .v (.int .i64), .v (.int .i64), .any, .any, .any, .any, .any, .any, .any, .any, .any, .any], blks := [] }
def outs_slices_IndexFunc_int_int_0 : List (Exit × Pat) := [(.ret, { tmps := [.any, .any, .any, .any, .v (.int .i64), .any, .any, .any, .any, .any, .any, .any, .any, .any, .any, .any, .any, .any, .any], blks := [] }), (.exit 0, { tmps := [.any, .any, .any, .any, .any, .any, .any, .any, .any, .any, .any, .any, .any, .any, .any, .any, .any, .any, .any], blks := [] })]
noncomputable def F_slices_IndexFunc_int_int (x : (List Int) × (Int → Option Bool)) : Option (Int) :=
  match runL step_slices_IndexFunc_int_int_0 ((x.1, (x.2, (x.1.length : Int), 0))) with
  | none => none
  | some (.inl o5) =>
    some (o5)
  | some (.inr o5) =>
    some ((-1))
noncomputable def c_slices_IndexFunc_int_int : Con := { ps := [(.val, (.slice (.int .i64))), (.val, (.fn (.int .i64) .bool))], rs := [(.val, (.int .i64))], F := F_slices_IndexFunc_int_int }
noncomputable def env_slices_IndexFunc_int_int : Env := { par := [], dp := false, settle := [], con := fun _ => none, clo := fun _ => none, T := tinf Try.prog }
noncomputable def loops_slices_IndexFunc_int_int : Nat → Option Loop := fun n => match n with | 2 => some { pat := pat_slices_IndexFunc_int_int_0, outs := outs_slices_IndexFunc_int_int_0, run := runL (step_slices_IndexFunc_int_int_0) } | _ => none
theorem step_slices_IndexFunc_int_int_0_eq (s : (List Int) × (Int → Option Bool) × Int × Int) : stepEv env_slices_IndexFunc_int_int loops_slices_IndexFunc_int_int pat_slices_IndexFunc_int_int_0 outs_slices_IndexFunc_int_int_0 Try.f84 2 s = step_slices_IndexFunc_int_int_0 s := by kernel_rfl
theorem F_slices_IndexFunc_int_int_eq (x : (List Int) × (Int → Option Bool)) : Fev env_slices_IndexFunc_int_int loops_slices_IndexFunc_int_int c_slices_IndexFunc_int_int.ps c_slices_IndexFunc_int_int.rs Try.f84 x = F_slices_IndexFunc_int_int x := by kernel_rfl
theorem env_slices_IndexFunc_int_int_ok : EnvOK Try.prog env_slices_IndexFunc_int_int := envOK_of (fun f c h => by cases h) (fun f c h => by cases h) rfl
theorem con_slices_IndexFunc_int_int : ConOK Try.prog 84 c_slices_IndexFunc_int_int := con_of_ev' (body := Try.f84.body.getD .skip) (Λ := loops_slices_IndexFunc_int_int) mixed Try.func84 (by kernel_rfl) (by kernel_rfl) env_slices_IndexFunc_int_int_ok (by kernel_rfl) (by kernel_rfl) (fun n L h => by
  unfold loops_slices_IndexFunc_int_int at h
  split at h
  · cases h; exact fun s o ho => loop_ok (stepF := stepEv env_slices_IndexFunc_int_int loops_slices_IndexFunc_int_int pat_slices_IndexFunc_int_int_0 outs_slices_IndexFunc_int_int_0 Try.f84 2) (step_slices_IndexFunc_int_int_0_eq) ho
  · cases h) F_slices_IndexFunc_int_int_eq

noncomputable def F_slices_ContainsFunc_int_int (x : (List Int) × (Int → Option Bool)) : Option (Bool) :=
  match F_slices_IndexFunc_int_int (x) with
  | none => none
  | some y1 =>
    some ((decide (y1 ≥ 0)))
noncomputable def c_slices_ContainsFunc_int_int : Con := { ps := [(.val, (.slice (.int .i64))), (.val, (.fn (.int .i64) .bool))], rs := [(.val, .bool)], F := F_slices_ContainsFunc_int_int }
noncomputable def env_slices_ContainsFunc_int_int : Env := { par := [], dp := false, settle := [], con := fun f => match f with | 84 => some c_slices_IndexFunc_int_int | _ => none, clo := fun _ => none, T := tinf Try.prog }
noncomputable def loops_slices_ContainsFunc_int_int : Nat → Option Loop := fun n => none
theorem F_slices_ContainsFunc_int_int_eq (x : (List Int) × (Int → Option Bool)) : Fev env_slices_ContainsFunc_int_int loops_slices_ContainsFunc_int_int c_slices_ContainsFunc_int_int.ps c_slices_ContainsFunc_int_int.rs Try.f57 x = F_slices_ContainsFunc_int_int x := by kernel_rfl
theorem env_slices_ContainsFunc_int_int_ok : EnvOK Try.prog env_slices_ContainsFunc_int_int := envOK_of (fun f c h => by
  simp only [env_slices_ContainsFunc_int_int] at h
  split at h
  · cases h; exact con_slices_IndexFunc_int_int
  · cases h) (fun f c h => by cases h) rfl
theorem con_slices_ContainsFunc_int_int : ConOK Try.prog 57 c_slices_ContainsFunc_int_int := con_of_ev' (body := Try.f57.body.getD .skip) (Λ := loops_slices_ContainsFunc_int_int) mixed Try.func57 (by kernel_rfl) (by kernel_rfl) env_slices_ContainsFunc_int_int_ok (by kernel_rfl) (by kernel_rfl) (fun n L h => by cases h) F_slices_ContainsFunc_int_int_eq

noncomputable def K_impl_allWithin_1 (q : Int × Int) (x : Int) : Option (Bool) := F_impl_allWithin_1 (x, q)
noncomputable def k_impl_allWithin_1 : CloCon := { caps := [(.int .i64), (.int .i64)], a := (.int .i64), r := .bool, F := K_impl_allWithin_1 }
theorem clo_impl_allWithin_1 : CloOK Try.prog 99 k_impl_allWithin_1 := clo_of_con k_impl_allWithin_1 F_impl_allWithin_1 con_impl_allWithin_1 rfl (fun kx x y h => ⟨y, h, rfl⟩)
noncomputable def F_impl_allWithin (x : (List Int) × Int × Int) : Option (Bool) :=
  match F_slices_ContainsFunc_int_int ((x.1, (K_impl_allWithin_1 x.2))) with
  | none => none
  | some y1 =>
    some ((!y1))
noncomputable def c_impl_allWithin : Con := { ps := [(.val, (.slice (.int .i64))), (.val, (.int .i64)), (.val, (.int .i64))], rs := [(.val, .bool)], F := F_impl_allWithin }
noncomputable def env_impl_allWithin : Env := { par := [], dp := false, settle := [], con := fun f => match f with | 57 => some c_slices_ContainsFunc_int_int | _ => none, clo := fun f => match f with | 99 => some k_impl_allWithin_1 | _ => none, T := tinf Try.prog }
noncomputable def loops_impl_allWithin : Nat → Option Loop := fun n => none
theorem F_impl_allWithin_eq (x : (List Int) × Int × Int) : Fev env_impl_allWithin loops_impl_allWithin c_impl_allWithin.ps c_impl_allWithin.rs Try.f94 x = F_impl_allWithin x := by kernel_rfl
theorem env_impl_allWithin_ok : EnvOK Try.prog env_impl_allWithin := envOK_of (fun f c h => by
  simp only [env_impl_allWithin] at h
  split at h
  · cases h; exact con_slices_ContainsFunc_int_int
  · cases h) (fun f c h => by
  simp only [env_impl_allWithin] at h
  split at h
  · cases h; exact clo_impl_allWithin_1
  · cases h) rfl
theorem con_impl_allWithin : ConOK Try.prog 94 c_impl_allWithin := con_of_ev' (body := Try.f94.body.getD .skip) (Λ := loops_impl_allWithin) mixed Try.func94 (by kernel_rfl) (by kernel_rfl) env_impl_allWithin_ok (by kernel_rfl) (by kernel_rfl) (fun n L h => by cases h) F_impl_allWithin_eq

noncomputable def F_impl_isProposal (x : (Int × (Int × (ByteArray × (List Int))))) : Option (Bool) :=
  match F_impl_within ((x.1, 1, 999)) with
  | none => none
  | some y1 =>
    bif y1 then
      match F_impl_within ((x.2.1, 0, 1)) with
      | none => none
      | some y2 =>
        bif y2 then
          match F_impl_IsGloss (x.2.2.1) with
          | none => none
          | some y3 =>
            bif y3 then
              bif (decide ((x.2.2.2.length : Int) ≤ 7)) then
                match F_impl_allWithin ((x.2.2.2, (-1), 1)) with
                | none => none
                | some y4 =>
                  some (y4)
              else
                some (false)
            else
              some (false)
        else
          some (false)
    else
      some (false)
noncomputable def c_impl_isProposal : Con := { ps := [(.val, (.st (.pair (.int .i64) (.pair (.int .i64) (.pair .str (.slice (.int .i64)))))))], rs := [(.val, .bool)], F := F_impl_isProposal }
noncomputable def env_impl_isProposal : Env := { par := [], dp := false, settle := [], con := fun f => match f with | 53 => some c_impl_IsGloss | 56 => some c_impl_within | 94 => some c_impl_allWithin | _ => none, clo := fun _ => none, T := tinf Try.prog }
noncomputable def loops_impl_isProposal : Nat → Option Loop := fun n => none
theorem F_impl_isProposal_eq (x : (Int × (Int × (ByteArray × (List Int))))) : Fev env_impl_isProposal loops_impl_isProposal c_impl_isProposal.ps c_impl_isProposal.rs Try.f77 x = F_impl_isProposal x := by kernel_rfl
theorem env_impl_isProposal_ok : EnvOK Try.prog env_impl_isProposal := envOK_of (fun f c h => by
  simp only [env_impl_isProposal] at h
  split at h
  · cases h; exact con_impl_IsGloss
  · cases h; exact con_impl_within
  · cases h; exact con_impl_allWithin
  · cases h) (fun f c h => by cases h) rfl
theorem con_impl_isProposal : ConOK Try.prog 77 c_impl_isProposal := con_of_ev' (body := Try.f77.body.getD .skip) (Λ := loops_impl_isProposal) mixed Try.func77 (by kernel_rfl) (by kernel_rfl) env_impl_isProposal_ok (by kernel_rfl) (by kernel_rfl) (fun n L h => by cases h) F_impl_isProposal_eq

noncomputable def step_impl_AreProposals_0 (s : (List (Int × (Int × (ByteArray × (List Int))))) × Int × (List (Int × (Int × (ByteArray × (List Int))))) × Int × Int) : Option (((List (Int × (Int × (ByteArray × (List Int))))) × Int × (List (Int × (Int × (ByteArray × (List Int))))) × Int × Int) ⊕ ((Bool) ⊕ ((List (Int × (Int × (ByteArray × (List Int))))) × Int))) :=
  bif (decide (s.2.2.2.2 < s.2.2.2.1)) then
    bif decide (0 ≤ s.2.2.2.2) && decide (s.2.2.2.2 < (s.2.2.1.length : Int)) then
      match F_impl_isProposal ((s.2.2.1.getD (s.2.2.2.2).toNat (0, (0, ByteArray.empty, [])))) with
      | none => none
      | some y5 =>
        bif (!y5) then
          some (.inr (.inl (false)))
        else
          bif ((((s.2.2.1.getD (s.2.2.2.2).toNat (0, (0, ByteArray.empty, []))).2.2.2.length : Int) != s.2.1)) then
            some (.inr (.inl (false)))
          else
            bif (decide (s.2.2.2.2 > 0)) then
              let v6 := IntKind.i64.wrap (s.2.2.2.2 - 1)
              bif decide (0 ≤ v6) && decide (v6 < (s.1.length : Int)) then
                bif (decide ((s.2.2.1.getD (s.2.2.2.2).toNat (0, (0, ByteArray.empty, []))).1 ≤ (s.1.getD (v6).toNat (0, (0, ByteArray.empty, []))).1)) then
                  some (.inr (.inl (false)))
                else
                  let v7 := IntKind.i64.wrap (s.2.2.2.2 + 1)
                  some (.inl ((s.1, s.2.1, (s.2.2.1, s.2.2.2.1, v7))))
              else none
            else
              let v8 := IntKind.i64.wrap (s.2.2.2.2 + 1)
              some (.inl ((s.1, s.2.1, (s.2.2.1, s.2.2.2.1, v8))))
    else none
  else
    some (.inr (.inr ((s.1, s.2.1))))
def pat_impl_AreProposals_0 : Pat := { tmps := [.v (.slice (.st (.pair (.int .i64) (.pair (.int .i64) (.pair .str (.slice (.int .i64))))))), .v (.int .i64), .any, .any, .any, .any, .any, .v (.slice (.st (.pair (.int .i64) (.pair (.int .i64) (.pair .str (.slice (.int .i64))))))), .v (.int .i64), .v (.int .i64), .any, .any, .any, .any, .any, .any, .any, .any, .any, .any, .any, .any, .any, .any, .any, .any, .any, .any, .any, .any, .any, .any, .any, .any, .any, .any, .any, .any, .any, .any, .any, .any, .any, .any, .any, .any, .any], blks := [] }
def outs_impl_AreProposals_0 : List (Exit × Pat) := [(.ret, { tmps := [.any, .any, .any, .any, .v .bool, .any, .any, .any, .any, .any, .any, .any, .any, .any, .any, .any, .any, .any, .any, .any, .any, .any, .any, .any, .any, .any, .any, .any, .any, .any, .any, .any, .any, .any, .any, .any, .any, .any, .any, .any, .any, .any, .any, .any, .any, .any, .any], blks := [] }), (.exit 0, { tmps := [.v (.slice (.st (.pair (.int .i64) (.pair (.int .i64) (.pair .str (.slice (.int .i64))))))), .v (.int .i64), .any, .any, .any, .any, .any, .any, .any, .any, .any, .any, .any, .any, .any, .any, .any, .any, .any, .any, .any, .any, .any, .any, .any, .any, .any, .any, .any, .any, .any, .any, .any, .any, .any, .any, .any, .any, .any, .any, .any, .any, .any, .any, .any, .any, .any], blks := [] })]
noncomputable def F_impl_AreProposals (x : (List (Int × (Int × (ByteArray × (List Int))))) × Int) : Option (Bool) :=
  match runL step_impl_AreProposals_0 ((x.1, x.2, (x.1, (x.1.length : Int), 0))) with
  | none => none
  | some (.inl o9) =>
    some (o9)
  | some (.inr o9) =>
    match F_impl_within ((o9.2, 1, 7)) with
    | none => none
    | some y10 =>
      bif y10 then
        some ((decide ((o9.1.length : Int) ≤ 12)))
      else
        some (false)
noncomputable def c_impl_AreProposals : Con := { ps := [(.val, (.slice (.st (.pair (.int .i64) (.pair (.int .i64) (.pair .str (.slice (.int .i64)))))))), (.val, (.int .i64))], rs := [(.val, .bool)], F := F_impl_AreProposals }
noncomputable def env_impl_AreProposals : Env := { par := [], dp := false, settle := [], con := fun f => match f with | 56 => some c_impl_within | 77 => some c_impl_isProposal | _ => none, clo := fun _ => none, T := tinf Try.prog }
noncomputable def loops_impl_AreProposals : Nat → Option Loop := fun n => match n with | 2 => some { pat := pat_impl_AreProposals_0, outs := outs_impl_AreProposals_0, run := runL (step_impl_AreProposals_0) } | _ => none
theorem step_impl_AreProposals_0_eq (s : (List (Int × (Int × (ByteArray × (List Int))))) × Int × (List (Int × (Int × (ByteArray × (List Int))))) × Int × Int) : stepEv env_impl_AreProposals loops_impl_AreProposals pat_impl_AreProposals_0 outs_impl_AreProposals_0 Try.f46 2 s = step_impl_AreProposals_0 s := by kernel_rfl
theorem F_impl_AreProposals_eq (x : (List (Int × (Int × (ByteArray × (List Int))))) × Int) : Fev env_impl_AreProposals loops_impl_AreProposals c_impl_AreProposals.ps c_impl_AreProposals.rs Try.f46 x = F_impl_AreProposals x := by kernel_rfl
theorem env_impl_AreProposals_ok : EnvOK Try.prog env_impl_AreProposals := envOK_of (fun f c h => by
  simp only [env_impl_AreProposals] at h
  split at h
  · cases h; exact con_impl_within
  · cases h; exact con_impl_isProposal
  · cases h) (fun f c h => by cases h) rfl
theorem con_impl_AreProposals : ConOK Try.prog 46 c_impl_AreProposals := con_of_ev' (body := Try.f46.body.getD .skip) (Λ := loops_impl_AreProposals) mixed Try.func46 (by kernel_rfl) (by kernel_rfl) env_impl_AreProposals_ok (by kernel_rfl) (by kernel_rfl) (fun n L h => by
  unfold loops_impl_AreProposals at h
  split at h
  · cases h; exact fun s o ho => loop_ok (stepF := stepEv env_impl_AreProposals loops_impl_AreProposals pat_impl_AreProposals_0 outs_impl_AreProposals_0 Try.f46 2) (step_impl_AreProposals_0_eq) ho
  · cases h) F_impl_AreProposals_eq

noncomputable def F_impl_WithdrawProposal_1 (x : Int) : Option (Bool) :=
  some (((x != 0)))
noncomputable def c_impl_WithdrawProposal_1 : Con := { ps := [(.val, (.int .i64))], rs := [(.val, .bool)], F := F_impl_WithdrawProposal_1 }
noncomputable def env_impl_WithdrawProposal_1 : Env := { par := [], dp := false, settle := [], con := fun _ => none, clo := fun _ => none, T := tinf Try.prog }
noncomputable def loops_impl_WithdrawProposal_1 : Nat → Option Loop := fun n => none
theorem F_impl_WithdrawProposal_1_eq (x : Int) : Fev env_impl_WithdrawProposal_1 loops_impl_WithdrawProposal_1 c_impl_WithdrawProposal_1.ps c_impl_WithdrawProposal_1.rs Try.f58 x = F_impl_WithdrawProposal_1 x := by kernel_rfl
theorem env_impl_WithdrawProposal_1_ok : EnvOK Try.prog env_impl_WithdrawProposal_1 := envOK_of (fun f c h => by cases h) (fun f c h => by cases h) rfl
theorem con_impl_WithdrawProposal_1 : ConOK Try.prog 58 c_impl_WithdrawProposal_1 := con_of_ev' (body := Try.f58.body.getD .skip) (Λ := loops_impl_WithdrawProposal_1) mixed Try.func58 (by kernel_rfl) (by kernel_rfl) env_impl_WithdrawProposal_1_ok (by kernel_rfl) (by kernel_rfl) (fun n L h => by cases h) F_impl_WithdrawProposal_1_eq

section
open Go.RowKit
theorem nil_slices_Clone_impl_Proposal_impl_Proposal (n c : Nat) (w : World) : Calls Try.prog 82 #[.slice none n c] w fun e w' => e = .returned (.slice none 0 0) ∧ w' = w := by
  have q : ∀ (w : World) (a : Option Addr) (n c n' c' : Nat), (binOp .eql 26 (.slice a n c) (.slice none n' c')).run Try.prog w = .ok (.bool a.isNone) w := fun w a n c n' c' => Lib.run_eql_slice_nil w _ _ a n c n' c' (show Try.prog.underlying 26 = some (.slice 62) by kernel_rfl)
  go_enter Try.func82, Try.ntmps82
  go_wp2
  go_ret
  exact ⟨rfl, rfl⟩
set_option maxHeartbeats 2000000 in
theorem some_slices_Clone_impl_Proposal_impl_Proposal (ad : Addr) (n c : Nat) (news : List Value) (w : World) (hl : news.length = n * 4) (hc : ∀ j u, news[j]? = some u → w.cell? (ad.add j) = some u) (h1 : ∀ u ∈ news, u.oneCell' = true) (hbig : n * 56 ≤ 140737488355328) :
    Calls Try.prog 82 #[.slice (some ad) n c] w fun e w' => ∃ v', e = .returned v' ∧ w'.ownsRow w.heap.size 62 4 v' n news ∧ Below w.heap.size w w' := by
  have q : ∀ (w : World) (a : Option Addr) (n c n' c' : Nat), (binOp .eql 26 (.slice a n c) (.slice none n' c')).run Try.prog w = .ok (.bool a.isNone) w := fun w a n c n' c' => Lib.run_eql_slice_nil w _ _ a n c n' c' (show Try.prog.underlying 26 = some (.slice 62) by kernel_rfl)
  obtain ⟨i0, hi, hz0, hz1, hz2⟩ := info_parts (P := Try.prog) (e := 62) (z := (.agg #[(.int .i64 0), (.int .i64 0), (.string ⟨#[]⟩), (.slice none 0 0)])) (size := 4) (bytes := 56) (by kernel_rfl)
  have A : Aside (∀ j u, news[j]? = some u → w.cell? (ad.add j) = some u) := hc
  clear hc
  go_enter Try.func82, Try.ntmps82
  go_wp2_with (at_builtin; refine wpList_append_own _ rfl _ _ 26 rfl w.heap.size 62 i0 (.agg #[(.int .i64 0), (.int .i64 0), (.string ⟨#[]⟩), (.slice none 0 0)]) 4 56 (by kernel_rfl) hi hz0 hz1 hz2 rfl (by decide) _ _ _ rfl (World.ownsRow_made w #[] 0 (Nat.le_refl _) (Nat.zero_le _) rfl) ad n c news rfl ?qc1 ?qc2 ?qc3 ?qc4 ?qc5 ?qc6 ?_)
  case qc1 => exact hl
  case qc2 => exact fun j u hj => Lib.cell?_alloc_some _ (A.out j u hj)
  case qc3 => exact h1
  case qc4 => unfold maxLen; omega
  case qc5 => omega
  case qc6 => simp
  intro v' w1 hown hgrow hnil
  go_wp2
  go_ret
  refine ⟨v', rfl, by simpa using hown, ?_⟩
  exact ((Below.refl _ w).alloc (Nat.le_refl _) _).grown hgrow (by simp) (by intro k hk; simp [Value.ownBlock] at hk; omega)
def F_slices_Clone_impl_Proposal_impl_Proposal (x : List (Int × (Int × (ByteArray × (List Int))))) : Option (List (Int × (Int × (ByteArray × (List Int))))) := bif decide (x.length * 56 ≤ 140737488355328) then some x else none
noncomputable def c_slices_Clone_impl_Proposal_impl_Proposal : Con := { ps := [(.val, .slice (.st (.pair (.int .i64) (.pair (.int .i64) (.pair .str (.slice (.int .i64)))))))], rs := [(.io false, .slice (.st (.pair (.int .i64) (.pair (.int .i64) (.pair .str (.slice (.int .i64)))))))], F := F_slices_Clone_impl_Proposal_impl_Proposal }
theorem con_slices_Clone_impl_Proposal_impl_Proposal : ConOK Try.prog 82 c_slices_Clone_impl_Proposal_impl_Proposal := con_clone ⟨Try.f82, Try.func82, by kernel_rfl, by kernel_rfl⟩ (.st (.pair (.int .i64) (.pair (.int .i64) (.pair .str (.slice (.int .i64)))))) false rfl 56 62 nil_slices_Clone_impl_Proposal_impl_Proposal some_slices_Clone_impl_Proposal_impl_Proposal
end

section
open Go.RowKit
theorem nil_slices_Clone_int_int (n c : Nat) (w : World) : Calls Try.prog 83 #[.slice none n c] w fun e w' => e = .returned (.slice none 0 0) ∧ w' = w := by
  have q : ∀ (w : World) (a : Option Addr) (n c n' c' : Nat), (binOp .eql 30 (.slice a n c) (.slice none n' c')).run Try.prog w = .ok (.bool a.isNone) w := fun w a n c n' c' => Lib.run_eql_slice_nil w _ _ a n c n' c' (show Try.prog.underlying 30 = some (.slice 3) by kernel_rfl)
  go_enter Try.func83, Try.ntmps83
  go_wp2
  go_ret
  exact ⟨rfl, rfl⟩
set_option maxHeartbeats 2000000 in
theorem some_slices_Clone_int_int (ad : Addr) (n c : Nat) (news : List Value) (w : World) (hl : news.length = n * 1) (hc : ∀ j u, news[j]? = some u → w.cell? (ad.add j) = some u) (h1 : ∀ u ∈ news, u.oneCell' = true) (hbig : n * 8 ≤ 140737488355328) :
    Calls Try.prog 83 #[.slice (some ad) n c] w fun e w' => ∃ v', e = .returned v' ∧ w'.ownsRow w.heap.size 3 1 v' n news ∧ Below w.heap.size w w' := by
  have q : ∀ (w : World) (a : Option Addr) (n c n' c' : Nat), (binOp .eql 30 (.slice a n c) (.slice none n' c')).run Try.prog w = .ok (.bool a.isNone) w := fun w a n c n' c' => Lib.run_eql_slice_nil w _ _ a n c n' c' (show Try.prog.underlying 30 = some (.slice 3) by kernel_rfl)
  obtain ⟨i0, hi, hz0, hz1, hz2⟩ := info_parts (P := Try.prog) (e := 3) (z := (.int .i64 0)) (size := 1) (bytes := 8) (by kernel_rfl)
  have A : Aside (∀ j u, news[j]? = some u → w.cell? (ad.add j) = some u) := hc
  clear hc
  go_enter Try.func83, Try.ntmps83
  go_wp2_with (at_builtin; refine wpList_append_own _ rfl _ _ 30 rfl w.heap.size 3 i0 (.int .i64 0) 1 8 (by kernel_rfl) hi hz0 hz1 hz2 rfl (by decide) _ _ _ rfl (World.ownsRow_made w #[] 0 (Nat.le_refl _) (Nat.zero_le _) rfl) ad n c news rfl ?qc1 ?qc2 ?qc3 ?qc4 ?qc5 ?qc6 ?_)
  case qc1 => exact hl
  case qc2 => exact fun j u hj => Lib.cell?_alloc_some _ (A.out j u hj)
  case qc3 => exact h1
  case qc4 => unfold maxLen; omega
  case qc5 => omega
  case qc6 => simp
  intro v' w1 hown hgrow hnil
  go_wp2
  go_ret
  refine ⟨v', rfl, by simpa using hown, ?_⟩
  exact ((Below.refl _ w).alloc (Nat.le_refl _) _).grown hgrow (by simp) (by intro k hk; simp [Value.ownBlock] at hk; omega)
def F_slices_Clone_int_int (x : List Int) : Option (List Int) := bif decide (x.length * 8 ≤ 140737488355328) then some x else none
noncomputable def c_slices_Clone_int_int : Con := { ps := [(.val, .slice (.int .i64))], rs := [(.io true, .slice (.int .i64))], F := F_slices_Clone_int_int }
theorem con_slices_Clone_int_int : ConOK Try.prog 83 c_slices_Clone_int_int := con_clone ⟨Try.f83, Try.func83, by kernel_rfl, by kernel_rfl⟩ (.int .i64) true rfl 8 3 nil_slices_Clone_int_int some_slices_Clone_int_int
end

noncomputable def step_impl_copyProposals_0 (s : Int × Int × (List (Int × (Int × (ByteArray × (List Int))))) × Int) : Option ((Int × Int × (List (Int × (Int × (ByteArray × (List Int))))) × Int) ⊕ (((List (Int × (Int × (ByteArray × (List Int))))) × Int))) :=
  bif (decide (s.2.1 < s.1)) then
    bif decide (0 ≤ s.2.1) && decide (s.2.1 < (s.2.2.1.length : Int)) then
      bif decide ((s.2.2.2).toNat ≤ (s.2.1).toNat) then
        match F_slices_Clone_int_int ((s.2.2.1.getD (s.2.1).toNat (0, (0, ByteArray.empty, []))).2.2.2) with
        | none => none
        | some y6 =>
          bif decide (0 ≤ s.2.1) && decide (s.2.1 < (s.2.2.1.length : Int)) then
            bif decide ((s.2.1).toNat = (s.2.1).toNat) then
              bif decide ((s.2.2.2).toNat = (s.2.1).toNat) then
                let v7 := s.2.2.1.set (s.2.1).toNat (((s.2.2.1.getD (s.2.1).toNat (0, (0, ByteArray.empty, []))).1, ((s.2.2.1.getD (s.2.1).toNat (0, (0, ByteArray.empty, []))).2.1, (s.2.2.1.getD (s.2.1).toNat (0, (0, ByteArray.empty, []))).2.2.1, y6)))
                let v8 := IntKind.i64.wrap (s.2.1 + 1)
                some (.inl ((s.1, (v8, v7, ((((s.2.2.2).toNat + 1) : Nat) : Int)))))
              else none
            else none
          else none
      else none
    else none
  else
    some (.inr ((s.2.2.1, (((s.2.2.2).toNat : Nat) : Int))))
def pat_impl_copyProposals_0 : Pat := { tmps := [.any, .any, .any, .own 384, .any, .any, .any, .any, .v (.int .i64), .v (.int .i64), .any, .any, .any, .any, .any, .any, .any, .any, .any, .any, .any, .any, .any, .any], blks := [(384, .mix (.st (.pair (.int .i64) (.pair (.int .i64) (.pair .str (.slice (.int .i64)))))))] }
def outs_impl_copyProposals_0 : List (Exit × Pat) := [(.exit 0, { tmps := [.any, .any, .any, .own 384, .any, .any, .any, .any, .any, .any, .any, .any, .any, .any, .any, .any, .any, .any, .any, .any, .any, .any, .any, .any], blks := [(384, .mix (.st (.pair (.int .i64) (.pair (.int .i64) (.pair .str (.slice (.int .i64)))))))] })]
noncomputable def F_impl_copyProposals (x : (List (Int × (Int × (ByteArray × (List Int)))))) : Option ((List (Int × (Int × (ByteArray × (List Int)))))) :=
  match F_slices_Clone_impl_Proposal_impl_Proposal (x) with
  | none => none
  | some y1 =>
    match runL step_impl_copyProposals_0 (((y1.length : Int), (0, y1, 0))) with
    | none => none
    | some o9 =>
      bif decide ((o9.2).toNat = o9.1.length) then
        some (o9.1)
      else none
noncomputable def c_impl_copyProposals : Con := { ps := [(.val, (.slice (.st (.pair (.int .i64) (.pair (.int .i64) (.pair .str (.slice (.int .i64))))))))], rs := [(.io true, (.slice (.st (.pair (.int .i64) (.pair (.int .i64) (.pair .str (.slice (.int .i64))))))))], F := F_impl_copyProposals }
noncomputable def env_impl_copyProposals : Env := { par := [], dp := true, settle := [0, 1, 2, 7], con := fun f => match f with | 82 => some c_slices_Clone_impl_Proposal_impl_Proposal | 83 => some c_slices_Clone_int_int | _ => none, clo := fun _ => none, T := tinf Try.prog }
noncomputable def loops_impl_copyProposals : Nat → Option Loop := fun n => match n with | 3 => some { pat := pat_impl_copyProposals_0, outs := outs_impl_copyProposals_0, run := runL (step_impl_copyProposals_0) } | _ => none
theorem step_impl_copyProposals_0_eq (s : Int × Int × (List (Int × (Int × (ByteArray × (List Int))))) × Int) : stepEv env_impl_copyProposals loops_impl_copyProposals pat_impl_copyProposals_0 outs_impl_copyProposals_0 Try.f54 3 s = step_impl_copyProposals_0 s := by kernel_rfl
theorem F_impl_copyProposals_eq (x : (List (Int × (Int × (ByteArray × (List Int)))))) : Fev env_impl_copyProposals loops_impl_copyProposals c_impl_copyProposals.ps c_impl_copyProposals.rs Try.f54 x = F_impl_copyProposals x := by kernel_rfl
theorem env_impl_copyProposals_ok : EnvOK Try.prog env_impl_copyProposals := envOK_of (fun f c h => by
  simp only [env_impl_copyProposals] at h
  split at h
  · cases h; exact con_slices_Clone_impl_Proposal_impl_Proposal
  · cases h; exact con_slices_Clone_int_int
  · cases h) (fun f c h => by cases h) rfl
theorem con_impl_copyProposals : ConOK Try.prog 54 c_impl_copyProposals := con_of_ev' (body := Try.f54.body.getD .skip) (Λ := loops_impl_copyProposals) mixed Try.func54 (by kernel_rfl) (by kernel_rfl) env_impl_copyProposals_ok (by kernel_rfl) (by kernel_rfl) (fun n L h => by
  unfold loops_impl_copyProposals at h
  split at h
  · cases h; exact fun s o ho => loop_ok (stepF := stepEv env_impl_copyProposals loops_impl_copyProposals pat_impl_copyProposals_0 outs_impl_copyProposals_0 Try.f54 3) (step_impl_copyProposals_0_eq) ho
  · cases h) F_impl_copyProposals_eq

section
open Go.RowKit
set_option maxHeartbeats 2000000 in
theorem same_slices_Delete_impl_Proposal_impl_Proposal (A : Option Addr) (n cap i : Nat) (w : World) (h1 : i ≤ n) (h2 : n ≤ cap) (h3 : n ≤ 9223372036854775807) : Calls Try.prog 59 #[.slice A n cap, .int .i64 i, .int .i64 i] w fun e w' => e = .returned (.slice A n cap) ∧ w' = w := by
  cases A <;>
  · go_enter Try.func59, Try.ntmps59
    go_wp2
    all_goals (go_ret; exact ⟨rfl, rfl⟩)
set_option maxHeartbeats 4000000 in
set_option maxRecDepth 1000000 in
theorem cut_slices_Delete_impl_Proposal_impl_Proposal (g cap n i j : Nat) (cur : Array Value) (ety : TypeId) (w : World) (hh : w.heap[g]? = some (.cells cur ety (0, 0))) (h1 : n ≤ cap) (h2 : cap * 4 ≤ cur.size) (h3 : n ≤ 9223372036854775807) (hij : i < j) (hj : j ≤ n) (hone : ∀ u ∈ cur.toList.take (n * 4), u.oneCell' = true) :
    Calls Try.prog 59 #[.slice (some ⟨g, 0, none⟩) n cap, .int .i64 i, .int .i64 j] w fun e' w' => e' = .returned (.slice (some ⟨g, 0, none⟩) (i + (n - j)) cap) ∧ w' = w.drew.setRow g (cutRow cur 4 n i j (repV (Value.cells (.agg #[(.int .i64 0), (.int .i64 0), (.string ⟨#[]⟩), (.slice none 0 0)])) (j - i) 4)) := by
  obtain ⟨i0, hi, hz0, hz1, hz2⟩ := info_parts (P := Try.prog) (e := 62) (z := (.agg #[(.int .i64 0), (.int .i64 0), (.string ⟨#[]⟩), (.slice none 0 0)])) (size := 4) (bytes := 56) (by kernel_rfl)
  obtain ⟨A, hA⟩ : ∃ A : Addr, (if cap = j then (⟨g, 0, none⟩ : Addr) else ⟨g, j * 4, none⟩) = A := ⟨_, rfl⟩
  obtain ⟨W1, happ, hcl⟩ := run_cut (P := Try.prog) (w := w.drew) (ts := 26) (te := 62) (ty := 0) (ty' := 0) (zv := (.agg #[(.int .i64 0), (.int .i64 0), (.string ⟨#[]⟩), (.slice none 0 0)])) (k := 4) (show Try.prog.underlying 26 = some (.slice 62) by kernel_rfl) hi hz1 (fun w => Try.zeroValue62 w) rfl (by decide) (g := g) (cap := cap) (n := n) (i := i) (j := j) (cur := cur) (ety := ety) hh h1 h2 hij hj hone (A := A) hA
  have hA2 : (if cap = j then some (⟨g, 0, none⟩ : Addr) else some ⟨g, j * 4, none⟩) = some A := by rw [← hA]; split <;> rfl
  have mixed := mixed
  have X1 : Hid (∀ ty, (Builtin.append_ #[26, 26] ty #[.slice (some ⟨g, 0, none⟩) i cap, .slice (some A) (n - j) (cap - j)]).run Try.prog w.drew = .ok (.slice (some ⟨g, 0, none⟩) (i + (n - j)) cap) W1) := happ
  have hic : i ≤ cap := by omega
  have hjc : j ≤ cap := by omega
  have hne : ¬ i = j := by omega
  have hcl' := hcl
  clear hh hone happ hcl hA hz0 hz2
  go_enter Try.func59, Try.ntmps59
  go_wp2_with fail
  go_region_law_o (refine step_append_by rfl (.tmp 22) (.tmp 25) 26 rfl (w' := W1) X1.out ?_)
  go_wp2
  go_ret
  exact ⟨rfl, rfl⟩
def F_slices_Delete_impl_Proposal_impl_Proposal (x : List (Int × (Int × (ByteArray × (List Int)))) × Int × Int) : Option (List (Int × (Int × (ByteArray × (List Int))))) := bif (decide (0 ≤ x.2.1) && decide (x.2.1 ≤ x.2.2) && decide (x.2.2 ≤ (x.1.length : Int)) && decide (x.1.length ≤ 9223372036854775807)) then some (x.1.take x.2.1.toNat ++ x.1.drop x.2.2.toNat) else none
noncomputable def c_slices_Delete_impl_Proposal_impl_Proposal : Con := { ps := [(.eat true, .slice (.st (.pair (.int .i64) (.pair (.int .i64) (.pair .str (.slice (.int .i64))))))), (.val, .int .i64), (.val, .int .i64)], rs := [(.io true, .slice (.st (.pair (.int .i64) (.pair (.int .i64) (.pair .str (.slice (.int .i64)))))))], F := F_slices_Delete_impl_Proposal_impl_Proposal }
theorem con_slices_Delete_impl_Proposal_impl_Proposal : ConOK Try.prog 59 c_slices_Delete_impl_Proposal_impl_Proposal := con_delete ⟨Try.f59, Try.func59, by kernel_rfl, by kernel_rfl⟩ (.st (.pair (.int .i64) (.pair (.int .i64) (.pair .str (.slice (.int .i64)))))) (Value.cells (.agg #[(.int .i64 0), (.int .i64 0), (.string ⟨#[]⟩), (.slice none 0 0)])).toList same_slices_Delete_impl_Proposal_impl_Proposal cut_slices_Delete_impl_Proposal_impl_Proposal
end

noncomputable def K_impl_WithdrawProposal_1 (q : Unit) (x : Int) : Option (Bool) := F_impl_WithdrawProposal_1 x
noncomputable def k_impl_WithdrawProposal_1 : CloCon := { caps := [], a := (.int .i64), r := .bool, F := K_impl_WithdrawProposal_1 }
theorem clo_impl_WithdrawProposal_1 : CloOK Try.prog 58 k_impl_WithdrawProposal_1 := clo_of_con k_impl_WithdrawProposal_1 F_impl_WithdrawProposal_1 con_impl_WithdrawProposal_1 rfl (fun kx x y h => ⟨y, h, rfl⟩)
noncomputable def F_impl_WithdrawProposal (x : (List (Int × (Int × (ByteArray × (List Int))))) × Int × Int) : Option ((List (Int × (Int × (ByteArray × (List Int))))) × Bool) :=
  match F_impl_proposalAt ((x.1, x.2.2)) with
  | none => none
  | some y1 =>
    match F_impl_AreProposals ((x.1, x.2.1)) with
    | none => none
    | some y2 =>
      bif (!y2) then
        some (([], false))
      else
        bif (decide (y1 < 0)) then
          some (([], false))
        else
          bif decide (0 ≤ y1) && decide (y1 < (x.1.length : Int)) then
            match F_slices_ContainsFunc_int_int (((x.1.getD (y1).toNat (0, (0, ByteArray.empty, []))).2.2.2, (K_impl_WithdrawProposal_1 ()))) with
            | none => none
            | some y3 =>
              bif y3 then
                some (([], false))
              else
                match F_impl_copyProposals (x.1) with
                | none => none
                | some y4 =>
                  let v5 := IntKind.i64.wrap (y1 + 1)
                  match F_slices_Delete_impl_Proposal_impl_Proposal ((y4, y1, v5)) with
                  | none => none
                  | some y6 =>
                    some ((y6, true))
          else none
noncomputable def c_impl_WithdrawProposal : Con := { ps := [(.val, (.slice (.st (.pair (.int .i64) (.pair (.int .i64) (.pair .str (.slice (.int .i64)))))))), (.val, (.int .i64)), (.val, (.int .i64))], rs := [(.io true, (.slice (.st (.pair (.int .i64) (.pair (.int .i64) (.pair .str (.slice (.int .i64)))))))), (.val, .bool)], F := F_impl_WithdrawProposal }
noncomputable def env_impl_WithdrawProposal : Env := { par := [], dp := true, settle := [], con := fun f => match f with | 45 => some c_impl_proposalAt | 46 => some c_impl_AreProposals | 54 => some c_impl_copyProposals | 57 => some c_slices_ContainsFunc_int_int | 59 => some c_slices_Delete_impl_Proposal_impl_Proposal | _ => none, clo := fun f => match f with | 58 => some k_impl_WithdrawProposal_1 | _ => none, T := tinf Try.prog }
noncomputable def loops_impl_WithdrawProposal : Nat → Option Loop := fun n => none
theorem F_impl_WithdrawProposal_eq (x : (List (Int × (Int × (ByteArray × (List Int))))) × Int × Int) : Fev env_impl_WithdrawProposal loops_impl_WithdrawProposal c_impl_WithdrawProposal.ps c_impl_WithdrawProposal.rs Try.f27 x = F_impl_WithdrawProposal x := by kernel_rfl
theorem env_impl_WithdrawProposal_ok : EnvOK Try.prog env_impl_WithdrawProposal := envOK_of (fun f c h => by
  simp only [env_impl_WithdrawProposal] at h
  split at h
  · cases h; exact con_impl_proposalAt
  · cases h; exact con_impl_AreProposals
  · cases h; exact con_impl_copyProposals
  · cases h; exact con_slices_ContainsFunc_int_int
  · cases h; exact con_slices_Delete_impl_Proposal_impl_Proposal
  · cases h) (fun f c h => by
  simp only [env_impl_WithdrawProposal] at h
  split at h
  · cases h; exact clo_impl_WithdrawProposal_1
  · cases h) rfl
theorem con_impl_WithdrawProposal : ConOK Try.prog 27 c_impl_WithdrawProposal := con_of_ev' (body := Try.f27.body.getD .skip) (Λ := loops_impl_WithdrawProposal) mixed Try.func27 (by kernel_rfl) (by kernel_rfl) env_impl_WithdrawProposal_ok (by kernel_rfl) (by kernel_rfl) (fun n L h => by cases h) F_impl_WithdrawProposal_eq

noncomputable def step_laws_eqIntS_0 (s : (List Int) × (List Int) × Int) : Option (((List Int) × (List Int) × Int) ⊕ ((Bool) ⊕ (Unit))) :=
  bif (decide (s.2.2 < (s.1.length : Int))) then
    bif decide (0 ≤ s.2.2) && decide (s.2.2 < (s.1.length : Int)) then
      bif decide (0 ≤ s.2.2) && decide (s.2.2 < (s.2.1.length : Int)) then
        bif (((s.1.getD (s.2.2).toNat 0) != (s.2.1.getD (s.2.2).toNat 0))) then
          some (.inr (.inl (false)))
        else
          let v2 := IntKind.i64.wrap (s.2.2 + 1)
          some (.inl ((s.1, s.2.1, v2)))
      else none
    else none
  else
    some (.inr (.inr (())))
def pat_laws_eqIntS_0 : Pat := { tmps := [.v (.slice (.int .i64)), .v (.slice (.int .i64)), .any, .any, .any, .v (.int .i64), .any, .any, .any, .any, .any, .any, .any, .any, .any, .any, .any, .any, .any, .any, .any, .any, .any, .any, .any, .any], blks := [] }
def outs_laws_eqIntS_0 : List (Exit × Pat) := [(.ret, { tmps := [.any, .any, .any, .any, .v .bool, .any, .any, .any, .any, .any, .any, .any, .any, .any, .any, .any, .any, .any, .any, .any, .any, .any, .any, .any, .any, .any], blks := [] }), (.exit 0, { tmps := [.any, .any, .any, .any, .any, .any, .any, .any, .any, .any, .any, .any, .any, .any, .any, .any, .any, .any, .any, .any, .any, .any, .any, .any, .any, .any], blks := [] })]
noncomputable def F_laws_eqIntS (x : (List Int) × (List Int)) : Option (Bool) :=
  bif (((x.1.length : Int) != (x.2.length : Int))) then
    some (false)
  else
    match runL step_laws_eqIntS_0 ((x.1, x.2, 0)) with
    | none => none
    | some (.inl o3) =>
      some (o3)
    | some (.inr o3) =>
      some (true)
noncomputable def c_laws_eqIntS : Con := { ps := [(.val, (.slice (.int .i64))), (.val, (.slice (.int .i64)))], rs := [(.val, .bool)], F := F_laws_eqIntS }
noncomputable def env_laws_eqIntS : Env := { par := [], dp := false, settle := [], con := fun _ => none, clo := fun _ => none, T := tinf Try.prog }
noncomputable def loops_laws_eqIntS : Nat → Option Loop := fun n => match n with | 4 => some { pat := pat_laws_eqIntS_0, outs := outs_laws_eqIntS_0, run := runL (step_laws_eqIntS_0) } | _ => none
theorem step_laws_eqIntS_0_eq (s : (List Int) × (List Int) × Int) : stepEv env_laws_eqIntS loops_laws_eqIntS pat_laws_eqIntS_0 outs_laws_eqIntS_0 Try.f17 4 s = step_laws_eqIntS_0 s := by kernel_rfl
theorem F_laws_eqIntS_eq (x : (List Int) × (List Int)) : Fev env_laws_eqIntS loops_laws_eqIntS c_laws_eqIntS.ps c_laws_eqIntS.rs Try.f17 x = F_laws_eqIntS x := by kernel_rfl
theorem env_laws_eqIntS_ok : EnvOK Try.prog env_laws_eqIntS := envOK_of (fun f c h => by cases h) (fun f c h => by cases h) rfl
theorem con_laws_eqIntS : ConOK Try.prog 17 c_laws_eqIntS := con_of_ev' (body := Try.f17.body.getD .skip) (Λ := loops_laws_eqIntS) mixed Try.func17 (by kernel_rfl) (by kernel_rfl) env_laws_eqIntS_ok (by kernel_rfl) (by kernel_rfl) (fun n L h => by
  unfold loops_laws_eqIntS at h
  split at h
  · cases h; exact fun s o ho => loop_ok (stepF := stepEv env_laws_eqIntS loops_laws_eqIntS pat_laws_eqIntS_0 outs_laws_eqIntS_0 Try.f17 4) (step_laws_eqIntS_0_eq) ho
  · cases h) F_laws_eqIntS_eq

noncomputable def F_laws_eqProposal (x : (Int × (Int × (ByteArray × (List Int)))) × (Int × (Int × (ByteArray × (List Int))))) : Option (Bool) :=
  bif ((x.1.1 != x.2.1)) then
    some (false)
  else
    bif ((x.1.2.1 != x.2.2.1)) then
      some (false)
    else
      bif (!(x.1.2.2.1.toList == x.2.2.2.1.toList)) then
        some (false)
      else
        match F_laws_eqIntS ((x.1.2.2.2, x.2.2.2.2)) with
        | none => none
        | some y1 =>
          bif (!y1) then
            some (false)
          else
            some (true)
noncomputable def c_laws_eqProposal : Con := { ps := [(.val, (.st (.pair (.int .i64) (.pair (.int .i64) (.pair .str (.slice (.int .i64))))))), (.val, (.st (.pair (.int .i64) (.pair (.int .i64) (.pair .str (.slice (.int .i64)))))))], rs := [(.val, .bool)], F := F_laws_eqProposal }
noncomputable def env_laws_eqProposal : Env := { par := [], dp := false, settle := [], con := fun f => match f with | 17 => some c_laws_eqIntS | _ => none, clo := fun _ => none, T := tinf Try.prog }
noncomputable def loops_laws_eqProposal : Nat → Option Loop := fun n => none
theorem F_laws_eqProposal_eq (x : (Int × (Int × (ByteArray × (List Int)))) × (Int × (Int × (ByteArray × (List Int))))) : Fev env_laws_eqProposal loops_laws_eqProposal c_laws_eqProposal.ps c_laws_eqProposal.rs Try.f50 x = F_laws_eqProposal x := by kernel_rfl
theorem env_laws_eqProposal_ok : EnvOK Try.prog env_laws_eqProposal := envOK_of (fun f c h => by
  simp only [env_laws_eqProposal] at h
  split at h
  · cases h; exact con_laws_eqIntS
  · cases h) (fun f c h => by cases h) rfl
theorem con_laws_eqProposal : ConOK Try.prog 50 c_laws_eqProposal := con_of_ev' (body := Try.f50.body.getD .skip) (Λ := loops_laws_eqProposal) mixed Try.func50 (by kernel_rfl) (by kernel_rfl) env_laws_eqProposal_ok (by kernel_rfl) (by kernel_rfl) (fun n L h => by cases h) F_laws_eqProposal_eq

noncomputable def step_laws_eqProposalS_0 (s : (List (Int × (Int × (ByteArray × (List Int))))) × (List (Int × (Int × (ByteArray × (List Int))))) × Int) : Option (((List (Int × (Int × (ByteArray × (List Int))))) × (List (Int × (Int × (ByteArray × (List Int))))) × Int) ⊕ ((Bool) ⊕ (Unit))) :=
  bif (decide (s.2.2 < (s.1.length : Int))) then
    bif decide (0 ≤ s.2.2) && decide (s.2.2 < (s.1.length : Int)) then
      bif decide (0 ≤ s.2.2) && decide (s.2.2 < (s.2.1.length : Int)) then
        match F_laws_eqProposal (((s.1.getD (s.2.2).toNat (0, (0, ByteArray.empty, []))), (s.2.1.getD (s.2.2).toNat (0, (0, ByteArray.empty, []))))) with
        | none => none
        | some y3 =>
          bif (!y3) then
            some (.inr (.inl (false)))
          else
            let v4 := IntKind.i64.wrap (s.2.2 + 1)
            some (.inl ((s.1, s.2.1, v4)))
      else none
    else none
  else
    some (.inr (.inr (())))
def pat_laws_eqProposalS_0 : Pat := { tmps := [.v (.slice (.st (.pair (.int .i64) (.pair (.int .i64) (.pair .str (.slice (.int .i64))))))), .v (.slice (.st (.pair (.int .i64) (.pair (.int .i64) (.pair .str (.slice (.int .i64))))))), .any, .any, .any, .v (.int .i64), .any, .any, .any, .any, .any, .any, .any, .any, .any, .any, .any, .any, .any, .any, .any, .any, .any, .any, .any, .any, .any], blks := [] }
def outs_laws_eqProposalS_0 : List (Exit × Pat) := [(.ret, { tmps := [.any, .any, .any, .any, .v .bool, .any, .any, .any, .any, .any, .any, .any, .any, .any, .any, .any, .any, .any, .any, .any, .any, .any, .any, .any, .any, .any, .any], blks := [] }), (.exit 0, { tmps := [.any, .any, .any, .any, .any, .any, .any, .any, .any, .any, .any, .any, .any, .any, .any, .any, .any, .any, .any, .any, .any, .any, .any, .any, .any, .any, .any], blks := [] })]
noncomputable def F_laws_eqProposalS (x : (List (Int × (Int × (ByteArray × (List Int))))) × (List (Int × (Int × (ByteArray × (List Int)))))) : Option (Bool) :=
  bif (((x.1.length : Int) != (x.2.length : Int))) then
    some (false)
  else
    match runL step_laws_eqProposalS_0 ((x.1, x.2, 0)) with
    | none => none
    | some (.inl o5) =>
      some (o5)
    | some (.inr o5) =>
      some (true)
noncomputable def c_laws_eqProposalS : Con := { ps := [(.val, (.slice (.st (.pair (.int .i64) (.pair (.int .i64) (.pair .str (.slice (.int .i64)))))))), (.val, (.slice (.st (.pair (.int .i64) (.pair (.int .i64) (.pair .str (.slice (.int .i64))))))))], rs := [(.val, .bool)], F := F_laws_eqProposalS }
noncomputable def env_laws_eqProposalS : Env := { par := [], dp := false, settle := [], con := fun f => match f with | 50 => some c_laws_eqProposal | _ => none, clo := fun _ => none, T := tinf Try.prog }
noncomputable def loops_laws_eqProposalS : Nat → Option Loop := fun n => match n with | 4 => some { pat := pat_laws_eqProposalS_0, outs := outs_laws_eqProposalS_0, run := runL (step_laws_eqProposalS_0) } | _ => none
theorem step_laws_eqProposalS_0_eq (s : (List (Int × (Int × (ByteArray × (List Int))))) × (List (Int × (Int × (ByteArray × (List Int))))) × Int) : stepEv env_laws_eqProposalS loops_laws_eqProposalS pat_laws_eqProposalS_0 outs_laws_eqProposalS_0 Try.f14 4 s = step_laws_eqProposalS_0 s := by kernel_rfl
theorem F_laws_eqProposalS_eq (x : (List (Int × (Int × (ByteArray × (List Int))))) × (List (Int × (Int × (ByteArray × (List Int)))))) : Fev env_laws_eqProposalS loops_laws_eqProposalS c_laws_eqProposalS.ps c_laws_eqProposalS.rs Try.f14 x = F_laws_eqProposalS x := by kernel_rfl
theorem env_laws_eqProposalS_ok : EnvOK Try.prog env_laws_eqProposalS := envOK_of (fun f c h => by
  simp only [env_laws_eqProposalS] at h
  split at h
  · cases h; exact con_laws_eqProposal
  · cases h) (fun f c h => by cases h) rfl
theorem con_laws_eqProposalS : ConOK Try.prog 14 c_laws_eqProposalS := con_of_ev' (body := Try.f14.body.getD .skip) (Λ := loops_laws_eqProposalS) mixed Try.func14 (by kernel_rfl) (by kernel_rfl) env_laws_eqProposalS_ok (by kernel_rfl) (by kernel_rfl) (fun n L h => by
  unfold loops_laws_eqProposalS at h
  split at h
  · cases h; exact fun s o ho => loop_ok (stepF := stepEv env_laws_eqProposalS loops_laws_eqProposalS pat_laws_eqProposalS_0 outs_laws_eqProposalS_0 Try.f14 4) (step_laws_eqProposalS_0_eq) ho
  · cases h) F_laws_eqProposalS_eq

noncomputable def step_laws_markText_0 (s : Int × ByteArray) : Option ((Int × ByteArray) ⊕ ((ByteArray))) :=
  bif (decide (s.1 > 0)) then
    bif !decide (10 = 0) then
      let v5 := (s.1).tmod 10
      let v6 := IntKind.i64.wrap (48 + v5)
      let v7 := IntKind.u8.wrap v6
      bif decide ((bytesStr [v7]).size + s.2.size ≤ 9223372036854775807) then
        bif !decide (10 = 0) then
          let v8 := IntKind.i64.wrap ((s.1).tdiv 10)
          some (.inl ((v8, ((bytesStr [v7]) ++ s.2))))
        else none
      else none
    else none
  else
    some (.inr (s.2))
def pat_laws_markText_0 : Pat := { tmps := [.v (.int .i64), .any, .any, .v .str, .any, .any, .any, .any, .any, .any, .any, .any, .any, .any, .any, .any, .any, .any, .any, .any], blks := [] }
def outs_laws_markText_0 : List (Exit × Pat) := [(.exit 0, { tmps := [.any, .any, .any, .v .str, .any, .any, .any, .any, .any, .any, .any, .any, .any, .any, .any, .any, .any, .any, .any, .any], blks := [] })]
noncomputable def F_laws_markText (x : Int) : Option (ByteArray) :=
  bif (decide (x ≤ 0)) then
    some ((⟨#[109, 48]⟩ : ByteArray))
  else
    match runL step_laws_markText_0 ((x, (⟨#[]⟩ : ByteArray))) with
    | none => none
    | some o9 =>
      bif decide ((⟨#[109]⟩ : ByteArray).size + o9.size ≤ 9223372036854775807) then
        some (((⟨#[109]⟩ : ByteArray) ++ o9))
      else none
noncomputable def c_laws_markText : Con := { ps := [(.val, (.int .i64))], rs := [(.val, .str)], F := F_laws_markText }
noncomputable def env_laws_markText : Env := { par := [], dp := false, settle := [], con := fun _ => none, clo := fun _ => none, T := tinf Try.prog }
noncomputable def loops_laws_markText : Nat → Option Loop := fun n => match n with | 4 => some { pat := pat_laws_markText_0, outs := outs_laws_markText_0, run := runL (step_laws_markText_0) } | _ => none
theorem step_laws_markText_0_eq (s : Int × ByteArray) : stepEv env_laws_markText loops_laws_markText pat_laws_markText_0 outs_laws_markText_0 Try.f51 4 s = step_laws_markText_0 s := by kernel_rfl
theorem F_laws_markText_eq (x : Int) : Fev env_laws_markText loops_laws_markText c_laws_markText.ps c_laws_markText.rs Try.f51 x = F_laws_markText x := by kernel_rfl
theorem env_laws_markText_ok : EnvOK Try.prog env_laws_markText := envOK_of (fun f c h => by cases h) (fun f c h => by cases h) rfl
theorem con_laws_markText : ConOK Try.prog 51 c_laws_markText := con_of_ev' (body := Try.f51.body.getD .skip) (Λ := loops_laws_markText) mixed Try.func51 (by kernel_rfl) (by kernel_rfl) env_laws_markText_ok (by kernel_rfl) (by kernel_rfl) (fun n L h => by
  unfold loops_laws_markText at h
  split at h
  · cases h; exact fun s o ho => loop_ok (stepF := stepEv env_laws_markText loops_laws_markText pat_laws_markText_0 outs_laws_markText_0 Try.f51 4) (step_laws_markText_0_eq) ho
  · cases h) F_laws_markText_eq

noncomputable def step_laws_markIntS_0 (s : Int × Int × (List Int)) : Option ((Int × Int × (List Int)) ⊕ ((Int × (List Int)))) :=
  bif (decide (s.2.1 < (s.2.2.length : Int))) then
    bif decide (0 ≤ s.2.1) && decide (s.2.1 < (s.2.2.length : Int)) then
      let v4 := s.2.2.set (s.2.1).toNat (s.1)
      let v5 := IntKind.i64.wrap (s.1 + 1)
      let v6 := IntKind.i64.wrap (s.2.1 + 1)
      some (.inl ((v5, v6, v4)))
    else none
  else
    some (.inr ((s.1, s.2.2)))
def pat_laws_markIntS_0 : Pat := { tmps := [.own 63, .v (.int .i64), .any, .any, .any, .v (.int .i64), .any, .any, .any, .any, .any, .any, .any, .any, .any, .any, .any, .any, .any], blks := [(63, .row true (.int .i64))] }
def outs_laws_markIntS_0 : List (Exit × Pat) := [(.exit 0, { tmps := [.any, .v (.int .i64), .any, .any, .any, .any, .any, .any, .any, .any, .any, .any, .any, .any, .any, .any, .any, .any, .any], blks := [(63, .row true (.int .i64))] })]
noncomputable def F_laws_markIntS (x : (List Int) × Int) : Option ((List Int) × Int) :=
  match runL step_laws_markIntS_0 ((x.2, 0, x.1)) with
  | none => none
  | some o7 =>
    some ((o7.2, o7.1))
noncomputable def c_laws_markIntS : Con := { ps := [(.io true, (.slice (.int .i64))), (.val, (.int .i64))], rs := [(.val, (.int .i64))], F := F_laws_markIntS }
noncomputable def env_laws_markIntS : Env := { par := [63], dp := false, settle := [], con := fun _ => none, clo := fun _ => none, T := tinf Try.prog }
noncomputable def loops_laws_markIntS : Nat → Option Loop := fun n => match n with | 2 => some { pat := pat_laws_markIntS_0, outs := outs_laws_markIntS_0, run := runL (step_laws_markIntS_0) } | _ => none
theorem step_laws_markIntS_0_eq (s : Int × Int × (List Int)) : stepEv env_laws_markIntS loops_laws_markIntS pat_laws_markIntS_0 outs_laws_markIntS_0 Try.f19 2 s = step_laws_markIntS_0 s := by kernel_rfl
theorem F_laws_markIntS_eq (x : (List Int) × Int) : Fev env_laws_markIntS loops_laws_markIntS c_laws_markIntS.ps c_laws_markIntS.rs Try.f19 x = F_laws_markIntS x := by kernel_rfl
theorem env_laws_markIntS_ok : EnvOK Try.prog env_laws_markIntS := envOK_of (fun f c h => by cases h) (fun f c h => by cases h) rfl
theorem con_laws_markIntS : ConOK Try.prog 19 c_laws_markIntS := con_of_ev' (body := Try.f19.body.getD .skip) (Λ := loops_laws_markIntS) mixed Try.func19 (by kernel_rfl) (by kernel_rfl) env_laws_markIntS_ok (by kernel_rfl) (by kernel_rfl) (fun n L h => by
  unfold loops_laws_markIntS at h
  split at h
  · cases h; exact fun s o ho => loop_ok (stepF := stepEv env_laws_markIntS loops_laws_markIntS pat_laws_markIntS_0 outs_laws_markIntS_0 Try.f19 2) (step_laws_markIntS_0_eq) ho
  · cases h) F_laws_markIntS_eq

noncomputable def step_laws_markProposalS_0 (s : Int × Int × (List (Int × (Int × (ByteArray × (List Int)))))) : Option ((Int × Int × (List (Int × (Int × (ByteArray × (List Int)))))) ⊕ ((Int × (List (Int × (Int × (ByteArray × (List Int)))))))) :=
  bif (decide (s.2.1 < (s.2.2.length : Int))) then
    bif decide (0 ≤ s.2.1) && decide (s.2.1 < (s.2.2.length : Int)) then
      let v11 := s.2.2.set (s.2.1).toNat ((s.1, (s.2.2.getD (s.2.1).toNat (0, (0, ByteArray.empty, []))).2))
      let v12 := IntKind.i64.wrap (s.1 + 1)
      bif decide (0 ≤ s.2.1) && decide (s.2.1 < (v11.length : Int)) then
        let v13 := v11.set (s.2.1).toNat (((v11.getD (s.2.1).toNat (0, (0, ByteArray.empty, []))).1, v12, (v11.getD (s.2.1).toNat (0, (0, ByteArray.empty, []))).2.2))
        let v14 := IntKind.i64.wrap (v12 + 1)
        match F_laws_markText (v14) with
        | none => none
        | some y15 =>
          bif decide (0 ≤ s.2.1) && decide (s.2.1 < (v13.length : Int)) then
            let v16 := v13.set (s.2.1).toNat (((v13.getD (s.2.1).toNat (0, (0, ByteArray.empty, []))).1, ((v13.getD (s.2.1).toNat (0, (0, ByteArray.empty, []))).2.1, y15, (v13.getD (s.2.1).toNat (0, (0, ByteArray.empty, []))).2.2.2)))
            let v17 := IntKind.i64.wrap (v14 + 1)
            bif decide (0 ≤ s.2.1) && decide (s.2.1 < (v16.length : Int)) then
              match F_laws_markIntS (((v16.getD (s.2.1).toNat (0, (0, ByteArray.empty, []))).2.2.2, v17)) with
              | none => none
              | some y18 =>
                let v19 := v16.set (s.2.1).toNat (((v16.getD (s.2.1).toNat (0, (0, ByteArray.empty, []))).1, ((v16.getD (s.2.1).toNat (0, (0, ByteArray.empty, []))).2.1, (v16.getD (s.2.1).toNat (0, (0, ByteArray.empty, []))).2.2.1, y18.1)))
                let v20 := IntKind.i64.wrap (s.2.1 + 1)
                some (.inl ((y18.2, v20, v19)))
            else none
          else none
      else none
    else none
  else
    some (.inr ((s.1, s.2.2)))
def pat_laws_markProposalS_0 : Pat := { tmps := [.own 63, .v (.int .i64), .any, .any, .any, .v (.int .i64), .any, .any, .any, .any, .any, .any, .any, .any, .any, .any, .any, .any, .any, .any, .any, .any, .any, .any, .any, .any, .any, .any, .any, .any, .any, .any, .any, .any, .any, .any, .any, .any, .any, .any, .any, .any], blks := [(63, .row true (.st (.pair (.int .i64) (.pair (.int .i64) (.pair .str (.slice (.int .i64)))))))] }
def outs_laws_markProposalS_0 : List (Exit × Pat) := [(.exit 0, { tmps := [.any, .v (.int .i64), .any, .any, .any, .any, .any, .any, .any, .any, .any, .any, .any, .any, .any, .any, .any, .any, .any, .any, .any, .any, .any, .any, .any, .any, .any, .any, .any, .any, .any, .any, .any, .any, .any, .any, .any, .any, .any, .any, .any, .any], blks := [(63, .row true (.st (.pair (.int .i64) (.pair (.int .i64) (.pair .str (.slice (.int .i64)))))))] })]
noncomputable def F_laws_markProposalS (x : (List (Int × (Int × (ByteArray × (List Int))))) × Int) : Option ((List (Int × (Int × (ByteArray × (List Int))))) × Int) :=
  match runL step_laws_markProposalS_0 ((x.2, 0, x.1)) with
  | none => none
  | some o21 =>
    some ((o21.2, o21.1))
noncomputable def c_laws_markProposalS : Con := { ps := [(.io true, (.slice (.st (.pair (.int .i64) (.pair (.int .i64) (.pair .str (.slice (.int .i64)))))))), (.val, (.int .i64))], rs := [(.val, (.int .i64))], F := F_laws_markProposalS }
noncomputable def env_laws_markProposalS : Env := { par := [63, 9961534], dp := false, settle := [], con := fun f => match f with | 19 => some c_laws_markIntS | 51 => some c_laws_markText | _ => none, clo := fun _ => none, T := tinf Try.prog }
noncomputable def loops_laws_markProposalS : Nat → Option Loop := fun n => match n with | 2 => some { pat := pat_laws_markProposalS_0, outs := outs_laws_markProposalS_0, run := runL (step_laws_markProposalS_0) } | _ => none
theorem step_laws_markProposalS_0_eq (s : Int × Int × (List (Int × (Int × (ByteArray × (List Int)))))) : stepEv env_laws_markProposalS loops_laws_markProposalS pat_laws_markProposalS_0 outs_laws_markProposalS_0 Try.f18 2 s = step_laws_markProposalS_0 s := by kernel_rfl
theorem F_laws_markProposalS_eq (x : (List (Int × (Int × (ByteArray × (List Int))))) × Int) : Fev env_laws_markProposalS loops_laws_markProposalS c_laws_markProposalS.ps c_laws_markProposalS.rs Try.f18 x = F_laws_markProposalS x := by kernel_rfl
theorem env_laws_markProposalS_ok : EnvOK Try.prog env_laws_markProposalS := envOK_of (fun f c h => by
  simp only [env_laws_markProposalS] at h
  split at h
  · cases h; exact con_laws_markIntS
  · cases h; exact con_laws_markText
  · cases h) (fun f c h => by cases h) rfl
theorem con_laws_markProposalS : ConOK Try.prog 18 c_laws_markProposalS := con_of_ev' (body := Try.f18.body.getD .skip) (Λ := loops_laws_markProposalS) mixed Try.func18 (by kernel_rfl) (by kernel_rfl) env_laws_markProposalS_ok (by kernel_rfl) (by kernel_rfl) (fun n L h => by
  unfold loops_laws_markProposalS at h
  split at h
  · cases h; exact fun s o ho => loop_ok (stepF := stepEv env_laws_markProposalS loops_laws_markProposalS pat_laws_markProposalS_0 outs_laws_markProposalS_0 Try.f18 2) (step_laws_markProposalS_0_eq) ho
  · cases h) F_laws_markProposalS_eq

noncomputable def step_laws_heldIntS_0 (s : (List Int) × Int × Int) : Option (((List Int) × Int × Int) ⊕ ((Int) ⊕ (Int))) :=
  bif (decide (s.2.2 < (s.1.length : Int))) then
    bif decide (0 ≤ s.2.2) && decide (s.2.2 < (s.1.length : Int)) then
      bif (((s.1.getD (s.2.2).toNat 0) != s.2.1)) then
        some (.inr (.inl ((-1))))
      else
        let v3 := IntKind.i64.wrap (s.2.1 + 1)
        let v4 := IntKind.i64.wrap (s.2.2 + 1)
        some (.inl ((s.1, v3, v4)))
    else none
  else
    some (.inr (.inr (s.2.1)))
def pat_laws_heldIntS_0 : Pat := { tmps := [.v (.slice (.int .i64)), .v (.int .i64), .any, .any, .any, .v (.int .i64), .any, .any, .any, .any, .any, .any, .any, .any, .any, .any, .any, .any, .any, .any, .any], blks := [] }
def outs_laws_heldIntS_0 : List (Exit × Pat) := [(.ret, { tmps := [.any, .any, .any, .any, .v (.int .i64), .any, .any, .any, .any, .any, .any, .any, .any, .any, .any, .any, .any, .any, .any, .any, .any], blks := [] }), (.exit 0, { tmps := [.any, .v (.int .i64), .any, .any, .any, .any, .any, .any, .any, .any, .any, .any, .any, .any, .any, .any, .any, .any, .any, .any, .any], blks := [] })]
noncomputable def F_laws_heldIntS (x : (List Int) × Int) : Option (Int) :=
  match runL step_laws_heldIntS_0 ((x.1, x.2, 0)) with
  | none => none
  | some (.inl o5) =>
    some (o5)
  | some (.inr o5) =>
    some (o5)
noncomputable def c_laws_heldIntS : Con := { ps := [(.val, (.slice (.int .i64))), (.val, (.int .i64))], rs := [(.val, (.int .i64))], F := F_laws_heldIntS }
noncomputable def env_laws_heldIntS : Env := { par := [], dp := false, settle := [], con := fun _ => none, clo := fun _ => none, T := tinf Try.prog }
noncomputable def loops_laws_heldIntS : Nat → Option Loop := fun n => match n with | 2 => some { pat := pat_laws_heldIntS_0, outs := outs_laws_heldIntS_0, run := runL (step_laws_heldIntS_0) } | _ => none
theorem step_laws_heldIntS_0_eq (s : (List Int) × Int × Int) : stepEv env_laws_heldIntS loops_laws_heldIntS pat_laws_heldIntS_0 outs_laws_heldIntS_0 Try.f20 2 s = step_laws_heldIntS_0 s := by kernel_rfl
theorem F_laws_heldIntS_eq (x : (List Int) × Int) : Fev env_laws_heldIntS loops_laws_heldIntS c_laws_heldIntS.ps c_laws_heldIntS.rs Try.f20 x = F_laws_heldIntS x := by kernel_rfl
theorem env_laws_heldIntS_ok : EnvOK Try.prog env_laws_heldIntS := envOK_of (fun f c h => by cases h) (fun f c h => by cases h) rfl
theorem con_laws_heldIntS : ConOK Try.prog 20 c_laws_heldIntS := con_of_ev' (body := Try.f20.body.getD .skip) (Λ := loops_laws_heldIntS) mixed Try.func20 (by kernel_rfl) (by kernel_rfl) env_laws_heldIntS_ok (by kernel_rfl) (by kernel_rfl) (fun n L h => by
  unfold loops_laws_heldIntS at h
  split at h
  · cases h; exact fun s o ho => loop_ok (stepF := stepEv env_laws_heldIntS loops_laws_heldIntS pat_laws_heldIntS_0 outs_laws_heldIntS_0 Try.f20 2) (step_laws_heldIntS_0_eq) ho
  · cases h) F_laws_heldIntS_eq

noncomputable def step_laws_heldProposalS_0 (s : (List (Int × (Int × (ByteArray × (List Int))))) × Int × Int) : Option (((List (Int × (Int × (ByteArray × (List Int))))) × Int × Int) ⊕ ((Int) ⊕ (Int))) :=
  bif (decide (s.2.2 < (s.1.length : Int))) then
    bif decide (0 ≤ s.2.2) && decide (s.2.2 < (s.1.length : Int)) then
      bif (((s.1.getD (s.2.2).toNat (0, (0, ByteArray.empty, []))).1 != s.2.1)) then
        some (.inr (.inl ((-1))))
      else
        let v7 := IntKind.i64.wrap (s.2.1 + 1)
        bif decide (0 ≤ s.2.2) && decide (s.2.2 < (s.1.length : Int)) then
          bif (((s.1.getD (s.2.2).toNat (0, (0, ByteArray.empty, []))).2.1 != v7)) then
            some (.inr (.inl ((-1))))
          else
            let v8 := IntKind.i64.wrap (v7 + 1)
            bif decide (0 ≤ s.2.2) && decide (s.2.2 < (s.1.length : Int)) then
              match F_laws_markText (v8) with
              | none => none
              | some y9 =>
                bif (!((s.1.getD (s.2.2).toNat (0, (0, ByteArray.empty, []))).2.2.1.toList == y9.toList)) then
                  some (.inr (.inl ((-1))))
                else
                  let v10 := IntKind.i64.wrap (v8 + 1)
                  bif decide (0 ≤ s.2.2) && decide (s.2.2 < (s.1.length : Int)) then
                    match F_laws_heldIntS (((s.1.getD (s.2.2).toNat (0, (0, ByteArray.empty, []))).2.2.2, v10)) with
                    | none => none
                    | some y11 =>
                      bif (decide (y11 < 0)) then
                        some (.inr (.inl ((-1))))
                      else
                        let v12 := IntKind.i64.wrap (s.2.2 + 1)
                        some (.inl ((s.1, y11, v12)))
                  else none
            else none
        else none
    else none
  else
    some (.inr (.inr (s.2.1)))
def pat_laws_heldProposalS_0 : Pat := { tmps := [.v (.slice (.st (.pair (.int .i64) (.pair (.int .i64) (.pair .str (.slice (.int .i64))))))), .v (.int .i64), .any, .any, .any, .v (.int .i64), .any, .any, .any, .any, .any, .any, .any, .any, .any, .any, .any, .any, .any, .any, .any, .any, .any, .any, .any, .any, .any, .any, .any, .any, .any, .any, .any, .any, .any, .any, .any, .any, .any, .any, .any, .any, .any, .any, .any, .any, .any, .any, .any, .any], blks := [] }
def outs_laws_heldProposalS_0 : List (Exit × Pat) := [(.ret, { tmps := [.any, .any, .any, .any, .v (.int .i64), .any, .any, .any, .any, .any, .any, .any, .any, .any, .any, .any, .any, .any, .any, .any, .any, .any, .any, .any, .any, .any, .any, .any, .any, .any, .any, .any, .any, .any, .any, .any, .any, .any, .any, .any, .any, .any, .any, .any, .any, .any, .any, .any, .any, .any], blks := [] }), (.exit 0, { tmps := [.any, .v (.int .i64), .any, .any, .any, .any, .any, .any, .any, .any, .any, .any, .any, .any, .any, .any, .any, .any, .any, .any, .any, .any, .any, .any, .any, .any, .any, .any, .any, .any, .any, .any, .any, .any, .any, .any, .any, .any, .any, .any, .any, .any, .any, .any, .any, .any, .any, .any, .any, .any], blks := [] })]
noncomputable def F_laws_heldProposalS (x : (List (Int × (Int × (ByteArray × (List Int))))) × Int) : Option (Int) :=
  match runL step_laws_heldProposalS_0 ((x.1, x.2, 0)) with
  | none => none
  | some (.inl o13) =>
    some (o13)
  | some (.inr o13) =>
    some (o13)
noncomputable def c_laws_heldProposalS : Con := { ps := [(.val, (.slice (.st (.pair (.int .i64) (.pair (.int .i64) (.pair .str (.slice (.int .i64)))))))), (.val, (.int .i64))], rs := [(.val, (.int .i64))], F := F_laws_heldProposalS }
noncomputable def env_laws_heldProposalS : Env := { par := [], dp := false, settle := [], con := fun f => match f with | 20 => some c_laws_heldIntS | 51 => some c_laws_markText | _ => none, clo := fun _ => none, T := tinf Try.prog }
noncomputable def loops_laws_heldProposalS : Nat → Option Loop := fun n => match n with | 2 => some { pat := pat_laws_heldProposalS_0, outs := outs_laws_heldProposalS_0, run := runL (step_laws_heldProposalS_0) } | _ => none
theorem step_laws_heldProposalS_0_eq (s : (List (Int × (Int × (ByteArray × (List Int))))) × Int × Int) : stepEv env_laws_heldProposalS loops_laws_heldProposalS pat_laws_heldProposalS_0 outs_laws_heldProposalS_0 Try.f23 2 s = step_laws_heldProposalS_0 s := by kernel_rfl
theorem F_laws_heldProposalS_eq (x : (List (Int × (Int × (ByteArray × (List Int))))) × Int) : Fev env_laws_heldProposalS loops_laws_heldProposalS c_laws_heldProposalS.ps c_laws_heldProposalS.rs Try.f23 x = F_laws_heldProposalS x := by kernel_rfl
theorem env_laws_heldProposalS_ok : EnvOK Try.prog env_laws_heldProposalS := envOK_of (fun f c h => by
  simp only [env_laws_heldProposalS] at h
  split at h
  · cases h; exact con_laws_heldIntS
  · cases h; exact con_laws_markText
  · cases h) (fun f c h => by cases h) rfl
theorem con_laws_heldProposalS : ConOK Try.prog 23 c_laws_heldProposalS := con_of_ev' (body := Try.f23.body.getD .skip) (Λ := loops_laws_heldProposalS) mixed Try.func23 (by kernel_rfl) (by kernel_rfl) env_laws_heldProposalS_ok (by kernel_rfl) (by kernel_rfl) (fun n L h => by
  unfold loops_laws_heldProposalS at h
  split at h
  · cases h; exact fun s o ho => loop_ok (stepF := stepEv env_laws_heldProposalS loops_laws_heldProposalS pat_laws_heldProposalS_0 outs_laws_heldProposalS_0 Try.f23 2) (step_laws_heldProposalS_0_eq) ho
  · cases h) F_laws_heldProposalS_eq

noncomputable def F_laws_FnExactWithdrawProposal (x : (List (Int × (Int × (ByteArray × (List Int))))) × Int × Int) : Option (Bool) :=
  match F_laws_szProposalS ((x.1, 1048576)) with
  | none => none
  | some y1 =>
    bif (decide (y1 < 0)) then
      some (true)
    else
      match F_laws_toProposalS (x.1) with
      | none => none
      | some y2 =>
        match F_spec_WithdrawProposal ((y2, x.2)) with
        | none => none
        | some y3 =>
          match F_laws_toProposalS (x.1) with
          | none => none
          | some y4 =>
            match F_impl_WithdrawProposal ((y4, x.2)) with
            | none => none
            | some y5 =>
              match F_laws_eqProposalS ((y5.1, y3.1)) with
              | none => none
              | some y6 =>
                bif (!y6) then
                  some (false)
                else
                  bif (!(y5.2 == y3.2)) then
                    some (false)
                  else
                    match F_laws_toProposalS (x.1) with
                    | none => none
                    | some y7 =>
                      match F_laws_eqProposalS ((y4, y7)) with
                      | none => none
                      | some y8 =>
                        bif (!y8) then
                          some (false)
                        else
                          match F_laws_markProposalS ((y4, 1)) with
                          | none => none
                          | some y9 =>
                            bif (decide (y9.2 < 0)) then
                              some (false)
                            else
                              match F_laws_eqProposalS ((y5.1, y3.1)) with
                              | none => none
                              | some y10 =>
                                bif (!y10) then
                                  some (false)
                                else
                                  bif (!(y5.2 == y3.2)) then
                                    some (false)
                                  else
                                    match F_laws_markProposalS ((y5.1, 1)) with
                                    | none => none
                                    | some y11 =>
                                      match F_laws_heldProposalS ((y11.1, 1)) with
                                      | none => none
                                      | some y12 =>
                                        bif (decide (y12 < 0)) then
                                          some (false)
                                        else
                                          bif ((y12 != y11.2)) then
                                            some (false)
                                          else
                                            match F_laws_toProposalS (x.1) with
                                            | none => none
                                            | some y13 =>
                                              match F_impl_WithdrawProposal ((y13, x.2)) with
                                              | none => none
                                              | some y14 =>
                                                match F_laws_eqProposalS ((y14.1, y3.1)) with
                                                | none => none
                                                | some y15 =>
                                                  bif (!y15) then
                                                    some (false)
                                                  else
                                                    bif (!(y14.2 == y3.2)) then
                                                      some (false)
                                                    else
                                                      match F_laws_heldProposalS ((y11.1, 1)) with
                                                      | none => none
                                                      | some y16 =>
                                                        bif (decide (y16 < 0)) then
                                                          some (false)
                                                        else
                                                          bif ((y16 != y11.2)) then
                                                            some (false)
                                                          else
                                                            some (true)
noncomputable def c_laws_FnExactWithdrawProposal : Con := { ps := [(.val, (.slice (.st (.pair (.int .i64) (.pair (.int .i64) (.pair .str (.slice (.int .i64)))))))), (.val, (.int .i64)), (.val, (.int .i64))], rs := [(.val, .bool)], F := F_laws_FnExactWithdrawProposal }
noncomputable def env_laws_FnExactWithdrawProposal : Env := { par := [], dp := false, settle := [], con := fun f => match f with | 10 => some c_laws_szProposalS | 12 => some c_laws_toProposalS | 14 => some c_laws_eqProposalS | 18 => some c_laws_markProposalS | 23 => some c_laws_heldProposalS | 26 => some c_spec_WithdrawProposal | 27 => some c_impl_WithdrawProposal | _ => none, clo := fun _ => none, T := tinf Try.prog }
noncomputable def loops_laws_FnExactWithdrawProposal : Nat → Option Loop := fun n => none
theorem F_laws_FnExactWithdrawProposal_eq (x : (List (Int × (Int × (ByteArray × (List Int))))) × Int × Int) : Fev env_laws_FnExactWithdrawProposal loops_laws_FnExactWithdrawProposal c_laws_FnExactWithdrawProposal.ps c_laws_FnExactWithdrawProposal.rs Try.f7 x = F_laws_FnExactWithdrawProposal x := by kernel_rfl
theorem env_laws_FnExactWithdrawProposal_ok : EnvOK Try.prog env_laws_FnExactWithdrawProposal := envOK_of (fun f c h => by
  simp only [env_laws_FnExactWithdrawProposal] at h
  split at h
  · cases h; exact con_laws_szProposalS
  · cases h; exact con_laws_toProposalS
  · cases h; exact con_laws_eqProposalS
  · cases h; exact con_laws_markProposalS
  · cases h; exact con_laws_heldProposalS
  · cases h; exact con_spec_WithdrawProposal
  · cases h; exact con_impl_WithdrawProposal
  · cases h) (fun f c h => by cases h) rfl
theorem con_laws_FnExactWithdrawProposal : ConOK Try.prog 7 c_laws_FnExactWithdrawProposal := con_of_ev' (body := Try.f7.body.getD .skip) (Λ := loops_laws_FnExactWithdrawProposal) mixed Try.func7 (by kernel_rfl) (by kernel_rfl) env_laws_FnExactWithdrawProposal_ok (by kernel_rfl) (by kernel_rfl) (fun n L h => by cases h) F_laws_FnExactWithdrawProposal_eq

noncomputable def F_spec_PutProposal (x : (List (Int × (Int × (ByteArray × (List Int))))) × Int × Int × ByteArray) : Option ((List (Int × (Int × (ByteArray × (List Int))))) × Int × Bool) :=
  match F_spec_ofGood ((x.1, x.2.1)) with
  | none => none
  | some y1 =>
    bif (!y1) then
      some (([], 0, false))
    else
      bif (decide ((x.1.length : Int) > 0)) then
        let v2 := IntKind.i64.wrap ((x.1.length : Int) - 1)
        bif decide (0 ≤ v2) && decide (v2 < (x.1.length : Int)) then
          let v3 := IntKind.i64.wrap ((x.1.getD (v2).toNat (0, (0, ByteArray.empty, []))).1 + 1)
          match F_spec_ofOwn (x.1) with
          | none => none
          | some y4 =>
            bif decide (0 ≤ x.2.1) && decide (x.2.1 ≤ x.2.1) && decide (x.2.1 * (8 : Int) ≤ 140737488355328) then
              bif decide ((y4.length + ([(v3, (x.2.2.1, x.2.2.2, (List.replicate (x.2.1).toNat (0))))] : List ((Int × (Int × (ByteArray × (List Int)))))).length) * 56 ≤ 140737488355328) && true && true then
                let v5 := y4 ++ ([(v3, (x.2.2.1, x.2.2.2, (List.replicate (x.2.1).toNat (0))))] : List ((Int × (Int × (ByteArray × (List Int))))))
                match F_spec_ofGood ((v5, x.2.1)) with
                | none => none
                | some y6 =>
                  bif (!y6) then
                    some (([], 0, false))
                  else
                    some ((v5, v3, true))
              else none
            else none
        else none
      else
        match F_spec_ofOwn (x.1) with
        | none => none
        | some y7 =>
          bif decide (0 ≤ x.2.1) && decide (x.2.1 ≤ x.2.1) && decide (x.2.1 * (8 : Int) ≤ 140737488355328) then
            bif decide ((y7.length + ([(1, (x.2.2.1, x.2.2.2, (List.replicate (x.2.1).toNat (0))))] : List ((Int × (Int × (ByteArray × (List Int)))))).length) * 56 ≤ 140737488355328) && true && true then
              let v8 := y7 ++ ([(1, (x.2.2.1, x.2.2.2, (List.replicate (x.2.1).toNat (0))))] : List ((Int × (Int × (ByteArray × (List Int))))))
              match F_spec_ofGood ((v8, x.2.1)) with
              | none => none
              | some y9 =>
                bif (!y9) then
                  some (([], 0, false))
                else
                  some ((v8, 1, true))
            else none
          else none
noncomputable def c_spec_PutProposal : Con := { ps := [(.val, (.slice (.st (.pair (.int .i64) (.pair (.int .i64) (.pair .str (.slice (.int .i64)))))))), (.val, (.int .i64)), (.val, (.int .i64)), (.val, .str)], rs := [(.io true, (.slice (.st (.pair (.int .i64) (.pair (.int .i64) (.pair .str (.slice (.int .i64)))))))), (.val, (.int .i64)), (.val, .bool)], F := F_spec_PutProposal }
noncomputable def env_spec_PutProposal : Env := { par := [], dp := true, settle := [], con := fun f => match f with | 41 => some c_spec_ofGood | 52 => some c_spec_ofOwn | _ => none, clo := fun _ => none, T := tinf Try.prog }
noncomputable def loops_spec_PutProposal : Nat → Option Loop := fun n => none
theorem F_spec_PutProposal_eq (x : (List (Int × (Int × (ByteArray × (List Int))))) × Int × Int × ByteArray) : Fev env_spec_PutProposal loops_spec_PutProposal c_spec_PutProposal.ps c_spec_PutProposal.rs Try.f21 x = F_spec_PutProposal x := by kernel_rfl
theorem env_spec_PutProposal_ok : EnvOK Try.prog env_spec_PutProposal := envOK_of (fun f c h => by
  simp only [env_spec_PutProposal] at h
  split at h
  · cases h; exact con_spec_ofGood
  · cases h; exact con_spec_ofOwn
  · cases h) (fun f c h => by cases h) rfl
theorem con_spec_PutProposal : ConOK Try.prog 21 c_spec_PutProposal := con_of_ev' (body := Try.f21.body.getD .skip) (Λ := loops_spec_PutProposal) mixed Try.func21 (by kernel_rfl) (by kernel_rfl) env_spec_PutProposal_ok (by kernel_rfl) (by kernel_rfl) (fun n L h => by cases h) F_spec_PutProposal_eq

noncomputable def F_impl_PutProposal (x : (List (Int × (Int × (ByteArray × (List Int))))) × Int × Int × ByteArray) : Option ((List (Int × (Int × (ByteArray × (List Int))))) × Int × Bool) :=
  match F_impl_AreProposals ((x.1, x.2.1)) with
  | none => none
  | some y1 =>
    bif (!y1) then
      some (([], 0, false))
    else
      match F_impl_IsGloss (x.2.2.2) with
      | none => none
      | some y2 =>
        bif (!y2) then
          some (([], 0, false))
        else
          bif (decide ((x.1.length : Int) > 0)) then
            let v3 := IntKind.i64.wrap ((x.1.length : Int) - 1)
            bif decide (0 ≤ v3) && decide (v3 < (x.1.length : Int)) then
              let v4 := IntKind.i64.wrap ((x.1.getD (v3).toNat (0, (0, ByteArray.empty, []))).1 + 1)
              match F_impl_copyProposals (x.1) with
              | none => none
              | some y5 =>
                bif decide (0 ≤ x.2.1) && decide (x.2.1 ≤ x.2.1) && decide (x.2.1 * (8 : Int) ≤ 140737488355328) then
                  bif decide ((y5.length + ([(v4, (x.2.2.1, x.2.2.2, (List.replicate (x.2.1).toNat (0))))] : List ((Int × (Int × (ByteArray × (List Int)))))).length) * 56 ≤ 140737488355328) && true && true then
                    let v6 := y5 ++ ([(v4, (x.2.2.1, x.2.2.2, (List.replicate (x.2.1).toNat (0))))] : List ((Int × (Int × (ByteArray × (List Int))))))
                    match F_impl_AreProposals ((v6, x.2.1)) with
                    | none => none
                    | some y7 =>
                      bif (!y7) then
                        some (([], 0, false))
                      else
                        some ((v6, v4, true))
                  else none
                else none
            else none
          else
            match F_impl_copyProposals (x.1) with
            | none => none
            | some y8 =>
              bif decide (0 ≤ x.2.1) && decide (x.2.1 ≤ x.2.1) && decide (x.2.1 * (8 : Int) ≤ 140737488355328) then
                bif decide ((y8.length + ([(1, (x.2.2.1, x.2.2.2, (List.replicate (x.2.1).toNat (0))))] : List ((Int × (Int × (ByteArray × (List Int)))))).length) * 56 ≤ 140737488355328) && true && true then
                  let v9 := y8 ++ ([(1, (x.2.2.1, x.2.2.2, (List.replicate (x.2.1).toNat (0))))] : List ((Int × (Int × (ByteArray × (List Int))))))
                  match F_impl_AreProposals ((v9, x.2.1)) with
                  | none => none
                  | some y10 =>
                    bif (!y10) then
                      some (([], 0, false))
                    else
                      some ((v9, 1, true))
                else none
              else none
noncomputable def c_impl_PutProposal : Con := { ps := [(.val, (.slice (.st (.pair (.int .i64) (.pair (.int .i64) (.pair .str (.slice (.int .i64)))))))), (.val, (.int .i64)), (.val, (.int .i64)), (.val, .str)], rs := [(.io true, (.slice (.st (.pair (.int .i64) (.pair (.int .i64) (.pair .str (.slice (.int .i64)))))))), (.val, (.int .i64)), (.val, .bool)], F := F_impl_PutProposal }
noncomputable def env_impl_PutProposal : Env := { par := [], dp := true, settle := [], con := fun f => match f with | 46 => some c_impl_AreProposals | 53 => some c_impl_IsGloss | 54 => some c_impl_copyProposals | _ => none, clo := fun _ => none, T := tinf Try.prog }
noncomputable def loops_impl_PutProposal : Nat → Option Loop := fun n => none
theorem F_impl_PutProposal_eq (x : (List (Int × (Int × (ByteArray × (List Int))))) × Int × Int × ByteArray) : Fev env_impl_PutProposal loops_impl_PutProposal c_impl_PutProposal.ps c_impl_PutProposal.rs Try.f22 x = F_impl_PutProposal x := by kernel_rfl
theorem env_impl_PutProposal_ok : EnvOK Try.prog env_impl_PutProposal := envOK_of (fun f c h => by
  simp only [env_impl_PutProposal] at h
  split at h
  · cases h; exact con_impl_AreProposals
  · cases h; exact con_impl_IsGloss
  · cases h; exact con_impl_copyProposals
  · cases h) (fun f c h => by cases h) rfl
theorem con_impl_PutProposal : ConOK Try.prog 22 c_impl_PutProposal := con_of_ev' (body := Try.f22.body.getD .skip) (Λ := loops_impl_PutProposal) mixed Try.func22 (by kernel_rfl) (by kernel_rfl) env_impl_PutProposal_ok (by kernel_rfl) (by kernel_rfl) (fun n L h => by cases h) F_impl_PutProposal_eq

noncomputable def F_laws_FnExactPutProposal (x : (List (Int × (Int × (ByteArray × (List Int))))) × Int × Int × ByteArray) : Option (Bool) :=
  bif (decide ((x.2.2.2.size : Int) > 1048576)) then
    some (true)
  else
    match F_laws_szProposalS ((x.1, 1048576)) with
    | none => none
    | some y1 =>
      bif (decide (y1 < 0)) then
        some (true)
      else
        match F_laws_toProposalS (x.1) with
        | none => none
        | some y2 =>
          match F_spec_PutProposal ((y2, x.2)) with
          | none => none
          | some y3 =>
            match F_laws_toProposalS (x.1) with
            | none => none
            | some y4 =>
              match F_impl_PutProposal ((y4, x.2)) with
              | none => none
              | some y5 =>
                match F_laws_eqProposalS ((y5.1, y3.1)) with
                | none => none
                | some y6 =>
                  bif (!y6) then
                    some (false)
                  else
                    bif ((y5.2.1 != y3.2.1)) then
                      some (false)
                    else
                      bif (!(y5.2.2 == y3.2.2)) then
                        some (false)
                      else
                        match F_laws_toProposalS (x.1) with
                        | none => none
                        | some y7 =>
                          match F_laws_eqProposalS ((y4, y7)) with
                          | none => none
                          | some y8 =>
                            bif (!y8) then
                              some (false)
                            else
                              match F_laws_markProposalS ((y4, 1)) with
                              | none => none
                              | some y9 =>
                                bif (decide (y9.2 < 0)) then
                                  some (false)
                                else
                                  match F_laws_eqProposalS ((y5.1, y3.1)) with
                                  | none => none
                                  | some y10 =>
                                    bif (!y10) then
                                      some (false)
                                    else
                                      bif ((y5.2.1 != y3.2.1)) then
                                        some (false)
                                      else
                                        bif (!(y5.2.2 == y3.2.2)) then
                                          some (false)
                                        else
                                          match F_laws_markProposalS ((y5.1, 1)) with
                                          | none => none
                                          | some y11 =>
                                            match F_laws_heldProposalS ((y11.1, 1)) with
                                            | none => none
                                            | some y12 =>
                                              bif (decide (y12 < 0)) then
                                                some (false)
                                              else
                                                bif ((y12 != y11.2)) then
                                                  some (false)
                                                else
                                                  match F_laws_toProposalS (x.1) with
                                                  | none => none
                                                  | some y13 =>
                                                    match F_impl_PutProposal ((y13, x.2)) with
                                                    | none => none
                                                    | some y14 =>
                                                      match F_laws_eqProposalS ((y14.1, y3.1)) with
                                                      | none => none
                                                      | some y15 =>
                                                        bif (!y15) then
                                                          some (false)
                                                        else
                                                          bif ((y14.2.1 != y3.2.1)) then
                                                            some (false)
                                                          else
                                                            bif (!(y14.2.2 == y3.2.2)) then
                                                              some (false)
                                                            else
                                                              match F_laws_heldProposalS ((y11.1, 1)) with
                                                              | none => none
                                                              | some y16 =>
                                                                bif (decide (y16 < 0)) then
                                                                  some (false)
                                                                else
                                                                  bif ((y16 != y11.2)) then
                                                                    some (false)
                                                                  else
                                                                    some (true)
noncomputable def c_laws_FnExactPutProposal : Con := { ps := [(.val, (.slice (.st (.pair (.int .i64) (.pair (.int .i64) (.pair .str (.slice (.int .i64)))))))), (.val, (.int .i64)), (.val, (.int .i64)), (.val, .str)], rs := [(.val, .bool)], F := F_laws_FnExactPutProposal }
noncomputable def env_laws_FnExactPutProposal : Env := { par := [], dp := false, settle := [], con := fun f => match f with | 10 => some c_laws_szProposalS | 12 => some c_laws_toProposalS | 14 => some c_laws_eqProposalS | 18 => some c_laws_markProposalS | 21 => some c_spec_PutProposal | 22 => some c_impl_PutProposal | 23 => some c_laws_heldProposalS | _ => none, clo := fun _ => none, T := tinf Try.prog }
noncomputable def loops_laws_FnExactPutProposal : Nat → Option Loop := fun n => none
theorem F_laws_FnExactPutProposal_eq (x : (List (Int × (Int × (ByteArray × (List Int))))) × Int × Int × ByteArray) : Fev env_laws_FnExactPutProposal loops_laws_FnExactPutProposal c_laws_FnExactPutProposal.ps c_laws_FnExactPutProposal.rs Try.f5 x = F_laws_FnExactPutProposal x := by kernel_rfl
theorem env_laws_FnExactPutProposal_ok : EnvOK Try.prog env_laws_FnExactPutProposal := envOK_of (fun f c h => by
  simp only [env_laws_FnExactPutProposal] at h
  split at h
  · cases h; exact con_laws_szProposalS
  · cases h; exact con_laws_toProposalS
  · cases h; exact con_laws_eqProposalS
  · cases h; exact con_laws_markProposalS
  · cases h; exact con_spec_PutProposal
  · cases h; exact con_impl_PutProposal
  · cases h; exact con_laws_heldProposalS
  · cases h) (fun f c h => by cases h) rfl
theorem con_laws_FnExactPutProposal : ConOK Try.prog 5 c_laws_FnExactPutProposal := con_of_ev' (body := Try.f5.body.getD .skip) (Λ := loops_laws_FnExactPutProposal) mixed Try.func5 (by kernel_rfl) (by kernel_rfl) env_laws_FnExactPutProposal_ok (by kernel_rfl) (by kernel_rfl) (fun n L h => by cases h) F_laws_FnExactPutProposal_eq

noncomputable def F_spec_CastVote (x : (List (Int × (Int × (ByteArray × (List Int))))) × Int × Int × Int × Int) : Option ((List (Int × (Int × (ByteArray × (List Int))))) × Bool) :=
  match F_spec_ofFind ((x.1, x.2.2.1)) with
  | none => none
  | some y1 =>
    match F_spec_ofGood ((x.1, x.2.1)) with
    | none => none
    | some y2 =>
      bif (!y2) then
        some (([], false))
      else
        bif (decide (y1 < 0)) then
          some (([], false))
        else
          let v3 := IntKind.i64.wrap (x.2.1 - 1)
          match F_spec_l1In ((x.2.2.2.1, 0, v3)) with
          | none => none
          | some y4 =>
            bif (!y4) then
              some (([], false))
            else
              bif ((x.2.2.2.2 != 1)) then
                bif ((x.2.2.2.2 != (-1))) then
                  some (([], false))
                else
                  match F_spec_ofOwn (x.1) with
                  | none => none
                  | some y5 =>
                    bif decide (0 ≤ y1) && decide (y1 < (y5.length : Int)) then
                      bif decide (0 ≤ x.2.2.2.1) && decide (x.2.2.2.1 < ((y5.getD (y1).toNat (0, (0, ByteArray.empty, []))).2.2.2.length : Int)) then
                        let v6 := (y5.getD (y1).toNat (0, (0, ByteArray.empty, []))).2.2.2.set (x.2.2.2.1).toNat (x.2.2.2.2)
                        let v7 := y5.set (y1).toNat (((y5.getD (y1).toNat (0, (0, ByteArray.empty, []))).1, ((y5.getD (y1).toNat (0, (0, ByteArray.empty, []))).2.1, (y5.getD (y1).toNat (0, (0, ByteArray.empty, []))).2.2.1, v6)))
                        some ((v7, true))
                      else none
                    else none
              else
                match F_spec_ofOwn (x.1) with
                | none => none
                | some y8 =>
                  bif decide (0 ≤ y1) && decide (y1 < (y8.length : Int)) then
                    bif decide (0 ≤ x.2.2.2.1) && decide (x.2.2.2.1 < ((y8.getD (y1).toNat (0, (0, ByteArray.empty, []))).2.2.2.length : Int)) then
                      let v9 := (y8.getD (y1).toNat (0, (0, ByteArray.empty, []))).2.2.2.set (x.2.2.2.1).toNat (x.2.2.2.2)
                      let v10 := y8.set (y1).toNat (((y8.getD (y1).toNat (0, (0, ByteArray.empty, []))).1, ((y8.getD (y1).toNat (0, (0, ByteArray.empty, []))).2.1, (y8.getD (y1).toNat (0, (0, ByteArray.empty, []))).2.2.1, v9)))
                      some ((v10, true))
                    else none
                  else none
noncomputable def c_spec_CastVote : Con := { ps := [(.val, (.slice (.st (.pair (.int .i64) (.pair (.int .i64) (.pair .str (.slice (.int .i64)))))))), (.val, (.int .i64)), (.val, (.int .i64)), (.val, (.int .i64)), (.val, (.int .i64))], rs := [(.io true, (.slice (.st (.pair (.int .i64) (.pair (.int .i64) (.pair .str (.slice (.int .i64)))))))), (.val, .bool)], F := F_spec_CastVote }
noncomputable def env_spec_CastVote : Env := { par := [], dp := true, settle := [], con := fun f => match f with | 40 => some c_spec_ofFind | 41 => some c_spec_ofGood | 52 => some c_spec_ofOwn | 55 => some c_spec_l1In | _ => none, clo := fun _ => none, T := tinf Try.prog }
noncomputable def loops_spec_CastVote : Nat → Option Loop := fun n => none
theorem F_spec_CastVote_eq (x : (List (Int × (Int × (ByteArray × (List Int))))) × Int × Int × Int × Int) : Fev env_spec_CastVote loops_spec_CastVote c_spec_CastVote.ps c_spec_CastVote.rs Try.f24 x = F_spec_CastVote x := by kernel_rfl
theorem env_spec_CastVote_ok : EnvOK Try.prog env_spec_CastVote := envOK_of (fun f c h => by
  simp only [env_spec_CastVote] at h
  split at h
  · cases h; exact con_spec_ofFind
  · cases h; exact con_spec_ofGood
  · cases h; exact con_spec_ofOwn
  · cases h; exact con_spec_l1In
  · cases h) (fun f c h => by cases h) rfl
theorem con_spec_CastVote : ConOK Try.prog 24 c_spec_CastVote := con_of_ev' (body := Try.f24.body.getD .skip) (Λ := loops_spec_CastVote) mixed Try.func24 (by kernel_rfl) (by kernel_rfl) env_spec_CastVote_ok (by kernel_rfl) (by kernel_rfl) (fun n L h => by cases h) F_spec_CastVote_eq

noncomputable def F_impl_CastVote (x : (List (Int × (Int × (ByteArray × (List Int))))) × Int × Int × Int × Int) : Option ((List (Int × (Int × (ByteArray × (List Int))))) × Bool) :=
  match F_impl_proposalAt ((x.1, x.2.2.1)) with
  | none => none
  | some y1 =>
    match F_impl_AreProposals ((x.1, x.2.1)) with
    | none => none
    | some y2 =>
      bif (!y2) then
        some (([], false))
      else
        bif (decide (y1 < 0)) then
          some (([], false))
        else
          let v3 := IntKind.i64.wrap (x.2.1 - 1)
          match F_impl_within ((x.2.2.2.1, 0, v3)) with
          | none => none
          | some y4 =>
            bif (!y4) then
              some (([], false))
            else
              bif ((x.2.2.2.2 != 1)) then
                bif ((x.2.2.2.2 != (-1))) then
                  some (([], false))
                else
                  match F_impl_copyProposals (x.1) with
                  | none => none
                  | some y5 =>
                    bif decide (0 ≤ y1) && decide (y1 < (y5.length : Int)) then
                      bif decide (0 ≤ x.2.2.2.1) && decide (x.2.2.2.1 < ((y5.getD (y1).toNat (0, (0, ByteArray.empty, []))).2.2.2.length : Int)) then
                        let v6 := (y5.getD (y1).toNat (0, (0, ByteArray.empty, []))).2.2.2.set (x.2.2.2.1).toNat (x.2.2.2.2)
                        let v7 := y5.set (y1).toNat (((y5.getD (y1).toNat (0, (0, ByteArray.empty, []))).1, ((y5.getD (y1).toNat (0, (0, ByteArray.empty, []))).2.1, (y5.getD (y1).toNat (0, (0, ByteArray.empty, []))).2.2.1, v6)))
                        some ((v7, true))
                      else none
                    else none
              else
                match F_impl_copyProposals (x.1) with
                | none => none
                | some y8 =>
                  bif decide (0 ≤ y1) && decide (y1 < (y8.length : Int)) then
                    bif decide (0 ≤ x.2.2.2.1) && decide (x.2.2.2.1 < ((y8.getD (y1).toNat (0, (0, ByteArray.empty, []))).2.2.2.length : Int)) then
                      let v9 := (y8.getD (y1).toNat (0, (0, ByteArray.empty, []))).2.2.2.set (x.2.2.2.1).toNat (x.2.2.2.2)
                      let v10 := y8.set (y1).toNat (((y8.getD (y1).toNat (0, (0, ByteArray.empty, []))).1, ((y8.getD (y1).toNat (0, (0, ByteArray.empty, []))).2.1, (y8.getD (y1).toNat (0, (0, ByteArray.empty, []))).2.2.1, v9)))
                      some ((v10, true))
                    else none
                  else none
noncomputable def c_impl_CastVote : Con := { ps := [(.val, (.slice (.st (.pair (.int .i64) (.pair (.int .i64) (.pair .str (.slice (.int .i64)))))))), (.val, (.int .i64)), (.val, (.int .i64)), (.val, (.int .i64)), (.val, (.int .i64))], rs := [(.io true, (.slice (.st (.pair (.int .i64) (.pair (.int .i64) (.pair .str (.slice (.int .i64)))))))), (.val, .bool)], F := F_impl_CastVote }
noncomputable def env_impl_CastVote : Env := { par := [], dp := true, settle := [], con := fun f => match f with | 45 => some c_impl_proposalAt | 46 => some c_impl_AreProposals | 54 => some c_impl_copyProposals | 56 => some c_impl_within | _ => none, clo := fun _ => none, T := tinf Try.prog }
noncomputable def loops_impl_CastVote : Nat → Option Loop := fun n => none
theorem F_impl_CastVote_eq (x : (List (Int × (Int × (ByteArray × (List Int))))) × Int × Int × Int × Int) : Fev env_impl_CastVote loops_impl_CastVote c_impl_CastVote.ps c_impl_CastVote.rs Try.f25 x = F_impl_CastVote x := by kernel_rfl
theorem env_impl_CastVote_ok : EnvOK Try.prog env_impl_CastVote := envOK_of (fun f c h => by
  simp only [env_impl_CastVote] at h
  split at h
  · cases h; exact con_impl_proposalAt
  · cases h; exact con_impl_AreProposals
  · cases h; exact con_impl_copyProposals
  · cases h; exact con_impl_within
  · cases h) (fun f c h => by cases h) rfl
theorem con_impl_CastVote : ConOK Try.prog 25 c_impl_CastVote := con_of_ev' (body := Try.f25.body.getD .skip) (Λ := loops_impl_CastVote) mixed Try.func25 (by kernel_rfl) (by kernel_rfl) env_impl_CastVote_ok (by kernel_rfl) (by kernel_rfl) (fun n L h => by cases h) F_impl_CastVote_eq

noncomputable def F_laws_FnExactCastVote (x : (List (Int × (Int × (ByteArray × (List Int))))) × Int × Int × Int × Int) : Option (Bool) :=
  match F_laws_szProposalS ((x.1, 1048576)) with
  | none => none
  | some y1 =>
    bif (decide (y1 < 0)) then
      some (true)
    else
      match F_laws_toProposalS (x.1) with
      | none => none
      | some y2 =>
        match F_spec_CastVote ((y2, x.2)) with
        | none => none
        | some y3 =>
          match F_laws_toProposalS (x.1) with
          | none => none
          | some y4 =>
            match F_impl_CastVote ((y4, x.2)) with
            | none => none
            | some y5 =>
              match F_laws_eqProposalS ((y5.1, y3.1)) with
              | none => none
              | some y6 =>
                bif (!y6) then
                  some (false)
                else
                  bif (!(y5.2 == y3.2)) then
                    some (false)
                  else
                    match F_laws_toProposalS (x.1) with
                    | none => none
                    | some y7 =>
                      match F_laws_eqProposalS ((y4, y7)) with
                      | none => none
                      | some y8 =>
                        bif (!y8) then
                          some (false)
                        else
                          match F_laws_markProposalS ((y4, 1)) with
                          | none => none
                          | some y9 =>
                            bif (decide (y9.2 < 0)) then
                              some (false)
                            else
                              match F_laws_eqProposalS ((y5.1, y3.1)) with
                              | none => none
                              | some y10 =>
                                bif (!y10) then
                                  some (false)
                                else
                                  bif (!(y5.2 == y3.2)) then
                                    some (false)
                                  else
                                    match F_laws_markProposalS ((y5.1, 1)) with
                                    | none => none
                                    | some y11 =>
                                      match F_laws_heldProposalS ((y11.1, 1)) with
                                      | none => none
                                      | some y12 =>
                                        bif (decide (y12 < 0)) then
                                          some (false)
                                        else
                                          bif ((y12 != y11.2)) then
                                            some (false)
                                          else
                                            match F_laws_toProposalS (x.1) with
                                            | none => none
                                            | some y13 =>
                                              match F_impl_CastVote ((y13, x.2)) with
                                              | none => none
                                              | some y14 =>
                                                match F_laws_eqProposalS ((y14.1, y3.1)) with
                                                | none => none
                                                | some y15 =>
                                                  bif (!y15) then
                                                    some (false)
                                                  else
                                                    bif (!(y14.2 == y3.2)) then
                                                      some (false)
                                                    else
                                                      match F_laws_heldProposalS ((y11.1, 1)) with
                                                      | none => none
                                                      | some y16 =>
                                                        bif (decide (y16 < 0)) then
                                                          some (false)
                                                        else
                                                          bif ((y16 != y11.2)) then
                                                            some (false)
                                                          else
                                                            some (true)
noncomputable def c_laws_FnExactCastVote : Con := { ps := [(.val, (.slice (.st (.pair (.int .i64) (.pair (.int .i64) (.pair .str (.slice (.int .i64)))))))), (.val, (.int .i64)), (.val, (.int .i64)), (.val, (.int .i64)), (.val, (.int .i64))], rs := [(.val, .bool)], F := F_laws_FnExactCastVote }
noncomputable def env_laws_FnExactCastVote : Env := { par := [], dp := false, settle := [], con := fun f => match f with | 10 => some c_laws_szProposalS | 12 => some c_laws_toProposalS | 14 => some c_laws_eqProposalS | 18 => some c_laws_markProposalS | 23 => some c_laws_heldProposalS | 24 => some c_spec_CastVote | 25 => some c_impl_CastVote | _ => none, clo := fun _ => none, T := tinf Try.prog }
noncomputable def loops_laws_FnExactCastVote : Nat → Option Loop := fun n => none
theorem F_laws_FnExactCastVote_eq (x : (List (Int × (Int × (ByteArray × (List Int))))) × Int × Int × Int × Int) : Fev env_laws_FnExactCastVote loops_laws_FnExactCastVote c_laws_FnExactCastVote.ps c_laws_FnExactCastVote.rs Try.f6 x = F_laws_FnExactCastVote x := by kernel_rfl
theorem env_laws_FnExactCastVote_ok : EnvOK Try.prog env_laws_FnExactCastVote := envOK_of (fun f c h => by
  simp only [env_laws_FnExactCastVote] at h
  split at h
  · cases h; exact con_laws_szProposalS
  · cases h; exact con_laws_toProposalS
  · cases h; exact con_laws_eqProposalS
  · cases h; exact con_laws_markProposalS
  · cases h; exact con_laws_heldProposalS
  · cases h; exact con_spec_CastVote
  · cases h; exact con_impl_CastVote
  · cases h) (fun f c h => by cases h) rfl
theorem con_laws_FnExactCastVote : ConOK Try.prog 6 c_laws_FnExactCastVote := con_of_ev' (body := Try.f6.body.getD .skip) (Λ := loops_laws_FnExactCastVote) mixed Try.func6 (by kernel_rfl) (by kernel_rfl) env_laws_FnExactCastVote_ok (by kernel_rfl) (by kernel_rfl) (fun n L h => by cases h) F_laws_FnExactCastVote_eq

noncomputable def F_spec_ofPassed (x : (Int × (Int × (ByteArray × (List Int)))) × Int) : Option (Bool) :=
  match F_spec_ofCount ((x.1, 1)) with
  | none => none
  | some y1 =>
    let v2 := IntKind.i64.wrap (y1 + x.2)
    match F_spec_ofCount ((x.1, (-1))) with
    | none => none
    | some y3 =>
      let v4 := IntKind.i64.wrap (v2 + y3)
      let v5 := IntKind.i64.wrap (2 * v4)
      bif (decide (v5 > (x.1.2.2.2.length : Int))) then
        some ((decide (v2 > y3)))
      else
        some (false)
noncomputable def c_spec_ofPassed : Con := { ps := [(.val, (.st (.pair (.int .i64) (.pair (.int .i64) (.pair .str (.slice (.int .i64))))))), (.val, (.int .i64))], rs := [(.val, .bool)], F := F_spec_ofPassed }
noncomputable def env_spec_ofPassed : Env := { par := [], dp := false, settle := [], con := fun f => match f with | 42 => some c_spec_ofCount | _ => none, clo := fun _ => none, T := tinf Try.prog }
noncomputable def loops_spec_ofPassed : Nat → Option Loop := fun n => none
theorem F_spec_ofPassed_eq (x : (Int × (Int × (ByteArray × (List Int)))) × Int) : Fev env_spec_ofPassed loops_spec_ofPassed c_spec_ofPassed.ps c_spec_ofPassed.rs Try.f43 x = F_spec_ofPassed x := by kernel_rfl
theorem env_spec_ofPassed_ok : EnvOK Try.prog env_spec_ofPassed := envOK_of (fun f c h => by
  simp only [env_spec_ofPassed] at h
  split at h
  · cases h; exact con_spec_ofCount
  · cases h) (fun f c h => by cases h) rfl
theorem con_spec_ofPassed : ConOK Try.prog 43 c_spec_ofPassed := con_of_ev' (body := Try.f43.body.getD .skip) (Λ := loops_spec_ofPassed) mixed Try.func43 (by kernel_rfl) (by kernel_rfl) env_spec_ofPassed_ok (by kernel_rfl) (by kernel_rfl) (fun n L h => by cases h) F_spec_ofPassed_eq

noncomputable def step_spec_VotesMissing_0 (s : (List (Int × (Int × (ByteArray × (List Int))))) × Int × Int) : Option (((List (Int × (Int × (ByteArray × (List Int))))) × Int × Int) ⊕ ((Int × Bool) ⊕ (Unit))) :=
  bif decide (0 ≤ s.2.1) && decide (s.2.1 < (s.1.length : Int)) then
    match F_spec_ofCount (((s.1.getD (s.2.1).toNat (0, (0, ByteArray.empty, []))), 0)) with
    | none => none
    | some y6 =>
      bif (decide (s.2.2 ≤ y6)) then
        bif decide (0 ≤ s.2.1) && decide (s.2.1 < (s.1.length : Int)) then
          match F_spec_ofPassed (((s.1.getD (s.2.1).toNat (0, (0, ByteArray.empty, []))), s.2.2)) with
          | none => none
          | some y7 =>
            bif y7 then
              some (.inr (.inl ((s.2.2, true))))
            else
              let v8 := IntKind.i64.wrap (s.2.2 + 1)
              some (.inl ((s.1, s.2.1, v8)))
        else none
      else
        some (.inr (.inr (())))
  else none
def pat_spec_VotesMissing_0 : Pat := { tmps := [.v (.slice (.st (.pair (.int .i64) (.pair (.int .i64) (.pair .str (.slice (.int .i64))))))), .any, .any, .any, .any, .any, .any, .any, .v (.int .i64), .v (.int .i64), .any, .any, .any, .any, .any, .any, .any, .any, .any, .any, .any, .any, .any, .any, .any, .any, .any, .any, .any, .any, .any, .any, .any, .any, .any, .any, .any], blks := [] }
def outs_spec_VotesMissing_0 : List (Exit × Pat) := [(.ret, { tmps := [.any, .any, .any, .any, .any, .any, .v (.int .i64), .v .bool, .any, .any, .any, .any, .any, .any, .any, .any, .any, .any, .any, .any, .any, .any, .any, .any, .any, .any, .any, .any, .any, .any, .any, .any, .any, .any, .any, .any, .any], blks := [] }), (.exit 0, { tmps := [.any, .any, .any, .any, .any, .any, .any, .any, .any, .any, .any, .any, .any, .any, .any, .any, .any, .any, .any, .any, .any, .any, .any, .any, .any, .any, .any, .any, .any, .any, .any, .any, .any, .any, .any, .any, .any], blks := [] })]
noncomputable def F_spec_VotesMissing (x : (List (Int × (Int × (ByteArray × (List Int))))) × Int × Int) : Option (Int × Bool) :=
  match F_spec_ofFind ((x.1, x.2.2)) with
  | none => none
  | some y1 =>
    match F_spec_ofGood ((x.1, x.2.1)) with
    | none => none
    | some y2 =>
      bif (!y2) then
        some ((0, false))
      else
        bif (decide (y1 < 0)) then
          some ((0, false))
        else
          match runL step_spec_VotesMissing_0 ((x.1, y1, 0)) with
          | none => none
          | some (.inl o9) =>
            some (o9)
          | some (.inr o9) =>
            some ((0, false))
noncomputable def c_spec_VotesMissing : Con := { ps := [(.val, (.slice (.st (.pair (.int .i64) (.pair (.int .i64) (.pair .str (.slice (.int .i64)))))))), (.val, (.int .i64)), (.val, (.int .i64))], rs := [(.val, (.int .i64)), (.val, .bool)], F := F_spec_VotesMissing }
noncomputable def env_spec_VotesMissing : Env := { par := [], dp := false, settle := [], con := fun f => match f with | 40 => some c_spec_ofFind | 41 => some c_spec_ofGood | 42 => some c_spec_ofCount | 43 => some c_spec_ofPassed | _ => none, clo := fun _ => none, T := tinf Try.prog }
noncomputable def loops_spec_VotesMissing : Nat → Option Loop := fun n => match n with | 5 => some { pat := pat_spec_VotesMissing_0, outs := outs_spec_VotesMissing_0, run := runL (step_spec_VotesMissing_0) } | _ => none
theorem step_spec_VotesMissing_0_eq (s : (List (Int × (Int × (ByteArray × (List Int))))) × Int × Int) : stepEv env_spec_VotesMissing loops_spec_VotesMissing pat_spec_VotesMissing_0 outs_spec_VotesMissing_0 Try.f11 5 s = step_spec_VotesMissing_0 s := by kernel_rfl
theorem F_spec_VotesMissing_eq (x : (List (Int × (Int × (ByteArray × (List Int))))) × Int × Int) : Fev env_spec_VotesMissing loops_spec_VotesMissing c_spec_VotesMissing.ps c_spec_VotesMissing.rs Try.f11 x = F_spec_VotesMissing x := by kernel_rfl
theorem env_spec_VotesMissing_ok : EnvOK Try.prog env_spec_VotesMissing := envOK_of (fun f c h => by
  simp only [env_spec_VotesMissing] at h
  split at h
  · cases h; exact con_spec_ofFind
  · cases h; exact con_spec_ofGood
  · cases h; exact con_spec_ofCount
  · cases h; exact con_spec_ofPassed
  · cases h) (fun f c h => by cases h) rfl
theorem con_spec_VotesMissing : ConOK Try.prog 11 c_spec_VotesMissing := con_of_ev' (body := Try.f11.body.getD .skip) (Λ := loops_spec_VotesMissing) mixed Try.func11 (by kernel_rfl) (by kernel_rfl) env_spec_VotesMissing_ok (by kernel_rfl) (by kernel_rfl) (fun n L h => by
  unfold loops_spec_VotesMissing at h
  split at h
  · cases h; exact fun s o ho => loop_ok (stepF := stepEv env_spec_VotesMissing loops_spec_VotesMissing pat_spec_VotesMissing_0 outs_spec_VotesMissing_0 Try.f11 5) (step_spec_VotesMissing_0_eq) ho
  · cases h) F_spec_VotesMissing_eq

noncomputable def step_impl_those_int_0 (s : (Int → Option Bool) × (List Int) × Int × Int × (List Int)) : Option (((Int → Option Bool) × (List Int) × Int × Int × (List Int)) ⊕ (((List Int)))) :=
  bif (decide (s.2.2.2.1 < s.2.2.1)) then
    bif decide (0 ≤ s.2.2.2.1) && decide (s.2.2.2.1 < (s.2.1.length : Int)) then
      match s.1 ((s.2.1.getD (s.2.2.2.1).toNat 0)) with
      | none => none
      | some y8 =>
        bif y8 then
          bif decide ((s.2.2.2.2.length + [s.2.2.2.1].length) * 8 ≤ 140737488355328) then
            let v9 := s.2.2.2.2 ++ [s.2.2.2.1]
            let v10 := IntKind.i64.wrap (s.2.2.2.1 + 1)
            some (.inl ((s.1, s.2.1, (s.2.2.1, v10, v9))))
          else none
        else
          let v11 := IntKind.i64.wrap (s.2.2.2.1 + 1)
          some (.inl ((s.1, s.2.1, (s.2.2.1, v11, s.2.2.2.2))))
    else none
  else
    some (.inr (s.2.2.2.2))
def pat_impl_those_int_0 : Pat := { tmps := [.any, .v (.fn (.int .i64) .bool), .any, .any, .any, .own 1344, .any, .any, .v (.slice (.int .i64)), .v (.int .i64), .v (.int .i64), .any, .any, .any, .any, .any, .any, .any, .any, .any, .any, .any, .any, .any], blks := [(1344, .row true (.int .i64))] }
def outs_impl_those_int_0 : List (Exit × Pat) := [(.exit 0, { tmps := [.any, .any, .any, .any, .any, .own 1344, .any, .any, .any, .any, .any, .any, .any, .any, .any, .any, .any, .any, .any, .any, .any, .any, .any, .any], blks := [(1344, .row true (.int .i64))] })]
noncomputable def F_impl_those_int (x : (List Int) × (Int → Option Bool)) : Option ((List Int)) :=
  match runL step_impl_those_int_0 ((x.2, x.1, ((x.1.length : Int), 0, []))) with
  | none => none
  | some o12 =>
    some (o12)
noncomputable def c_impl_those_int : Con := { ps := [(.val, (.slice (.int .i64))), (.val, (.fn (.int .i64) .bool))], rs := [(.io true, (.slice (.int .i64)))], F := F_impl_those_int }
noncomputable def env_impl_those_int : Env := { par := [], dp := false, settle := [], con := fun _ => none, clo := fun _ => none, T := tinf Try.prog }
noncomputable def loops_impl_those_int : Nat → Option Loop := fun n => match n with | 3 => some { pat := pat_impl_those_int_0, outs := outs_impl_those_int_0, run := runL (step_impl_those_int_0) } | _ => none
theorem step_impl_those_int_0_eq (s : (Int → Option Bool) × (List Int) × Int × Int × (List Int)) : stepEv env_impl_those_int loops_impl_those_int pat_impl_those_int_0 outs_impl_those_int_0 Try.f47 3 s = step_impl_those_int_0 s := by kernel_rfl
theorem F_impl_those_int_eq (x : (List Int) × (Int → Option Bool)) : Fev env_impl_those_int loops_impl_those_int c_impl_those_int.ps c_impl_those_int.rs Try.f47 x = F_impl_those_int x := by kernel_rfl
theorem env_impl_those_int_ok : EnvOK Try.prog env_impl_those_int := envOK_of (fun f c h => by cases h) (fun f c h => by cases h) rfl
theorem con_impl_those_int : ConOK Try.prog 47 c_impl_those_int := con_of_ev' (body := Try.f47.body.getD .skip) (Λ := loops_impl_those_int) mixed Try.func47 (by kernel_rfl) (by kernel_rfl) env_impl_those_int_ok (by kernel_rfl) (by kernel_rfl) (fun n L h => by
  unfold loops_impl_those_int at h
  split at h
  · cases h; exact fun s o ho => loop_ok (stepF := stepEv env_impl_those_int loops_impl_those_int pat_impl_those_int_0 outs_impl_those_int_0 Try.f47 3) (step_impl_those_int_0_eq) ho
  · cases h) F_impl_those_int_eq

noncomputable def F_impl_VotesMissing_1 (x : Int) : Option (Bool) :=
  some (((x == 0)))
noncomputable def c_impl_VotesMissing_1 : Con := { ps := [(.val, (.int .i64))], rs := [(.val, .bool)], F := F_impl_VotesMissing_1 }
noncomputable def env_impl_VotesMissing_1 : Env := { par := [], dp := false, settle := [], con := fun _ => none, clo := fun _ => none, T := tinf Try.prog }
noncomputable def loops_impl_VotesMissing_1 : Nat → Option Loop := fun n => none
theorem F_impl_VotesMissing_1_eq (x : Int) : Fev env_impl_VotesMissing_1 loops_impl_VotesMissing_1 c_impl_VotesMissing_1.ps c_impl_VotesMissing_1.rs Try.f48 x = F_impl_VotesMissing_1 x := by kernel_rfl
theorem env_impl_VotesMissing_1_ok : EnvOK Try.prog env_impl_VotesMissing_1 := envOK_of (fun f c h => by cases h) (fun f c h => by cases h) rfl
theorem con_impl_VotesMissing_1 : ConOK Try.prog 48 c_impl_VotesMissing_1 := con_of_ev' (body := Try.f48.body.getD .skip) (Λ := loops_impl_VotesMissing_1) mixed Try.func48 (by kernel_rfl) (by kernel_rfl) env_impl_VotesMissing_1_ok (by kernel_rfl) (by kernel_rfl) (fun n L h => by cases h) F_impl_VotesMissing_1_eq

noncomputable def F_impl_Proposal_passed_1 (x : Int) : Option (Bool) :=
  some (((x != 0)))
noncomputable def c_impl_Proposal_passed_1 : Con := { ps := [(.val, (.int .i64))], rs := [(.val, .bool)], F := F_impl_Proposal_passed_1 }
noncomputable def env_impl_Proposal_passed_1 : Env := { par := [], dp := false, settle := [], con := fun _ => none, clo := fun _ => none, T := tinf Try.prog }
noncomputable def loops_impl_Proposal_passed_1 : Nat → Option Loop := fun n => none
theorem F_impl_Proposal_passed_1_eq (x : Int) : Fev env_impl_Proposal_passed_1 loops_impl_Proposal_passed_1 c_impl_Proposal_passed_1.ps c_impl_Proposal_passed_1.rs Try.f78 x = F_impl_Proposal_passed_1 x := by kernel_rfl
theorem env_impl_Proposal_passed_1_ok : EnvOK Try.prog env_impl_Proposal_passed_1 := envOK_of (fun f c h => by cases h) (fun f c h => by cases h) rfl
theorem con_impl_Proposal_passed_1 : ConOK Try.prog 78 c_impl_Proposal_passed_1 := con_of_ev' (body := Try.f78.body.getD .skip) (Λ := loops_impl_Proposal_passed_1) mixed Try.func78 (by kernel_rfl) (by kernel_rfl) env_impl_Proposal_passed_1_ok (by kernel_rfl) (by kernel_rfl) (fun n L h => by cases h) F_impl_Proposal_passed_1_eq

noncomputable def step_impl_sumOf_0 (s : Int × (List Int) × Int × Int) : Option ((Int × (List Int) × Int × Int) ⊕ ((Int))) :=
  bif (decide (s.2.2.2 < s.2.2.1)) then
    bif decide (0 ≤ s.2.2.2) && decide (s.2.2.2 < (s.2.1.length : Int)) then
      let v3 := IntKind.i64.wrap (s.1 + (s.2.1.getD (s.2.2.2).toNat 0))
      let v4 := IntKind.i64.wrap (s.2.2.2 + 1)
      some (.inl ((v3, (s.2.1, s.2.2.1, v4))))
    else none
  else
    some (.inr (s.1))
def pat_impl_sumOf_0 : Pat := { tmps := [.any, .any, .any, .v (.int .i64), .any, .any, .v (.slice (.int .i64)), .v (.int .i64), .v (.int .i64), .any, .any, .any, .any, .any, .any, .any, .any], blks := [] }
def outs_impl_sumOf_0 : List (Exit × Pat) := [(.exit 0, { tmps := [.any, .any, .any, .v (.int .i64), .any, .any, .any, .any, .any, .any, .any, .any, .any, .any, .any, .any, .any], blks := [] })]
noncomputable def F_impl_sumOf (x : (List Int)) : Option (Int) :=
  match runL step_impl_sumOf_0 ((0, (x, (x.length : Int), 0))) with
  | none => none
  | some o5 =>
    some (o5)
noncomputable def c_impl_sumOf : Con := { ps := [(.val, (.slice (.int .i64)))], rs := [(.val, (.int .i64))], F := F_impl_sumOf }
noncomputable def env_impl_sumOf : Env := { par := [], dp := false, settle := [], con := fun _ => none, clo := fun _ => none, T := tinf Try.prog }
noncomputable def loops_impl_sumOf : Nat → Option Loop := fun n => match n with | 3 => some { pat := pat_impl_sumOf_0, outs := outs_impl_sumOf_0, run := runL (step_impl_sumOf_0) } | _ => none
theorem step_impl_sumOf_0_eq (s : Int × (List Int) × Int × Int) : stepEv env_impl_sumOf loops_impl_sumOf pat_impl_sumOf_0 outs_impl_sumOf_0 Try.f79 3 s = step_impl_sumOf_0 s := by kernel_rfl
theorem F_impl_sumOf_eq (x : (List Int)) : Fev env_impl_sumOf loops_impl_sumOf c_impl_sumOf.ps c_impl_sumOf.rs Try.f79 x = F_impl_sumOf x := by kernel_rfl
theorem env_impl_sumOf_ok : EnvOK Try.prog env_impl_sumOf := envOK_of (fun f c h => by cases h) (fun f c h => by cases h) rfl
theorem con_impl_sumOf : ConOK Try.prog 79 c_impl_sumOf := con_of_ev' (body := Try.f79.body.getD .skip) (Λ := loops_impl_sumOf) mixed Try.func79 (by kernel_rfl) (by kernel_rfl) env_impl_sumOf_ok (by kernel_rfl) (by kernel_rfl) (fun n L h => by
  unfold loops_impl_sumOf at h
  split at h
  · cases h; exact fun s o ho => loop_ok (stepF := stepEv env_impl_sumOf loops_impl_sumOf pat_impl_sumOf_0 outs_impl_sumOf_0 Try.f79 3) (step_impl_sumOf_0_eq) ho
  · cases h) F_impl_sumOf_eq

noncomputable def K_impl_Proposal_passed_1 (q : Unit) (x : Int) : Option (Bool) := F_impl_Proposal_passed_1 x
noncomputable def k_impl_Proposal_passed_1 : CloCon := { caps := [], a := (.int .i64), r := .bool, F := K_impl_Proposal_passed_1 }
theorem clo_impl_Proposal_passed_1 : CloOK Try.prog 78 k_impl_Proposal_passed_1 := clo_of_con k_impl_Proposal_passed_1 F_impl_Proposal_passed_1 con_impl_Proposal_passed_1 rfl (fun kx x y h => ⟨y, h, rfl⟩)
noncomputable def F_impl_Proposal_passed (x : (Int × (Int × (ByteArray × (List Int)))) × Int) : Option (Bool) :=
  match F_impl_those_int ((x.1.2.2.2, (K_impl_Proposal_passed_1 ()))) with
  | none => none
  | some y1 =>
    let v2 := IntKind.i64.wrap (x.2 + (y1.length : Int))
    let v3 := IntKind.i64.wrap (2 * v2)
    bif (decide (v3 > (x.1.2.2.2.length : Int))) then
      match F_impl_sumOf (x.1.2.2.2) with
      | none => none
      | some y4 =>
        let v5 := IntKind.i64.wrap (y4 + x.2)
        some ((decide (v5 > 0)))
    else
      some (false)
noncomputable def c_impl_Proposal_passed : Con := { ps := [(.val, (.st (.pair (.int .i64) (.pair (.int .i64) (.pair .str (.slice (.int .i64))))))), (.val, (.int .i64))], rs := [(.val, .bool)], F := F_impl_Proposal_passed }
noncomputable def env_impl_Proposal_passed : Env := { par := [], dp := false, settle := [], con := fun f => match f with | 47 => some c_impl_those_int | 79 => some c_impl_sumOf | _ => none, clo := fun f => match f with | 78 => some k_impl_Proposal_passed_1 | _ => none, T := tinf Try.prog }
noncomputable def loops_impl_Proposal_passed : Nat → Option Loop := fun n => none
theorem F_impl_Proposal_passed_eq (x : (Int × (Int × (ByteArray × (List Int)))) × Int) : Fev env_impl_Proposal_passed loops_impl_Proposal_passed c_impl_Proposal_passed.ps c_impl_Proposal_passed.rs Try.f49 x = F_impl_Proposal_passed x := by kernel_rfl
theorem env_impl_Proposal_passed_ok : EnvOK Try.prog env_impl_Proposal_passed := envOK_of (fun f c h => by
  simp only [env_impl_Proposal_passed] at h
  split at h
  · cases h; exact con_impl_those_int
  · cases h; exact con_impl_sumOf
  · cases h) (fun f c h => by
  simp only [env_impl_Proposal_passed] at h
  split at h
  · cases h; exact clo_impl_Proposal_passed_1
  · cases h) rfl
theorem con_impl_Proposal_passed : ConOK Try.prog 49 c_impl_Proposal_passed := con_of_ev' (body := Try.f49.body.getD .skip) (Λ := loops_impl_Proposal_passed) mixed Try.func49 (by kernel_rfl) (by kernel_rfl) env_impl_Proposal_passed_ok (by kernel_rfl) (by kernel_rfl) (fun n L h => by cases h) F_impl_Proposal_passed_eq

noncomputable def K_impl_VotesMissing_1 (q : Unit) (x : Int) : Option (Bool) := F_impl_VotesMissing_1 x
noncomputable def k_impl_VotesMissing_1 : CloCon := { caps := [], a := (.int .i64), r := .bool, F := K_impl_VotesMissing_1 }
theorem clo_impl_VotesMissing_1 : CloOK Try.prog 48 k_impl_VotesMissing_1 := clo_of_con k_impl_VotesMissing_1 F_impl_VotesMissing_1 con_impl_VotesMissing_1 rfl (fun kx x y h => ⟨y, h, rfl⟩)
noncomputable def step_impl_VotesMissing_0 (s : (List (Int × (Int × (ByteArray × (List Int))))) × Int × Int × Int) : Option (((List (Int × (Int × (ByteArray × (List Int))))) × Int × Int × Int) ⊕ ((Int × Bool) ⊕ (Unit))) :=
  bif (decide (s.2.2.2 < s.2.2.1)) then
    bif decide (0 ≤ s.2.1) && decide (s.2.1 < (s.1.length : Int)) then
      match F_impl_Proposal_passed (((s.1.getD (s.2.1).toNat (0, (0, ByteArray.empty, []))), s.2.2.2)) with
      | none => none
      | some y7 =>
        bif y7 then
          some (.inr (.inl ((s.2.2.2, true))))
        else
          let v8 := IntKind.i64.wrap (s.2.2.2 + 1)
          some (.inl ((s.1, (s.2.1, s.2.2.1, v8))))
    else none
  else
    some (.inr (.inr (())))
def pat_impl_VotesMissing_0 : Pat := { tmps := [.v (.slice (.st (.pair (.int .i64) (.pair (.int .i64) (.pair .str (.slice (.int .i64))))))), .any, .any, .any, .any, .any, .any, .any, .v (.int .i64), .any, .any, .any, .any, .any, .any, .any, .any, .any, .any, .any, .any, .any, .any, .any, .any, .any, .any, .any, .any, .any, .v (.int .i64), .v (.int .i64), .any, .any, .any, .any, .any, .any, .any, .any, .any, .any], blks := [] }
def outs_impl_VotesMissing_0 : List (Exit × Pat) := [(.ret, { tmps := [.any, .any, .any, .any, .any, .any, .v (.int .i64), .v .bool, .any, .any, .any, .any, .any, .any, .any, .any, .any, .any, .any, .any, .any, .any, .any, .any, .any, .any, .any, .any, .any, .any, .any, .any, .any, .any, .any, .any, .any, .any, .any, .any, .any, .any], blks := [] }), (.exit 0, { tmps := [.any, .any, .any, .any, .any, .any, .any, .any, .any, .any, .any, .any, .any, .any, .any, .any, .any, .any, .any, .any, .any, .any, .any, .any, .any, .any, .any, .any, .any, .any, .any, .any, .any, .any, .any, .any, .any, .any, .any, .any, .any, .any], blks := [] })]
noncomputable def F_impl_VotesMissing (x : (List (Int × (Int × (ByteArray × (List Int))))) × Int × Int) : Option (Int × Bool) :=
  match F_impl_proposalAt ((x.1, x.2.2)) with
  | none => none
  | some y1 =>
    match F_impl_AreProposals ((x.1, x.2.1)) with
    | none => none
    | some y2 =>
      bif (!y2) then
        some ((0, false))
      else
        bif (decide (y1 < 0)) then
          some ((0, false))
        else
          bif decide (0 ≤ y1) && decide (y1 < (x.1.length : Int)) then
            match F_impl_those_int (((x.1.getD (y1).toNat (0, (0, ByteArray.empty, []))).2.2.2, (K_impl_VotesMissing_1 ()))) with
            | none => none
            | some y3 =>
              let v4 := IntKind.i64.wrap ((y3.length : Int) + 1)
              match runL step_impl_VotesMissing_0 ((x.1, (y1, v4, 0))) with
              | none => none
              | some (.inl o9) =>
                some (o9)
              | some (.inr o9) =>
                some ((0, false))
          else none
noncomputable def c_impl_VotesMissing : Con := { ps := [(.val, (.slice (.st (.pair (.int .i64) (.pair (.int .i64) (.pair .str (.slice (.int .i64)))))))), (.val, (.int .i64)), (.val, (.int .i64))], rs := [(.val, (.int .i64)), (.val, .bool)], F := F_impl_VotesMissing }
noncomputable def env_impl_VotesMissing : Env := { par := [], dp := false, settle := [], con := fun f => match f with | 45 => some c_impl_proposalAt | 46 => some c_impl_AreProposals | 47 => some c_impl_those_int | 49 => some c_impl_Proposal_passed | _ => none, clo := fun f => match f with | 48 => some k_impl_VotesMissing_1 | _ => none, T := tinf Try.prog }
noncomputable def loops_impl_VotesMissing : Nat → Option Loop := fun n => match n with | 6 => some { pat := pat_impl_VotesMissing_0, outs := outs_impl_VotesMissing_0, run := runL (step_impl_VotesMissing_0) } | _ => none
theorem step_impl_VotesMissing_0_eq (s : (List (Int × (Int × (ByteArray × (List Int))))) × Int × Int × Int) : stepEv env_impl_VotesMissing loops_impl_VotesMissing pat_impl_VotesMissing_0 outs_impl_VotesMissing_0 Try.f13 6 s = step_impl_VotesMissing_0 s := by kernel_rfl
theorem F_impl_VotesMissing_eq (x : (List (Int × (Int × (ByteArray × (List Int))))) × Int × Int) : Fev env_impl_VotesMissing loops_impl_VotesMissing c_impl_VotesMissing.ps c_impl_VotesMissing.rs Try.f13 x = F_impl_VotesMissing x := by kernel_rfl
theorem env_impl_VotesMissing_ok : EnvOK Try.prog env_impl_VotesMissing := envOK_of (fun f c h => by
  simp only [env_impl_VotesMissing] at h
  split at h
  · cases h; exact con_impl_proposalAt
  · cases h; exact con_impl_AreProposals
  · cases h; exact con_impl_those_int
  · cases h; exact con_impl_Proposal_passed
  · cases h) (fun f c h => by
  simp only [env_impl_VotesMissing] at h
  split at h
  · cases h; exact clo_impl_VotesMissing_1
  · cases h) rfl
theorem con_impl_VotesMissing : ConOK Try.prog 13 c_impl_VotesMissing := con_of_ev' (body := Try.f13.body.getD .skip) (Λ := loops_impl_VotesMissing) mixed Try.func13 (by kernel_rfl) (by kernel_rfl) env_impl_VotesMissing_ok (by kernel_rfl) (by kernel_rfl) (fun n L h => by
  unfold loops_impl_VotesMissing at h
  split at h
  · cases h; exact fun s o ho => loop_ok (stepF := stepEv env_impl_VotesMissing loops_impl_VotesMissing pat_impl_VotesMissing_0 outs_impl_VotesMissing_0 Try.f13 6) (step_impl_VotesMissing_0_eq) ho
  · cases h) F_impl_VotesMissing_eq

noncomputable def F_laws_FnExactVotesMissing (x : (List (Int × (Int × (ByteArray × (List Int))))) × Int × Int) : Option (Bool) :=
  match F_laws_szProposalS ((x.1, 1048576)) with
  | none => none
  | some y1 =>
    bif (decide (y1 < 0)) then
      some (true)
    else
      match F_laws_toProposalS (x.1) with
      | none => none
      | some y2 =>
        match F_spec_VotesMissing ((y2, x.2)) with
        | none => none
        | some y3 =>
          match F_laws_toProposalS (x.1) with
          | none => none
          | some y4 =>
            match F_impl_VotesMissing ((y4, x.2)) with
            | none => none
            | some y5 =>
              bif ((y5.1 != y3.1)) then
                some (false)
              else
                bif (!(y5.2 == y3.2)) then
                  some (false)
                else
                  match F_laws_toProposalS (x.1) with
                  | none => none
                  | some y6 =>
                    match F_laws_eqProposalS ((y4, y6)) with
                    | none => none
                    | some y7 =>
                      bif (!y7) then
                        some (false)
                      else
                        some (true)
noncomputable def c_laws_FnExactVotesMissing : Con := { ps := [(.val, (.slice (.st (.pair (.int .i64) (.pair (.int .i64) (.pair .str (.slice (.int .i64)))))))), (.val, (.int .i64)), (.val, (.int .i64))], rs := [(.val, .bool)], F := F_laws_FnExactVotesMissing }
noncomputable def env_laws_FnExactVotesMissing : Env := { par := [], dp := false, settle := [], con := fun f => match f with | 10 => some c_laws_szProposalS | 11 => some c_spec_VotesMissing | 12 => some c_laws_toProposalS | 13 => some c_impl_VotesMissing | 14 => some c_laws_eqProposalS | _ => none, clo := fun _ => none, T := tinf Try.prog }
noncomputable def loops_laws_FnExactVotesMissing : Nat → Option Loop := fun n => none
theorem F_laws_FnExactVotesMissing_eq (x : (List (Int × (Int × (ByteArray × (List Int))))) × Int × Int) : Fev env_laws_FnExactVotesMissing loops_laws_FnExactVotesMissing c_laws_FnExactVotesMissing.ps c_laws_FnExactVotesMissing.rs Try.f3 x = F_laws_FnExactVotesMissing x := by kernel_rfl
theorem env_laws_FnExactVotesMissing_ok : EnvOK Try.prog env_laws_FnExactVotesMissing := envOK_of (fun f c h => by
  simp only [env_laws_FnExactVotesMissing] at h
  split at h
  · cases h; exact con_laws_szProposalS
  · cases h; exact con_spec_VotesMissing
  · cases h; exact con_laws_toProposalS
  · cases h; exact con_impl_VotesMissing
  · cases h; exact con_laws_eqProposalS
  · cases h) (fun f c h => by cases h) rfl
theorem con_laws_FnExactVotesMissing : ConOK Try.prog 3 c_laws_FnExactVotesMissing := con_of_ev' (body := Try.f3.body.getD .skip) (Λ := loops_laws_FnExactVotesMissing) mixed Try.func3 (by kernel_rfl) (by kernel_rfl) env_laws_FnExactVotesMissing_ok (by kernel_rfl) (by kernel_rfl) (fun n L h => by cases h) F_laws_FnExactVotesMissing_eq

noncomputable def step_spec_PassedNumbers_0 (s : (List (Int × (Int × (ByteArray × (List Int))))) × Int × Int × (List Int)) : Option (((List (Int × (Int × (ByteArray × (List Int))))) × Int × Int × (List Int)) ⊕ (((List Int)))) :=
  bif (decide (s.2.2.1 < s.2.1)) then
    bif decide (0 ≤ s.2.2.1) && decide (s.2.2.1 < (s.1.length : Int)) then
      match F_spec_ofPassed (((s.1.getD (s.2.2.1).toNat (0, (0, ByteArray.empty, []))), 0)) with
      | none => none
      | some y9 =>
        bif y9 then
          bif decide ((s.2.2.2.length + [(s.1.getD (s.2.2.1).toNat (0, (0, ByteArray.empty, []))).1].length) * 8 ≤ 140737488355328) then
            let v10 := s.2.2.2 ++ [(s.1.getD (s.2.2.1).toNat (0, (0, ByteArray.empty, []))).1]
            let v11 := IntKind.i64.wrap (s.2.2.1 + 1)
            some (.inl ((s.1, (s.2.1, v11, v10))))
          else none
        else
          let v12 := IntKind.i64.wrap (s.2.2.1 + 1)
          some (.inl ((s.1, (s.2.1, v12, s.2.2.2))))
    else none
  else
    some (.inr (s.2.2.2))
def pat_spec_PassedNumbers_0 : Pat := { tmps := [.any, .any, .any, .any, .any, .any, .own 1600, .any, .any, .any, .any, .any, .any, .v (.slice (.st (.pair (.int .i64) (.pair (.int .i64) (.pair .str (.slice (.int .i64))))))), .v (.int .i64), .v (.int .i64), .any, .any, .any, .any, .any, .any, .any, .any, .any, .any, .any, .any], blks := [(1600, .row true (.int .i64))] }
def outs_spec_PassedNumbers_0 : List (Exit × Pat) := [(.exit 0, { tmps := [.any, .any, .any, .any, .any, .any, .own 1600, .any, .any, .any, .any, .any, .any, .any, .any, .any, .any, .any, .any, .any, .any, .any, .any, .any, .any, .any, .any, .any], blks := [(1600, .row true (.int .i64))] })]
noncomputable def F_spec_PassedNumbers (x : (List (Int × (Int × (ByteArray × (List Int))))) × Int) : Option ((List Int) × Bool) :=
  match F_spec_ofGood (x) with
  | none => none
  | some y1 =>
    bif (!y1) then
      some (([], false))
    else
      match runL step_spec_PassedNumbers_0 ((x.1, ((x.1.length : Int), 0, []))) with
      | none => none
      | some o13 =>
        some ((o13, true))
noncomputable def c_spec_PassedNumbers : Con := { ps := [(.val, (.slice (.st (.pair (.int .i64) (.pair (.int .i64) (.pair .str (.slice (.int .i64)))))))), (.val, (.int .i64))], rs := [(.io true, (.slice (.int .i64))), (.val, .bool)], F := F_spec_PassedNumbers }
noncomputable def env_spec_PassedNumbers : Env := { par := [], dp := false, settle := [], con := fun f => match f with | 41 => some c_spec_ofGood | 43 => some c_spec_ofPassed | _ => none, clo := fun _ => none, T := tinf Try.prog }
noncomputable def loops_spec_PassedNumbers : Nat → Option Loop := fun n => match n with | 5 => some { pat := pat_spec_PassedNumbers_0, outs := outs_spec_PassedNumbers_0, run := runL (step_spec_PassedNumbers_0) } | _ => none
theorem step_spec_PassedNumbers_0_eq (s : (List (Int × (Int × (ByteArray × (List Int))))) × Int × Int × (List Int)) : stepEv env_spec_PassedNumbers loops_spec_PassedNumbers pat_spec_PassedNumbers_0 outs_spec_PassedNumbers_0 Try.f15 5 s = step_spec_PassedNumbers_0 s := by kernel_rfl
theorem F_spec_PassedNumbers_eq (x : (List (Int × (Int × (ByteArray × (List Int))))) × Int) : Fev env_spec_PassedNumbers loops_spec_PassedNumbers c_spec_PassedNumbers.ps c_spec_PassedNumbers.rs Try.f15 x = F_spec_PassedNumbers x := by kernel_rfl
theorem env_spec_PassedNumbers_ok : EnvOK Try.prog env_spec_PassedNumbers := envOK_of (fun f c h => by
  simp only [env_spec_PassedNumbers] at h
  split at h
  · cases h; exact con_spec_ofGood
  · cases h; exact con_spec_ofPassed
  · cases h) (fun f c h => by cases h) rfl
theorem con_spec_PassedNumbers : ConOK Try.prog 15 c_spec_PassedNumbers := con_of_ev' (body := Try.f15.body.getD .skip) (Λ := loops_spec_PassedNumbers) mixed Try.func15 (by kernel_rfl) (by kernel_rfl) env_spec_PassedNumbers_ok (by kernel_rfl) (by kernel_rfl) (fun n L h => by
  unfold loops_spec_PassedNumbers at h
  split at h
  · cases h; exact fun s o ho => loop_ok (stepF := stepEv env_spec_PassedNumbers loops_spec_PassedNumbers pat_spec_PassedNumbers_0 outs_spec_PassedNumbers_0 Try.f15 5) (step_spec_PassedNumbers_0_eq) ho
  · cases h) F_spec_PassedNumbers_eq

noncomputable def step_impl_PassedNumbers_0 (s : (List (Int × (Int × (ByteArray × (List Int))))) × Int × Int × (List Int)) : Option (((List (Int × (Int × (ByteArray × (List Int))))) × Int × Int × (List Int)) ⊕ (((List Int)))) :=
  bif (decide (s.2.2.1 < s.2.1)) then
    bif decide (0 ≤ s.2.2.1) && decide (s.2.2.1 < (s.1.length : Int)) then
      match F_impl_Proposal_passed (((s.1.getD (s.2.2.1).toNat (0, (0, ByteArray.empty, []))), 0)) with
      | none => none
      | some y9 =>
        bif y9 then
          bif decide ((s.2.2.2.length + [(s.1.getD (s.2.2.1).toNat (0, (0, ByteArray.empty, []))).1].length) * 8 ≤ 140737488355328) then
            let v10 := s.2.2.2 ++ [(s.1.getD (s.2.2.1).toNat (0, (0, ByteArray.empty, []))).1]
            let v11 := IntKind.i64.wrap (s.2.2.1 + 1)
            some (.inl ((s.1, (s.2.1, v11, v10))))
          else none
        else
          let v12 := IntKind.i64.wrap (s.2.2.1 + 1)
          some (.inl ((s.1, (s.2.1, v12, s.2.2.2))))
    else none
  else
    some (.inr (s.2.2.2))
def pat_impl_PassedNumbers_0 : Pat := { tmps := [.any, .any, .any, .any, .any, .any, .own 1600, .any, .any, .any, .any, .any, .any, .v (.slice (.st (.pair (.int .i64) (.pair (.int .i64) (.pair .str (.slice (.int .i64))))))), .v (.int .i64), .v (.int .i64), .any, .any, .any, .any, .any, .any, .any, .any, .any, .any, .any, .any], blks := [(1600, .row true (.int .i64))] }
def outs_impl_PassedNumbers_0 : List (Exit × Pat) := [(.exit 0, { tmps := [.any, .any, .any, .any, .any, .any, .own 1600, .any, .any, .any, .any, .any, .any, .any, .any, .any, .any, .any, .any, .any, .any, .any, .any, .any, .any, .any, .any, .any], blks := [(1600, .row true (.int .i64))] })]
noncomputable def F_impl_PassedNumbers (x : (List (Int × (Int × (ByteArray × (List Int))))) × Int) : Option ((List Int) × Bool) :=
  match F_impl_AreProposals (x) with
  | none => none
  | some y1 =>
    bif (!y1) then
      some (([], false))
    else
      match runL step_impl_PassedNumbers_0 ((x.1, ((x.1.length : Int), 0, []))) with
      | none => none
      | some o13 =>
        some ((o13, true))
noncomputable def c_impl_PassedNumbers : Con := { ps := [(.val, (.slice (.st (.pair (.int .i64) (.pair (.int .i64) (.pair .str (.slice (.int .i64)))))))), (.val, (.int .i64))], rs := [(.io true, (.slice (.int .i64))), (.val, .bool)], F := F_impl_PassedNumbers }
noncomputable def env_impl_PassedNumbers : Env := { par := [], dp := false, settle := [], con := fun f => match f with | 46 => some c_impl_AreProposals | 49 => some c_impl_Proposal_passed | _ => none, clo := fun _ => none, T := tinf Try.prog }
noncomputable def loops_impl_PassedNumbers : Nat → Option Loop := fun n => match n with | 5 => some { pat := pat_impl_PassedNumbers_0, outs := outs_impl_PassedNumbers_0, run := runL (step_impl_PassedNumbers_0) } | _ => none
theorem step_impl_PassedNumbers_0_eq (s : (List (Int × (Int × (ByteArray × (List Int))))) × Int × Int × (List Int)) : stepEv env_impl_PassedNumbers loops_impl_PassedNumbers pat_impl_PassedNumbers_0 outs_impl_PassedNumbers_0 Try.f16 5 s = step_impl_PassedNumbers_0 s := by kernel_rfl
theorem F_impl_PassedNumbers_eq (x : (List (Int × (Int × (ByteArray × (List Int))))) × Int) : Fev env_impl_PassedNumbers loops_impl_PassedNumbers c_impl_PassedNumbers.ps c_impl_PassedNumbers.rs Try.f16 x = F_impl_PassedNumbers x := by kernel_rfl
theorem env_impl_PassedNumbers_ok : EnvOK Try.prog env_impl_PassedNumbers := envOK_of (fun f c h => by
  simp only [env_impl_PassedNumbers] at h
  split at h
  · cases h; exact con_impl_AreProposals
  · cases h; exact con_impl_Proposal_passed
  · cases h) (fun f c h => by cases h) rfl
theorem con_impl_PassedNumbers : ConOK Try.prog 16 c_impl_PassedNumbers := con_of_ev' (body := Try.f16.body.getD .skip) (Λ := loops_impl_PassedNumbers) mixed Try.func16 (by kernel_rfl) (by kernel_rfl) env_impl_PassedNumbers_ok (by kernel_rfl) (by kernel_rfl) (fun n L h => by
  unfold loops_impl_PassedNumbers at h
  split at h
  · cases h; exact fun s o ho => loop_ok (stepF := stepEv env_impl_PassedNumbers loops_impl_PassedNumbers pat_impl_PassedNumbers_0 outs_impl_PassedNumbers_0 Try.f16 5) (step_impl_PassedNumbers_0_eq) ho
  · cases h) F_impl_PassedNumbers_eq

noncomputable def F_laws_FnExactPassedNumbers (x : (List (Int × (Int × (ByteArray × (List Int))))) × Int) : Option (Bool) :=
  match F_laws_szProposalS ((x.1, 1048576)) with
  | none => none
  | some y1 =>
    bif (decide (y1 < 0)) then
      some (true)
    else
      match F_laws_toProposalS (x.1) with
      | none => none
      | some y2 =>
        match F_spec_PassedNumbers ((y2, x.2)) with
        | none => none
        | some y3 =>
          match F_laws_toProposalS (x.1) with
          | none => none
          | some y4 =>
            match F_impl_PassedNumbers ((y4, x.2)) with
            | none => none
            | some y5 =>
              match F_laws_eqIntS ((y5.1, y3.1)) with
              | none => none
              | some y6 =>
                bif (!y6) then
                  some (false)
                else
                  bif (!(y5.2 == y3.2)) then
                    some (false)
                  else
                    match F_laws_toProposalS (x.1) with
                    | none => none
                    | some y7 =>
                      match F_laws_eqProposalS ((y4, y7)) with
                      | none => none
                      | some y8 =>
                        bif (!y8) then
                          some (false)
                        else
                          match F_laws_markProposalS ((y4, 1)) with
                          | none => none
                          | some y9 =>
                            bif (decide (y9.2 < 0)) then
                              some (false)
                            else
                              match F_laws_eqIntS ((y5.1, y3.1)) with
                              | none => none
                              | some y10 =>
                                bif (!y10) then
                                  some (false)
                                else
                                  bif (!(y5.2 == y3.2)) then
                                    some (false)
                                  else
                                    match F_laws_markIntS ((y5.1, 1)) with
                                    | none => none
                                    | some y11 =>
                                      match F_laws_heldIntS ((y11.1, 1)) with
                                      | none => none
                                      | some y12 =>
                                        bif (decide (y12 < 0)) then
                                          some (false)
                                        else
                                          bif ((y12 != y11.2)) then
                                            some (false)
                                          else
                                            match F_laws_toProposalS (x.1) with
                                            | none => none
                                            | some y13 =>
                                              match F_impl_PassedNumbers ((y13, x.2)) with
                                              | none => none
                                              | some y14 =>
                                                match F_laws_eqIntS ((y14.1, y3.1)) with
                                                | none => none
                                                | some y15 =>
                                                  bif (!y15) then
                                                    some (false)
                                                  else
                                                    bif (!(y14.2 == y3.2)) then
                                                      some (false)
                                                    else
                                                      match F_laws_heldIntS ((y11.1, 1)) with
                                                      | none => none
                                                      | some y16 =>
                                                        bif (decide (y16 < 0)) then
                                                          some (false)
                                                        else
                                                          bif ((y16 != y11.2)) then
                                                            some (false)
                                                          else
                                                            some (true)
noncomputable def c_laws_FnExactPassedNumbers : Con := { ps := [(.val, (.slice (.st (.pair (.int .i64) (.pair (.int .i64) (.pair .str (.slice (.int .i64)))))))), (.val, (.int .i64))], rs := [(.val, .bool)], F := F_laws_FnExactPassedNumbers }
noncomputable def env_laws_FnExactPassedNumbers : Env := { par := [], dp := false, settle := [], con := fun f => match f with | 10 => some c_laws_szProposalS | 12 => some c_laws_toProposalS | 14 => some c_laws_eqProposalS | 15 => some c_spec_PassedNumbers | 16 => some c_impl_PassedNumbers | 17 => some c_laws_eqIntS | 18 => some c_laws_markProposalS | 19 => some c_laws_markIntS | 20 => some c_laws_heldIntS | _ => none, clo := fun _ => none, T := tinf Try.prog }
noncomputable def loops_laws_FnExactPassedNumbers : Nat → Option Loop := fun n => none
theorem F_laws_FnExactPassedNumbers_eq (x : (List (Int × (Int × (ByteArray × (List Int))))) × Int) : Fev env_laws_FnExactPassedNumbers loops_laws_FnExactPassedNumbers c_laws_FnExactPassedNumbers.ps c_laws_FnExactPassedNumbers.rs Try.f4 x = F_laws_FnExactPassedNumbers x := by kernel_rfl
theorem env_laws_FnExactPassedNumbers_ok : EnvOK Try.prog env_laws_FnExactPassedNumbers := envOK_of (fun f c h => by
  simp only [env_laws_FnExactPassedNumbers] at h
  split at h
  · cases h; exact con_laws_szProposalS
  · cases h; exact con_laws_toProposalS
  · cases h; exact con_laws_eqProposalS
  · cases h; exact con_spec_PassedNumbers
  · cases h; exact con_impl_PassedNumbers
  · cases h; exact con_laws_eqIntS
  · cases h; exact con_laws_markProposalS
  · cases h; exact con_laws_markIntS
  · cases h; exact con_laws_heldIntS
  · cases h) (fun f c h => by cases h) rfl
theorem con_laws_FnExactPassedNumbers : ConOK Try.prog 4 c_laws_FnExactPassedNumbers := con_of_ev' (body := Try.f4.body.getD .skip) (Λ := loops_laws_FnExactPassedNumbers) mixed Try.func4 (by kernel_rfl) (by kernel_rfl) env_laws_FnExactPassedNumbers_ok (by kernel_rfl) (by kernel_rfl) (fun n L h => by cases h) F_laws_FnExactPassedNumbers_eq

end Go.Proofs.Ytbdnmfiaghhhiaa
