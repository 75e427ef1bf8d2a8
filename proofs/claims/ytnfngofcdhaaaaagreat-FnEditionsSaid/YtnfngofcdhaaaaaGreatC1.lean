/- Contracts of functions of the program, written by a program of this claim. No conditions. -/
import Derived.Test.YtnfngofcdhaaaaaGreatC0
set_option linter.unusedVariables false
set_option maxRecDepth 100000
namespace Go.Proofs.YtnfngofcdhaaaaaGreat
open Go
noncomputable def step_impl_copyProposals_0 (s : Int × Int × (List (Int × (Int × (ByteArray × (List Int))))) × Int) : Option ((Int × Int × (List (Int × (Int × (ByteArray × (List Int))))) × Int) ⊕ (((List (Int × (Int × (ByteArray × (List Int))))) × Int))) :=
  bif (decide (s.2.1 < s.1)) then
    bif decide (0 ≤ s.2.1) && decide (s.2.1 < (s.2.2.1.length : Int)) then
      bif decide ((s.2.2.2).toNat ≤ (s.2.1).toNat) then
        match F_slices_Clone_int_int ((s.2.2.1.getD (s.2.1).toNat (0, (0, ByteArray.empty, []))).2.2.2) with
        | none => none
        | some y6 =>
          bif decide (0 ≤ s.2.1) && decide (s.2.1 < (s.2.2.1.length : Int)) then
            bif decide ((s.2.1).toNat = (s.2.1).toNat) then
              bif decide ((s.2.2.2).toNat = (s.2.1).toNat) then
                let v7 := s.2.2.1.set (s.2.1).toNat (((s.2.2.1.getD (s.2.1).toNat (0, (0, ByteArray.empty, []))).1, ((s.2.2.1.getD (s.2.1).toNat (0, (0, ByteArray.empty, []))).2.1, (s.2.2.1.getD (s.2.1).toNat (0, (0, ByteArray.empty, []))).2.2.1, y6)))
                let v8 := IntKind.i64.wrap (s.2.1 + 1)
                some (.inl ((s.1, (v8, v7, ((((s.2.2.2).toNat + 1) : Nat) : Int)))))
              else none
            else none
          else none
      else none
    else none
  else
    some (.inr ((s.2.2.1, (((s.2.2.2).toNat : Nat) : Int))))
def pat_impl_copyProposals_0 : Pat := { tmps := [.any, .any, .any, .own 384, .any, .any, .any, .any, .v (.int .i64), .v (.int .i64), .any, .any, .any, .any, .any, .any, .any, .any, .any, .any, .any, .any, .any, .any], blks := [(384, .mix (.st (.pair (.int .i64) (.pair (.int .i64) (.pair .str (.slice (.int .i64)))))))] }
def outs_impl_copyProposals_0 : List (Exit × Pat) := [(.exit 0, { tmps := [.any, .any, .any, .own 384, .any, .any, .any, .any, .any, .any, .any, .any, .any, .any, .any, .any, .any, .any, .any, .any, .any, .any, .any, .any], blks := [(384, .mix (.st (.pair (.int .i64) (.pair (.int .i64) (.pair .str (.slice (.int .i64)))))))] })]
noncomputable def F_impl_copyProposals (x : (List (Int × (Int × (ByteArray × (List Int)))))) : Option ((List (Int × (Int × (ByteArray × (List Int)))))) :=
  match F_slices_Clone_impl_Proposal_impl_Proposal (x) with
  | none => none
  | some y1 =>
    match runL step_impl_copyProposals_0 (((y1.length : Int), (0, y1, 0))) with
    | none => none
    | some o9 =>
      bif decide ((o9.2).toNat = o9.1.length) then
        some (o9.1)
      else none
noncomputable def c_impl_copyProposals : Con := { ps := [(.val, (.slice (.st (.pair (.int .i64) (.pair (.int .i64) (.pair .str (.slice (.int .i64))))))))], rs := [(.io true, (.slice (.st (.pair (.int .i64) (.pair (.int .i64) (.pair .str (.slice (.int .i64))))))))], F := F_impl_copyProposals }
noncomputable def env_impl_copyProposals : Env := { par := [], dp := true, settle := [0, 1, 2, 7], con := fun f => match f with | 76 => some c_slices_Clone_impl_Proposal_impl_Proposal | 77 => some c_slices_Clone_int_int | _ => none, clo := fun _ => none, T := tinf Tryz.prog }
noncomputable def loops_impl_copyProposals : Nat → Option Loop := fun n => match n with | 3 => some { pat := pat_impl_copyProposals_0, outs := outs_impl_copyProposals_0, run := runL (step_impl_copyProposals_0) } | _ => none
theorem step_impl_copyProposals_0_eq (s : Int × Int × (List (Int × (Int × (ByteArray × (List Int))))) × Int) : stepEv env_impl_copyProposals loops_impl_copyProposals pat_impl_copyProposals_0 outs_impl_copyProposals_0 Tryz.f51 3 s = step_impl_copyProposals_0 s := by kernel_rfl
theorem F_impl_copyProposals_eq (x : (List (Int × (Int × (ByteArray × (List Int)))))) : Fev env_impl_copyProposals loops_impl_copyProposals c_impl_copyProposals.ps c_impl_copyProposals.rs Tryz.f51 x = F_impl_copyProposals x := by kernel_rfl
theorem env_impl_copyProposals_ok : EnvOK Tryz.prog env_impl_copyProposals := envOK_of (fun f c h => by
  simp only [env_impl_copyProposals] at h
  split at h
  · cases h; exact con_slices_Clone_impl_Proposal_impl_Proposal
  · cases h; exact con_slices_Clone_int_int
  · cases h) (fun f c h => by cases h) rfl
theorem con_impl_copyProposals : ConOK Tryz.prog 51 c_impl_copyProposals := con_of_ev' (body := Tryz.f51.body.getD .skip) (Λ := loops_impl_copyProposals) mixed Tryz.func51 (by kernel_rfl) (by kernel_rfl) env_impl_copyProposals_ok (by kernel_rfl) (by kernel_rfl) (fun n L h => by
  unfold loops_impl_copyProposals at h
  split at h
  · cases h; exact fun s o ho => loop_ok (stepF := stepEv env_impl_copyProposals loops_impl_copyProposals pat_impl_copyProposals_0 outs_impl_copyProposals_0 Tryz.f51 3) (step_impl_copyProposals_0_eq) ho
  · cases h) F_impl_copyProposals_eq

noncomputable def F_impl_PutProposal (x : (List (Int × (Int × (ByteArray × (List Int))))) × Int × Int × ByteArray) : Option ((List (Int × (Int × (ByteArray × (List Int))))) × Int × Bool) :=
  match F_impl_AreProposals ((x.1, x.2.1)) with
  | none => none
  | some y1 =>
    bif (!y1) then
      some (([], 0, false))
    else
      match F_impl_IsGloss (x.2.2.2) with
      | none => none
      | some y2 =>
        bif (!y2) then
          some (([], 0, false))
        else
          bif (decide ((x.1.length : Int) > 0)) then
            let v3 := IntKind.i64.wrap ((x.1.length : Int) - 1)
            bif decide (0 ≤ v3) && decide (v3 < (x.1.length : Int)) then
              let v4 := IntKind.i64.wrap ((x.1.getD (v3).toNat (0, (0, ByteArray.empty, []))).1 + 1)
              match F_impl_copyProposals (x.1) with
              | none => none
              | some y5 =>
                bif decide (0 ≤ x.2.1) && decide (x.2.1 ≤ x.2.1) && decide (x.2.1 * (8 : Int) ≤ 140737488355328) then
                  bif decide ((y5.length + ([(v4, (x.2.2.1, x.2.2.2, (List.replicate (x.2.1).toNat ((0) : Int))))] : List ((Int × (Int × (ByteArray × (List Int)))))).length) * 56 ≤ 140737488355328) && true && true then
                    let v6 := y5 ++ ([(v4, (x.2.2.1, x.2.2.2, (List.replicate (x.2.1).toNat ((0) : Int))))] : List ((Int × (Int × (ByteArray × (List Int))))))
                    match F_impl_AreProposals ((v6, x.2.1)) with
                    | none => none
                    | some y7 =>
                      bif (!y7) then
                        some (([], 0, false))
                      else
                        some ((v6, v4, true))
                  else none
                else none
            else none
          else
            match F_impl_copyProposals (x.1) with
            | none => none
            | some y8 =>
              bif decide (0 ≤ x.2.1) && decide (x.2.1 ≤ x.2.1) && decide (x.2.1 * (8 : Int) ≤ 140737488355328) then
                bif decide ((y8.length + ([(1, (x.2.2.1, x.2.2.2, (List.replicate (x.2.1).toNat ((0) : Int))))] : List ((Int × (Int × (ByteArray × (List Int)))))).length) * 56 ≤ 140737488355328) && true && true then
                  let v9 := y8 ++ ([(1, (x.2.2.1, x.2.2.2, (List.replicate (x.2.1).toNat ((0) : Int))))] : List ((Int × (Int × (ByteArray × (List Int))))))
                  match F_impl_AreProposals ((v9, x.2.1)) with
                  | none => none
                  | some y10 =>
                    bif (!y10) then
                      some (([], 0, false))
                    else
                      some ((v9, 1, true))
                else none
              else none
noncomputable def c_impl_PutProposal : Con := { ps := [(.val, (.slice (.st (.pair (.int .i64) (.pair (.int .i64) (.pair .str (.slice (.int .i64)))))))), (.val, (.int .i64)), (.val, (.int .i64)), (.val, .str)], rs := [(.val, (.slice (.st (.pair (.int .i64) (.pair (.int .i64) (.pair .str (.slice (.int .i64)))))))), (.val, (.int .i64)), (.val, .bool)], F := F_impl_PutProposal }
noncomputable def env_impl_PutProposal : Env := { par := [], dp := true, settle := [], con := fun f => match f with | 14 => some c_impl_AreProposals | 30 => some c_impl_IsGloss | 51 => some c_impl_copyProposals | _ => none, clo := fun _ => none, T := tinf Tryz.prog }
noncomputable def loops_impl_PutProposal : Nat → Option Loop := fun n => none
theorem F_impl_PutProposal_eq (x : (List (Int × (Int × (ByteArray × (List Int))))) × Int × Int × ByteArray) : Fev env_impl_PutProposal loops_impl_PutProposal c_impl_PutProposal.ps c_impl_PutProposal.rs Tryz.f21 x = F_impl_PutProposal x := by kernel_rfl
theorem env_impl_PutProposal_ok : EnvOK Tryz.prog env_impl_PutProposal := envOK_of (fun f c h => by
  simp only [env_impl_PutProposal] at h
  split at h
  · cases h; exact con_impl_AreProposals
  · cases h; exact con_impl_IsGloss
  · cases h; exact con_impl_copyProposals
  · cases h) (fun f c h => by cases h) rfl
theorem con_impl_PutProposal : ConOK Tryz.prog 21 c_impl_PutProposal := con_of_ev' (body := Tryz.f21.body.getD .skip) (Λ := loops_impl_PutProposal) mixed Tryz.func21 (by kernel_rfl) (by kernel_rfl) env_impl_PutProposal_ok (by kernel_rfl) (by kernel_rfl) (fun n L h => by cases h) F_impl_PutProposal_eq

noncomputable def F_spec_l1Own (x : (List Int)) : Option ((List Int)) :=
  bif decide ((([] : List Int).length + x.length) * 8 ≤ 140737488355328) then
    let v1 := ([] : List Int) ++ x
    some (v1)
  else none
noncomputable def c_spec_l1Own : Con := { ps := [(.val, (.slice (.int .i64)))], rs := [(.io true, (.slice (.int .i64)))], F := F_spec_l1Own }
noncomputable def env_spec_l1Own : Env := { par := [], dp := false, settle := [], con := fun _ => none, clo := fun _ => none, T := tinf Tryz.prog }
noncomputable def loops_spec_l1Own : Nat → Option Loop := fun n => none
theorem F_spec_l1Own_eq (x : (List Int)) : Fev env_spec_l1Own loops_spec_l1Own c_spec_l1Own.ps c_spec_l1Own.rs Tryz.f78 x = F_spec_l1Own x := by kernel_rfl
theorem env_spec_l1Own_ok : EnvOK Tryz.prog env_spec_l1Own := envOK_of (fun f c h => by cases h) (fun f c h => by cases h) rfl
theorem con_spec_l1Own : ConOK Tryz.prog 78 c_spec_l1Own := con_of_ev' (body := Tryz.f78.body.getD .skip) (Λ := loops_spec_l1Own) mixed Tryz.func78 (by kernel_rfl) (by kernel_rfl) env_spec_l1Own_ok (by kernel_rfl) (by kernel_rfl) (fun n L h => by cases h) F_spec_l1Own_eq

noncomputable def step_spec_ofOwn_0 (s : (List (Int × (Int × (ByteArray × (List Int))))) × Int × Int × (List (Int × (Int × (ByteArray × (List Int)))))) : Option (((List (Int × (Int × (ByteArray × (List Int))))) × Int × Int × (List (Int × (Int × (ByteArray × (List Int)))))) ⊕ (((List (Int × (Int × (ByteArray × (List Int)))))))) :=
  bif (decide (s.2.2.1 < s.2.1)) then
    bif decide (0 ≤ s.2.2.1) && decide (s.2.2.1 < (s.1.length : Int)) then
      match F_spec_l1Own ((s.1.getD (s.2.2.1).toNat (0, (0, ByteArray.empty, []))).2.2.2) with
      | none => none
      | some y6 =>
        bif decide ((s.2.2.2.length + ([((s.1.getD (s.2.2.1).toNat (0, (0, ByteArray.empty, []))).1, ((s.1.getD (s.2.2.1).toNat (0, (0, ByteArray.empty, []))).2.1, (s.1.getD (s.2.2.1).toNat (0, (0, ByteArray.empty, []))).2.2.1, y6))] : List ((Int × (Int × (ByteArray × (List Int)))))).length) * 56 ≤ 140737488355328) && true && true then
          let v7 := s.2.2.2 ++ ([((s.1.getD (s.2.2.1).toNat (0, (0, ByteArray.empty, []))).1, ((s.1.getD (s.2.2.1).toNat (0, (0, ByteArray.empty, []))).2.1, (s.1.getD (s.2.2.1).toNat (0, (0, ByteArray.empty, []))).2.2.1, y6))] : List ((Int × (Int × (ByteArray × (List Int))))))
          let v8 := IntKind.i64.wrap (s.2.2.1 + 1)
          some (.inl ((s.1, (s.2.1, v8, v7))))
        else none
    else none
  else
    some (.inr (s.2.2.2))
def pat_spec_ofOwn_0 : Pat := { tmps := [.any, .any, .any, .own 1216, .any, .any, .v (.slice (.st (.pair (.int .i64) (.pair (.int .i64) (.pair .str (.slice (.int .i64))))))), .v (.int .i64), .v (.int .i64), .any, .any, .any, .any, .any, .any, .any, .any, .any, .any, .any, .any, .any], blks := [(1216, .row true (.st (.pair (.int .i64) (.pair (.int .i64) (.pair .str (.slice (.int .i64)))))))] }
def outs_spec_ofOwn_0 : List (Exit × Pat) := [(.exit 0, { tmps := [.any, .any, .any, .own 1216, .any, .any, .any, .any, .any, .any, .any, .any, .any, .any, .any, .any, .any, .any, .any, .any, .any, .any], blks := [(1216, .row true (.st (.pair (.int .i64) (.pair (.int .i64) (.pair .str (.slice (.int .i64)))))))] })]
noncomputable def F_spec_ofOwn (x : (List (Int × (Int × (ByteArray × (List Int)))))) : Option ((List (Int × (Int × (ByteArray × (List Int)))))) :=
  match runL step_spec_ofOwn_0 ((x, ((x.length : Int), 0, []))) with
  | none => none
  | some o9 =>
    some (o9)
noncomputable def c_spec_ofOwn : Con := { ps := [(.val, (.slice (.st (.pair (.int .i64) (.pair (.int .i64) (.pair .str (.slice (.int .i64))))))))], rs := [(.io true, (.slice (.st (.pair (.int .i64) (.pair (.int .i64) (.pair .str (.slice (.int .i64))))))))], F := F_spec_ofOwn }
noncomputable def env_spec_ofOwn : Env := { par := [], dp := true, settle := [], con := fun f => match f with | 78 => some c_spec_l1Own | _ => none, clo := fun _ => none, T := tinf Tryz.prog }
noncomputable def loops_spec_ofOwn : Nat → Option Loop := fun n => match n with | 3 => some { pat := pat_spec_ofOwn_0, outs := outs_spec_ofOwn_0, run := runL (step_spec_ofOwn_0) } | _ => none
theorem step_spec_ofOwn_0_eq (s : (List (Int × (Int × (ByteArray × (List Int))))) × Int × Int × (List (Int × (Int × (ByteArray × (List Int)))))) : stepEv env_spec_ofOwn loops_spec_ofOwn pat_spec_ofOwn_0 outs_spec_ofOwn_0 Tryz.f52 3 s = step_spec_ofOwn_0 s := by kernel_rfl
theorem F_spec_ofOwn_eq (x : (List (Int × (Int × (ByteArray × (List Int)))))) : Fev env_spec_ofOwn loops_spec_ofOwn c_spec_ofOwn.ps c_spec_ofOwn.rs Tryz.f52 x = F_spec_ofOwn x := by kernel_rfl
theorem env_spec_ofOwn_ok : EnvOK Tryz.prog env_spec_ofOwn := envOK_of (fun f c h => by
  simp only [env_spec_ofOwn] at h
  split at h
  · cases h; exact con_spec_l1Own
  · cases h) (fun f c h => by cases h) rfl
theorem con_spec_ofOwn : ConOK Tryz.prog 52 c_spec_ofOwn := con_of_ev' (body := Tryz.f52.body.getD .skip) (Λ := loops_spec_ofOwn) mixed Tryz.func52 (by kernel_rfl) (by kernel_rfl) env_spec_ofOwn_ok (by kernel_rfl) (by kernel_rfl) (fun n L h => by
  unfold loops_spec_ofOwn at h
  split at h
  · cases h; exact fun s o ho => loop_ok (stepF := stepEv env_spec_ofOwn loops_spec_ofOwn pat_spec_ofOwn_0 outs_spec_ofOwn_0 Tryz.f52 3) (step_spec_ofOwn_0_eq) ho
  · cases h) F_spec_ofOwn_eq

noncomputable def F_spec_PutProposal (x : (List (Int × (Int × (ByteArray × (List Int))))) × Int × Int × ByteArray) : Option ((List (Int × (Int × (ByteArray × (List Int))))) × Int × Bool) :=
  match F_spec_ofGood ((x.1, x.2.1)) with
  | none => none
  | some y1 =>
    bif (!y1) then
      some (([], 0, false))
    else
      bif (decide ((x.1.length : Int) > 0)) then
        let v2 := IntKind.i64.wrap ((x.1.length : Int) - 1)
        bif decide (0 ≤ v2) && decide (v2 < (x.1.length : Int)) then
          let v3 := IntKind.i64.wrap ((x.1.getD (v2).toNat (0, (0, ByteArray.empty, []))).1 + 1)
          match F_spec_ofOwn (x.1) with
          | none => none
          | some y4 =>
            bif decide (0 ≤ x.2.1) && decide (x.2.1 ≤ x.2.1) && decide (x.2.1 * (8 : Int) ≤ 140737488355328) then
              bif decide ((y4.length + ([(v3, (x.2.2.1, x.2.2.2, (List.replicate (x.2.1).toNat ((0) : Int))))] : List ((Int × (Int × (ByteArray × (List Int)))))).length) * 56 ≤ 140737488355328) && true && true then
                let v5 := y4 ++ ([(v3, (x.2.2.1, x.2.2.2, (List.replicate (x.2.1).toNat ((0) : Int))))] : List ((Int × (Int × (ByteArray × (List Int))))))
                match F_spec_ofGood ((v5, x.2.1)) with
                | none => none
                | some y6 =>
                  bif (!y6) then
                    some (([], 0, false))
                  else
                    some ((v5, v3, true))
              else none
            else none
        else none
      else
        match F_spec_ofOwn (x.1) with
        | none => none
        | some y7 =>
          bif decide (0 ≤ x.2.1) && decide (x.2.1 ≤ x.2.1) && decide (x.2.1 * (8 : Int) ≤ 140737488355328) then
            bif decide ((y7.length + ([(1, (x.2.2.1, x.2.2.2, (List.replicate (x.2.1).toNat ((0) : Int))))] : List ((Int × (Int × (ByteArray × (List Int)))))).length) * 56 ≤ 140737488355328) && true && true then
              let v8 := y7 ++ ([(1, (x.2.2.1, x.2.2.2, (List.replicate (x.2.1).toNat ((0) : Int))))] : List ((Int × (Int × (ByteArray × (List Int))))))
              match F_spec_ofGood ((v8, x.2.1)) with
              | none => none
              | some y9 =>
                bif (!y9) then
                  some (([], 0, false))
                else
                  some ((v8, 1, true))
            else none
          else none
noncomputable def c_spec_PutProposal : Con := { ps := [(.val, (.slice (.st (.pair (.int .i64) (.pair (.int .i64) (.pair .str (.slice (.int .i64)))))))), (.val, (.int .i64)), (.val, (.int .i64)), (.val, .str)], rs := [(.val, (.slice (.st (.pair (.int .i64) (.pair (.int .i64) (.pair .str (.slice (.int .i64)))))))), (.val, (.int .i64)), (.val, .bool)], F := F_spec_PutProposal }
noncomputable def env_spec_PutProposal : Env := { par := [], dp := true, settle := [], con := fun f => match f with | 39 => some c_spec_ofGood | 52 => some c_spec_ofOwn | _ => none, clo := fun _ => none, T := tinf Tryz.prog }
noncomputable def loops_spec_PutProposal : Nat → Option Loop := fun n => none
theorem F_spec_PutProposal_eq (x : (List (Int × (Int × (ByteArray × (List Int))))) × Int × Int × ByteArray) : Fev env_spec_PutProposal loops_spec_PutProposal c_spec_PutProposal.ps c_spec_PutProposal.rs Tryz.f22 x = F_spec_PutProposal x := by kernel_rfl
theorem env_spec_PutProposal_ok : EnvOK Tryz.prog env_spec_PutProposal := envOK_of (fun f c h => by
  simp only [env_spec_PutProposal] at h
  split at h
  · cases h; exact con_spec_ofGood
  · cases h; exact con_spec_ofOwn
  · cases h) (fun f c h => by cases h) rfl
theorem con_spec_PutProposal : ConOK Tryz.prog 22 c_spec_PutProposal := con_of_ev' (body := Tryz.f22.body.getD .skip) (Λ := loops_spec_PutProposal) mixed Tryz.func22 (by kernel_rfl) (by kernel_rfl) env_spec_PutProposal_ok (by kernel_rfl) (by kernel_rfl) (fun n L h => by cases h) F_spec_PutProposal_eq

noncomputable def step_laws_pSameProposals_0 (s : (List (Int × (Int × (ByteArray × (List Int))))) × (List (Int × (Int × (ByteArray × (List Int))))) × Int × Int) : Option (((List (Int × (Int × (ByteArray × (List Int))))) × (List (Int × (Int × (ByteArray × (List Int))))) × Int × Int) ⊕ ((Bool) ⊕ (Unit))) :=
  bif (decide (s.2.2.2 < s.2.2.1)) then
    bif decide (0 ≤ s.2.2.2) && decide (s.2.2.2 < (s.1.length : Int)) then
      bif decide (0 ≤ s.2.2.2) && decide (s.2.2.2 < (s.2.1.length : Int)) then
        bif (((s.1.getD (s.2.2.2).toNat (0, (0, ByteArray.empty, []))).1 != (s.2.1.getD (s.2.2.2).toNat (0, (0, ByteArray.empty, []))).1)) then
          some (.inr (.inl (false)))
        else
          bif decide (0 ≤ s.2.2.2) && decide (s.2.2.2 < (s.1.length : Int)) then
            bif decide (0 ≤ s.2.2.2) && decide (s.2.2.2 < (s.2.1.length : Int)) then
              bif (((s.1.getD (s.2.2.2).toNat (0, (0, ByteArray.empty, []))).2.1 != (s.2.1.getD (s.2.2.2).toNat (0, (0, ByteArray.empty, []))).2.1)) then
                some (.inr (.inl (false)))
              else
                bif decide (0 ≤ s.2.2.2) && decide (s.2.2.2 < (s.1.length : Int)) then
                  bif decide (0 ≤ s.2.2.2) && decide (s.2.2.2 < (s.2.1.length : Int)) then
                    bif (!((s.1.getD (s.2.2.2).toNat (0, (0, ByteArray.empty, []))).2.2.1.toList == (s.2.1.getD (s.2.2.2).toNat (0, (0, ByteArray.empty, []))).2.2.1.toList)) then
                      some (.inr (.inl (false)))
                    else
                      bif decide (0 ≤ s.2.2.2) && decide (s.2.2.2 < (s.1.length : Int)) then
                        bif decide (0 ≤ s.2.2.2) && decide (s.2.2.2 < (s.2.1.length : Int)) then
                          match F_laws_sameInts (((s.1.getD (s.2.2.2).toNat (0, (0, ByteArray.empty, []))).2.2.2, (s.2.1.getD (s.2.2.2).toNat (0, (0, ByteArray.empty, []))).2.2.2)) with
                          | none => none
                          | some y3 =>
                            bif (!y3) then
                              some (.inr (.inl (false)))
                            else
                              let v4 := IntKind.i64.wrap (s.2.2.2 + 1)
                              some (.inl ((s.1, (s.2.1, s.2.2.1, v4))))
                        else none
                      else none
                  else none
                else none
            else none
          else none
      else none
    else none
  else
    some (.inr (.inr (())))
def pat_laws_pSameProposals_0 : Pat := { tmps := [.v (.slice (.st (.pair (.int .i64) (.pair (.int .i64) (.pair .str (.slice (.int .i64))))))), .v (.slice (.st (.pair (.int .i64) (.pair (.int .i64) (.pair .str (.slice (.int .i64))))))), .any, .any, .any, .any, .any, .any, .any, .any, .any, .any, .v (.int .i64), .v (.int .i64), .any, .any, .any, .any, .any, .any, .any, .any, .any, .any, .any, .any, .any, .any, .any, .any, .any, .any, .any, .any, .any, .any, .any, .any, .any, .any, .any, .any, .any, .any, .any, .any, .any, .any, .any, .any, .any, .any, .any, .any, .any, .any, .any, .any, .any, .any, .any, .any, .any, .any, .any, .any, .any, .any], blks := [] }
def outs_laws_pSameProposals_0 : List (Exit × Pat) := [(.ret, { tmps := [.any, .any, .any, .any, .v .bool, .any, .any, .any, .any, .any, .any, .any, .any, .any, .any, .any, .any, .any, .any, .any, .any, .any, .any, .any, .any, .any, .any, .any, .any, .any, .any, .any, .any, .any, .any, .any, .any, .any, .any, .any, .any, .any, .any, .any, .any, .any, .any, .any, .any, .any, .any, .any, .any, .any, .any, .any, .any, .any, .any, .any, .any, .any, .any, .any, .any, .any, .any, .any], blks := [] }), (.exit 0, { tmps := [.any, .any, .any, .any, .any, .any, .any, .any, .any, .any, .any, .any, .any, .any, .any, .any, .any, .any, .any, .any, .any, .any, .any, .any, .any, .any, .any, .any, .any, .any, .any, .any, .any, .any, .any, .any, .any, .any, .any, .any, .any, .any, .any, .any, .any, .any, .any, .any, .any, .any, .any, .any, .any, .any, .any, .any, .any, .any, .any, .any, .any, .any, .any, .any, .any, .any, .any, .any], blks := [] })]
noncomputable def F_laws_pSameProposals (x : (List (Int × (Int × (ByteArray × (List Int))))) × (List (Int × (Int × (ByteArray × (List Int)))))) : Option (Bool) :=
  bif (((x.1.length : Int) != (x.2.length : Int))) then
    some (false)
  else
    match runL step_laws_pSameProposals_0 ((x.1, (x.2, (x.1.length : Int), 0))) with
    | none => none
    | some (.inl o5) =>
      some (o5)
    | some (.inr o5) =>
      some (true)
noncomputable def c_laws_pSameProposals : Con := { ps := [(.val, (.slice (.st (.pair (.int .i64) (.pair (.int .i64) (.pair .str (.slice (.int .i64)))))))), (.val, (.slice (.st (.pair (.int .i64) (.pair (.int .i64) (.pair .str (.slice (.int .i64))))))))], rs := [(.val, .bool)], F := F_laws_pSameProposals }
noncomputable def env_laws_pSameProposals : Env := { par := [], dp := false, settle := [], con := fun f => match f with | 13 => some c_laws_sameInts | _ => none, clo := fun _ => none, T := tinf Tryz.prog }
noncomputable def loops_laws_pSameProposals : Nat → Option Loop := fun n => match n with | 4 => some { pat := pat_laws_pSameProposals_0, outs := outs_laws_pSameProposals_0, run := runL (step_laws_pSameProposals_0) } | _ => none
theorem step_laws_pSameProposals_0_eq (s : (List (Int × (Int × (ByteArray × (List Int))))) × (List (Int × (Int × (ByteArray × (List Int))))) × Int × Int) : stepEv env_laws_pSameProposals loops_laws_pSameProposals pat_laws_pSameProposals_0 outs_laws_pSameProposals_0 Tryz.f23 4 s = step_laws_pSameProposals_0 s := by kernel_rfl
theorem F_laws_pSameProposals_eq (x : (List (Int × (Int × (ByteArray × (List Int))))) × (List (Int × (Int × (ByteArray × (List Int)))))) : Fev env_laws_pSameProposals loops_laws_pSameProposals c_laws_pSameProposals.ps c_laws_pSameProposals.rs Tryz.f23 x = F_laws_pSameProposals x := by kernel_rfl
theorem env_laws_pSameProposals_ok : EnvOK Tryz.prog env_laws_pSameProposals := envOK_of (fun f c h => by
  simp only [env_laws_pSameProposals] at h
  split at h
  · cases h; exact con_laws_sameInts
  · cases h) (fun f c h => by cases h) rfl
theorem con_laws_pSameProposals : ConOK Tryz.prog 23 c_laws_pSameProposals := con_of_ev' (body := Tryz.f23.body.getD .skip) (Λ := loops_laws_pSameProposals) mixed Tryz.func23 (by kernel_rfl) (by kernel_rfl) env_laws_pSameProposals_ok (by kernel_rfl) (by kernel_rfl) (fun n L h => by
  unfold loops_laws_pSameProposals at h
  split at h
  · cases h; exact fun s o ho => loop_ok (stepF := stepEv env_laws_pSameProposals loops_laws_pSameProposals pat_laws_pSameProposals_0 outs_laws_pSameProposals_0 Tryz.f23 4) (step_laws_pSameProposals_0_eq) ho
  · cases h) F_laws_pSameProposals_eq

noncomputable def F_impl_proposalAt_1 (x : (Int × (Int × (ByteArray × (List Int)))) × Int) : Option (Bool) :=
  some (((x.1.1 == x.2)))
noncomputable def c_impl_proposalAt_1 : Con := { ps := [(.val, (.st (.pair (.int .i64) (.pair (.int .i64) (.pair .str (.slice (.int .i64))))))), (.val, (.ptr (.int .i64)))], rs := [(.val, .bool)], F := F_impl_proposalAt_1 }
noncomputable def env_impl_proposalAt_1 : Env := { par := [], dp := false, settle := [], con := fun _ => none, clo := fun _ => none, T := tinf Tryz.prog }
noncomputable def loops_impl_proposalAt_1 : Nat → Option Loop := fun n => none
theorem F_impl_proposalAt_1_eq (x : (Int × (Int × (ByteArray × (List Int)))) × Int) : Fev env_impl_proposalAt_1 loops_impl_proposalAt_1 c_impl_proposalAt_1.ps c_impl_proposalAt_1.rs Tryz.f80 x = F_impl_proposalAt_1 x := by kernel_rfl
theorem env_impl_proposalAt_1_ok : EnvOK Tryz.prog env_impl_proposalAt_1 := envOK_of (fun f c h => by cases h) (fun f c h => by cases h) rfl
theorem con_impl_proposalAt_1 : ConOK Tryz.prog 80 c_impl_proposalAt_1 := con_of_ev' (body := Tryz.f80.body.getD .skip) (Λ := loops_impl_proposalAt_1) mixed Tryz.func80 (by kernel_rfl) (by kernel_rfl) env_impl_proposalAt_1_ok (by kernel_rfl) (by kernel_rfl) (fun n L h => by cases h) F_impl_proposalAt_1_eq

noncomputable def step_slices_IndexFunc_impl_Proposal_impl_Proposal_0 (s : (List (Int × (Int × (ByteArray × (List Int))))) × ((Int × (Int × (ByteArray × (List Int)))) → Option Bool) × Int × Int) : Option (((List (Int × (Int × (ByteArray × (List Int))))) × ((Int × (Int × (ByteArray × (List Int)))) → Option Bool) × Int × Int) ⊕ ((Int) ⊕ (Unit))) :=
  bif (decide (s.2.2.2 < s.2.2.1)) then
    bif decide (0 ≤ s.2.2.2) && decide (s.2.2.2 < (s.1.length : Int)) then
      match s.2.1 ((s.1.getD (s.2.2.2).toNat (0, (0, ByteArray.empty, [])))) with
      | none => none
      | some y3 =>
        bif y3 then
          some (.inr (.inl (s.2.2.2)))
        else
          let v4 := IntKind.i64.wrap (s.2.2.2 + 1)
          some (.inl ((s.1, (s.2.1, s.2.2.1, v4))))
    else none
  else
    some (.inr (.inr (())))
def pat_slices_IndexFunc_impl_Proposal_impl_Proposal_0 : Pat := { tmps := [.v (.slice (.st (.pair (.int .i64) (.pair (.int .i64) (.pair .str (.slice (.int .i64))))))), .v (.fn (.st (.pair (.int .i64) (.pair (.int .i64) (.pair .str (.slice (.int .i64)))))) .bool), .any, .any, .any, .any, .any, .v (.int .i64), .v (.int .i64), .any, .any, .any, .any, .any, .any, .any, .any, .any, .any], blks := [] }
def outs_slices_IndexFunc_impl_Proposal_impl_Proposal_0 : List (Exit × Pat) := [(.ret, { tmps := [.any, .any, .any, .any, .v (.int .i64), .any, .any, .any, .any, .any, .any, .any, .any, .any, .any, .any, .any, .any, .any], blks := [] }), (.exit 0, { tmps := [.any, .any, .any, .any, .any, .any, .any, .any, .any, .any, .any, .any, .any, .any, .any, .any, .any, .any, .any], blks := [] })]
noncomputable def F_slices_IndexFunc_impl_Proposal_impl_Proposal (x : (List (Int × (Int × (ByteArray × (List Int))))) × ((Int × (Int × (ByteArray × (List Int)))) → Option Bool)) : Option (Int) :=
  match runL step_slices_IndexFunc_impl_Proposal_impl_Proposal_0 ((x.1, (x.2, (x.1.length : Int), 0))) with
  | none => none
  | some (.inl o5) =>
    some (o5)
  | some (.inr o5) =>
    some ((-1))
noncomputable def c_slices_IndexFunc_impl_Proposal_impl_Proposal : Con := { ps := [(.val, (.slice (.st (.pair (.int .i64) (.pair (.int .i64) (.pair .str (.slice (.int .i64)))))))), (.val, (.fn (.st (.pair (.int .i64) (.pair (.int .i64) (.pair .str (.slice (.int .i64)))))) .bool))], rs := [(.val, (.int .i64))], F := F_slices_IndexFunc_impl_Proposal_impl_Proposal }
noncomputable def env_slices_IndexFunc_impl_Proposal_impl_Proposal : Env := { par := [], dp := false, settle := [], con := fun _ => none, clo := fun _ => none, T := tinf Tryz.prog }
noncomputable def loops_slices_IndexFunc_impl_Proposal_impl_Proposal : Nat → Option Loop := fun n => match n with | 2 => some { pat := pat_slices_IndexFunc_impl_Proposal_impl_Proposal_0, outs := outs_slices_IndexFunc_impl_Proposal_impl_Proposal_0, run := runL (step_slices_IndexFunc_impl_Proposal_impl_Proposal_0) } | _ => none
theorem step_slices_IndexFunc_impl_Proposal_impl_Proposal_0_eq (s : (List (Int × (Int × (ByteArray × (List Int))))) × ((Int × (Int × (ByteArray × (List Int)))) → Option Bool) × Int × Int) : stepEv env_slices_IndexFunc_impl_Proposal_impl_Proposal loops_slices_IndexFunc_impl_Proposal_impl_Proposal pat_slices_IndexFunc_impl_Proposal_impl_Proposal_0 outs_slices_IndexFunc_impl_Proposal_impl_Proposal_0 Tryz.f79 2 s = step_slices_IndexFunc_impl_Proposal_impl_Proposal_0 s := by kernel_rfl
theorem F_slices_IndexFunc_impl_Proposal_impl_Proposal_eq (x : (List (Int × (Int × (ByteArray × (List Int))))) × ((Int × (Int × (ByteArray × (List Int)))) → Option Bool)) : Fev env_slices_IndexFunc_impl_Proposal_impl_Proposal loops_slices_IndexFunc_impl_Proposal_impl_Proposal c_slices_IndexFunc_impl_Proposal_impl_Proposal.ps c_slices_IndexFunc_impl_Proposal_impl_Proposal.rs Tryz.f79 x = F_slices_IndexFunc_impl_Proposal_impl_Proposal x := by kernel_rfl
theorem env_slices_IndexFunc_impl_Proposal_impl_Proposal_ok : EnvOK Tryz.prog env_slices_IndexFunc_impl_Proposal_impl_Proposal := envOK_of (fun f c h => by cases h) (fun f c h => by cases h) rfl
theorem con_slices_IndexFunc_impl_Proposal_impl_Proposal : ConOK Tryz.prog 79 c_slices_IndexFunc_impl_Proposal_impl_Proposal := con_of_ev' (body := Tryz.f79.body.getD .skip) (Λ := loops_slices_IndexFunc_impl_Proposal_impl_Proposal) mixed Tryz.func79 (by kernel_rfl) (by kernel_rfl) env_slices_IndexFunc_impl_Proposal_impl_Proposal_ok (by kernel_rfl) (by kernel_rfl) (fun n L h => by
  unfold loops_slices_IndexFunc_impl_Proposal_impl_Proposal at h
  split at h
  · cases h; exact fun s o ho => loop_ok (stepF := stepEv env_slices_IndexFunc_impl_Proposal_impl_Proposal loops_slices_IndexFunc_impl_Proposal_impl_Proposal pat_slices_IndexFunc_impl_Proposal_impl_Proposal_0 outs_slices_IndexFunc_impl_Proposal_impl_Proposal_0 Tryz.f79 2) (step_slices_IndexFunc_impl_Proposal_impl_Proposal_0_eq) ho
  · cases h) F_slices_IndexFunc_impl_Proposal_impl_Proposal_eq

noncomputable def K_impl_proposalAt_1 (q : Int) (x : (Int × (Int × (ByteArray × (List Int))))) : Option (Bool) := F_impl_proposalAt_1 (x, q)
noncomputable def k_impl_proposalAt_1 : CloCon := { caps := [(.int .i64)], a := (.st (.pair (.int .i64) (.pair (.int .i64) (.pair .str (.slice (.int .i64)))))), r := .bool, F := K_impl_proposalAt_1 }
theorem clo_impl_proposalAt_1 : CloOK Tryz.prog 80 k_impl_proposalAt_1 := clo_of_con k_impl_proposalAt_1 F_impl_proposalAt_1 con_impl_proposalAt_1 rfl (fun kx x y h => ⟨y, h, rfl⟩)
noncomputable def F_impl_proposalAt (x : (List (Int × (Int × (ByteArray × (List Int))))) × Int) : Option (Int) :=
  match F_slices_IndexFunc_impl_Proposal_impl_Proposal ((x.1, (K_impl_proposalAt_1 x.2))) with
  | none => none
  | some y1 =>
    some (y1)
noncomputable def c_impl_proposalAt : Con := { ps := [(.val, (.slice (.st (.pair (.int .i64) (.pair (.int .i64) (.pair .str (.slice (.int .i64)))))))), (.val, (.int .i64))], rs := [(.val, (.int .i64))], F := F_impl_proposalAt }
noncomputable def env_impl_proposalAt : Env := { par := [], dp := false, settle := [], con := fun f => match f with | 79 => some c_slices_IndexFunc_impl_Proposal_impl_Proposal | _ => none, clo := fun f => match f with | 80 => some k_impl_proposalAt_1 | _ => none, T := tinf Tryz.prog }
noncomputable def loops_impl_proposalAt : Nat → Option Loop := fun n => none
theorem F_impl_proposalAt_eq (x : (List (Int × (Int × (ByteArray × (List Int))))) × Int) : Fev env_impl_proposalAt loops_impl_proposalAt c_impl_proposalAt.ps c_impl_proposalAt.rs Tryz.f53 x = F_impl_proposalAt x := by kernel_rfl
theorem env_impl_proposalAt_ok : EnvOK Tryz.prog env_impl_proposalAt := envOK_of (fun f c h => by
  simp only [env_impl_proposalAt] at h
  split at h
  · cases h; exact con_slices_IndexFunc_impl_Proposal_impl_Proposal
  · cases h) (fun f c h => by
  simp only [env_impl_proposalAt] at h
  split at h
  · cases h; exact clo_impl_proposalAt_1
  · cases h) rfl
theorem con_impl_proposalAt : ConOK Tryz.prog 53 c_impl_proposalAt := con_of_ev' (body := Tryz.f53.body.getD .skip) (Λ := loops_impl_proposalAt) mixed Tryz.func53 (by kernel_rfl) (by kernel_rfl) env_impl_proposalAt_ok (by kernel_rfl) (by kernel_rfl) (fun n L h => by cases h) F_impl_proposalAt_eq

noncomputable def F_impl_IsPassed (x : (List (Int × (Int × (ByteArray × (List Int))))) × Int × Int) : Option (Bool × Bool) :=
  match F_impl_proposalAt ((x.1, x.2.2)) with
  | none => none
  | some y1 =>
    match F_impl_AreProposals ((x.1, x.2.1)) with
    | none => none
    | some y2 =>
      bif (!y2) then
        some ((false, false))
      else
        bif (decide (y1 < 0)) then
          some ((false, false))
        else
          bif decide (0 ≤ y1) && decide (y1 < (x.1.length : Int)) then
            match F_impl_Proposal_passed (((x.1.getD (y1).toNat (0, (0, ByteArray.empty, []))), 0)) with
            | none => none
            | some y3 =>
              some ((y3, true))
          else none
noncomputable def c_impl_IsPassed : Con := { ps := [(.val, (.slice (.st (.pair (.int .i64) (.pair (.int .i64) (.pair .str (.slice (.int .i64)))))))), (.val, (.int .i64)), (.val, (.int .i64))], rs := [(.val, .bool), (.val, .bool)], F := F_impl_IsPassed }
noncomputable def env_impl_IsPassed : Env := { par := [], dp := false, settle := [], con := fun f => match f with | 14 => some c_impl_AreProposals | 34 => some c_impl_Proposal_passed | 53 => some c_impl_proposalAt | _ => none, clo := fun _ => none, T := tinf Tryz.prog }
noncomputable def loops_impl_IsPassed : Nat → Option Loop := fun n => none
theorem F_impl_IsPassed_eq (x : (List (Int × (Int × (ByteArray × (List Int))))) × Int × Int) : Fev env_impl_IsPassed loops_impl_IsPassed c_impl_IsPassed.ps c_impl_IsPassed.rs Tryz.f24 x = F_impl_IsPassed x := by kernel_rfl
theorem env_impl_IsPassed_ok : EnvOK Tryz.prog env_impl_IsPassed := envOK_of (fun f c h => by
  simp only [env_impl_IsPassed] at h
  split at h
  · cases h; exact con_impl_AreProposals
  · cases h; exact con_impl_Proposal_passed
  · cases h; exact con_impl_proposalAt
  · cases h) (fun f c h => by cases h) rfl
theorem con_impl_IsPassed : ConOK Tryz.prog 24 c_impl_IsPassed := con_of_ev' (body := Tryz.f24.body.getD .skip) (Λ := loops_impl_IsPassed) mixed Tryz.func24 (by kernel_rfl) (by kernel_rfl) env_impl_IsPassed_ok (by kernel_rfl) (by kernel_rfl) (fun n L h => by cases h) F_impl_IsPassed_eq

noncomputable def step_laws_FnEditions_0 (s : (List Int) × (List ByteArray) × (List (Int × (Int × (ByteArray × (List Int))))) × (List ByteArray) × (List Int) × Int × Int × (List Int)) : Option (((List Int) × (List ByteArray) × (List (Int × (Int × (ByteArray × (List Int))))) × (List ByteArray) × (List Int) × Int × Int × (List Int)) ⊕ ((Bool) ⊕ ((List Int) × (List ByteArray) × (List (Int × (Int × (ByteArray × (List Int))))) × (List ByteArray) × (List Int)))) :=
  bif (decide (s.2.2.2.2.2.2.1 < s.2.2.2.2.2.1)) then
    bif decide (0 ≤ s.2.2.2.2.2.2.1) && decide (s.2.2.2.2.2.2.1 < (s.2.2.2.2.1.length : Int)) then
      match F_laws_pIn ((s.2.2.2.2.2.2.2, (s.2.2.2.2.1.getD (s.2.2.2.2.2.2.1).toNat 0))) with
      | none => none
      | some y17 =>
        bif (!y17) then
          some (.inr (.inl (false)))
        else
          let v18 := IntKind.i64.wrap (s.2.2.2.2.2.2.1 + 1)
          some (.inl ((s.1, (s.2.1, s.2.2.1, (s.2.2.2.1, s.2.2.2.2.1, (s.2.2.2.2.2.1, v18, s.2.2.2.2.2.2.2))))))
    else none
  else
    some (.inr (.inr ((s.1, s.2.1, (s.2.2.1, s.2.2.2.1, s.2.2.2.2.2.2.2)))))
def pat_laws_FnEditions_0 : Pat := { tmps := [.any, .v (.slice (.int .u8)), .any, .any, .any, .v (.slice .str), .v (.slice (.st (.pair (.int .i64) (.pair (.int .i64) (.pair .str (.slice (.int .i64))))))), .any, .any, .any, .any, .v (.slice .str), .any, .any, .any, .any, .own 6016, .any, .any, .any, .any, .any, .any, .any, .any, .any, .any, .any, .any, .any, .any, .any, .any, .any, .any, .any, .any, .any, .any, .any, .any, .any, .any, .any, .any, .any, .any, .any, .any, .any, .any, .any, .any, .any, .any, .any, .any, .any, .any, .any, .any, .any, .any, .any, .any, .any, .any, .any, .any, .any, .any, .any, .any, .any, .any, .any, .any, .any, .any, .any, .any, .any, .any, .any, .any, .any, .any, .any, .any, .any, .any, .any, .any, .any, .any, .any, .any, .any, .any, .any, .any, .any, .any, .any, .any, .any, .any, .any, .any, .any, .any, .any, .any, .any, .any, .any, .any, .any, .any, .any, .any, .any, .any, .any, .any, .any, .any, .any, .any, .any, .any, .any, .any, .any, .any, .any, .any, .any, .any, .any, .any, .any, .any, .any, .any, .any, .any, .any, .any, .any, .any, .any, .any, .any, .any, .any, .any, .any, .any, .any, .any, .any, .any, .any, .any, .any, .v (.slice (.int .i64)), .v (.int .i64), .v (.int .i64), .any, .any, .any, .any, .any, .any, .any, .any, .any, .any, .any, .any, .any, .any, .any, .any, .any, .any, .any, .any, .any, .any, .any, .any, .any, .any, .any, .any, .any, .any, .any, .any, .any, .any, .any, .any, .any, .any, .any, .any, .any, .any, .any, .any, .any, .any, .any, .any, .any, .any, .any, .any, .any, .any, .any, .any, .any, .any, .any, .any, .any, .any, .any, .any, .any, .any, .any, .any, .any, .any, .any, .any, .any, .any, .any, .any, .any, .any, .any, .any, .any, .any, .any, .any, .any, .any, .any, .any, .any, .any, .any, .any, .any, .any, .any, .any, .any, .any, .any, .any, .any, .any, .any, .any, .any, .any, .any, .any, .any, .any, .any, .any, .any, .any, .any, .any, .any, .any, .any, .any, .any, .any, .any, .any, .any, .any, .any, .any, .any, .any, .any, .any, .any, .any, .any, .any, .any, .any, .any, .any, .any, .any, .any, .any, .any, .any, .any, .any, .any, .any, .any, .any, .any, .any, .any, .any, .any, .any, .any, .any, .any, .any, .any, .any, .any, .any, .any, .any, .any, .any, .any, .any, .any, .any, .any, .any, .any, .any, .any, .any, .any, .any, .any, .any, .any, .any, .any, .any, .any, .any, .any, .any, .any, .any, .any, .any, .any, .any, .any, .any, .any, .any, .any, .any, .any, .any, .any, .any, .any, .any, .any, .any, .any, .any, .any, .any, .any, .any, .any, .any, .any, .any, .any, .any, .any, .any, .any, .any, .any, .any, .any, .any, .any, .any, .any, .any, .any, .any, .any, .any, .any, .any, .any, .any, .any, .any, .any, .any, .any, .any, .any], blks := [(6016, .row true (.int .i64))] }
def outs_laws_FnEditions_0 : List (Exit × Pat) := [(.ret, { tmps := [.any, .any, .any, .any, .v .bool, .any, .any, .any, .any, .any, .any, .any, .any, .any, .any, .any, .any, .any, .any, .any, .any, .any, .any, .any, .any, .any, .any, .any, .any, .any, .any, .any, .any, .any, .any, .any, .any, .any, .any, .any, .any, .any, .any, .any, .any, .any, .any, .any, .any, .any, .any, .any, .any, .any, .any, .any, .any, .any, .any, .any, .any, .any, .any, .any, .any, .any, .any, .any, .any, .any, .any, .any, .any, .any, .any, .any, .any, .any, .any, .any, .any, .any, .any, .any, .any, .any, .any, .any, .any, .any, .any, .any, .any, .any, .any, .any, .any, .any, .any, .any, .any, .any, .any, .any, .any, .any, .any, .any, .any, .any, .any, .any, .any, .any, .any, .any, .any, .any, .any, .any, .any, .any, .any, .any, .any, .any, .any, .any, .any, .any, .any, .any, .any, .any, .any, .any, .any, .any, .any, .any, .any, .any, .any, .any, .any, .any, .any, .any, .any, .any, .any, .any, .any, .any, .any, .any, .any, .any, .any, .any, .any, .any, .any, .any, .any, .any, .any, .any, .any, .any, .any, .any, .any, .any, .any, .any, .any, .any, .any, .any, .any, .any, .any, .any, .any, .any, .any, .any, .any, .any, .any, .any, .any, .any, .any, .any, .any, .any, .any, .any, .any, .any, .any, .any, .any, .any, .any, .any, .any, .any, .any, .any, .any, .any, .any, .any, .any, .any, .any, .any, .any, .any, .any, .any, .any, .any, .any, .any, .any, .any, .any, .any, .any, .any, .any, .any, .any, .any, .any, .any, .any, .any, .any, .any, .any, .any, .any, .any, .any, .any, .any, .any, .any, .any, .any, .any, .any, .any, .any, .any, .any, .any, .any, .any, .any, .any, .any, .any, .any, .any, .any, .any, .any, .any, .any, .any, .any, .any, .any, .any, .any, .any, .any, .any, .any, .any, .any, .any, .any, .any, .any, .any, .any, .any, .any, .any, .any, .any, .any, .any, .any, .any, .any, .any, .any, .any, .any, .any, .any, .any, .any, .any, .any, .any, .any, .any, .any, .any, .any, .any, .any, .any, .any, .any, .any, .any, .any, .any, .any, .any, .any, .any, .any, .any, .any, .any, .any, .any, .any, .any, .any, .any, .any, .any, .any, .any, .any, .any, .any, .any, .any, .any, .any, .any, .any, .any, .any, .any, .any, .any, .any, .any, .any, .any, .any, .any, .any, .any, .any, .any, .any, .any, .any, .any, .any, .any, .any, .any, .any, .any, .any, .any, .any, .any, .any, .any, .any, .any, .any, .any, .any, .any, .any, .any, .any, .any, .any, .any, .any, .any, .any, .any, .any, .any, .any, .any, .any, .any, .any, .any, .any, .any, .any, .any, .any, .any, .any, .any, .any, .any], blks := [] }), (.exit 0, { tmps := [.any, .v (.slice (.int .u8)), .any, .any, .any, .v (.slice .str), .v (.slice (.st (.pair (.int .i64) (.pair (.int .i64) (.pair .str (.slice (.int .i64))))))), .any, .any, .any, .any, .v (.slice .str), .any, .any, .any, .any, .own 6016, .any, .any, .any, .any, .any, .any, .any, .any, .any, .any, .any, .any, .any, .any, .any, .any, .any, .any, .any, .any, .any, .any, .any, .any, .any, .any, .any, .any, .any, .any, .any, .any, .any, .any, .any, .any, .any, .any, .any, .any, .any, .any, .any, .any, .any, .any, .any, .any, .any, .any, .any, .any, .any, .any, .any, .any, .any, .any, .any, .any, .any, .any, .any, .any, .any, .any, .any, .any, .any, .any, .any, .any, .any, .any, .any, .any, .any, .any, .any, .any, .any, .any, .any, .any, .any, .any, .any, .any, .any, .any, .any, .any, .any, .any, .any, .any, .any, .any, .any, .any, .any, .any, .any, .any, .any, .any, .any, .any, .any, .any, .any, .any, .any, .any, .any, .any, .any, .any, .any, .any, .any, .any, .any, .any, .any, .any, .any, .any, .any, .any, .any, .any, .any, .any, .any, .any, .any, .any, .any, .any, .any, .any, .any, .any, .any, .any, .any, .any, .any, .any, .any, .any, .any, .any, .any, .any, .any, .any, .any, .any, .any, .any, .any, .any, .any, .any, .any, .any, .any, .any, .any, .any, .any, .any, .any, .any, .any, .any, .any, .any, .any, .any, .any, .any, .any, .any, .any, .any, .any, .any, .any, .any, .any, .any, .any, .any, .any, .any, .any, .any, .any, .any, .any, .any, .any, .any, .any, .any, .any, .any, .any, .any, .any, .any, .any, .any, .any, .any, .any, .any, .any, .any, .any, .any, .any, .any, .any, .any, .any, .any, .any, .any, .any, .any, .any, .any, .any, .any, .any, .any, .any, .any, .any, .any, .any, .any, .any, .any, .any, .any, .any, .any, .any, .any, .any, .any, .any, .any, .any, .any, .any, .any, .any, .any, .any, .any, .any, .any, .any, .any, .any, .any, .any, .any, .any, .any, .any, .any, .any, .any, .any, .any, .any, .any, .any, .any, .any, .any, .any, .any, .any, .any, .any, .any, .any, .any, .any, .any, .any, .any, .any, .any, .any, .any, .any, .any, .any, .any, .any, .any, .any, .any, .any, .any, .any, .any, .any, .any, .any, .any, .any, .any, .any, .any, .any, .any, .any, .any, .any, .any, .any, .any, .any, .any, .any, .any, .any, .any, .any, .any, .any, .any, .any, .any, .any, .any, .any, .any, .any, .any, .any, .any, .any, .any, .any, .any, .any, .any, .any, .any, .any, .any, .any, .any, .any, .any, .any, .any, .any, .any, .any, .any, .any, .any, .any, .any, .any, .any, .any, .any, .any, .any, .any, .any, .any, .any, .any, .any, .any, .any, .any, .any, .any, .any, .any, .any, .any, .any, .any, .any, .any, .any, .any], blks := [(6016, .row true (.int .i64))] })]
noncomputable def step_laws_FnEditions_1 (s : (List Int) × (List ByteArray) × (List (Int × (Int × (ByteArray × (List Int))))) × (List ByteArray) × Bool × (List (Int × (Int × (ByteArray × (List Int))))) × Int × Int × (List (Int × (Int × (ByteArray × (List Int))))) × Int × Int × Int × Int × ByteArray × (List Int) × (List Int)) : Option (((List Int) × (List ByteArray) × (List (Int × (Int × (ByteArray × (List Int))))) × (List ByteArray) × Bool × (List (Int × (Int × (ByteArray × (List Int))))) × Int × Int × (List (Int × (Int × (ByteArray × (List Int))))) × Int × Int × Int × Int × ByteArray × (List Int) × (List Int)) ⊕ (((List Int) × (List ByteArray) × (List (Int × (Int × (ByteArray × (List Int))))) × (List ByteArray) × Bool × (List (Int × (Int × (ByteArray × (List Int))))) × Int × Int × Int × Int × ByteArray × (List Int) × (List Int)))) :=
  bif (decide (s.2.2.2.2.2.2.2.2.2.2.1 < s.2.2.2.2.2.2.2.2.2.1)) then
    bif decide (0 ≤ s.2.2.2.2.2.2.2.2.2.2.1) && decide (s.2.2.2.2.2.2.2.2.2.2.1 < (s.2.2.2.2.2.2.2.2.1.length : Int)) then
      bif s.2.2.2.2.1 then
        bif (!((s.2.2.2.2.2.2.2.2.1.getD (s.2.2.2.2.2.2.2.2.2.2.1).toNat (0, (0, ByteArray.empty, []))).2.2.1.toList == s.2.2.2.2.2.2.2.2.2.2.2.2.2.1.toList)) then
          let v41 := IntKind.i64.wrap (s.2.2.2.2.2.2.2.2.2.2.1 + 1)
          some (.inl ((s.1, (s.2.1, s.2.2.1, (s.2.2.2.1, true, (s.2.2.2.2.2.1, s.2.2.2.2.2.2.1, (s.2.2.2.2.2.2.2.1, s.2.2.2.2.2.2.2.2.1, (s.2.2.2.2.2.2.2.2.2.1, v41, s.2.2.2.2.2.2.2.2.2.2.2))))))))
        else
          match F_laws_pIn ((s.2.2.2.2.2.2.2.2.2.2.2.2.2.2.2, (s.2.2.2.2.2.2.2.2.1.getD (s.2.2.2.2.2.2.2.2.2.2.1).toNat (0, (0, ByteArray.empty, []))).1)) with
          | none => none
          | some y42 =>
            let v43 := IntKind.i64.wrap (s.2.2.2.2.2.2.2.2.2.2.1 + 1)
            some (.inl ((s.1, (s.2.1, s.2.2.1, (s.2.2.2.1, (!y42), (s.2.2.2.2.2.1, s.2.2.2.2.2.2.1, (s.2.2.2.2.2.2.2.1, s.2.2.2.2.2.2.2.2.1, (s.2.2.2.2.2.2.2.2.2.1, v43, s.2.2.2.2.2.2.2.2.2.2.2))))))))
      else
        let v44 := IntKind.i64.wrap (s.2.2.2.2.2.2.2.2.2.2.1 + 1)
        some (.inl ((s.1, (s.2.1, s.2.2.1, (s.2.2.2.1, false, (s.2.2.2.2.2.1, s.2.2.2.2.2.2.1, (s.2.2.2.2.2.2.2.1, s.2.2.2.2.2.2.2.2.1, (s.2.2.2.2.2.2.2.2.2.1, v44, s.2.2.2.2.2.2.2.2.2.2.2))))))))
    else none
  else
    some (.inr ((s.1, s.2.1, (s.2.2.1, s.2.2.2.1, (s.2.2.2.2.1, s.2.2.2.2.2.1, (s.2.2.2.2.2.2.1, s.2.2.2.2.2.2.2.1, s.2.2.2.2.2.2.2.2.2.2.2))))))
def pat_laws_FnEditions_1 : Pat := { tmps := [.any, .v (.slice (.int .u8)), .any, .any, .any, .v (.slice .str), .v (.slice (.st (.pair (.int .i64) (.pair (.int .i64) (.pair .str (.slice (.int .i64))))))), .any, .any, .any, .any, .v (.slice .str), .any, .any, .any, .any, .own 6016, .any, .any, .any, .any, .any, .any, .any, .any, .ptr 1600 0, .v .bool, .any, .any, .any, .any, .any, .any, .any, .any, .any, .any, .any, .any, .any, .any, .any, .any, .any, .any, .any, .any, .any, .any, .any, .any, .any, .any, .any, .any, .any, .any, .any, .any, .any, .any, .any, .any, .any, .any, .any, .any, .any, .any, .any, .any, .any, .any, .any, .any, .any, .any, .any, .any, .any, .any, .any, .any, .any, .any, .any, .any, .any, .any, .any, .any, .any, .any, .any, .any, .any, .any, .any, .any, .any, .any, .any, .any, .any, .any, .any, .any, .any, .any, .any, .any, .any, .any, .any, .any, .any, .any, .any, .any, .any, .any, .any, .any, .any, .any, .any, .any, .any, .any, .any, .any, .any, .any, .any, .any, .any, .any, .any, .any, .any, .any, .any, .any, .any, .any, .any, .any, .any, .any, .any, .any, .any, .any, .any, .any, .any, .any, .any, .any, .any, .any, .any, .any, .any, .any, .any, .any, .any, .any, .any, .any, .any, .any, .any, .any, .any, .any, .v (.slice (.st (.pair (.int .i64) (.pair (.int .i64) (.pair .str (.slice (.int .i64))))))), .v (.int .i64), .v (.int .i64), .any, .any, .any, .any, .any, .any, .any, .any, .any, .any, .any, .any, .v (.slice (.st (.pair (.int .i64) (.pair (.int .i64) (.pair .str (.slice (.int .i64))))))), .v (.int .i64), .v (.int .i64), .any, .any, .any, .any, .any, .any, .any, .any, .any, .any, .any, .any, .any, .any, .any, .any, .any, .any, .any, .any, .any, .any, .any, .any, .any, .any, .any, .any, .any, .any, .any, .any, .any, .any, .any, .any, .any, .any, .any, .any, .any, .any, .any, .any, .any, .any, .any, .any, .any, .any, .any, .any, .any, .any, .any, .any, .any, .any, .any, .any, .any, .any, .any, .any, .any, .any, .any, .any, .any, .any, .any, .any, .any, .any, .any, .any, .any, .any, .any, .any, .any, .any, .any, .any, .any, .any, .any, .any, .any, .any, .any, .any, .any, .any, .any, .any, .any, .any, .any, .any, .any, .any, .any, .any, .any, .any, .any, .any, .any, .any, .any, .any, .any, .any, .any, .any, .any, .any, .any, .any, .any, .any, .any, .any, .any, .any, .any, .any, .any, .any, .any, .any, .any, .any, .any, .any, .any, .any, .any, .any, .any, .any, .any, .any, .any, .any, .any, .any, .any, .any, .any, .any, .any, .any, .any, .any, .any, .any, .any, .any, .any, .any, .any, .any, .any, .any, .any, .any, .any, .any, .any, .any, .any, .any, .any, .any, .any, .any, .any, .any, .any, .any, .any, .any, .any, .any, .any, .any, .any, .any, .any, .any, .any, .any, .any, .any, .any, .any, .any, .any, .any, .any, .any, .any, .any, .any, .any, .any, .any, .any, .any, .any, .any, .any, .any, .any, .any, .any, .any, .any, .any, .any, .any, .any, .any], blks := [(1600, .box [.v (.int .i64), .v (.int .i64), .v .str, .v (.slice (.int .i64))]), (6016, .row true (.int .i64))] }
def outs_laws_FnEditions_1 : List (Exit × Pat) := [(.exit 4, { tmps := [.any, .v (.slice (.int .u8)), .any, .any, .any, .v (.slice .str), .v (.slice (.st (.pair (.int .i64) (.pair (.int .i64) (.pair .str (.slice (.int .i64))))))), .any, .any, .any, .any, .v (.slice .str), .any, .any, .any, .any, .own 6016, .any, .any, .any, .any, .any, .any, .any, .any, .ptr 1600 0, .v .bool, .any, .any, .any, .any, .any, .any, .any, .any, .any, .any, .any, .any, .any, .any, .any, .any, .any, .any, .any, .any, .any, .any, .any, .any, .any, .any, .any, .any, .any, .any, .any, .any, .any, .any, .any, .any, .any, .any, .any, .any, .any, .any, .any, .any, .any, .any, .any, .any, .any, .any, .any, .any, .any, .any, .any, .any, .any, .any, .any, .any, .any, .any, .any, .any, .any, .any, .any, .any, .any, .any, .any, .any, .any, .any, .any, .any, .any, .any, .any, .any, .any, .any, .any, .any, .any, .any, .any, .any, .any, .any, .any, .any, .any, .any, .any, .any, .any, .any, .any, .any, .any, .any, .any, .any, .any, .any, .any, .any, .any, .any, .any, .any, .any, .any, .any, .any, .any, .any, .any, .any, .any, .any, .any, .any, .any, .any, .any, .any, .any, .any, .any, .any, .any, .any, .any, .any, .any, .any, .any, .any, .any, .any, .any, .any, .any, .any, .any, .any, .any, .any, .v (.slice (.st (.pair (.int .i64) (.pair (.int .i64) (.pair .str (.slice (.int .i64))))))), .v (.int .i64), .v (.int .i64), .any, .any, .any, .any, .any, .any, .any, .any, .any, .any, .any, .any, .any, .any, .any, .any, .any, .any, .any, .any, .any, .any, .any, .any, .any, .any, .any, .any, .any, .any, .any, .any, .any, .any, .any, .any, .any, .any, .any, .any, .any, .any, .any, .any, .any, .any, .any, .any, .any, .any, .any, .any, .any, .any, .any, .any, .any, .any, .any, .any, .any, .any, .any, .any, .any, .any, .any, .any, .any, .any, .any, .any, .any, .any, .any, .any, .any, .any, .any, .any, .any, .any, .any, .any, .any, .any, .any, .any, .any, .any, .any, .any, .any, .any, .any, .any, .any, .any, .any, .any, .any, .any, .any, .any, .any, .any, .any, .any, .any, .any, .any, .any, .any, .any, .any, .any, .any, .any, .any, .any, .any, .any, .any, .any, .any, .any, .any, .any, .any, .any, .any, .any, .any, .any, .any, .any, .any, .any, .any, .any, .any, .any, .any, .any, .any, .any, .any, .any, .any, .any, .any, .any, .any, .any, .any, .any, .any, .any, .any, .any, .any, .any, .any, .any, .any, .any, .any, .any, .any, .any, .any, .any, .any, .any, .any, .any, .any, .any, .any, .any, .any, .any, .any, .any, .any, .any, .any, .any, .any, .any, .any, .any, .any, .any, .any, .any, .any, .any, .any, .any, .any, .any, .any, .any, .any, .any, .any, .any, .any, .any, .any, .any, .any, .any, .any, .any, .any, .any, .any, .any, .any, .any, .any, .any, .any, .any, .any, .any, .any, .any, .any, .any, .any, .any, .any, .any, .any, .any, .any, .any], blks := [(1600, .box [.v (.int .i64), .v (.int .i64), .v .str, .v (.slice (.int .i64))]), (6016, .row true (.int .i64))] })]
noncomputable def step_laws_FnEditions_2 (s : (List Int) × (List ByteArray) × (List (Int × (Int × (ByteArray × (List Int))))) × (List ByteArray) × (List (Int × (Int × (ByteArray × (List Int))))) × Int × Int × (List Int)) : Option (((List Int) × (List ByteArray) × (List (Int × (Int × (ByteArray × (List Int))))) × (List ByteArray) × (List (Int × (Int × (ByteArray × (List Int))))) × Int × Int × (List Int)) ⊕ ((Bool) ⊕ ((List Int) × (List ByteArray) × (List (Int × (Int × (ByteArray × (List Int))))) × (List ByteArray) × (List Int)))) :=
  bif (decide (s.2.2.2.2.2.2.1 < s.2.2.2.2.2.1)) then
    match (bif decide (0 ≤ s.2.2.2.2.2.2.1) && decide (s.2.2.2.2.2.2.1 < (s.2.2.2.2.1.length : Int)) then
      match F_laws_pIn ((s.2.2.2.2.2.2.2, (s.2.2.2.2.1.getD (s.2.2.2.2.2.2.1).toNat (0, (0, ByteArray.empty, []))).1)) with
      | none => none
      | some y35 =>
        bif (!y35) then
          some (.inl (s))
        else
          let v36 := IntKind.i64.wrap (s.2.2.2.2.2.2.1 + 1)
          bif decide (0 ≤ v36) && decide (v36 ≤ (s.2.2.1.length : Int)) && decide ((s.2.2.1.length : Int) ≤ (s.2.2.1.length : Int)) then
            match runL step_laws_FnEditions_1 ((s.1, (s.2.1, s.2.2.1, (s.2.2.2.1, true, (s.2.2.2.2.1, s.2.2.2.2.2.1, (s.2.2.2.2.2.2.1, ((s.2.2.1.drop (v36).toNat).take (((s.2.2.1.length : Int)).toNat - (v36).toNat)), ((((s.2.2.1.drop (v36).toNat).take (((s.2.2.1.length : Int)).toNat - (v36).toNat)).length : Int), 0, ((s.2.2.2.2.1.getD (s.2.2.2.2.2.2.1).toNat (0, (0, ByteArray.empty, []))).1, (s.2.2.2.2.1.getD (s.2.2.2.2.2.2.1).toNat (0, (0, ByteArray.empty, []))).2.1, ((s.2.2.2.2.1.getD (s.2.2.2.2.2.2.1).toNat (0, (0, ByteArray.empty, []))).2.2.1, (s.2.2.2.2.1.getD (s.2.2.2.2.2.2.1).toNat (0, (0, ByteArray.empty, []))).2.2.2, s.2.2.2.2.2.2.2))))))))) with
            | none => none
            | some o45 =>
              bif o45.2.2.2.2.1 then
                match F_laws_pHas ((o45.2.2.2.1, o45.2.2.2.2.2.2.2.2.2.2.1)) with
                | none => none
                | some y46 =>
                  bif (!(y46 == ((o45.2.2.2.2.2.2.2.2.2.1 == 0)))) then
                    some (.inr (.inr (.inl (false))))
                  else
                    some (.inl ((o45.1, (o45.2.1, o45.2.2.1, (o45.2.2.2.1, o45.2.2.2.2.2.1, (o45.2.2.2.2.2.2.1, o45.2.2.2.2.2.2.2.1, o45.2.2.2.2.2.2.2.2.2.2.2.2))))))
              else
                some (.inl ((o45.1, (o45.2.1, o45.2.2.1, (o45.2.2.2.1, o45.2.2.2.2.2.1, (o45.2.2.2.2.2.2.1, o45.2.2.2.2.2.2.2.1, o45.2.2.2.2.2.2.2.2.2.2.2.2))))))
          else none
    else none : Option (((List Int) × (List ByteArray) × (List (Int × (Int × (ByteArray × (List Int))))) × (List ByteArray) × (List (Int × (Int × (ByteArray × (List Int))))) × Int × Int × (List Int)) ⊕ (((List Int) × (List ByteArray) × (List (Int × (Int × (ByteArray × (List Int))))) × (List ByteArray) × (List (Int × (Int × (ByteArray × (List Int))))) × Int × Int × (List Int)) ⊕ ((Bool) ⊕ ((List Int) × (List ByteArray) × (List (Int × (Int × (ByteArray × (List Int))))) × (List ByteArray) × (List Int)))))) with
    | none => none
    | some (.inl j47) =>
      let v48 := IntKind.i64.wrap (j47.2.2.2.2.2.2.1 + 1)
      some (.inl ((j47.1, (j47.2.1, j47.2.2.1, (j47.2.2.2.1, j47.2.2.2.2.1, (j47.2.2.2.2.2.1, v48, j47.2.2.2.2.2.2.2))))))
    | some (.inr r) => some r
  else
    some (.inr (.inr ((s.1, s.2.1, (s.2.2.1, s.2.2.2.1, s.2.2.2.2.2.2.2)))))
def pat_laws_FnEditions_2 : Pat := { tmps := [.any, .v (.slice (.int .u8)), .any, .any, .any, .v (.slice .str), .v (.slice (.st (.pair (.int .i64) (.pair (.int .i64) (.pair .str (.slice (.int .i64))))))), .any, .any, .any, .any, .v (.slice .str), .any, .any, .any, .any, .own 6016, .any, .any, .any, .any, .any, .any, .any, .any, .any, .any, .any, .any, .any, .any, .any, .any, .any, .any, .any, .any, .any, .any, .any, .any, .any, .any, .any, .any, .any, .any, .any, .any, .any, .any, .any, .any, .any, .any, .any, .any, .any, .any, .any, .any, .any, .any, .any, .any, .any, .any, .any, .any, .any, .any, .any, .any, .any, .any, .any, .any, .any, .any, .any, .any, .any, .any, .any, .any, .any, .any, .any, .any, .any, .any, .any, .any, .any, .any, .any, .any, .any, .any, .any, .any, .any, .any, .any, .any, .any, .any, .any, .any, .any, .any, .any, .any, .any, .any, .any, .any, .any, .any, .any, .any, .any, .any, .any, .any, .any, .any, .any, .any, .any, .any, .any, .any, .any, .any, .any, .any, .any, .any, .any, .any, .any, .any, .any, .any, .any, .any, .any, .any, .any, .any, .any, .any, .any, .any, .any, .any, .any, .any, .any, .any, .any, .any, .any, .any, .any, .any, .any, .any, .any, .any, .any, .any, .any, .any, .any, .any, .v (.slice (.st (.pair (.int .i64) (.pair (.int .i64) (.pair .str (.slice (.int .i64))))))), .v (.int .i64), .v (.int .i64), .any, .any, .any, .any, .any, .any, .any, .any, .any, .any, .any, .any, .any, .any, .any, .any, .any, .any, .any, .any, .any, .any, .any, .any, .any, .any, .any, .any, .any, .any, .any, .any, .any, .any, .any, .any, .any, .any, .any, .any, .any, .any, .any, .any, .any, .any, .any, .any, .any, .any, .any, .any, .any, .any, .any, .any, .any, .any, .any, .any, .any, .any, .any, .any, .any, .any, .any, .any, .any, .any, .any, .any, .any, .any, .any, .any, .any, .any, .any, .any, .any, .any, .any, .any, .any, .any, .any, .any, .any, .any, .any, .any, .any, .any, .any, .any, .any, .any, .any, .any, .any, .any, .any, .any, .any, .any, .any, .any, .any, .any, .any, .any, .any, .any, .any, .any, .any, .any, .any, .any, .any, .any, .any, .any, .any, .any, .any, .any, .any, .any, .any, .any, .any, .any, .any, .any, .any, .any, .any, .any, .any, .any, .any, .any, .any, .any, .any, .any, .any, .any, .any, .any, .any, .any, .any, .any, .any, .any, .any, .any, .any, .any, .any, .any, .any, .any, .any, .any, .any, .any, .any, .any, .any, .any, .any, .any, .any, .any, .any, .any, .any, .any, .any, .any, .any, .any, .any, .any, .any, .any, .any, .any, .any, .any, .any, .any, .any, .any, .any, .any, .any, .any, .any, .any, .any, .any, .any, .any, .any, .any, .any, .any, .any, .any, .any, .any, .any, .any, .any, .any, .any, .any, .any, .any, .any, .any, .any, .any, .any, .any, .any, .any, .any, .any, .any, .any, .any, .any, .any, .any], blks := [(6016, .row true (.int .i64))] }
def outs_laws_FnEditions_2 : List (Exit × Pat) := [(.ret, { tmps := [.any, .any, .any, .any, .v .bool, .any, .any, .any, .any, .any, .any, .any, .any, .any, .any, .any, .any, .any, .any, .any, .any, .any, .any, .any, .any, .any, .any, .any, .any, .any, .any, .any, .any, .any, .any, .any, .any, .any, .any, .any, .any, .any, .any, .any, .any, .any, .any, .any, .any, .any, .any, .any, .any, .any, .any, .any, .any, .any, .any, .any, .any, .any, .any, .any, .any, .any, .any, .any, .any, .any, .any, .any, .any, .any, .any, .any, .any, .any, .any, .any, .any, .any, .any, .any, .any, .any, .any, .any, .any, .any, .any, .any, .any, .any, .any, .any, .any, .any, .any, .any, .any, .any, .any, .any, .any, .any, .any, .any, .any, .any, .any, .any, .any, .any, .any, .any, .any, .any, .any, .any, .any, .any, .any, .any, .any, .any, .any, .any, .any, .any, .any, .any, .any, .any, .any, .any, .any, .any, .any, .any, .any, .any, .any, .any, .any, .any, .any, .any, .any, .any, .any, .any, .any, .any, .any, .any, .any, .any, .any, .any, .any, .any, .any, .any, .any, .any, .any, .any, .any, .any, .any, .any, .any, .any, .any, .any, .any, .any, .any, .any, .any, .any, .any, .any, .any, .any, .any, .any, .any, .any, .any, .any, .any, .any, .any, .any, .any, .any, .any, .any, .any, .any, .any, .any, .any, .any, .any, .any, .any, .any, .any, .any, .any, .any, .any, .any, .any, .any, .any, .any, .any, .any, .any, .any, .any, .any, .any, .any, .any, .any, .any, .any, .any, .any, .any, .any, .any, .any, .any, .any, .any, .any, .any, .any, .any, .any, .any, .any, .any, .any, .any, .any, .any, .any, .any, .any, .any, .any, .any, .any, .any, .any, .any, .any, .any, .any, .any, .any, .any, .any, .any, .any, .any, .any, .any, .any, .any, .any, .any, .any, .any, .any, .any, .any, .any, .any, .any, .any, .any, .any, .any, .any, .any, .any, .any, .any, .any, .any, .any, .any, .any, .any, .any, .any, .any, .any, .any, .any, .any, .any, .any, .any, .any, .any, .any, .any, .any, .any, .any, .any, .any, .any, .any, .any, .any, .any, .any, .any, .any, .any, .any, .any, .any, .any, .any, .any, .any, .any, .any, .any, .any, .any, .any, .any, .any, .any, .any, .any, .any, .any, .any, .any, .any, .any, .any, .any, .any, .any, .any, .any, .any, .any, .any, .any, .any, .any, .any, .any, .any, .any, .any, .any, .any, .any, .any, .any, .any, .any, .any, .any, .any, .any, .any, .any, .any, .any, .any, .any, .any, .any, .any, .any, .any, .any, .any, .any, .any, .any, .any, .any, .any, .any, .any, .any, .any, .any, .any, .any, .any, .any, .any, .any, .any, .any, .any, .any, .any, .any, .any, .any], blks := [] }), (.exit 2, { tmps := [.any, .v (.slice (.int .u8)), .any, .any, .any, .v (.slice .str), .v (.slice (.st (.pair (.int .i64) (.pair (.int .i64) (.pair .str (.slice (.int .i64))))))), .any, .any, .any, .any, .v (.slice .str), .any, .any, .any, .any, .own 6016, .any, .any, .any, .any, .any, .any, .any, .any, .any, .any, .any, .any, .any, .any, .any, .any, .any, .any, .any, .any, .any, .any, .any, .any, .any, .any, .any, .any, .any, .any, .any, .any, .any, .any, .any, .any, .any, .any, .any, .any, .any, .any, .any, .any, .any, .any, .any, .any, .any, .any, .any, .any, .any, .any, .any, .any, .any, .any, .any, .any, .any, .any, .any, .any, .any, .any, .any, .any, .any, .any, .any, .any, .any, .any, .any, .any, .any, .any, .any, .any, .any, .any, .any, .any, .any, .any, .any, .any, .any, .any, .any, .any, .any, .any, .any, .any, .any, .any, .any, .any, .any, .any, .any, .any, .any, .any, .any, .any, .any, .any, .any, .any, .any, .any, .any, .any, .any, .any, .any, .any, .any, .any, .any, .any, .any, .any, .any, .any, .any, .any, .any, .any, .any, .any, .any, .any, .any, .any, .any, .any, .any, .any, .any, .any, .any, .any, .any, .any, .any, .any, .any, .any, .any, .any, .any, .any, .any, .any, .any, .any, .any, .any, .any, .any, .any, .any, .any, .any, .any, .any, .any, .any, .any, .any, .any, .any, .any, .any, .any, .any, .any, .any, .any, .any, .any, .any, .any, .any, .any, .any, .any, .any, .any, .any, .any, .any, .any, .any, .any, .any, .any, .any, .any, .any, .any, .any, .any, .any, .any, .any, .any, .any, .any, .any, .any, .any, .any, .any, .any, .any, .any, .any, .any, .any, .any, .any, .any, .any, .any, .any, .any, .any, .any, .any, .any, .any, .any, .any, .any, .any, .any, .any, .any, .any, .any, .any, .any, .any, .any, .any, .any, .any, .any, .any, .any, .any, .any, .any, .any, .any, .any, .any, .any, .any, .any, .any, .any, .any, .any, .any, .any, .any, .any, .any, .any, .any, .any, .any, .any, .any, .any, .any, .any, .any, .any, .any, .any, .any, .any, .any, .any, .any, .any, .any, .any, .any, .any, .any, .any, .any, .any, .any, .any, .any, .any, .any, .any, .any, .any, .any, .any, .any, .any, .any, .any, .any, .any, .any, .any, .any, .any, .any, .any, .any, .any, .any, .any, .any, .any, .any, .any, .any, .any, .any, .any, .any, .any, .any, .any, .any, .any, .any, .any, .any, .any, .any, .any, .any, .any, .any, .any, .any, .any, .any, .any, .any, .any, .any, .any, .any, .any, .any, .any, .any, .any, .any, .any, .any, .any, .any, .any, .any, .any, .any, .any, .any, .any, .any, .any, .any, .any, .any, .any, .any, .any, .any, .any, .any, .any, .any, .any, .any, .any, .any, .any, .any, .any, .any, .any, .any, .any, .any, .any], blks := [(6016, .row true (.int .i64))] })]
noncomputable def step_laws_FnEditions_3 (s : (List Int) × (List (Int × (Int × (ByteArray × (List Int))))) × (List ByteArray) × ByteArray × Bool × (List ByteArray) × Int × Int × (List (Int × (Int × (ByteArray × (List Int))))) × Int × Int × (List Int)) : Option (((List Int) × (List (Int × (Int × (ByteArray × (List Int))))) × (List ByteArray) × ByteArray × Bool × (List ByteArray) × Int × Int × (List (Int × (Int × (ByteArray × (List Int))))) × Int × Int × (List Int)) ⊕ (((List Int) × (List (Int × (Int × (ByteArray × (List Int))))) × (List ByteArray) × ByteArray × Bool × (List ByteArray) × Int × Int × (List Int)))) :=
  bif (decide (s.2.2.2.2.2.2.2.2.2.2.1 < s.2.2.2.2.2.2.2.2.2.1)) then
    bif decide (0 ≤ s.2.2.2.2.2.2.2.2.2.2.1) && decide (s.2.2.2.2.2.2.2.2.2.2.1 < (s.2.2.2.2.2.2.2.2.1.length : Int)) then
      bif s.2.2.2.2.1 then
        let v66 := IntKind.i64.wrap (s.2.2.2.2.2.2.2.2.2.2.1 + 1)
        some (.inl ((s.1, (s.2.1, s.2.2.1, (s.2.2.2.1, true, (s.2.2.2.2.2.1, s.2.2.2.2.2.2.1, (s.2.2.2.2.2.2.2.1, s.2.2.2.2.2.2.2.2.1, (s.2.2.2.2.2.2.2.2.2.1, v66, s.2.2.2.2.2.2.2.2.2.2.2))))))))
      else
        bif ((s.2.2.2.2.2.2.2.2.1.getD (s.2.2.2.2.2.2.2.2.2.2.1).toNat (0, (0, ByteArray.empty, []))).2.2.1.toList == s.2.2.2.1.toList) then
          match F_laws_pIn ((s.2.2.2.2.2.2.2.2.2.2.2, (s.2.2.2.2.2.2.2.2.1.getD (s.2.2.2.2.2.2.2.2.2.2.1).toNat (0, (0, ByteArray.empty, []))).1)) with
          | none => none
          | some y67 =>
            let v68 := IntKind.i64.wrap (s.2.2.2.2.2.2.2.2.2.2.1 + 1)
            some (.inl ((s.1, (s.2.1, s.2.2.1, (s.2.2.2.1, y67, (s.2.2.2.2.2.1, s.2.2.2.2.2.2.1, (s.2.2.2.2.2.2.2.1, s.2.2.2.2.2.2.2.2.1, (s.2.2.2.2.2.2.2.2.2.1, v68, s.2.2.2.2.2.2.2.2.2.2.2))))))))
        else
          let v69 := IntKind.i64.wrap (s.2.2.2.2.2.2.2.2.2.2.1 + 1)
          some (.inl ((s.1, (s.2.1, s.2.2.1, (s.2.2.2.1, false, (s.2.2.2.2.2.1, s.2.2.2.2.2.2.1, (s.2.2.2.2.2.2.2.1, s.2.2.2.2.2.2.2.2.1, (s.2.2.2.2.2.2.2.2.2.1, v69, s.2.2.2.2.2.2.2.2.2.2.2))))))))
    else none
  else
    some (.inr ((s.1, s.2.1, (s.2.2.1, s.2.2.2.1, (s.2.2.2.2.1, s.2.2.2.2.2.1, (s.2.2.2.2.2.2.1, s.2.2.2.2.2.2.2.1, s.2.2.2.2.2.2.2.2.2.2.2))))))
def pat_laws_FnEditions_3 : Pat := { tmps := [.any, .v (.slice (.int .u8)), .any, .any, .any, .any, .v (.slice (.st (.pair (.int .i64) (.pair (.int .i64) (.pair .str (.slice (.int .i64))))))), .any, .any, .any, .any, .v (.slice .str), .any, .any, .any, .any, .own 6016, .any, .any, .any, .any, .any, .any, .any, .any, .any, .any, .any, .any, .any, .v .str, .v .bool, .any, .any, .any, .any, .any, .any, .any, .any, .any, .any, .any, .any, .any, .any, .any, .any, .any, .any, .any, .any, .any, .any, .any, .any, .any, .any, .any, .any, .any, .any, .any, .any, .any, .any, .any, .any, .any, .any, .any, .any, .any, .any, .any, .any, .any, .any, .any, .any, .any, .any, .any, .any, .any, .any, .any, .any, .any, .any, .any, .any, .any, .any, .any, .any, .any, .any, .any, .any, .any, .any, .any, .any, .any, .any, .any, .any, .any, .any, .any, .any, .any, .any, .any, .any, .any, .any, .any, .any, .any, .any, .any, .any, .any, .any, .any, .any, .any, .any, .any, .any, .any, .any, .any, .any, .any, .any, .any, .any, .any, .any, .any, .any, .any, .any, .any, .any, .any, .any, .any, .any, .any, .any, .any, .any, .any, .any, .any, .any, .any, .any, .any, .any, .any, .any, .any, .any, .any, .any, .any, .any, .any, .any, .any, .any, .any, .any, .any, .any, .any, .any, .any, .any, .any, .any, .any, .any, .any, .any, .any, .any, .any, .any, .any, .any, .any, .any, .any, .any, .any, .any, .any, .any, .any, .any, .any, .any, .any, .any, .any, .any, .any, .any, .any, .any, .any, .any, .any, .any, .any, .any, .any, .any, .any, .any, .v (.slice .str), .v (.int .i64), .v (.int .i64), .any, .any, .any, .v (.slice (.st (.pair (.int .i64) (.pair (.int .i64) (.pair .str (.slice (.int .i64))))))), .v (.int .i64), .v (.int .i64), .any, .any, .any, .any, .any, .any, .any, .any, .any, .any, .any, .any, .any, .any, .any, .any, .any, .any, .any, .any, .any, .any, .any, .any, .any, .any, .any, .any, .any, .any, .any, .any, .any, .any, .any, .any, .any, .any, .any, .any, .any, .any, .any, .any, .any, .any, .any, .any, .any, .any, .any, .any, .any, .any, .any, .any, .any, .any, .any, .any, .any, .any, .any, .any, .any, .any, .any, .any, .any, .any, .any, .any, .any, .any, .any, .any, .any, .any, .any, .any, .any, .any, .any, .any, .any, .any, .any, .any, .any, .any, .any, .any, .any, .any, .any, .any, .any, .any, .any, .any, .any, .any, .any, .any, .any, .any, .any, .any, .any, .any, .any, .any, .any, .any, .any, .any, .any, .any, .any, .any, .any, .any, .any, .any, .any, .any, .any, .any, .any, .any, .any, .any, .any, .any, .any, .any, .any, .any, .any, .any, .any, .any, .any, .any, .any, .any, .any, .any, .any, .any, .any, .any, .any, .any, .any, .any, .any, .any, .any, .any, .any, .any, .any, .any, .any, .any, .any, .any, .any, .any, .any, .any, .any, .any, .any, .any, .any, .any, .any, .any, .any, .any, .any, .any, .any], blks := [(6016, .row true (.int .i64))] }
def outs_laws_FnEditions_3 : List (Exit × Pat) := [(.exit 8, { tmps := [.any, .v (.slice (.int .u8)), .any, .any, .any, .any, .v (.slice (.st (.pair (.int .i64) (.pair (.int .i64) (.pair .str (.slice (.int .i64))))))), .any, .any, .any, .any, .v (.slice .str), .any, .any, .any, .any, .own 6016, .any, .any, .any, .any, .any, .any, .any, .any, .any, .any, .any, .any, .any, .v .str, .v .bool, .any, .any, .any, .any, .any, .any, .any, .any, .any, .any, .any, .any, .any, .any, .any, .any, .any, .any, .any, .any, .any, .any, .any, .any, .any, .any, .any, .any, .any, .any, .any, .any, .any, .any, .any, .any, .any, .any, .any, .any, .any, .any, .any, .any, .any, .any, .any, .any, .any, .any, .any, .any, .any, .any, .any, .any, .any, .any, .any, .any, .any, .any, .any, .any, .any, .any, .any, .any, .any, .any, .any, .any, .any, .any, .any, .any, .any, .any, .any, .any, .any, .any, .any, .any, .any, .any, .any, .any, .any, .any, .any, .any, .any, .any, .any, .any, .any, .any, .any, .any, .any, .any, .any, .any, .any, .any, .any, .any, .any, .any, .any, .any, .any, .any, .any, .any, .any, .any, .any, .any, .any, .any, .any, .any, .any, .any, .any, .any, .any, .any, .any, .any, .any, .any, .any, .any, .any, .any, .any, .any, .any, .any, .any, .any, .any, .any, .any, .any, .any, .any, .any, .any, .any, .any, .any, .any, .any, .any, .any, .any, .any, .any, .any, .any, .any, .any, .any, .any, .any, .any, .any, .any, .any, .any, .any, .any, .any, .any, .any, .any, .any, .any, .any, .any, .any, .any, .any, .any, .any, .any, .any, .any, .any, .any, .v (.slice .str), .v (.int .i64), .v (.int .i64), .any, .any, .any, .any, .any, .any, .any, .any, .any, .any, .any, .any, .any, .any, .any, .any, .any, .any, .any, .any, .any, .any, .any, .any, .any, .any, .any, .any, .any, .any, .any, .any, .any, .any, .any, .any, .any, .any, .any, .any, .any, .any, .any, .any, .any, .any, .any, .any, .any, .any, .any, .any, .any, .any, .any, .any, .any, .any, .any, .any, .any, .any, .any, .any, .any, .any, .any, .any, .any, .any, .any, .any, .any, .any, .any, .any, .any, .any, .any, .any, .any, .any, .any, .any, .any, .any, .any, .any, .any, .any, .any, .any, .any, .any, .any, .any, .any, .any, .any, .any, .any, .any, .any, .any, .any, .any, .any, .any, .any, .any, .any, .any, .any, .any, .any, .any, .any, .any, .any, .any, .any, .any, .any, .any, .any, .any, .any, .any, .any, .any, .any, .any, .any, .any, .any, .any, .any, .any, .any, .any, .any, .any, .any, .any, .any, .any, .any, .any, .any, .any, .any, .any, .any, .any, .any, .any, .any, .any, .any, .any, .any, .any, .any, .any, .any, .any, .any, .any, .any, .any, .any, .any, .any, .any, .any, .any, .any, .any, .any, .any, .any, .any, .any, .any, .any, .any, .any, .any, .any, .any, .any], blks := [(6016, .row true (.int .i64))] })]
noncomputable def step_laws_FnEditions_4 (s : (List Int) × (List (Int × (Int × (ByteArray × (List Int))))) × (List ByteArray) × (List ByteArray) × Int × Int × (List Int)) : Option (((List Int) × (List (Int × (Int × (ByteArray × (List Int))))) × (List ByteArray) × (List ByteArray) × Int × Int × (List Int)) ⊕ ((Bool) ⊕ ((List Int) × (List ByteArray)))) :=
  bif (decide (s.2.2.2.2.2.1 < s.2.2.2.2.1)) then
    match (bif decide (0 ≤ s.2.2.2.2.2.1) && decide (s.2.2.2.2.2.1 < (s.2.2.2.1.length : Int)) then
      match runL step_laws_FnEditions_3 ((s.1, (s.2.1, s.2.2.1, ((s.2.2.2.1.getD (s.2.2.2.2.2.1).toNat ByteArray.empty), false, (s.2.2.2.1, s.2.2.2.2.1, (s.2.2.2.2.2.1, s.2.1, ((s.2.1.length : Int), 0, s.2.2.2.2.2.2))))))) with
      | none => none
      | some o70 =>
        bif (!o70.2.2.2.2.1) then
          match F_laws_pHas ((o70.2.2.1, o70.2.2.2.1)) with
          | none => none
          | some y71 =>
            bif (!y71) then
              some (.inr (.inr (.inl (false))))
            else
              some (.inl ((o70.1, (o70.2.1, o70.2.2.1, o70.2.2.2.2.2))))
        else
          some (.inl ((o70.1, (o70.2.1, o70.2.2.1, o70.2.2.2.2.2))))
    else none : Option (((List Int) × (List (Int × (Int × (ByteArray × (List Int))))) × (List ByteArray) × (List ByteArray) × Int × Int × (List Int)) ⊕ (((List Int) × (List (Int × (Int × (ByteArray × (List Int))))) × (List ByteArray) × (List ByteArray) × Int × Int × (List Int)) ⊕ ((Bool) ⊕ ((List Int) × (List ByteArray)))))) with
    | none => none
    | some (.inl j72) =>
      let v73 := IntKind.i64.wrap (j72.2.2.2.2.2.1 + 1)
      some (.inl ((j72.1, j72.2.1, (j72.2.2.1, j72.2.2.2.1, (j72.2.2.2.2.1, v73, j72.2.2.2.2.2.2)))))
    | some (.inr r) => some r
  else
    some (.inr (.inr ((s.1, s.2.2.1))))
def pat_laws_FnEditions_4 : Pat := { tmps := [.any, .v (.slice (.int .u8)), .any, .any, .any, .any, .v (.slice (.st (.pair (.int .i64) (.pair (.int .i64) (.pair .str (.slice (.int .i64))))))), .any, .any, .any, .any, .v (.slice .str), .any, .any, .any, .any, .own 6016, .any, .any, .any, .any, .any, .any, .any, .any, .any, .any, .any, .any, .any, .any, .any, .any, .any, .any, .any, .any, .any, .any, .any, .any, .any, .any, .any, .any, .any, .any, .any, .any, .any, .any, .any, .any, .any, .any, .any, .any, .any, .any, .any, .any, .any, .any, .any, .any, .any, .any, .any, .any, .any, .any, .any, .any, .any, .any, .any, .any, .any, .any, .any, .any, .any, .any, .any, .any, .any, .any, .any, .any, .any, .any, .any, .any, .any, .any, .any, .any, .any, .any, .any, .any, .any, .any, .any, .any, .any, .any, .any, .any, .any, .any, .any, .any, .any, .any, .any, .any, .any, .any, .any, .any, .any, .any, .any, .any, .any, .any, .any, .any, .any, .any, .any, .any, .any, .any, .any, .any, .any, .any, .any, .any, .any, .any, .any, .any, .any, .any, .any, .any, .any, .any, .any, .any, .any, .any, .any, .any, .any, .any, .any, .any, .any, .any, .any, .any, .any, .any, .any, .any, .any, .any, .any, .any, .any, .any, .any, .any, .any, .any, .any, .any, .any, .any, .any, .any, .any, .any, .any, .any, .any, .any, .any, .any, .any, .any, .any, .any, .any, .any, .any, .any, .any, .any, .any, .any, .any, .any, .any, .any, .any, .any, .any, .any, .any, .any, .any, .any, .any, .any, .any, .any, .any, .any, .any, .any, .any, .v (.slice .str), .v (.int .i64), .v (.int .i64), .any, .any, .any, .any, .any, .any, .any, .any, .any, .any, .any, .any, .any, .any, .any, .any, .any, .any, .any, .any, .any, .any, .any, .any, .any, .any, .any, .any, .any, .any, .any, .any, .any, .any, .any, .any, .any, .any, .any, .any, .any, .any, .any, .any, .any, .any, .any, .any, .any, .any, .any, .any, .any, .any, .any, .any, .any, .any, .any, .any, .any, .any, .any, .any, .any, .any, .any, .any, .any, .any, .any, .any, .any, .any, .any, .any, .any, .any, .any, .any, .any, .any, .any, .any, .any, .any, .any, .any, .any, .any, .any, .any, .any, .any, .any, .any, .any, .any, .any, .any, .any, .any, .any, .any, .any, .any, .any, .any, .any, .any, .any, .any, .any, .any, .any, .any, .any, .any, .any, .any, .any, .any, .any, .any, .any, .any, .any, .any, .any, .any, .any, .any, .any, .any, .any, .any, .any, .any, .any, .any, .any, .any, .any, .any, .any, .any, .any, .any, .any, .any, .any, .any, .any, .any, .any, .any, .any, .any, .any, .any, .any, .any, .any, .any, .any, .any, .any, .any, .any, .any, .any, .any, .any, .any, .any, .any, .any, .any, .any, .any, .any, .any, .any, .any, .any, .any, .any, .any, .any, .any, .any], blks := [(6016, .row true (.int .i64))] }
def outs_laws_FnEditions_4 : List (Exit × Pat) := [(.ret, { tmps := [.any, .any, .any, .any, .v .bool, .any, .any, .any, .any, .any, .any, .any, .any, .any, .any, .any, .any, .any, .any, .any, .any, .any, .any, .any, .any, .any, .any, .any, .any, .any, .any, .any, .any, .any, .any, .any, .any, .any, .any, .any, .any, .any, .any, .any, .any, .any, .any, .any, .any, .any, .any, .any, .any, .any, .any, .any, .any, .any, .any, .any, .any, .any, .any, .any, .any, .any, .any, .any, .any, .any, .any, .any, .any, .any, .any, .any, .any, .any, .any, .any, .any, .any, .any, .any, .any, .any, .any, .any, .any, .any, .any, .any, .any, .any, .any, .any, .any, .any, .any, .any, .any, .any, .any, .any, .any, .any, .any, .any, .any, .any, .any, .any, .any, .any, .any, .any, .any, .any, .any, .any, .any, .any, .any, .any, .any, .any, .any, .any, .any, .any, .any, .any, .any, .any, .any, .any, .any, .any, .any, .any, .any, .any, .any, .any, .any, .any, .any, .any, .any, .any, .any, .any, .any, .any, .any, .any, .any, .any, .any, .any, .any, .any, .any, .any, .any, .any, .any, .any, .any, .any, .any, .any, .any, .any, .any, .any, .any, .any, .any, .any, .any, .any, .any, .any, .any, .any, .any, .any, .any, .any, .any, .any, .any, .any, .any, .any, .any, .any, .any, .any, .any, .any, .any, .any, .any, .any, .any, .any, .any, .any, .any, .any, .any, .any, .any, .any, .any, .any, .any, .any, .any, .any, .any, .any, .any, .any, .any, .any, .any, .any, .any, .any, .any, .any, .any, .any, .any, .any, .any, .any, .any, .any, .any, .any, .any, .any, .any, .any, .any, .any, .any, .any, .any, .any, .any, .any, .any, .any, .any, .any, .any, .any, .any, .any, .any, .any, .any, .any, .any, .any, .any, .any, .any, .any, .any, .any, .any, .any, .any, .any, .any, .any, .any, .any, .any, .any, .any, .any, .any, .any, .any, .any, .any, .any, .any, .any, .any, .any, .any, .any, .any, .any, .any, .any, .any, .any, .any, .any, .any, .any, .any, .any, .any, .any, .any, .any, .any, .any, .any, .any, .any, .any, .any, .any, .any, .any, .any, .any, .any, .any, .any, .any, .any, .any, .any, .any, .any, .any, .any, .any, .any, .any, .any, .any, .any, .any, .any, .any, .any, .any, .any, .any, .any, .any, .any, .any, .any, .any, .any, .any, .any, .any, .any, .any, .any, .any, .any, .any, .any, .any, .any, .any, .any, .any, .any, .any, .any, .any, .any, .any, .any, .any, .any, .any, .any, .any, .any, .any, .any, .any, .any, .any, .any, .any, .any, .any, .any, .any, .any, .any, .any, .any, .any, .any, .any, .any, .any, .any, .any, .any, .any, .any, .any, .any, .any, .any, .any, .any, .any, .any], blks := [] }), (.exit 6, { tmps := [.any, .v (.slice (.int .u8)), .any, .any, .any, .any, .any, .any, .any, .any, .any, .v (.slice .str), .any, .any, .any, .any, .any, .any, .any, .any, .any, .any, .any, .any, .any, .any, .any, .any, .any, .any, .any, .any, .any, .any, .any, .any, .any, .any, .any, .any, .any, .any, .any, .any, .any, .any, .any, .any, .any, .any, .any, .any, .any, .any, .any, .any, .any, .any, .any, .any, .any, .any, .any, .any, .any, .any, .any, .any, .any, .any, .any, .any, .any, .any, .any, .any, .any, .any, .any, .any, .any, .any, .any, .any, .any, .any, .any, .any, .any, .any, .any, .any, .any, .any, .any, .any, .any, .any, .any, .any, .any, .any, .any, .any, .any, .any, .any, .any, .any, .any, .any, .any, .any, .any, .any, .any, .any, .any, .any, .any, .any, .any, .any, .any, .any, .any, .any, .any, .any, .any, .any, .any, .any, .any, .any, .any, .any, .any, .any, .any, .any, .any, .any, .any, .any, .any, .any, .any, .any, .any, .any, .any, .any, .any, .any, .any, .any, .any, .any, .any, .any, .any, .any, .any, .any, .any, .any, .any, .any, .any, .any, .any, .any, .any, .any, .any, .any, .any, .any, .any, .any, .any, .any, .any, .any, .any, .any, .any, .any, .any, .any, .any, .any, .any, .any, .any, .any, .any, .any, .any, .any, .any, .any, .any, .any, .any, .any, .any, .any, .any, .any, .any, .any, .any, .any, .any, .any, .any, .any, .any, .any, .any, .any, .any, .any, .any, .any, .any, .any, .any, .any, .any, .any, .any, .any, .any, .any, .any, .any, .any, .any, .any, .any, .any, .any, .any, .any, .any, .any, .any, .any, .any, .any, .any, .any, .any, .any, .any, .any, .any, .any, .any, .any, .any, .any, .any, .any, .any, .any, .any, .any, .any, .any, .any, .any, .any, .any, .any, .any, .any, .any, .any, .any, .any, .any, .any, .any, .any, .any, .any, .any, .any, .any, .any, .any, .any, .any, .any, .any, .any, .any, .any, .any, .any, .any, .any, .any, .any, .any, .any, .any, .any, .any, .any, .any, .any, .any, .any, .any, .any, .any, .any, .any, .any, .any, .any, .any, .any, .any, .any, .any, .any, .any, .any, .any, .any, .any, .any, .any, .any, .any, .any, .any, .any, .any, .any, .any, .any, .any, .any, .any, .any, .any, .any, .any, .any, .any, .any, .any, .any, .any, .any, .any, .any, .any, .any, .any, .any, .any, .any, .any, .any, .any, .any, .any, .any, .any, .any, .any, .any, .any, .any, .any, .any, .any, .any, .any, .any, .any, .any, .any, .any, .any, .any, .any, .any, .any, .any, .any, .any, .any, .any, .any, .any, .any, .any, .any, .any, .any, .any, .any, .any, .any, .any, .any, .any, .any, .any, .any, .any], blks := [] })]
noncomputable def step_laws_FnEditions_5 (s : (List Int) × (List ByteArray) × Int) : Option (((List Int) × (List ByteArray) × Int) ⊕ ((Bool) ⊕ ((List Int)))) :=
  bif (decide (s.2.2 < (s.2.1.length : Int))) then
    let v77 := IntKind.i64.wrap (s.2.2 - 1)
    bif decide (0 ≤ v77) && decide (v77 < (s.2.1.length : Int)) then
      bif decide (0 ≤ s.2.2) && decide (s.2.2 < (s.2.1.length : Int)) then
        bif (!Op.bytesLess (s.2.1.getD (v77).toNat ByteArray.empty).toList (s.2.1.getD (s.2.2).toNat ByteArray.empty).toList) then
          some (.inr (.inl (false)))
        else
          let v78 := IntKind.i64.wrap (s.2.2 + 1)
          some (.inl ((s.1, s.2.1, v78)))
      else none
    else none
  else
    some (.inr (.inr (s.1)))
def pat_laws_FnEditions_5 : Pat := { tmps := [.any, .v (.slice (.int .u8)), .any, .any, .any, .any, .any, .any, .any, .any, .any, .v (.slice .str), .any, .any, .any, .any, .any, .any, .any, .any, .any, .any, .any, .any, .any, .any, .any, .any, .any, .any, .any, .any, .any, .any, .v (.int .i64), .any, .any, .any, .any, .any, .any, .any, .any, .any, .any, .any, .any, .any, .any, .any, .any, .any, .any, .any, .any, .any, .any, .any, .any, .any, .any, .any, .any, .any, .any, .any, .any, .any, .any, .any, .any, .any, .any, .any, .any, .any, .any, .any, .any, .any, .any, .any, .any, .any, .any, .any, .any, .any, .any, .any, .any, .any, .any, .any, .any, .any, .any, .any, .any, .any, .any, .any, .any, .any, .any, .any, .any, .any, .any, .any, .any, .any, .any, .any, .any, .any, .any, .any, .any, .any, .any, .any, .any, .any, .any, .any, .any, .any, .any, .any, .any, .any, .any, .any, .any, .any, .any, .any, .any, .any, .any, .any, .any, .any, .any, .any, .any, .any, .any, .any, .any, .any, .any, .any, .any, .any, .any, .any, .any, .any, .any, .any, .any, .any, .any, .any, .any, .any, .any, .any, .any, .any, .any, .any, .any, .any, .any, .any, .any, .any, .any, .any, .any, .any, .any, .any, .any, .any, .any, .any, .any, .any, .any, .any, .any, .any, .any, .any, .any, .any, .any, .any, .any, .any, .any, .any, .any, .any, .any, .any, .any, .any, .any, .any, .any, .any, .any, .any, .any, .any, .any, .any, .any, .any, .any, .any, .any, .any, .any, .any, .any, .any, .any, .any, .any, .any, .any, .any, .any, .any, .any, .any, .any, .any, .any, .any, .any, .any, .any, .any, .any, .any, .any, .any, .any, .any, .any, .any, .any, .any, .any, .any, .any, .any, .any, .any, .any, .any, .any, .any, .any, .any, .any, .any, .any, .any, .any, .any, .any, .any, .any, .any, .any, .any, .any, .any, .any, .any, .any, .any, .any, .any, .any, .any, .any, .any, .any, .any, .any, .any, .any, .any, .any, .any, .any, .any, .any, .any, .any, .any, .any, .any, .any, .any, .any, .any, .any, .any, .any, .any, .any, .any, .any, .any, .any, .any, .any, .any, .any, .any, .any, .any, .any, .any, .any, .any, .any, .any, .any, .any, .any, .any, .any, .any, .any, .any, .any, .any, .any, .any, .any, .any, .any, .any, .any, .any, .any, .any, .any, .any, .any, .any, .any, .any, .any, .any, .any, .any, .any, .any, .any, .any, .any, .any, .any, .any, .any, .any, .any, .any, .any, .any, .any, .any, .any, .any, .any, .any, .any, .any, .any, .any, .any, .any, .any, .any, .any, .any, .any, .any, .any, .any, .any, .any, .any, .any, .any, .any, .any, .any, .any, .any, .any, .any, .any, .any, .any, .any, .any, .any], blks := [] }
def outs_laws_FnEditions_5 : List (Exit × Pat) := [(.ret, { tmps := [.any, .any, .any, .any, .v .bool, .any, .any, .any, .any, .any, .any, .any, .any, .any, .any, .any, .any, .any, .any, .any, .any, .any, .any, .any, .any, .any, .any, .any, .any, .any, .any, .any, .any, .any, .any, .any, .any, .any, .any, .any, .any, .any, .any, .any, .any, .any, .any, .any, .any, .any, .any, .any, .any, .any, .any, .any, .any, .any, .any, .any, .any, .any, .any, .any, .any, .any, .any, .any, .any, .any, .any, .any, .any, .any, .any, .any, .any, .any, .any, .any, .any, .any, .any, .any, .any, .any, .any, .any, .any, .any, .any, .any, .any, .any, .any, .any, .any, .any, .any, .any, .any, .any, .any, .any, .any, .any, .any, .any, .any, .any, .any, .any, .any, .any, .any, .any, .any, .any, .any, .any, .any, .any, .any, .any, .any, .any, .any, .any, .any, .any, .any, .any, .any, .any, .any, .any, .any, .any, .any, .any, .any, .any, .any, .any, .any, .any, .any, .any, .any, .any, .any, .any, .any, .any, .any, .any, .any, .any, .any, .any, .any, .any, .any, .any, .any, .any, .any, .any, .any, .any, .any, .any, .any, .any, .any, .any, .any, .any, .any, .any, .any, .any, .any, .any, .any, .any, .any, .any, .any, .any, .any, .any, .any, .any, .any, .any, .any, .any, .any, .any, .any, .any, .any, .any, .any, .any, .any, .any, .any, .any, .any, .any, .any, .any, .any, .any, .any, .any, .any, .any, .any, .any, .any, .any, .any, .any, .any, .any, .any, .any, .any, .any, .any, .any, .any, .any, .any, .any, .any, .any, .any, .any, .any, .any, .any, .any, .any, .any, .any, .any, .any, .any, .any, .any, .any, .any, .any, .any, .any, .any, .any, .any, .any, .any, .any, .any, .any, .any, .any, .any, .any, .any, .any, .any, .any, .any, .any, .any, .any, .any, .any, .any, .any, .any, .any, .any, .any, .any, .any, .any, .any, .any, .any, .any, .any, .any, .any, .any, .any, .any, .any, .any, .any, .any, .any, .any, .any, .any, .any, .any, .any, .any, .any, .any, .any, .any, .any, .any, .any, .any, .any, .any, .any, .any, .any, .any, .any, .any, .any, .any, .any, .any, .any, .any, .any, .any, .any, .any, .any, .any, .any, .any, .any, .any, .any, .any, .any, .any, .any, .any, .any, .any, .any, .any, .any, .any, .any, .any, .any, .any, .any, .any, .any, .any, .any, .any, .any, .any, .any, .any, .any, .any, .any, .any, .any, .any, .any, .any, .any, .any, .any, .any, .any, .any, .any, .any, .any, .any, .any, .any, .any, .any, .any, .any, .any, .any, .any, .any, .any, .any, .any, .any, .any, .any, .any, .any, .any, .any, .any, .any, .any, .any, .any, .any, .any, .any, .any, .any, .any, .any], blks := [] }), (.exit 10, { tmps := [.any, .v (.slice (.int .u8)), .any, .any, .any, .any, .any, .any, .any, .any, .any, .any, .any, .any, .any, .any, .any, .any, .any, .any, .any, .any, .any, .any, .any, .any, .any, .any, .any, .any, .any, .any, .any, .any, .any, .any, .any, .any, .any, .any, .any, .any, .any, .any, .any, .any, .any, .any, .any, .any, .any, .any, .any, .any, .any, .any, .any, .any, .any, .any, .any, .any, .any, .any, .any, .any, .any, .any, .any, .any, .any, .any, .any, .any, .any, .any, .any, .any, .any, .any, .any, .any, .any, .any, .any, .any, .any, .any, .any, .any, .any, .any, .any, .any, .any, .any, .any, .any, .any, .any, .any, .any, .any, .any, .any, .any, .any, .any, .any, .any, .any, .any, .any, .any, .any, .any, .any, .any, .any, .any, .any, .any, .any, .any, .any, .any, .any, .any, .any, .any, .any, .any, .any, .any, .any, .any, .any, .any, .any, .any, .any, .any, .any, .any, .any, .any, .any, .any, .any, .any, .any, .any, .any, .any, .any, .any, .any, .any, .any, .any, .any, .any, .any, .any, .any, .any, .any, .any, .any, .any, .any, .any, .any, .any, .any, .any, .any, .any, .any, .any, .any, .any, .any, .any, .any, .any, .any, .any, .any, .any, .any, .any, .any, .any, .any, .any, .any, .any, .any, .any, .any, .any, .any, .any, .any, .any, .any, .any, .any, .any, .any, .any, .any, .any, .any, .any, .any, .any, .any, .any, .any, .any, .any, .any, .any, .any, .any, .any, .any, .any, .any, .any, .any, .any, .any, .any, .any, .any, .any, .any, .any, .any, .any, .any, .any, .any, .any, .any, .any, .any, .any, .any, .any, .any, .any, .any, .any, .any, .any, .any, .any, .any, .any, .any, .any, .any, .any, .any, .any, .any, .any, .any, .any, .any, .any, .any, .any, .any, .any, .any, .any, .any, .any, .any, .any, .any, .any, .any, .any, .any, .any, .any, .any, .any, .any, .any, .any, .any, .any, .any, .any, .any, .any, .any, .any, .any, .any, .any, .any, .any, .any, .any, .any, .any, .any, .any, .any, .any, .any, .any, .any, .any, .any, .any, .any, .any, .any, .any, .any, .any, .any, .any, .any, .any, .any, .any, .any, .any, .any, .any, .any, .any, .any, .any, .any, .any, .any, .any, .any, .any, .any, .any, .any, .any, .any, .any, .any, .any, .any, .any, .any, .any, .any, .any, .any, .any, .any, .any, .any, .any, .any, .any, .any, .any, .any, .any, .any, .any, .any, .any, .any, .any, .any, .any, .any, .any, .any, .any, .any, .any, .any, .any, .any, .any, .any, .any, .any, .any, .any, .any, .any, .any, .any, .any, .any, .any, .any, .any, .any, .any, .any, .any, .any, .any, .any, .any, .any, .any, .any, .any], blks := [] })]
noncomputable def step_laws_FnEditions_6 (s : Int × Int × Int × (List (Int × (Int × (ByteArray × (List Int))))) × Int × (List (Int × (Int × (ByteArray × (List Int))))) × Int × Bool × (List (Int × (Int × (ByteArray × (List Int))))) × Int × (List (Int × (Int × (ByteArray × (List Int))))) × Int × Int) : Option ((Int × Int × Int × (List (Int × (Int × (ByteArray × (List Int))))) × Int × (List (Int × (Int × (ByteArray × (List Int))))) × Int × Bool × (List (Int × (Int × (ByteArray × (List Int))))) × Int × (List (Int × (Int × (ByteArray × (List Int))))) × Int × Int) ⊕ ((Int × Int × Int × (List (Int × (Int × (ByteArray × (List Int))))) × Int × (List (Int × (Int × (ByteArray × (List Int))))) × Int × Bool × (List (Int × (Int × (ByteArray × (List Int))))) × Int))) :=
  bif (decide (s.2.2.2.2.2.2.2.2.2.2.2.2 < s.2.2.2.2.2.2.2.2.2.2.2.1)) then
    match (bif decide (0 ≤ s.2.2.2.2.2.2.2.2.2.2.2.2) && decide (s.2.2.2.2.2.2.2.2.2.2.2.2 < (s.2.2.2.2.2.2.2.2.2.2.1.length : Int)) then
      bif decide (0 ≤ s.1) && decide (s.1 < ((s.2.2.2.2.2.2.2.2.2.2.1.getD (s.2.2.2.2.2.2.2.2.2.2.2.2).toNat (0, (0, ByteArray.empty, []))).2.2.2.length : Int)) then
        bif ((((s.2.2.2.2.2.2.2.2.2.2.1.getD (s.2.2.2.2.2.2.2.2.2.2.2.2).toNat (0, (0, ByteArray.empty, []))).2.2.2.getD (s.1).toNat 0) != 0)) then
          bif decide (0 ≤ s.1) && decide (s.1 < ((s.2.2.2.2.2.2.2.2.2.2.1.getD (s.2.2.2.2.2.2.2.2.2.2.2.2).toNat (0, (0, ByteArray.empty, []))).2.2.2.length : Int)) then
            bif decide (0 ≤ s.2.1) && decide (s.2.1 < ((s.2.2.2.2.2.2.2.2.2.2.1.getD (s.2.2.2.2.2.2.2.2.2.2.2.2).toNat (0, (0, ByteArray.empty, []))).2.2.2.length : Int)) then
              bif ((((s.2.2.2.2.2.2.2.2.2.2.1.getD (s.2.2.2.2.2.2.2.2.2.2.2.2).toNat (0, (0, ByteArray.empty, []))).2.2.2.getD (s.1).toNat 0) == ((s.2.2.2.2.2.2.2.2.2.2.1.getD (s.2.2.2.2.2.2.2.2.2.2.2.2).toNat (0, (0, ByteArray.empty, []))).2.2.2.getD (s.2.1).toNat 0))) then
                let v92 := IntKind.i64.wrap (s.2.2.2.2.2.2.2.2.2.1 + 1)
                some (.inl ((s.1, s.2.1, (s.2.2.1, s.2.2.2.1, (s.2.2.2.2.1, s.2.2.2.2.2.1, (s.2.2.2.2.2.2.1, s.2.2.2.2.2.2.2.1, (s.2.2.2.2.2.2.2.2.1, v92, s.2.2.2.2.2.2.2.2.2.2)))))))
              else
                some (.inl (s))
            else none
          else none
        else
          some (.inl (s))
      else none
    else none : Option ((Int × Int × Int × (List (Int × (Int × (ByteArray × (List Int))))) × Int × (List (Int × (Int × (ByteArray × (List Int))))) × Int × Bool × (List (Int × (Int × (ByteArray × (List Int))))) × Int × (List (Int × (Int × (ByteArray × (List Int))))) × Int × Int) ⊕ ((Int × Int × Int × (List (Int × (Int × (ByteArray × (List Int))))) × Int × (List (Int × (Int × (ByteArray × (List Int))))) × Int × Bool × (List (Int × (Int × (ByteArray × (List Int))))) × Int × (List (Int × (Int × (ByteArray × (List Int))))) × Int × Int) ⊕ ((Int × Int × Int × (List (Int × (Int × (ByteArray × (List Int))))) × Int × (List (Int × (Int × (ByteArray × (List Int))))) × Int × Bool × (List (Int × (Int × (ByteArray × (List Int))))) × Int))))) with
    | none => none
    | some (.inl j93) =>
      let v94 := IntKind.i64.wrap (j93.2.2.2.2.2.2.2.2.2.2.2.2 + 1)
      some (.inl ((j93.1, j93.2.1, (j93.2.2.1, j93.2.2.2.1, (j93.2.2.2.2.1, j93.2.2.2.2.2.1, (j93.2.2.2.2.2.2.1, j93.2.2.2.2.2.2.2.1, (j93.2.2.2.2.2.2.2.2.1, j93.2.2.2.2.2.2.2.2.2.1, (j93.2.2.2.2.2.2.2.2.2.2.1, j93.2.2.2.2.2.2.2.2.2.2.2.1, v94))))))))
    | some (.inr r) => some r
  else
    some (.inr ((s.1, (s.2.1, s.2.2.1, (s.2.2.2.1, s.2.2.2.2.1, (s.2.2.2.2.2.1, s.2.2.2.2.2.2.1, (s.2.2.2.2.2.2.2.1, s.2.2.2.2.2.2.2.2.1, s.2.2.2.2.2.2.2.2.2.1)))))))
def pat_laws_FnEditions_6 : Pat := { tmps := [.any, .any, .any, .any, .any, .any, .any, .any, .any, .any, .any, .any, .any, .any, .any, .any, .any, .any, .any, .any, .any, .any, .any, .any, .any, .any, .any, .any, .any, .any, .any, .any, .any, .any, .any, .any, .any, .any, .any, .any, .any, .v (.int .i64), .v (.int .i64), .v (.int .i64), .any, .v (.slice (.st (.pair (.int .i64) (.pair (.int .i64) (.pair .str (.slice (.int .i64))))))), .v (.int .i64), .any, .any, .v (.slice (.st (.pair (.int .i64) (.pair (.int .i64) (.pair .str (.slice (.int .i64))))))), .v (.int .i64), .v .bool, .v (.slice (.st (.pair (.int .i64) (.pair (.int .i64) (.pair .str (.slice (.int .i64))))))), .any, .any, .v (.int .i64), .any, .any, .any, .any, .any, .any, .any, .any, .any, .any, .any, .any, .any, .any, .any, .any, .any, .any, .any, .any, .any, .any, .any, .any, .any, .any, .any, .any, .any, .any, .any, .any, .any, .any, .any, .any, .any, .any, .any, .any, .any, .any, .any, .any, .any, .any, .any, .any, .any, .any, .any, .any, .any, .any, .any, .any, .any, .any, .any, .any, .any, .any, .any, .any, .any, .any, .any, .any, .any, .any, .any, .any, .any, .any, .any, .any, .any, .any, .any, .any, .any, .any, .any, .any, .any, .any, .any, .any, .any, .any, .any, .any, .any, .any, .any, .any, .any, .any, .any, .any, .any, .any, .any, .any, .any, .any, .any, .any, .any, .any, .any, .any, .any, .any, .any, .any, .any, .any, .any, .any, .any, .any, .any, .any, .any, .any, .any, .any, .any, .any, .any, .any, .any, .any, .any, .any, .any, .any, .any, .any, .any, .any, .any, .any, .any, .any, .any, .any, .any, .any, .any, .any, .any, .any, .any, .any, .any, .any, .any, .any, .any, .any, .any, .any, .any, .any, .any, .any, .any, .any, .any, .any, .any, .any, .any, .any, .any, .any, .any, .any, .any, .any, .any, .any, .any, .any, .any, .any, .any, .any, .any, .any, .any, .any, .any, .any, .any, .any, .any, .any, .any, .any, .any, .any, .any, .any, .any, .any, .any, .any, .any, .any, .any, .any, .any, .any, .any, .any, .any, .any, .any, .any, .any, .any, .any, .any, .any, .any, .any, .any, .any, .any, .any, .any, .any, .any, .any, .any, .any, .any, .any, .any, .any, .any, .any, .any, .any, .any, .any, .any, .any, .any, .any, .any, .any, .any, .any, .any, .any, .any, .any, .any, .any, .any, .any, .any, .any, .any, .any, .any, .any, .any, .any, .any, .any, .any, .any, .any, .any, .any, .any, .any, .any, .any, .any, .any, .any, .any, .any, .any, .any, .any, .any, .any, .any, .any, .any, .any, .any, .any, .any, .any, .v (.slice (.st (.pair (.int .i64) (.pair (.int .i64) (.pair .str (.slice (.int .i64))))))), .v (.int .i64), .v (.int .i64), .any, .any, .any, .any, .any, .any, .any, .any, .any, .any, .any, .any, .any, .any, .any, .any, .any, .any, .any, .any, .any, .any, .any, .any, .any, .any, .any, .any, .any, .any, .any, .any, .any, .any, .any, .any, .any, .any, .any, .any, .any, .any, .any, .any, .any, .any, .any, .any, .any, .any, .any, .any, .any, .any, .any, .any, .any, .any, .any], blks := [] }
def outs_laws_FnEditions_6 : List (Exit × Pat) := [(.exit 12, { tmps := [.any, .any, .any, .any, .any, .any, .any, .any, .any, .any, .any, .any, .any, .any, .any, .any, .any, .any, .any, .any, .any, .any, .any, .any, .any, .any, .any, .any, .any, .any, .any, .any, .any, .any, .any, .any, .any, .any, .any, .any, .any, .v (.int .i64), .v (.int .i64), .v (.int .i64), .any, .v (.slice (.st (.pair (.int .i64) (.pair (.int .i64) (.pair .str (.slice (.int .i64))))))), .v (.int .i64), .any, .any, .v (.slice (.st (.pair (.int .i64) (.pair (.int .i64) (.pair .str (.slice (.int .i64))))))), .v (.int .i64), .v .bool, .v (.slice (.st (.pair (.int .i64) (.pair (.int .i64) (.pair .str (.slice (.int .i64))))))), .any, .any, .v (.int .i64), .any, .any, .any, .any, .any, .any, .any, .any, .any, .any, .any, .any, .any, .any, .any, .any, .any, .any, .any, .any, .any, .any, .any, .any, .any, .any, .any, .any, .any, .any, .any, .any, .any, .any, .any, .any, .any, .any, .any, .any, .any, .any, .any, .any, .any, .any, .any, .any, .any, .any, .any, .any, .any, .any, .any, .any, .any, .any, .any, .any, .any, .any, .any, .any, .any, .any, .any, .any, .any, .any, .any, .any, .any, .any, .any, .any, .any, .any, .any, .any, .any, .any, .any, .any, .any, .any, .any, .any, .any, .any, .any, .any, .any, .any, .any, .any, .any, .any, .any, .any, .any, .any, .any, .any, .any, .any, .any, .any, .any, .any, .any, .any, .any, .any, .any, .any, .any, .any, .any, .any, .any, .any, .any, .any, .any, .any, .any, .any, .any, .any, .any, .any, .any, .any, .any, .any, .any, .any, .any, .any, .any, .any, .any, .any, .any, .any, .any, .any, .any, .any, .any, .any, .any, .any, .any, .any, .any, .any, .any, .any, .any, .any, .any, .any, .any, .any, .any, .any, .any, .any, .any, .any, .any, .any, .any, .any, .any, .any, .any, .any, .any, .any, .any, .any, .any, .any, .any, .any, .any, .any, .any, .any, .any, .any, .any, .any, .any, .any, .any, .any, .any, .any, .any, .any, .any, .any, .any, .any, .any, .any, .any, .any, .any, .any, .any, .any, .any, .any, .any, .any, .any, .any, .any, .any, .any, .any, .any, .any, .any, .any, .any, .any, .any, .any, .any, .any, .any, .any, .any, .any, .any, .any, .any, .any, .any, .any, .any, .any, .any, .any, .any, .any, .any, .any, .any, .any, .any, .any, .any, .any, .any, .any, .any, .any, .any, .any, .any, .any, .any, .any, .any, .any, .any, .any, .any, .any, .any, .any, .any, .any, .any, .any, .any, .any, .any, .any, .any, .any, .any, .any, .any, .any, .any, .any, .any, .any, .any, .any, .any, .any, .any, .any, .any, .any, .any, .any, .any, .any, .any, .any, .any, .any, .any, .any, .any, .any, .any, .any, .any, .any, .any, .any, .any, .any, .any, .any, .any, .any, .any, .any, .any, .any, .any, .any, .any, .any, .any, .any, .any, .any, .any, .any, .any, .any, .any, .any, .any, .any, .any, .any, .any, .any, .any, .any, .any, .any, .any, .any, .any, .any, .any, .any, .any, .any], blks := [] })]
def pat_laws_FnEditions_J12 : Pat := { tmps := [.any, .v (.slice (.int .u8)), .any, .any, .any, .v (.slice .str), .v (.slice (.st (.pair (.int .i64) (.pair (.int .i64) (.pair .str (.slice (.int .i64))))))), .any, .any, .any, .v .bool, .v (.slice .str), .v (.slice (.int .i64)), .any, .any, .any, .own 6016, .any, .any, .any, .any, .any, .any, .any, .any, .any, .any, .any, .any, .any, .any, .any, .any, .any, .any, .any, .any, .any, .any, .any, .any, .any, .any, .any, .any, .any, .any, .any, .any, .any, .any, .any, .any, .any, .any, .any, .any, .any, .any, .any, .any, .any, .any, .any, .any, .any, .any, .any, .any, .any, .any, .any, .any, .any, .any, .any, .any, .any, .any, .any, .any, .any, .any, .any, .any, .any, .any, .any, .any, .any, .any, .any, .any, .any, .any, .any, .any, .any, .any, .any, .any, .any, .any, .any, .any, .any, .any, .any, .any, .any, .any, .any, .any, .any, .any, .any, .any, .any, .any, .any, .any, .any, .any, .any, .any, .any, .any, .any, .any, .any, .any, .any, .any, .any, .any, .any, .any, .any, .any, .any, .any, .any, .any, .any, .any, .any, .any, .any, .any, .any, .any, .any, .any, .any, .any, .any, .any, .any, .any, .any, .any, .any, .any, .any, .any, .any, .any, .any, .any, .any, .any, .any, .any, .any, .any, .any, .any, .any, .any, .any, .any, .any, .any, .any, .any, .any, .any, .any, .any, .any, .any, .any, .any, .any, .any, .any, .any, .any, .any, .any, .any, .any, .any, .any, .any, .any, .any, .any, .any, .any, .any, .any, .any, .any, .any, .any, .any, .any, .any, .any, .any, .any, .any, .any, .any, .any, .any, .any, .any, .any, .any, .any, .any, .any, .any, .any, .any, .any, .any, .any, .any, .any, .any, .any, .any, .any, .any, .any, .any, .any, .any, .any, .any, .any, .any, .any, .any, .any, .any, .any, .any, .any, .any, .any, .any, .any, .any, .any, .any, .any, .any, .any, .any, .any, .any, .any, .any, .any, .any, .any, .any, .any, .any, .any, .any, .any, .any, .any, .any, .any, .any, .any, .any, .any, .any, .any, .any, .any, .any, .any, .any, .any, .any, .any, .any, .any, .any, .any, .any, .any, .any, .any, .any, .any, .any, .any, .any, .any, .any, .any, .any, .any, .any, .any, .any, .any, .any, .any, .any, .any, .any, .any, .any, .any, .any, .any, .any, .any, .any, .any, .any, .any, .any, .any, .any, .any, .any, .any, .any, .any, .any, .any, .any, .any, .any, .any, .any, .any, .any, .any, .any, .any, .any, .any, .any, .any, .any, .any, .any, .any, .any, .any, .any, .any, .any, .any, .any, .any, .any, .any, .any, .any, .any, .any, .any, .any, .any, .any, .any, .any, .any, .any, .any, .any, .any, .any, .any, .any, .any, .any, .any, .any, .any, .any, .any, .any, .any, .any, .any, .any, .any, .any, .any, .any, .any, .any, .any, .any, .any, .any], blks := [(6016, .row true (.int .i64))] }
def pat_laws_FnEditions_J31 : Pat := { tmps := [.any, .v (.slice (.int .u8)), .any, .any, .any, .v (.slice .str), .v (.slice (.st (.pair (.int .i64) (.pair (.int .i64) (.pair .str (.slice (.int .i64))))))), .any, .any, .any, .any, .v (.slice .str), .any, .any, .any, .any, .own 6016, .any, .any, .any, .any, .any, .any, .any, .any, .any, .any, .any, .any, .any, .any, .any, .any, .any, .any, .any, .any, .any, .any, .any, .any, .any, .any, .any, .any, .any, .any, .any, .any, .any, .any, .any, .any, .any, .any, .any, .any, .any, .any, .any, .any, .any, .any, .any, .any, .any, .any, .any, .any, .any, .any, .any, .any, .any, .any, .any, .any, .any, .any, .any, .any, .any, .any, .any, .any, .any, .any, .any, .any, .any, .any, .any, .any, .any, .any, .any, .any, .any, .any, .any, .any, .any, .any, .any, .any, .any, .any, .any, .any, .any, .any, .any, .any, .any, .any, .any, .any, .any, .any, .any, .any, .any, .any, .any, .any, .any, .any, .any, .any, .any, .any, .any, .any, .any, .any, .any, .any, .any, .any, .any, .any, .any, .any, .any, .any, .any, .any, .any, .any, .any, .any, .any, .any, .any, .any, .any, .any, .any, .any, .any, .any, .any, .any, .any, .any, .any, .any, .any, .any, .any, .any, .any, .any, .any, .any, .any, .any, .v (.slice (.st (.pair (.int .i64) (.pair (.int .i64) (.pair .str (.slice (.int .i64))))))), .v (.int .i64), .v (.int .i64), .any, .any, .any, .any, .any, .any, .any, .any, .any, .any, .any, .any, .any, .any, .any, .any, .any, .any, .any, .any, .any, .any, .any, .any, .any, .any, .any, .any, .any, .any, .any, .any, .any, .any, .any, .any, .any, .any, .any, .any, .any, .any, .any, .any, .any, .any, .any, .any, .any, .any, .any, .any, .any, .any, .any, .any, .any, .any, .any, .any, .any, .any, .any, .any, .any, .any, .any, .any, .any, .any, .any, .any, .any, .any, .any, .any, .any, .any, .any, .any, .any, .any, .any, .any, .any, .any, .any, .any, .any, .any, .any, .any, .any, .any, .any, .any, .any, .any, .any, .any, .any, .any, .any, .any, .any, .any, .any, .any, .any, .any, .any, .any, .any, .any, .any, .any, .any, .any, .any, .any, .any, .any, .any, .any, .any, .any, .any, .any, .any, .any, .any, .any, .any, .any, .any, .any, .any, .any, .any, .any, .any, .any, .any, .any, .any, .any, .any, .any, .any, .any, .any, .any, .any, .any, .any, .any, .any, .any, .any, .any, .any, .any, .any, .any, .any, .any, .any, .any, .any, .any, .any, .any, .any, .any, .any, .any, .any, .any, .any, .any, .any, .any, .any, .any, .any, .any, .any, .any, .any, .any, .any, .any, .any, .any, .any, .any, .any, .any, .any, .any, .any, .any, .any, .any, .any, .any, .any, .any, .any, .any, .any, .any, .any, .any, .any, .any, .any, .any, .any, .any, .any, .any, .any, .any, .any, .any, .any, .any, .any, .any, .any, .any, .any, .any, .any, .any, .any, .any, .any, .any], blks := [(6016, .row true (.int .i64))] }
def pat_laws_FnEditions_J43 : Pat := { tmps := [.any, .v (.slice (.int .u8)), .any, .any, .any, .any, .v (.slice (.st (.pair (.int .i64) (.pair (.int .i64) (.pair .str (.slice (.int .i64))))))), .any, .any, .any, .any, .v (.slice .str), .any, .any, .any, .any, .own 6016, .any, .any, .any, .any, .any, .any, .any, .any, .any, .any, .any, .any, .any, .any, .any, .any, .any, .any, .any, .any, .any, .any, .any, .any, .any, .any, .any, .any, .any, .any, .any, .any, .any, .any, .any, .any, .any, .any, .any, .any, .any, .any, .any, .any, .any, .any, .any, .any, .any, .any, .any, .any, .any, .any, .any, .any, .any, .any, .any, .any, .any, .any, .any, .any, .any, .any, .any, .any, .any, .any, .any, .any, .any, .any, .any, .any, .any, .any, .any, .any, .any, .any, .any, .any, .any, .any, .any, .any, .any, .any, .any, .any, .any, .any, .any, .any, .any, .any, .any, .any, .any, .any, .any, .any, .any, .any, .any, .any, .any, .any, .any, .any, .any, .any, .any, .any, .any, .any, .any, .any, .any, .any, .any, .any, .any, .any, .any, .any, .any, .any, .any, .any, .any, .any, .any, .any, .any, .any, .any, .any, .any, .any, .any, .any, .any, .any, .any, .any, .any, .any, .any, .any, .any, .any, .any, .any, .any, .any, .any, .any, .any, .any, .any, .any, .any, .any, .any, .any, .any, .any, .any, .any, .any, .any, .any, .any, .any, .any, .any, .any, .any, .any, .any, .any, .any, .any, .any, .any, .any, .any, .any, .any, .any, .any, .any, .any, .any, .any, .any, .any, .any, .any, .any, .any, .any, .any, .any, .any, .any, .v (.slice .str), .v (.int .i64), .v (.int .i64), .any, .any, .any, .any, .any, .any, .any, .any, .any, .any, .any, .any, .any, .any, .any, .any, .any, .any, .any, .any, .any, .any, .any, .any, .any, .any, .any, .any, .any, .any, .any, .any, .any, .any, .any, .any, .any, .any, .any, .any, .any, .any, .any, .any, .any, .any, .any, .any, .any, .any, .any, .any, .any, .any, .any, .any, .any, .any, .any, .any, .any, .any, .any, .any, .any, .any, .any, .any, .any, .any, .any, .any, .any, .any, .any, .any, .any, .any, .any, .any, .any, .any, .any, .any, .any, .any, .any, .any, .any, .any, .any, .any, .any, .any, .any, .any, .any, .any, .any, .any, .any, .any, .any, .any, .any, .any, .any, .any, .any, .any, .any, .any, .any, .any, .any, .any, .any, .any, .any, .any, .any, .any, .any, .any, .any, .any, .any, .any, .any, .any, .any, .any, .any, .any, .any, .any, .any, .any, .any, .any, .any, .any, .any, .any, .any, .any, .any, .any, .any, .any, .any, .any, .any, .any, .any, .any, .any, .any, .any, .any, .any, .any, .any, .any, .any, .any, .any, .any, .any, .any, .any, .any, .any, .any, .any, .any, .any, .any, .any, .any, .any, .any, .any, .any, .any, .any, .any, .any, .any, .any, .any], blks := [(6016, .row true (.int .i64))] }
def pat_laws_FnEditions_J49 : Pat := { tmps := [.any, .v (.slice (.int .u8)), .any, .any, .any, .any, .any, .any, .any, .any, .any, .any, .any, .any, .any, .any, .any, .any, .any, .any, .any, .any, .any, .any, .any, .any, .any, .any, .any, .any, .any, .any, .any, .any, .any, .any, .any, .any, .any, .any, .any, .any, .any, .any, .any, .any, .any, .any, .any, .any, .any, .any, .any, .any, .any, .any, .any, .any, .any, .any, .any, .any, .any, .any, .any, .any, .any, .any, .any, .any, .any, .any, .any, .any, .any, .any, .any, .any, .any, .any, .any, .any, .any, .any, .any, .any, .any, .any, .any, .any, .any, .any, .any, .any, .any, .any, .any, .any, .any, .any, .any, .any, .any, .any, .any, .any, .any, .any, .any, .any, .any, .any, .any, .any, .any, .any, .any, .any, .any, .any, .any, .any, .any, .any, .any, .any, .any, .any, .any, .any, .any, .any, .any, .any, .any, .any, .any, .any, .any, .any, .any, .any, .any, .any, .any, .any, .any, .any, .any, .any, .any, .any, .any, .any, .any, .any, .any, .any, .any, .any, .any, .any, .any, .any, .any, .any, .any, .any, .any, .any, .any, .any, .any, .any, .any, .any, .any, .any, .any, .any, .any, .any, .any, .any, .any, .any, .any, .any, .any, .any, .any, .any, .any, .any, .any, .any, .any, .any, .any, .any, .any, .any, .any, .any, .any, .any, .any, .any, .any, .any, .any, .any, .any, .any, .any, .any, .any, .any, .any, .any, .any, .any, .any, .any, .any, .any, .any, .any, .any, .any, .any, .any, .any, .any, .any, .any, .any, .any, .any, .any, .any, .any, .any, .any, .any, .any, .any, .any, .any, .any, .any, .any, .any, .any, .any, .any, .any, .any, .any, .any, .any, .any, .any, .any, .any, .any, .any, .any, .any, .any, .any, .any, .any, .any, .any, .any, .any, .any, .any, .any, .any, .any, .any, .any, .any, .any, .any, .any, .any, .any, .any, .any, .any, .any, .any, .any, .any, .any, .any, .any, .any, .any, .any, .any, .any, .any, .any, .any, .any, .any, .any, .any, .any, .any, .any, .any, .any, .any, .any, .any, .any, .any, .any, .any, .any, .any, .any, .any, .any, .any, .any, .any, .any, .any, .any, .any, .any, .any, .any, .any, .any, .any, .any, .any, .any, .any, .any, .any, .any, .any, .any, .any, .any, .any, .any, .any, .any, .any, .any, .any, .any, .any, .any, .any, .any, .any, .any, .any, .any, .any, .any, .any, .any, .any, .any, .any, .any, .any, .any, .any, .any, .any, .any, .any, .any, .any, .any, .any, .any, .any, .any, .any, .any, .any, .any, .any, .any, .any, .any, .any, .any, .any, .any, .any, .any, .any, .any, .any, .any, .any, .any, .any, .any, .any, .any, .any, .any, .any, .any, .any], blks := [] }
def pat_laws_FnEditions_J64 : Pat := { tmps := [.any, .any, .any, .any, .any, .any, .any, .any, .any, .any, .any, .any, .any, .any, .any, .any, .any, .any, .any, .any, .any, .any, .any, .any, .any, .any, .any, .any, .any, .any, .any, .any, .any, .any, .any, .any, .any, .any, .any, .any, .any, .v (.int .i64), .v (.int .i64), .v (.int .i64), .any, .v (.slice (.st (.pair (.int .i64) (.pair (.int .i64) (.pair .str (.slice (.int .i64))))))), .v (.int .i64), .any, .any, .v (.slice (.st (.pair (.int .i64) (.pair (.int .i64) (.pair .str (.slice (.int .i64))))))), .v (.int .i64), .v .bool, .v (.slice (.st (.pair (.int .i64) (.pair (.int .i64) (.pair .str (.slice (.int .i64))))))), .any, .any, .v (.int .i64), .any, .any, .any, .any, .any, .any, .any, .any, .any, .any, .any, .any, .any, .any, .any, .any, .any, .any, .any, .any, .any, .any, .any, .any, .any, .any, .any, .any, .any, .any, .any, .any, .any, .any, .any, .any, .any, .any, .any, .any, .any, .any, .any, .any, .any, .any, .any, .any, .any, .any, .any, .any, .any, .any, .any, .any, .any, .any, .any, .any, .any, .any, .any, .any, .any, .any, .any, .any, .any, .any, .any, .any, .any, .any, .any, .any, .any, .any, .any, .any, .any, .any, .any, .any, .any, .any, .any, .any, .any, .any, .any, .any, .any, .any, .any, .any, .any, .any, .any, .any, .any, .any, .any, .any, .any, .any, .any, .any, .any, .any, .any, .any, .any, .any, .any, .any, .any, .any, .any, .any, .any, .any, .any, .any, .any, .any, .any, .any, .any, .any, .any, .any, .any, .any, .any, .any, .any, .any, .any, .any, .any, .any, .any, .any, .any, .any, .any, .any, .any, .any, .any, .any, .any, .any, .any, .any, .any, .any, .any, .any, .any, .any, .any, .any, .any, .any, .any, .any, .any, .any, .any, .any, .any, .any, .any, .any, .any, .any, .any, .any, .any, .any, .any, .any, .any, .any, .any, .any, .any, .any, .any, .any, .any, .any, .any, .any, .any, .any, .any, .any, .any, .any, .any, .any, .any, .any, .any, .any, .any, .any, .any, .any, .any, .any, .any, .any, .any, .any, .any, .any, .any, .any, .any, .any, .any, .any, .any, .any, .any, .any, .any, .any, .any, .any, .any, .any, .any, .any, .any, .any, .any, .any, .any, .any, .any, .any, .any, .any, .any, .any, .any, .any, .any, .any, .any, .any, .any, .any, .any, .any, .any, .any, .any, .any, .any, .any, .any, .any, .any, .any, .any, .any, .any, .any, .any, .any, .any, .any, .any, .any, .any, .any, .any, .any, .any, .any, .any, .any, .any, .any, .any, .any, .any, .any, .any, .any, .any, .any, .any, .any, .any, .any, .v (.slice (.st (.pair (.int .i64) (.pair (.int .i64) (.pair .str (.slice (.int .i64))))))), .v (.int .i64), .v (.int .i64), .any, .any, .any, .any, .any, .any, .any, .any, .any, .any, .any, .any, .any, .any, .any, .any, .any, .any, .any, .any, .any, .any, .any, .any, .any, .any, .any, .any, .any, .any, .any, .any, .any, .any, .any, .any, .any, .any, .any, .any, .any, .any, .any, .any, .any, .any, .any, .any, .any, .any, .any, .any, .any, .any, .any, .any, .any, .any, .any], blks := [] }
def pat_laws_FnEditions_J67 : Pat := { tmps := [.any, .any, .any, .any, .any, .any, .any, .any, .any, .any, .any, .any, .any, .any, .any, .any, .any, .any, .any, .any, .any, .any, .any, .any, .any, .any, .any, .any, .any, .any, .any, .any, .any, .any, .any, .any, .any, .any, .any, .any, .any, .any, .any, .any, .any, .v (.slice (.st (.pair (.int .i64) (.pair (.int .i64) (.pair .str (.slice (.int .i64))))))), .v (.int .i64), .any, .any, .v (.slice (.st (.pair (.int .i64) (.pair (.int .i64) (.pair .str (.slice (.int .i64))))))), .v (.int .i64), .v .bool, .v (.slice (.st (.pair (.int .i64) (.pair (.int .i64) (.pair .str (.slice (.int .i64))))))), .any, .any, .any, .any, .any, .any, .any, .any, .any, .any, .any, .any, .any, .any, .any, .any, .any, .any, .any, .any, .any, .any, .any, .any, .any, .any, .any, .any, .any, .any, .any, .any, .any, .any, .any, .any, .any, .any, .any, .any, .any, .any, .any, .any, .any, .any, .any, .any, .any, .any, .any, .any, .any, .any, .any, .any, .any, .any, .any, .any, .any, .any, .any, .any, .any, .any, .any, .any, .any, .any, .any, .any, .any, .any, .any, .any, .any, .any, .any, .any, .any, .any, .any, .any, .any, .any, .any, .any, .any, .any, .any, .any, .any, .any, .any, .any, .any, .any, .any, .any, .any, .any, .any, .any, .any, .any, .any, .any, .any, .any, .any, .any, .any, .any, .any, .any, .any, .any, .any, .any, .any, .any, .any, .any, .any, .any, .any, .any, .any, .any, .any, .any, .any, .any, .any, .any, .any, .any, .any, .any, .any, .any, .any, .any, .any, .any, .any, .any, .any, .any, .any, .any, .any, .any, .any, .any, .any, .any, .any, .any, .any, .any, .any, .any, .any, .any, .any, .any, .any, .any, .any, .any, .any, .any, .any, .any, .any, .any, .any, .any, .any, .any, .any, .any, .any, .any, .any, .any, .any, .any, .any, .any, .any, .any, .any, .any, .any, .any, .any, .any, .any, .any, .any, .any, .any, .any, .any, .any, .any, .any, .any, .any, .any, .any, .any, .any, .any, .any, .any, .any, .any, .any, .any, .any, .any, .any, .any, .any, .any, .any, .any, .any, .any, .any, .any, .any, .any, .any, .any, .any, .any, .any, .any, .any, .any, .any, .any, .any, .any, .any, .any, .any, .any, .any, .any, .any, .any, .any, .any, .any, .any, .any, .any, .any, .any, .any, .any, .any, .any, .any, .any, .any, .any, .any, .any, .any, .any, .any, .any, .any, .any, .any, .any, .any, .any, .any, .any, .any, .any, .any, .any, .any, .any, .any, .any, .any, .any, .any, .any, .any, .any, .any, .any, .any, .any, .any, .any, .any, .any, .any, .any, .any, .any, .any, .any, .any, .any, .any, .any, .any, .any, .any, .any, .any, .any, .any, .any, .any, .any, .any, .any, .any, .any, .any, .any, .any, .any, .any, .any, .any, .any, .any, .any, .any, .any, .any, .any, .any, .any, .any, .any, .any, .any, .any, .any, .any, .any, .any, .any, .any, .any, .any, .any, .any, .any, .any, .any], blks := [] }
noncomputable def F_laws_FnEditions (x : (List Int) × (List Int)) : Option (Bool) :=
  match F_laws_big (x) with
  | none => none
  | some y1 =>
    bif y1 then
      some (true)
    else
      match F_spec_DrawNextEdition (x.1) with
      | none => none
      | some y2 =>
        match F_impl_NextEdition (y2) with
        | none => none
        | some y3 =>
          match F_spec_NextEdition (y2) with
          | none => none
          | some y4 =>
            match F_impl_PassedNumbers (y2.2) with
            | none => none
            | some y5 =>
              match F_spec_PassedNumbers (y2.2) with
              | none => none
              | some y6 =>
                match F_impl_ContestedGlosses (y2.2) with
                | none => none
                | some y7 =>
                  match F_spec_ContestedGlosses (y2.2) with
                  | none => none
                  | some y8 =>
                    match (bif (!(y3.2.2 == y4.2.2)) then
                      some (.inr (false))
                    else
                      match F_laws_pSameTexts ((y3.1, y4.1)) with
                      | none => none
                      | some y9 =>
                        bif (!y9) then
                          some (.inr (false))
                        else
                          match F_laws_sameInts ((y3.2.1, y4.2.1)) with
                          | none => none
                          | some y10 =>
                            bif (!y10) then
                              some (.inr (false))
                            else
                              bif (!(y5.2 == y6.2)) then
                                some (.inr (false))
                              else
                                match F_laws_sameInts ((y5.1, y6.1)) with
                                | none => none
                                | some y11 =>
                                  bif (!y11) then
                                    some (.inr (false))
                                  else
                                    bif (!(y7.2 == y8.2)) then
                                      some (.inr (false))
                                    else
                                      match F_laws_pSameTexts ((y7.1, y8.1)) with
                                      | none => none
                                      | some y12 =>
                                        bif (!y12) then
                                          some (.inr (false))
                                        else
                                          match F_impl_AreProposals (y2.2) with
                                          | none => none
                                          | some y13 =>
                                            bif (!(y5.2 == y13)) then
                                              some (.inr (false))
                                            else
                                              bif (!(y7.2 == y5.2)) then
                                                some (.inr (false))
                                              else
                                                bif y3.2.2 then
                                                  bif (!y5.2) then
                                                    some (.inr (false))
                                                  else
                                                    some (.inl ((x.2, y2.1, (y2.2.1, y3.2.2, (y4.1, y4.2.1, y6.1)))))
                                                else
                                                  some (.inl ((x.2, y2.1, (y2.2.1, y3.2.2, (y4.1, y4.2.1, y6.1))))) : Option (((List Int) × (List ByteArray) × (List (Int × (Int × (ByteArray × (List Int))))) × Bool × (List ByteArray) × (List Int) × (List Int)) ⊕ (Bool))) with
                    | none => none
                    | some (.inl j14) =>
                      match (bif j14.2.2.2.1 then
                        match runL step_laws_FnEditions_0 ((j14.1, (j14.2.1, j14.2.2.1, (j14.2.2.2.2.1, j14.2.2.2.2.2.1, ((j14.2.2.2.2.2.1.length : Int), 0, j14.2.2.2.2.2.2))))) with
                        | none => none
                        | some (.inl o19) =>
                          some (.inr (o19))
                        | some (.inr o19) =>
                          match runL step_laws_FnEditions_2 ((o19.1, (o19.2.1, o19.2.2.1, (o19.2.2.2.1, o19.2.2.1, ((o19.2.2.1.length : Int), 0, o19.2.2.2.2))))) with
                          | none => none
                          | some (.inl o49) =>
                            some (.inr (o49))
                          | some (.inr o49) =>
                            match runL step_laws_FnEditions_4 ((o49.1, o49.2.2.1, (o49.2.2.2.1, o49.2.1, ((o49.2.1.length : Int), 0, o49.2.2.2.2)))) with
                            | none => none
                            | some (.inl o74) =>
                              some (.inr (o74))
                            | some (.inr o74) =>
                              match runL step_laws_FnEditions_5 ((o74.1, o74.2, 1)) with
                              | none => none
                              | some (.inl o79) =>
                                some (.inr (o79))
                              | some (.inr o79) =>
                                some (.inl (o79))
                      else
                        some (.inl (j14.1)) : Option (((List Int)) ⊕ (Bool))) with
                      | none => none
                      | some (.inl j80) =>
                        match F_spec_DrawAgreeingMembers (j80) with
                        | none => none
                        | some y81 =>
                          match F_impl_AgreeingMembers (y81) with
                          | none => none
                          | some y82 =>
                            match F_spec_AgreeingMembers (y81) with
                            | none => none
                            | some y83 =>
                              match F_spec_DrawPutProposal (j80) with
                              | none => none
                              | some y84 =>
                                match F_impl_PutProposal (y84) with
                                | none => none
                                | some y85 =>
                                  match F_spec_PutProposal (y84) with
                                  | none => none
                                  | some y86 =>
                                    bif (!(y82.2.2.2 == y83.2.2.2)) then
                                      some (false)
                                    else
                                      bif ((y82.1 != y83.1)) then
                                        some (false)
                                      else
                                        bif ((y82.2.1 != y83.2.1)) then
                                          some (false)
                                        else
                                          bif ((y82.2.2.1 != y83.2.2.1)) then
                                            some (false)
                                          else
                                            bif (!(y85.2.2 == y86.2.2)) then
                                              some (false)
                                            else
                                              match F_laws_pSameProposals ((y85.1, y86.1)) with
                                              | none => none
                                              | some y87 =>
                                                bif (!y87) then
                                                  some (false)
                                                else
                                                  bif ((y85.2.1 != y86.2.1)) then
                                                    some (false)
                                                  else
                                                    match (bif y82.2.2.2 then
                                                      match runL step_laws_FnEditions_6 ((y83.1, y83.2.1, (y83.2.2.1, y84.1, (y84.2.1, y85.1, (y85.2.1, y85.2.2, (y86.1, 0, (y81.1, (y81.1.length : Int), 0))))))) with
                                                      | none => none
                                                      | some o95 =>
                                                        bif ((o95.2.2.2.2.2.2.2.2.2 != o95.2.2.1)) then
                                                          some (.inr (false))
                                                        else
                                                          bif (decide (o95.1 ≥ o95.2.1)) then
                                                            some (.inr (false))
                                                          else
                                                            some (.inl ((o95.2.2.2.1, (o95.2.2.2.2.1, o95.2.2.2.2.2.1, (o95.2.2.2.2.2.2.1, o95.2.2.2.2.2.2.2.1, o95.2.2.2.2.2.2.2.2.1)))))
                                                    else
                                                      some (.inl ((y84.1, (y84.2.1, y85.1, (y85.2.1, y85.2.2, y86.1))))) : Option (((List (Int × (Int × (ByteArray × (List Int))))) × Int × (List (Int × (Int × (ByteArray × (List Int))))) × Int × Bool × (List (Int × (Int × (ByteArray × (List Int)))))) ⊕ (Bool))) with
                                                    | none => none
                                                    | some (.inl j96) =>
                                                      bif j96.2.2.2.2.1 then
                                                        match F_impl_IsPassed ((j96.2.2.1, j96.2.1, j96.2.2.2.1)) with
                                                        | none => none
                                                        | some y97 =>
                                                          bif y97.2 then
                                                            bif (!y97.1) then
                                                              let v98 := IntKind.i64.wrap ((j96.1.length : Int) + 1)
                                                              bif (((j96.2.2.2.2.2.length : Int) == v98)) then
                                                                match F_impl_AreProposals ((j96.2.2.1, j96.2.1)) with
                                                                | none => none
                                                                | some y99 =>
                                                                  some (y99)
                                                              else
                                                                some (false)
                                                            else
                                                              some (false)
                                                          else
                                                            some (false)
                                                      else
                                                        some (true)
                                                    | some (.inr r) => some r
                      | some (.inr r) => some r
                    | some (.inr r) => some r
noncomputable def c_laws_FnEditions : Con := { ps := [(.val, (.slice (.int .u8))), (.val, (.slice (.int .u8)))], rs := [(.val, .bool)], F := F_laws_FnEditions }
noncomputable def env_laws_FnEditions : Env := { par := [], dp := false, settle := [], con := fun f => match f with | 4 => some c_laws_big | 5 => some c_spec_DrawNextEdition | 6 => some c_impl_NextEdition | 7 => some c_spec_NextEdition | 8 => some c_impl_PassedNumbers | 9 => some c_spec_PassedNumbers | 10 => some c_impl_ContestedGlosses | 11 => some c_spec_ContestedGlosses | 12 => some c_laws_pSameTexts | 13 => some c_laws_sameInts | 14 => some c_impl_AreProposals | 15 => some c_laws_pIn | 16 => some c_laws_pHas | 17 => some c_spec_DrawAgreeingMembers | 18 => some c_impl_AgreeingMembers | 19 => some c_spec_AgreeingMembers | 20 => some c_spec_DrawPutProposal | 21 => some c_impl_PutProposal | 22 => some c_spec_PutProposal | 23 => some c_laws_pSameProposals | 24 => some c_impl_IsPassed | _ => none, clo := fun _ => none, T := tinf Tryz.prog }
noncomputable def loops_laws_FnEditions : Nat → Option Loop := fun n => match n with | 14 => some { pat := pat_laws_FnEditions_0, outs := outs_laws_FnEditions_0, run := runL (step_laws_FnEditions_0) } | 25 => some { pat := pat_laws_FnEditions_1, outs := outs_laws_FnEditions_1, run := runL (step_laws_FnEditions_1) } | 20 => some { pat := pat_laws_FnEditions_2, outs := outs_laws_FnEditions_2, run := runL (step_laws_FnEditions_2) } | 37 => some { pat := pat_laws_FnEditions_3, outs := outs_laws_FnEditions_3, run := runL (step_laws_FnEditions_3) } | 33 => some { pat := pat_laws_FnEditions_4, outs := outs_laws_FnEditions_4, run := runL (step_laws_FnEditions_4) } | 45 => some { pat := pat_laws_FnEditions_5, outs := outs_laws_FnEditions_5, run := runL (step_laws_FnEditions_5) } | 60 => some { pat := pat_laws_FnEditions_6, outs := outs_laws_FnEditions_6, run := runL (step_laws_FnEditions_6) } | 1012 => some { pat := pat_laws_FnEditions_J12, outs := [], run := fun _ => none } | 1031 => some { pat := pat_laws_FnEditions_J31, outs := [], run := fun _ => none } | 1043 => some { pat := pat_laws_FnEditions_J43, outs := [], run := fun _ => none } | 1049 => some { pat := pat_laws_FnEditions_J49, outs := [], run := fun _ => none } | 1064 => some { pat := pat_laws_FnEditions_J64, outs := [], run := fun _ => none } | 1067 => some { pat := pat_laws_FnEditions_J67, outs := [], run := fun _ => none } | _ => none
theorem step_laws_FnEditions_0_eq (s : (List Int) × (List ByteArray) × (List (Int × (Int × (ByteArray × (List Int))))) × (List ByteArray) × (List Int) × Int × Int × (List Int)) : stepEv env_laws_FnEditions loops_laws_FnEditions pat_laws_FnEditions_0 outs_laws_FnEditions_0 Tryz.f3 14 s = step_laws_FnEditions_0 s := by kernel_rfl
theorem step_laws_FnEditions_1_eq (s : (List Int) × (List ByteArray) × (List (Int × (Int × (ByteArray × (List Int))))) × (List ByteArray) × Bool × (List (Int × (Int × (ByteArray × (List Int))))) × Int × Int × (List (Int × (Int × (ByteArray × (List Int))))) × Int × Int × Int × Int × ByteArray × (List Int) × (List Int)) : stepEv env_laws_FnEditions loops_laws_FnEditions pat_laws_FnEditions_1 outs_laws_FnEditions_1 Tryz.f3 25 s = step_laws_FnEditions_1 s := by kernel_rfl
theorem step_laws_FnEditions_2_eq (s : (List Int) × (List ByteArray) × (List (Int × (Int × (ByteArray × (List Int))))) × (List ByteArray) × (List (Int × (Int × (ByteArray × (List Int))))) × Int × Int × (List Int)) : stepEv env_laws_FnEditions loops_laws_FnEditions pat_laws_FnEditions_2 outs_laws_FnEditions_2 Tryz.f3 20 s = step_laws_FnEditions_2 s := by kernel_rfl
theorem step_laws_FnEditions_3_eq (s : (List Int) × (List (Int × (Int × (ByteArray × (List Int))))) × (List ByteArray) × ByteArray × Bool × (List ByteArray) × Int × Int × (List (Int × (Int × (ByteArray × (List Int))))) × Int × Int × (List Int)) : stepEv env_laws_FnEditions loops_laws_FnEditions pat_laws_FnEditions_3 outs_laws_FnEditions_3 Tryz.f3 37 s = step_laws_FnEditions_3 s := by kernel_rfl
theorem step_laws_FnEditions_4_eq (s : (List Int) × (List (Int × (Int × (ByteArray × (List Int))))) × (List ByteArray) × (List ByteArray) × Int × Int × (List Int)) : stepEv env_laws_FnEditions loops_laws_FnEditions pat_laws_FnEditions_4 outs_laws_FnEditions_4 Tryz.f3 33 s = step_laws_FnEditions_4 s := by kernel_rfl
theorem step_laws_FnEditions_5_eq (s : (List Int) × (List ByteArray) × Int) : stepEv env_laws_FnEditions loops_laws_FnEditions pat_laws_FnEditions_5 outs_laws_FnEditions_5 Tryz.f3 45 s = step_laws_FnEditions_5 s := by kernel_rfl
theorem step_laws_FnEditions_6_eq (s : Int × Int × Int × (List (Int × (Int × (ByteArray × (List Int))))) × Int × (List (Int × (Int × (ByteArray × (List Int))))) × Int × Bool × (List (Int × (Int × (ByteArray × (List Int))))) × Int × (List (Int × (Int × (ByteArray × (List Int))))) × Int × Int) : stepEv env_laws_FnEditions loops_laws_FnEditions pat_laws_FnEditions_6 outs_laws_FnEditions_6 Tryz.f3 60 s = step_laws_FnEditions_6 s := by kernel_rfl
theorem F_laws_FnEditions_eq (x : (List Int) × (List Int)) : Fev env_laws_FnEditions loops_laws_FnEditions c_laws_FnEditions.ps c_laws_FnEditions.rs Tryz.f3 x = F_laws_FnEditions x := by kernel_rfl
theorem env_laws_FnEditions_ok : EnvOK Tryz.prog env_laws_FnEditions := envOK_of (fun f c h => by
  simp only [env_laws_FnEditions] at h
  split at h
  · cases h; exact con_laws_big
  · cases h; exact con_spec_DrawNextEdition
  · cases h; exact con_impl_NextEdition
  · cases h; exact con_spec_NextEdition
  · cases h; exact con_impl_PassedNumbers
  · cases h; exact con_spec_PassedNumbers
  · cases h; exact con_impl_ContestedGlosses
  · cases h; exact con_spec_ContestedGlosses
  · cases h; exact con_laws_pSameTexts
  · cases h; exact con_laws_sameInts
  · cases h; exact con_impl_AreProposals
  · cases h; exact con_laws_pIn
  · cases h; exact con_laws_pHas
  · cases h; exact con_spec_DrawAgreeingMembers
  · cases h; exact con_impl_AgreeingMembers
  · cases h; exact con_spec_AgreeingMembers
  · cases h; exact con_spec_DrawPutProposal
  · cases h; exact con_impl_PutProposal
  · cases h; exact con_spec_PutProposal
  · cases h; exact con_laws_pSameProposals
  · cases h; exact con_impl_IsPassed
  · cases h) (fun f c h => by cases h) rfl
theorem con_laws_FnEditions : ConOK Tryz.prog 3 c_laws_FnEditions := con_of_ev' (body := Tryz.f3.body.getD .skip) (Λ := loops_laws_FnEditions) mixed Tryz.func3 (by kernel_rfl) (by kernel_rfl) env_laws_FnEditions_ok (by kernel_rfl) (by kernel_rfl) (fun n L h => by
  unfold loops_laws_FnEditions at h
  split at h
  · cases h; exact fun s o ho => loop_ok (stepF := stepEv env_laws_FnEditions loops_laws_FnEditions pat_laws_FnEditions_0 outs_laws_FnEditions_0 Tryz.f3 14) (step_laws_FnEditions_0_eq) ho
  · cases h; exact fun s o ho => loop_ok (stepF := stepEv env_laws_FnEditions loops_laws_FnEditions pat_laws_FnEditions_1 outs_laws_FnEditions_1 Tryz.f3 25) (step_laws_FnEditions_1_eq) ho
  · cases h; exact fun s o ho => loop_ok (stepF := stepEv env_laws_FnEditions loops_laws_FnEditions pat_laws_FnEditions_2 outs_laws_FnEditions_2 Tryz.f3 20) (step_laws_FnEditions_2_eq) ho
  · cases h; exact fun s o ho => loop_ok (stepF := stepEv env_laws_FnEditions loops_laws_FnEditions pat_laws_FnEditions_3 outs_laws_FnEditions_3 Tryz.f3 37) (step_laws_FnEditions_3_eq) ho
  · cases h; exact fun s o ho => loop_ok (stepF := stepEv env_laws_FnEditions loops_laws_FnEditions pat_laws_FnEditions_4 outs_laws_FnEditions_4 Tryz.f3 33) (step_laws_FnEditions_4_eq) ho
  · cases h; exact fun s o ho => loop_ok (stepF := stepEv env_laws_FnEditions loops_laws_FnEditions pat_laws_FnEditions_5 outs_laws_FnEditions_5 Tryz.f3 45) (step_laws_FnEditions_5_eq) ho
  · cases h; exact fun s o ho => loop_ok (stepF := stepEv env_laws_FnEditions loops_laws_FnEditions pat_laws_FnEditions_6 outs_laws_FnEditions_6 Tryz.f3 60) (step_laws_FnEditions_6_eq) ho
  · cases h; exact fun s o ho => by cases ho
  · cases h; exact fun s o ho => by cases ho
  · cases h; exact fun s o ho => by cases ho
  · cases h; exact fun s o ho => by cases ho
  · cases h; exact fun s o ho => by cases ho
  · cases h; exact fun s o ho => by cases ho
  · cases h) F_laws_FnEditions_eq

end Go.Proofs.YtnfngofcdhaaaaaGreat
