/- Contracts of functions of the program, written by a program of this claim. No conditions. -/
import Derived.Test.YtbdnmfiaghhhiaaDoorEvZk
import Derived.Test.YtbdnmfiaghhhiaaDoorRows
import Derived.Shelf.Strings.Search1
import Derived.Lib.AppendIntMem
import Derived.Test.YtbdnmfiaghhhiaaDoorNu
import Derived.Test.YtbdnmfiaghhhiaaDoorShelf
set_option linter.unusedVariables false
set_option maxRecDepth 100000
namespace Go.Proofs.YtbdnmfiaghhhiaaDoor
open Go
theorem mixed : Tryd.prog.follows .mixedOrders = true := by kernel_rfl
noncomputable def F_laws_szIntS (x : (List Int) × Int) : Option (Int) :=
  let v1 := IntKind.i64.wrap (x.2 - (x.1.length : Int))
  bif (decide (v1 < 0)) then
    some ((-1))
  else
    some (v1)
noncomputable def c_laws_szIntS : Con := { ps := [(.val, (.slice (.int .i64))), (.val, (.int .i64))], rs := [(.val, (.int .i64))], F := F_laws_szIntS }
noncomputable def env_laws_szIntS : Env := { par := [], con := fun _ => none, clo := fun _ => none, T := tinf Tryd.prog }
noncomputable def loops_laws_szIntS : Nat → Option Loop := fun n => none
theorem F_laws_szIntS_eq (x : (List Int) × Int) : Fev env_laws_szIntS loops_laws_szIntS c_laws_szIntS.ps c_laws_szIntS.rs Tryd.f35 x = F_laws_szIntS x := by kernel_rfl
theorem env_laws_szIntS_ok : EnvOK Tryd.prog env_laws_szIntS := envOK_of (fun f c h => by cases h) (fun f c h => by cases h) rfl
theorem con_laws_szIntS : ConOK Tryd.prog 35 c_laws_szIntS := con_of_ev' (body := Tryd.f35.body.getD .skip) (Λ := loops_laws_szIntS) mixed Tryd.func35 (by kernel_rfl) (by kernel_rfl) env_laws_szIntS_ok rfl (by kernel_rfl) (fun n L h => by cases h) F_laws_szIntS_eq

noncomputable def F_laws_szProposal (x : (Int × (Int × (ByteArray × (List Int)))) × Int) : Option (Int) :=
  let v1 := IntKind.i64.wrap (x.2 - (x.1.2.2.1.size : Int))
  bif (decide (v1 < 0)) then
    some ((-1))
  else
    match F_laws_szIntS ((x.1.2.2.2, v1)) with
    | none => none
    | some y2 =>
      bif (decide (y2 < 0)) then
        some ((-1))
      else
        some (y2)
noncomputable def c_laws_szProposal : Con := { ps := [(.val, (.st (.pair (.int .i64) (.pair (.int .i64) (.pair .str (.slice (.int .i64))))))), (.val, (.int .i64))], rs := [(.val, (.int .i64))], F := F_laws_szProposal }
noncomputable def env_laws_szProposal : Env := { par := [], con := fun f => match f with | 35 => some c_laws_szIntS | _ => none, clo := fun _ => none, T := tinf Tryd.prog }
noncomputable def loops_laws_szProposal : Nat → Option Loop := fun n => none
theorem F_laws_szProposal_eq (x : (Int × (Int × (ByteArray × (List Int)))) × Int) : Fev env_laws_szProposal loops_laws_szProposal c_laws_szProposal.ps c_laws_szProposal.rs Tryd.f15 x = F_laws_szProposal x := by kernel_rfl
theorem env_laws_szProposal_ok : EnvOK Tryd.prog env_laws_szProposal := envOK_of (fun f c h => by
  simp only [env_laws_szProposal] at h
  split at h
  · cases h; exact con_laws_szIntS
  · cases h) (fun f c h => by cases h) rfl
theorem con_laws_szProposal : ConOK Tryd.prog 15 c_laws_szProposal := con_of_ev' (body := Tryd.f15.body.getD .skip) (Λ := loops_laws_szProposal) mixed Tryd.func15 (by kernel_rfl) (by kernel_rfl) env_laws_szProposal_ok rfl (by kernel_rfl) (fun n L h => by cases h) F_laws_szProposal_eq

noncomputable def step_laws_toIntS_0 (s : (List Int) × Int × (List Int)) : Option (((List Int) × Int × (List Int)) ⊕ (((List Int)))) :=
  bif (decide (s.2.1 < (s.1.length : Int))) then
    bif decide (0 ≤ s.2.1) && decide (s.2.1 < (s.1.length : Int)) then
      bif decide (0 ≤ s.2.1) && decide (s.2.1 < (s.2.2.length : Int)) then
        let v3 := s.2.2.set (s.2.1).toNat ((s.1.getD (s.2.1).toNat 0))
        let v4 := IntKind.i64.wrap (s.2.1 + 1)
        some (.inl ((s.1, v4, v3)))
      else none
    else none
  else
    some (.inr (s.2.2))
def pat_laws_toIntS_0 : Pat := { tmps := [.v (.slice (.int .i64)), .any, .any, .own 448, .v (.int .i64), .any, .any, .any, .any, .any, .any, .any, .any, .any, .any, .any, .any, .any, .any, .any, .any, .any], blks := [(448, .row true (.int .i64))] }
def outs_laws_toIntS_0 : List (Exit × Pat) := [(.exit 0, { tmps := [.any, .any, .any, .own 448, .any, .any, .any, .any, .any, .any, .any, .any, .any, .any, .any, .any, .any, .any, .any, .any, .any, .any], blks := [(448, .row true (.int .i64))] })]
noncomputable def F_laws_toIntS (x : (List Int)) : Option ((List Int)) :=
  bif decide (0 ≤ (x.length : Int)) && decide ((x.length : Int) ≤ (x.length : Int)) && decide ((x.length : Int) * (8 : Int) ≤ 140737488355328) then
    match runL step_laws_toIntS_0 ((x, 0, (List.replicate ((x.length : Int)).toNat (0)))) with
    | none => none
    | some o5 =>
      some (o5)
  else none
noncomputable def c_laws_toIntS : Con := { ps := [(.val, (.slice (.int .i64)))], rs := [(.io true, (.slice (.int .i64)))], F := F_laws_toIntS }
noncomputable def env_laws_toIntS : Env := { par := [], con := fun _ => none, clo := fun _ => none, T := tinf Tryd.prog }
noncomputable def loops_laws_toIntS : Nat → Option Loop := fun n => match n with | 3 => some { pat := pat_laws_toIntS_0, outs := outs_laws_toIntS_0, run := runL (step_laws_toIntS_0) } | _ => none
theorem step_laws_toIntS_0_eq (s : (List Int) × Int × (List Int)) : stepEv env_laws_toIntS loops_laws_toIntS pat_laws_toIntS_0 outs_laws_toIntS_0 Tryd.f38 3 s = step_laws_toIntS_0 s := by kernel_rfl
theorem F_laws_toIntS_eq (x : (List Int)) : Fev env_laws_toIntS loops_laws_toIntS c_laws_toIntS.ps c_laws_toIntS.rs Tryd.f38 x = F_laws_toIntS x := by kernel_rfl
theorem env_laws_toIntS_ok : EnvOK Tryd.prog env_laws_toIntS := envOK_of (fun f c h => by cases h) (fun f c h => by cases h) rfl
theorem con_laws_toIntS : ConOK Tryd.prog 38 c_laws_toIntS := con_of_ev' (body := Tryd.f38.body.getD .skip) (Λ := loops_laws_toIntS) mixed Tryd.func38 (by kernel_rfl) (by kernel_rfl) env_laws_toIntS_ok rfl (by kernel_rfl) (fun n L h => by
  unfold loops_laws_toIntS at h
  split at h
  · cases h; exact fun s o ho => loop_ok (stepF := stepEv env_laws_toIntS loops_laws_toIntS pat_laws_toIntS_0 outs_laws_toIntS_0 Tryd.f38 3) (step_laws_toIntS_0_eq) ho
  · cases h) F_laws_toIntS_eq

noncomputable def F_laws_toProposal (x : (Int × (Int × (ByteArray × (List Int))))) : Option ((Int × (Int × (ByteArray × (List Int))))) :=
  match F_laws_toIntS (x.2.2.2) with
  | none => none
  | some y1 =>
    some ((x.1, (x.2.1, x.2.2.1, y1)))
noncomputable def c_laws_toProposal : Con := { ps := [(.val, (.st (.pair (.int .i64) (.pair (.int .i64) (.pair .str (.slice (.int .i64)))))))], rs := [(.val, (.st (.pair (.int .i64) (.pair (.int .i64) (.pair .str (.slice (.int .i64)))))))], F := F_laws_toProposal }
noncomputable def env_laws_toProposal : Env := { par := [], con := fun f => match f with | 38 => some c_laws_toIntS | _ => none, clo := fun _ => none, T := tinf Tryd.prog }
noncomputable def loops_laws_toProposal : Nat → Option Loop := fun n => none
theorem F_laws_toProposal_eq (x : (Int × (Int × (ByteArray × (List Int))))) : Fev env_laws_toProposal loops_laws_toProposal c_laws_toProposal.ps c_laws_toProposal.rs Tryd.f17 x = F_laws_toProposal x := by kernel_rfl
theorem env_laws_toProposal_ok : EnvOK Tryd.prog env_laws_toProposal := envOK_of (fun f c h => by
  simp only [env_laws_toProposal] at h
  split at h
  · cases h; exact con_laws_toIntS
  · cases h) (fun f c h => by cases h) rfl
theorem con_laws_toProposal : ConOK Tryd.prog 17 c_laws_toProposal := con_of_ev' (body := Tryd.f17.body.getD .skip) (Λ := loops_laws_toProposal) mixed Tryd.func17 (by kernel_rfl) (by kernel_rfl) env_laws_toProposal_ok rfl (by kernel_rfl) (fun n L h => by cases h) F_laws_toProposal_eq

noncomputable def F_spec_l1In (x : Int × Int × Int) : Option (Bool) :=
  bif (decide (x.1 ≥ x.2.1)) then
    some ((decide (x.1 ≤ x.2.2)))
  else
    some (false)
noncomputable def c_spec_l1In : Con := { ps := [(.val, (.int .i64)), (.val, (.int .i64)), (.val, (.int .i64))], rs := [(.val, .bool)], F := F_spec_l1In }
noncomputable def env_spec_l1In : Env := { par := [], con := fun _ => none, clo := fun _ => none, T := tinf Tryd.prog }
noncomputable def loops_spec_l1In : Nat → Option Loop := fun n => none
theorem F_spec_l1In_eq (x : Int × Int × Int) : Fev env_spec_l1In loops_spec_l1In c_spec_l1In.ps c_spec_l1In.rs Tryd.f47 x = F_spec_l1In x := by kernel_rfl
theorem env_spec_l1In_ok : EnvOK Tryd.prog env_spec_l1In := envOK_of (fun f c h => by cases h) (fun f c h => by cases h) rfl
theorem con_spec_l1In : ConOK Tryd.prog 47 c_spec_l1In := con_of_ev' (body := Tryd.f47.body.getD .skip) (Λ := loops_spec_l1In) mixed Tryd.func47 (by kernel_rfl) (by kernel_rfl) env_spec_l1In_ok rfl (by kernel_rfl) (fun n L h => by cases h) F_spec_l1In_eq

noncomputable def step_spec_enGloss_0 (s : ByteArray × Int) : Option ((ByteArray × Int) ⊕ ((Bool) ⊕ (ByteArray))) :=
  bif (decide (s.2 < (s.1.size : Int))) then
    bif decide (0 ≤ s.2) && decide (s.2 < (s.1.size : Int)) then
      bif (decide ((byteAt s.1 (s.2).toNat) < 65)) then
        some (.inr (.inl (false)))
      else
        bif decide (0 ≤ s.2) && decide (s.2 < (s.1.size : Int)) then
          bif (decide ((byteAt s.1 (s.2).toNat) > 90)) then
            some (.inr (.inl (false)))
          else
            let v2 := IntKind.i64.wrap (s.2 + 1)
            some (.inl ((s.1, v2)))
        else none
    else none
  else
    some (.inr (.inr (s.1)))
def pat_spec_enGloss_0 : Pat := { tmps := [.v .str, .any, .any, .v (.int .i64), .any, .any, .any, .any, .any, .any, .any, .any, .any, .any, .any, .any, .any, .any, .any, .any, .any, .any, .any], blks := [] }
def outs_spec_enGloss_0 : List (Exit × Pat) := [(.ret, { tmps := [.any, .any, .v .bool, .any, .any, .any, .any, .any, .any, .any, .any, .any, .any, .any, .any, .any, .any, .any, .any, .any, .any, .any, .any], blks := [] }), (.exit 0, { tmps := [.v .str, .any, .any, .any, .any, .any, .any, .any, .any, .any, .any, .any, .any, .any, .any, .any, .any, .any, .any, .any, .any, .any, .any], blks := [] })]
noncomputable def F_spec_enGloss (x : ByteArray) : Option (Bool) :=
  match runL step_spec_enGloss_0 ((x, 0)) with
  | none => none
  | some (.inl o3) =>
    some (o3)
  | some (.inr o3) =>
    match F_spec_l1In (((o3.size : Int), 1, 8)) with
    | none => none
    | some y4 =>
      some (y4)
noncomputable def c_spec_enGloss : Con := { ps := [(.val, .str)], rs := [(.val, .bool)], F := F_spec_enGloss }
noncomputable def env_spec_enGloss : Env := { par := [], con := fun f => match f with | 47 => some c_spec_l1In | _ => none, clo := fun _ => none, T := tinf Tryd.prog }
noncomputable def loops_spec_enGloss : Nat → Option Loop := fun n => match n with | 2 => some { pat := pat_spec_enGloss_0, outs := outs_spec_enGloss_0, run := runL (step_spec_enGloss_0) } | _ => none
theorem step_spec_enGloss_0_eq (s : ByteArray × Int) : stepEv env_spec_enGloss loops_spec_enGloss pat_spec_enGloss_0 outs_spec_enGloss_0 Tryd.f55 2 s = step_spec_enGloss_0 s := by kernel_rfl
theorem F_spec_enGloss_eq (x : ByteArray) : Fev env_spec_enGloss loops_spec_enGloss c_spec_enGloss.ps c_spec_enGloss.rs Tryd.f55 x = F_spec_enGloss x := by kernel_rfl
theorem env_spec_enGloss_ok : EnvOK Tryd.prog env_spec_enGloss := envOK_of (fun f c h => by
  simp only [env_spec_enGloss] at h
  split at h
  · cases h; exact con_spec_l1In
  · cases h) (fun f c h => by cases h) rfl
theorem con_spec_enGloss : ConOK Tryd.prog 55 c_spec_enGloss := con_of_ev' (body := Tryd.f55.body.getD .skip) (Λ := loops_spec_enGloss) mixed Tryd.func55 (by kernel_rfl) (by kernel_rfl) env_spec_enGloss_ok rfl (by kernel_rfl) (fun n L h => by
  unfold loops_spec_enGloss at h
  split at h
  · cases h; exact fun s o ho => loop_ok (stepF := stepEv env_spec_enGloss loops_spec_enGloss pat_spec_enGloss_0 outs_spec_enGloss_0 Tryd.f55 2) (step_spec_enGloss_0_eq) ho
  · cases h) F_spec_enGloss_eq

noncomputable def step_spec_l1All_0 (s : Int × Int × (List Int) × Int × Int) : Option ((Int × Int × (List Int) × Int × Int) ⊕ ((Bool) ⊕ (Unit))) :=
  bif (decide (s.2.2.2.2 < s.2.2.2.1)) then
    bif decide (0 ≤ s.2.2.2.2) && decide (s.2.2.2.2 < (s.2.2.1.length : Int)) then
      match F_spec_l1In (((s.2.2.1.getD (s.2.2.2.2).toNat 0), s.1, s.2.1)) with
      | none => none
      | some y3 =>
        bif (!y3) then
          some (.inr (.inl (false)))
        else
          let v4 := IntKind.i64.wrap (s.2.2.2.2 + 1)
          some (.inl ((s.1, s.2.1, (s.2.2.1, s.2.2.2.1, v4))))
    else none
  else
    some (.inr (.inr (())))
def pat_spec_l1All_0 : Pat := { tmps := [.any, .v (.int .i64), .v (.int .i64), .any, .any, .any, .any, .any, .any, .v (.slice (.int .i64)), .v (.int .i64), .v (.int .i64), .any, .any, .any, .any, .any, .any, .any, .any, .any], blks := [] }
def outs_spec_l1All_0 : List (Exit × Pat) := [(.ret, { tmps := [.any, .any, .any, .any, .any, .any, .v .bool, .any, .any, .any, .any, .any, .any, .any, .any, .any, .any, .any, .any, .any, .any], blks := [] }), (.exit 0, { tmps := [.any, .any, .any, .any, .any, .any, .any, .any, .any, .any, .any, .any, .any, .any, .any, .any, .any, .any, .any, .any, .any], blks := [] })]
noncomputable def F_spec_l1All (x : (List Int) × Int × Int) : Option (Bool) :=
  match runL step_spec_l1All_0 ((x.2.1, x.2.2, (x.1, (x.1.length : Int), 0))) with
  | none => none
  | some (.inl o5) =>
    some (o5)
  | some (.inr o5) =>
    some (true)
noncomputable def c_spec_l1All : Con := { ps := [(.val, (.slice (.int .i64))), (.val, (.int .i64)), (.val, (.int .i64))], rs := [(.val, .bool)], F := F_spec_l1All }
noncomputable def env_spec_l1All : Env := { par := [], con := fun f => match f with | 47 => some c_spec_l1In | _ => none, clo := fun _ => none, T := tinf Tryd.prog }
noncomputable def loops_spec_l1All : Nat → Option Loop := fun n => match n with | 2 => some { pat := pat_spec_l1All_0, outs := outs_spec_l1All_0, run := runL (step_spec_l1All_0) } | _ => none
theorem step_spec_l1All_0_eq (s : Int × Int × (List Int) × Int × Int) : stepEv env_spec_l1All loops_spec_l1All pat_spec_l1All_0 outs_spec_l1All_0 Tryd.f56 2 s = step_spec_l1All_0 s := by kernel_rfl
theorem F_spec_l1All_eq (x : (List Int) × Int × Int) : Fev env_spec_l1All loops_spec_l1All c_spec_l1All.ps c_spec_l1All.rs Tryd.f56 x = F_spec_l1All x := by kernel_rfl
theorem env_spec_l1All_ok : EnvOK Tryd.prog env_spec_l1All := envOK_of (fun f c h => by
  simp only [env_spec_l1All] at h
  split at h
  · cases h; exact con_spec_l1In
  · cases h) (fun f c h => by cases h) rfl
theorem con_spec_l1All : ConOK Tryd.prog 56 c_spec_l1All := con_of_ev' (body := Tryd.f56.body.getD .skip) (Λ := loops_spec_l1All) mixed Tryd.func56 (by kernel_rfl) (by kernel_rfl) env_spec_l1All_ok rfl (by kernel_rfl) (fun n L h => by
  unfold loops_spec_l1All at h
  split at h
  · cases h; exact fun s o ho => loop_ok (stepF := stepEv env_spec_l1All loops_spec_l1All pat_spec_l1All_0 outs_spec_l1All_0 Tryd.f56 2) (step_spec_l1All_0_eq) ho
  · cases h) F_spec_l1All_eq

noncomputable def F_spec_ofOne (x : (Int × (Int × (ByteArray × (List Int)))) × Int) : Option (Bool) :=
  match F_spec_l1In ((x.1.1, 1, 999)) with
  | none => none
  | some y1 =>
    bif y1 then
      match F_spec_l1In ((x.1.2.1, 0, 1)) with
      | none => none
      | some y2 =>
        bif y2 then
          match F_spec_enGloss (x.1.2.2.1) with
          | none => none
          | some y3 =>
            bif y3 then
              bif (((x.1.2.2.2.length : Int) == x.2)) then
                match F_spec_l1All ((x.1.2.2.2, (-1), 1)) with
                | none => none
                | some y4 =>
                  some (y4)
              else
                some (false)
            else
              some (false)
        else
          some (false)
    else
      some (false)
noncomputable def c_spec_ofOne : Con := { ps := [(.val, (.st (.pair (.int .i64) (.pair (.int .i64) (.pair .str (.slice (.int .i64))))))), (.val, (.int .i64))], rs := [(.val, .bool)], F := F_spec_ofOne }
noncomputable def env_spec_ofOne : Env := { par := [], con := fun f => match f with | 47 => some c_spec_l1In | 55 => some c_spec_enGloss | 56 => some c_spec_l1All | _ => none, clo := fun _ => none, T := tinf Tryd.prog }
noncomputable def loops_spec_ofOne : Nat → Option Loop := fun n => none
theorem F_spec_ofOne_eq (x : (Int × (Int × (ByteArray × (List Int)))) × Int) : Fev env_spec_ofOne loops_spec_ofOne c_spec_ofOne.ps c_spec_ofOne.rs Tryd.f36 x = F_spec_ofOne x := by kernel_rfl
theorem env_spec_ofOne_ok : EnvOK Tryd.prog env_spec_ofOne := envOK_of (fun f c h => by
  simp only [env_spec_ofOne] at h
  split at h
  · cases h; exact con_spec_l1In
  · cases h; exact con_spec_enGloss
  · cases h; exact con_spec_l1All
  · cases h) (fun f c h => by cases h) rfl
theorem con_spec_ofOne : ConOK Tryd.prog 36 c_spec_ofOne := con_of_ev' (body := Tryd.f36.body.getD .skip) (Λ := loops_spec_ofOne) mixed Tryd.func36 (by kernel_rfl) (by kernel_rfl) env_spec_ofOne_ok rfl (by kernel_rfl) (fun n L h => by cases h) F_spec_ofOne_eq


noncomputable def step_spec_ProposalText_0 (s : ByteArray × (List Int) × Int × Int) : Option ((ByteArray × (List Int) × Int × Int) ⊕ ((ByteArray))) :=
  bif (decide (s.2.2.2 < s.2.2.1)) then
    bif decide (0 ≤ s.2.2.2) && decide (s.2.2.2 < (s.2.1.length : Int)) then
      let v7 := IntKind.i64.wrap ((s.2.1.getD (s.2.2.2).toNat 0) + 1)
      let v8 := IntKind.i64.wrap ((s.2.1.getD (s.2.2.2).toNat 0) + 2)
      bif decide (0 ≤ v7) && decide (v7 ≤ v8) && decide (v8 ≤ ((⟨#[110, 46, 121]⟩ : ByteArray).size : Int)) then
        bif decide (s.1.size + ((⟨#[110, 46, 121]⟩ : ByteArray).extract (v7).toNat (v8).toNat).size ≤ 9223372036854775807) then
          let v9 := IntKind.i64.wrap (s.2.2.2 + 1)
          some (.inl (((s.1 ++ ((⟨#[110, 46, 121]⟩ : ByteArray).extract (v7).toNat (v8).toNat)), (s.2.1, s.2.2.1, v9))))
        else none
      else none
    else none
  else
    some (.inr (s.1))
def pat_spec_ProposalText_0 : Pat := { tmps := [.any, .any, .any, .any, .v .str, .any, .any, .any, .any, .any, .any, .any, .any, .any, .any, .any, .any, .any, .any, .any, .any, .any, .any, .any, .any, .any, .any, .any, .any, .any, .any, .any, .any, .any, .v (.slice (.int .i64)), .v (.int .i64), .v (.int .i64), .any, .any, .any, .any, .any, .any, .any, .any, .any, .any, .any, .any], blks := [] }
def outs_spec_ProposalText_0 : List (Exit × Pat) := [(.exit 0, { tmps := [.any, .any, .any, .any, .v .str, .any, .any, .any, .any, .any, .any, .any, .any, .any, .any, .any, .any, .any, .any, .any, .any, .any, .any, .any, .any, .any, .any, .any, .any, .any, .any, .any, .any, .any, .any, .any, .any, .any, .any, .any, .any, .any, .any, .any, .any, .any, .any, .any, .any], blks := [] })]
noncomputable def F_spec_ProposalText (x : (Int × (Int × (ByteArray × (List Int))))) : Option (ByteArray × Bool) :=
  match F_spec_ofOne ((x, (x.2.2.2.length : Int))) with
  | none => none
  | some y1 =>
    bif (!y1) then
      some (((⟨#[]⟩ : ByteArray), false))
    else
      bif (decide ((x.2.2.2.length : Int) > 7)) then
        some (((⟨#[]⟩ : ByteArray), false))
      else
        match F_spec_l1Num (x.1) with
        | none => none
        | some y2 =>
          let v3 := IntKind.i64.wrap (x.2.1 + 1)
          bif decide (0 ≤ x.2.1) && decide (x.2.1 ≤ v3) && decide (v3 ≤ ((⟨#[43, 45]⟩ : ByteArray).size : Int)) then
            bif decide (y2.size + ((⟨#[43, 45]⟩ : ByteArray).extract (x.2.1).toNat (v3).toNat).size ≤ 9223372036854775807) then
              bif decide ((y2 ++ ((⟨#[43, 45]⟩ : ByteArray).extract (x.2.1).toNat (v3).toNat)).size + x.2.2.1.size ≤ 9223372036854775807) then
                bif decide (((y2 ++ ((⟨#[43, 45]⟩ : ByteArray).extract (x.2.1).toNat (v3).toNat)) ++ x.2.2.1).size + (⟨#[32]⟩ : ByteArray).size ≤ 9223372036854775807) then
                  match runL step_spec_ProposalText_0 (((((y2 ++ ((⟨#[43, 45]⟩ : ByteArray).extract (x.2.1).toNat (v3).toNat)) ++ x.2.2.1) ++ (⟨#[32]⟩ : ByteArray)), (x.2.2.2, (x.2.2.2.length : Int), 0))) with
                  | none => none
                  | some o10 =>
                    some ((o10, true))
                else none
              else none
            else none
          else none
noncomputable def c_spec_ProposalText : Con := { ps := [(.val, (.st (.pair (.int .i64) (.pair (.int .i64) (.pair .str (.slice (.int .i64)))))))], rs := [(.val, .str), (.val, .bool)], F := F_spec_ProposalText }
noncomputable def env_spec_ProposalText : Env := { par := [], con := fun f => match f with | 36 => some c_spec_ofOne | 37 => some c_spec_l1Num | _ => none, clo := fun _ => none, T := tinf Tryd.prog }
noncomputable def loops_spec_ProposalText : Nat → Option Loop := fun n => match n with | 5 => some { pat := pat_spec_ProposalText_0, outs := outs_spec_ProposalText_0, run := runL (step_spec_ProposalText_0) } | _ => none
theorem step_spec_ProposalText_0_eq (s : ByteArray × (List Int) × Int × Int) : stepEv env_spec_ProposalText loops_spec_ProposalText pat_spec_ProposalText_0 outs_spec_ProposalText_0 Tryd.f16 5 s = step_spec_ProposalText_0 s := by kernel_rfl
theorem F_spec_ProposalText_eq (x : (Int × (Int × (ByteArray × (List Int))))) : Fev env_spec_ProposalText loops_spec_ProposalText c_spec_ProposalText.ps c_spec_ProposalText.rs Tryd.f16 x = F_spec_ProposalText x := by kernel_rfl
theorem env_spec_ProposalText_ok : EnvOK Tryd.prog env_spec_ProposalText := envOK_of (fun f c h => by
  simp only [env_spec_ProposalText] at h
  split at h
  · cases h; exact con_spec_ofOne
  · cases h; exact con_spec_l1Num
  · cases h) (fun f c h => by cases h) rfl
theorem con_spec_ProposalText : ConOK Tryd.prog 16 c_spec_ProposalText := con_of_ev' (body := Tryd.f16.body.getD .skip) (Λ := loops_spec_ProposalText) mixed Tryd.func16 (by kernel_rfl) (by kernel_rfl) env_spec_ProposalText_ok rfl (by kernel_rfl) (fun n L h => by
  unfold loops_spec_ProposalText at h
  split at h
  · cases h; exact fun s o ho => loop_ok (stepF := stepEv env_spec_ProposalText loops_spec_ProposalText pat_spec_ProposalText_0 outs_spec_ProposalText_0 Tryd.f16 5) (step_spec_ProposalText_0_eq) ho
  · cases h) F_spec_ProposalText_eq

noncomputable def F_impl_within (x : Int × Int × Int) : Option (Bool) :=
  bif (decide (x.1 ≥ x.2.1)) then
    some ((decide (x.1 ≤ x.2.2)))
  else
    some (false)
noncomputable def c_impl_within : Con := { ps := [(.val, (.int .i64)), (.val, (.int .i64)), (.val, (.int .i64))], rs := [(.val, .bool)], F := F_impl_within }
noncomputable def env_impl_within : Env := { par := [], con := fun _ => none, clo := fun _ => none, T := tinf Tryd.prog }
noncomputable def loops_impl_within : Nat → Option Loop := fun n => none
theorem F_impl_within_eq (x : Int × Int × Int) : Fev env_impl_within loops_impl_within c_impl_within.ps c_impl_within.rs Tryd.f48 x = F_impl_within x := by kernel_rfl
theorem env_impl_within_ok : EnvOK Tryd.prog env_impl_within := envOK_of (fun f c h => by cases h) (fun f c h => by cases h) rfl
theorem con_impl_within : ConOK Tryd.prog 48 c_impl_within := con_of_ev' (body := Tryd.f48.body.getD .skip) (Λ := loops_impl_within) mixed Tryd.func48 (by kernel_rfl) (by kernel_rfl) env_impl_within_ok rfl (by kernel_rfl) (fun n L h => by cases h) F_impl_within_eq

set_option maxHeartbeats 1000000 in
theorem calls_strings_IndexByte (s : ByteArray) (c : Int) (w : World) :
    Calls Tryd.prog 81 #[.string s, .int .u8 c] w fun e w' => e = .returned (.int .i64 (Lib.indexByte s.data.toList c.toNat.toUInt8)) ∧ w' = w := by
  go_enter Tryd.func81, Tryd.ntmps81
  go_wp2
  rw [run_callFunc_extern Tryd.func87 (by kernel_rfl) (by kernel_rfl) (by kernel_rfl) (e := Extern.BytealgIndexByte.indexByte) (by kernel_rfl), Lib.run_indexByteString]
  simp only [Result.andThen]
  rw [Oper.upon_value]
  go_wp2
  go_ret
  exact ⟨rfl, rfl⟩
def F_strings_IndexByte (x : ByteArray × Int) : Option Int := some (Lib.indexByte x.1.data.toList x.2.toNat.toUInt8)
def c_strings_IndexByte : Con := { ps := [(.val, .str), (.val, .int .u8)], rs := [(.val, .int .i64)], F := F_strings_IndexByte }
theorem con_strings_IndexByte : ConOK Tryd.prog 81 c_strings_IndexByte := con_of_pure ⟨Tryd.f81, Tryd.func81, by kernel_rfl, by kernel_rfl⟩ rfl rfl fun w x y hy _ => by
  have e : y = Lib.indexByte x.1.data.toList x.2.toNat.toUInt8 := (Option.some.inj hy).symm
  subst e
  refine (calls_strings_IndexByte x.1 x.2 w).mono ?_
  rintro e w' ⟨rfl, rfl⟩
  exact ⟨rfl, Fr.refl _ _⟩

noncomputable def step_impl_hasOnly_0 (s : ByteArray × ByteArray × Int × Int) : Option ((ByteArray × ByteArray × Int × Int) ⊕ ((Bool) ⊕ (Unit))) :=
  bif (decide (s.2.2.2 < s.2.2.1)) then
    bif decide (0 ≤ s.2.2.2) && decide (s.2.2.2 < (s.1.size : Int)) then
      match F_strings_IndexByte ((s.2.1, (byteAt s.1 (s.2.2.2).toNat))) with
      | none => none
      | some y3 =>
        bif (decide (y3 < 0)) then
          some (.inr (.inl (false)))
        else
          let v4 := IntKind.i64.wrap (s.2.2.2 + 1)
          some (.inl ((s.1, (s.2.1, s.2.2.1, v4))))
    else none
  else
    some (.inr (.inr (())))
def pat_impl_hasOnly_0 : Pat := { tmps := [.v .str, .v .str, .any, .any, .any, .any, .any, .v (.int .i64), .v (.int .i64), .any, .any, .any, .any, .any, .any, .any, .any, .any], blks := [] }
def outs_impl_hasOnly_0 : List (Exit × Pat) := [(.ret, { tmps := [.any, .any, .any, .any, .v .bool, .any, .any, .any, .any, .any, .any, .any, .any, .any, .any, .any, .any, .any], blks := [] }), (.exit 0, { tmps := [.any, .any, .any, .any, .any, .any, .any, .any, .any, .any, .any, .any, .any, .any, .any, .any, .any, .any], blks := [] })]
noncomputable def F_impl_hasOnly (x : ByteArray × ByteArray) : Option (Bool) :=
  match runL step_impl_hasOnly_0 ((x.1, (x.2, (x.1.size : Int), 0))) with
  | none => none
  | some (.inl o5) =>
    some (o5)
  | some (.inr o5) =>
    some (true)
noncomputable def c_impl_hasOnly : Con := { ps := [(.val, .str), (.val, .str)], rs := [(.val, .bool)], F := F_impl_hasOnly }
noncomputable def env_impl_hasOnly : Env := { par := [], con := fun f => match f with | 81 => some c_strings_IndexByte | _ => none, clo := fun _ => none, T := tinf Tryd.prog }
noncomputable def loops_impl_hasOnly : Nat → Option Loop := fun n => match n with | 2 => some { pat := pat_impl_hasOnly_0, outs := outs_impl_hasOnly_0, run := runL (step_impl_hasOnly_0) } | _ => none
theorem step_impl_hasOnly_0_eq (s : ByteArray × ByteArray × Int × Int) : stepEv env_impl_hasOnly loops_impl_hasOnly pat_impl_hasOnly_0 outs_impl_hasOnly_0 Tryd.f70 2 s = step_impl_hasOnly_0 s := by kernel_rfl
theorem F_impl_hasOnly_eq (x : ByteArray × ByteArray) : Fev env_impl_hasOnly loops_impl_hasOnly c_impl_hasOnly.ps c_impl_hasOnly.rs Tryd.f70 x = F_impl_hasOnly x := by kernel_rfl
theorem env_impl_hasOnly_ok : EnvOK Tryd.prog env_impl_hasOnly := envOK_of (fun f c h => by
  simp only [env_impl_hasOnly] at h
  split at h
  · cases h; exact con_strings_IndexByte
  · cases h) (fun f c h => by cases h) rfl
theorem con_impl_hasOnly : ConOK Tryd.prog 70 c_impl_hasOnly := con_of_ev' (body := Tryd.f70.body.getD .skip) (Λ := loops_impl_hasOnly) mixed Tryd.func70 (by kernel_rfl) (by kernel_rfl) env_impl_hasOnly_ok rfl (by kernel_rfl) (fun n L h => by
  unfold loops_impl_hasOnly at h
  split at h
  · cases h; exact fun s o ho => loop_ok (stepF := stepEv env_impl_hasOnly loops_impl_hasOnly pat_impl_hasOnly_0 outs_impl_hasOnly_0 Tryd.f70 2) (step_impl_hasOnly_0_eq) ho
  · cases h) F_impl_hasOnly_eq

noncomputable def F_impl_isWordOf (x : ByteArray × ByteArray) : Option (Bool) :=
  match F_impl_within (((x.1.size : Int), 1, 8)) with
  | none => none
  | some y1 =>
    bif y1 then
      match F_impl_hasOnly (x) with
      | none => none
      | some y2 =>
        some (y2)
    else
      some (false)
noncomputable def c_impl_isWordOf : Con := { ps := [(.val, .str), (.val, .str)], rs := [(.val, .bool)], F := F_impl_isWordOf }
noncomputable def env_impl_isWordOf : Env := { par := [], con := fun f => match f with | 48 => some c_impl_within | 70 => some c_impl_hasOnly | _ => none, clo := fun _ => none, T := tinf Tryd.prog }
noncomputable def loops_impl_isWordOf : Nat → Option Loop := fun n => none
theorem F_impl_isWordOf_eq (x : ByteArray × ByteArray) : Fev env_impl_isWordOf loops_impl_isWordOf c_impl_isWordOf.ps c_impl_isWordOf.rs Tryd.f64 x = F_impl_isWordOf x := by kernel_rfl
theorem env_impl_isWordOf_ok : EnvOK Tryd.prog env_impl_isWordOf := envOK_of (fun f c h => by
  simp only [env_impl_isWordOf] at h
  split at h
  · cases h; exact con_impl_within
  · cases h; exact con_impl_hasOnly
  · cases h) (fun f c h => by cases h) rfl
theorem con_impl_isWordOf : ConOK Tryd.prog 64 c_impl_isWordOf := con_of_ev' (body := Tryd.f64.body.getD .skip) (Λ := loops_impl_isWordOf) mixed Tryd.func64 (by kernel_rfl) (by kernel_rfl) env_impl_isWordOf_ok rfl (by kernel_rfl) (fun n L h => by cases h) F_impl_isWordOf_eq

noncomputable def F_impl_IsGloss (x : ByteArray) : Option (Bool) :=
  match F_impl_isWordOf ((x, (⟨#[65, 66, 67, 68, 69, 70, 71, 72, 73, 74, 75, 76, 77, 78, 79, 80, 81, 82, 83, 84, 85, 86, 87, 88, 89, 90]⟩ : ByteArray))) with
  | none => none
  | some y1 =>
    some (y1)
noncomputable def c_impl_IsGloss : Con := { ps := [(.val, .str)], rs := [(.val, .bool)], F := F_impl_IsGloss }
noncomputable def env_impl_IsGloss : Env := { par := [], con := fun f => match f with | 64 => some c_impl_isWordOf | _ => none, clo := fun _ => none, T := tinf Tryd.prog }
noncomputable def loops_impl_IsGloss : Nat → Option Loop := fun n => none
theorem F_impl_IsGloss_eq (x : ByteArray) : Fev env_impl_IsGloss loops_impl_IsGloss c_impl_IsGloss.ps c_impl_IsGloss.rs Tryd.f54 x = F_impl_IsGloss x := by kernel_rfl
theorem env_impl_IsGloss_ok : EnvOK Tryd.prog env_impl_IsGloss := envOK_of (fun f c h => by
  simp only [env_impl_IsGloss] at h
  split at h
  · cases h; exact con_impl_isWordOf
  · cases h) (fun f c h => by cases h) rfl
theorem con_impl_IsGloss : ConOK Tryd.prog 54 c_impl_IsGloss := con_of_ev' (body := Tryd.f54.body.getD .skip) (Λ := loops_impl_IsGloss) mixed Tryd.func54 (by kernel_rfl) (by kernel_rfl) env_impl_IsGloss_ok rfl (by kernel_rfl) (fun n L h => by cases h) F_impl_IsGloss_eq

noncomputable def F_impl_allWithin_1 (x : Int × Int × Int) : Option (Bool) :=
  match F_impl_within (x) with
  | none => none
  | some y1 =>
    some ((!y1))
noncomputable def c_impl_allWithin_1 : Con := { ps := [(.val, (.int .i64)), (.val, (.ptr (.int .i64))), (.val, (.ptr (.int .i64)))], rs := [(.val, .bool)], F := F_impl_allWithin_1 }
noncomputable def env_impl_allWithin_1 : Env := { par := [], con := fun f => match f with | 48 => some c_impl_within | _ => none, clo := fun _ => none, T := tinf Tryd.prog }
noncomputable def loops_impl_allWithin_1 : Nat → Option Loop := fun n => none
theorem F_impl_allWithin_1_eq (x : Int × Int × Int) : Fev env_impl_allWithin_1 loops_impl_allWithin_1 c_impl_allWithin_1.ps c_impl_allWithin_1.rs Tryd.f66 x = F_impl_allWithin_1 x := by kernel_rfl
theorem env_impl_allWithin_1_ok : EnvOK Tryd.prog env_impl_allWithin_1 := envOK_of (fun f c h => by
  simp only [env_impl_allWithin_1] at h
  split at h
  · cases h; exact con_impl_within
  · cases h) (fun f c h => by cases h) rfl
theorem con_impl_allWithin_1 : ConOK Tryd.prog 66 c_impl_allWithin_1 := con_of_ev' (body := Tryd.f66.body.getD .skip) (Λ := loops_impl_allWithin_1) mixed Tryd.func66 (by kernel_rfl) (by kernel_rfl) env_impl_allWithin_1_ok rfl (by kernel_rfl) (fun n L h => by cases h) F_impl_allWithin_1_eq

noncomputable def step_slices_IndexFunc_int_int_0 (s : (List Int) × (Int → Option Bool) × Int × Int) : Option (((List Int) × (Int → Option Bool) × Int × Int) ⊕ ((Int) ⊕ (Unit))) :=
  bif (decide (s.2.2.2 < s.2.2.1)) then
    bif decide (0 ≤ s.2.2.2) && decide (s.2.2.2 < (s.1.length : Int)) then
      match s.2.1 ((s.1.getD (s.2.2.2).toNat 0)) with
      | none => none
      | some y3 =>
        bif y3 then
          some (.inr (.inl (s.2.2.2)))
        else
          let v4 := IntKind.i64.wrap (s.2.2.2 + 1)
          some (.inl ((s.1, (s.2.1, s.2.2.1, v4))))
    else none
  else
    some (.inr (.inr (())))
def pat_slices_IndexFunc_int_int_0 : Pat := { tmps := [.v (.slice (.int .i64)), .v (.fn (.int .i64) .bool), .any, .any, .any, .any, .any, .v (.int .i64), .v (.int .i64), .any, .any, .any, .any, .any, .any, .any, .any, .any, .any], blks := [] }
def outs_slices_IndexFunc_int_int_0 : List (Exit × Pat) := [(.ret, { tmps := [.any, .any, .any, .any, .v (.int .i64), .any, .any, .any, .any, .any, .any, .any, .any, .any, .any, .any, .any, .any, .any], blks := [] }), (.exit 0, { tmps := [.any, .any, .any, .any, .any, .any, .any, .any, .any, .any, .any, .any, .any, .any, .any, .any, .any, .any, .any], blks := [] })]
noncomputable def F_slices_IndexFunc_int_int (x : (List Int) × (Int → Option Bool)) : Option (Int) :=
  match runL step_slices_IndexFunc_int_int_0 ((x.1, (x.2, (x.1.length : Int), 0))) with
  | none => none
  | some (.inl o5) =>
    some (o5)
  | some (.inr o5) =>
    some ((-1))
noncomputable def c_slices_IndexFunc_int_int : Con := { ps := [(.val, (.slice (.int .i64))), (.val, (.fn (.int .i64) .bool))], rs := [(.val, (.int .i64))], F := F_slices_IndexFunc_int_int }
noncomputable def env_slices_IndexFunc_int_int : Env := { par := [], con := fun _ => none, clo := fun _ => none, T := tinf Tryd.prog }
noncomputable def loops_slices_IndexFunc_int_int : Nat → Option Loop := fun n => match n with | 2 => some { pat := pat_slices_IndexFunc_int_int_0, outs := outs_slices_IndexFunc_int_int_0, run := runL (step_slices_IndexFunc_int_int_0) } | _ => none
theorem step_slices_IndexFunc_int_int_0_eq (s : (List Int) × (Int → Option Bool) × Int × Int) : stepEv env_slices_IndexFunc_int_int loops_slices_IndexFunc_int_int pat_slices_IndexFunc_int_int_0 outs_slices_IndexFunc_int_int_0 Tryd.f71 2 s = step_slices_IndexFunc_int_int_0 s := by kernel_rfl
theorem F_slices_IndexFunc_int_int_eq (x : (List Int) × (Int → Option Bool)) : Fev env_slices_IndexFunc_int_int loops_slices_IndexFunc_int_int c_slices_IndexFunc_int_int.ps c_slices_IndexFunc_int_int.rs Tryd.f71 x = F_slices_IndexFunc_int_int x := by kernel_rfl
theorem env_slices_IndexFunc_int_int_ok : EnvOK Tryd.prog env_slices_IndexFunc_int_int := envOK_of (fun f c h => by cases h) (fun f c h => by cases h) rfl
theorem con_slices_IndexFunc_int_int : ConOK Tryd.prog 71 c_slices_IndexFunc_int_int := con_of_ev' (body := Tryd.f71.body.getD .skip) (Λ := loops_slices_IndexFunc_int_int) mixed Tryd.func71 (by kernel_rfl) (by kernel_rfl) env_slices_IndexFunc_int_int_ok rfl (by kernel_rfl) (fun n L h => by
  unfold loops_slices_IndexFunc_int_int at h
  split at h
  · cases h; exact fun s o ho => loop_ok (stepF := stepEv env_slices_IndexFunc_int_int loops_slices_IndexFunc_int_int pat_slices_IndexFunc_int_int_0 outs_slices_IndexFunc_int_int_0 Tryd.f71 2) (step_slices_IndexFunc_int_int_0_eq) ho
  · cases h) F_slices_IndexFunc_int_int_eq

noncomputable def F_slices_ContainsFunc_int_int (x : (List Int) × (Int → Option Bool)) : Option (Bool) :=
  match F_slices_IndexFunc_int_int (x) with
  | none => none
  | some y1 =>
    some ((decide (y1 ≥ 0)))
noncomputable def c_slices_ContainsFunc_int_int : Con := { ps := [(.val, (.slice (.int .i64))), (.val, (.fn (.int .i64) .bool))], rs := [(.val, .bool)], F := F_slices_ContainsFunc_int_int }
noncomputable def env_slices_ContainsFunc_int_int : Env := { par := [], con := fun f => match f with | 71 => some c_slices_IndexFunc_int_int | _ => none, clo := fun _ => none, T := tinf Tryd.prog }
noncomputable def loops_slices_ContainsFunc_int_int : Nat → Option Loop := fun n => none
theorem F_slices_ContainsFunc_int_int_eq (x : (List Int) × (Int → Option Bool)) : Fev env_slices_ContainsFunc_int_int loops_slices_ContainsFunc_int_int c_slices_ContainsFunc_int_int.ps c_slices_ContainsFunc_int_int.rs Tryd.f65 x = F_slices_ContainsFunc_int_int x := by kernel_rfl
theorem env_slices_ContainsFunc_int_int_ok : EnvOK Tryd.prog env_slices_ContainsFunc_int_int := envOK_of (fun f c h => by
  simp only [env_slices_ContainsFunc_int_int] at h
  split at h
  · cases h; exact con_slices_IndexFunc_int_int
  · cases h) (fun f c h => by cases h) rfl
theorem con_slices_ContainsFunc_int_int : ConOK Tryd.prog 65 c_slices_ContainsFunc_int_int := con_of_ev' (body := Tryd.f65.body.getD .skip) (Λ := loops_slices_ContainsFunc_int_int) mixed Tryd.func65 (by kernel_rfl) (by kernel_rfl) env_slices_ContainsFunc_int_int_ok rfl (by kernel_rfl) (fun n L h => by cases h) F_slices_ContainsFunc_int_int_eq

noncomputable def K_impl_allWithin_1 (q : Int × Int) (x : Int) : Option (Bool) := F_impl_allWithin_1 (x, q)
noncomputable def k_impl_allWithin_1 : CloCon := { caps := [(.int .i64), (.int .i64)], a := (.int .i64), r := .bool, F := K_impl_allWithin_1 }
theorem clo_impl_allWithin_1 : CloOK Tryd.prog 66 k_impl_allWithin_1 := clo_of_con k_impl_allWithin_1 F_impl_allWithin_1 con_impl_allWithin_1 rfl (fun kx x y h => ⟨y, h, rfl⟩)
noncomputable def F_impl_allWithin (x : (List Int) × Int × Int) : Option (Bool) :=
  match F_slices_ContainsFunc_int_int ((x.1, (K_impl_allWithin_1 x.2))) with
  | none => none
  | some y1 =>
    some ((!y1))
noncomputable def c_impl_allWithin : Con := { ps := [(.val, (.slice (.int .i64))), (.val, (.int .i64)), (.val, (.int .i64))], rs := [(.val, .bool)], F := F_impl_allWithin }
noncomputable def env_impl_allWithin : Env := { par := [], con := fun f => match f with | 65 => some c_slices_ContainsFunc_int_int | _ => none, clo := fun f => match f with | 66 => some k_impl_allWithin_1 | _ => none, T := tinf Tryd.prog }
noncomputable def loops_impl_allWithin : Nat → Option Loop := fun n => none
theorem F_impl_allWithin_eq (x : (List Int) × Int × Int) : Fev env_impl_allWithin loops_impl_allWithin c_impl_allWithin.ps c_impl_allWithin.rs Tryd.f57 x = F_impl_allWithin x := by kernel_rfl
theorem env_impl_allWithin_ok : EnvOK Tryd.prog env_impl_allWithin := envOK_of (fun f c h => by
  simp only [env_impl_allWithin] at h
  split at h
  · cases h; exact con_slices_ContainsFunc_int_int
  · cases h) (fun f c h => by
  simp only [env_impl_allWithin] at h
  split at h
  · cases h; exact clo_impl_allWithin_1
  · cases h) rfl
theorem con_impl_allWithin : ConOK Tryd.prog 57 c_impl_allWithin := con_of_ev' (body := Tryd.f57.body.getD .skip) (Λ := loops_impl_allWithin) mixed Tryd.func57 (by kernel_rfl) (by kernel_rfl) env_impl_allWithin_ok rfl (by kernel_rfl) (fun n L h => by cases h) F_impl_allWithin_eq

noncomputable def F_impl_isProposal (x : (Int × (Int × (ByteArray × (List Int))))) : Option (Bool) :=
  match F_impl_within ((x.1, 1, 999)) with
  | none => none
  | some y1 =>
    bif y1 then
      match F_impl_within ((x.2.1, 0, 1)) with
      | none => none
      | some y2 =>
        bif y2 then
          match F_impl_IsGloss (x.2.2.1) with
          | none => none
          | some y3 =>
            bif y3 then
              bif (decide ((x.2.2.2.length : Int) ≤ 7)) then
                match F_impl_allWithin ((x.2.2.2, (-1), 1)) with
                | none => none
                | some y4 =>
                  some (y4)
              else
                some (false)
            else
              some (false)
        else
          some (false)
    else
      some (false)
noncomputable def c_impl_isProposal : Con := { ps := [(.val, (.st (.pair (.int .i64) (.pair (.int .i64) (.pair .str (.slice (.int .i64)))))))], rs := [(.val, .bool)], F := F_impl_isProposal }
noncomputable def env_impl_isProposal : Env := { par := [], con := fun f => match f with | 48 => some c_impl_within | 54 => some c_impl_IsGloss | 57 => some c_impl_allWithin | _ => none, clo := fun _ => none, T := tinf Tryd.prog }
noncomputable def loops_impl_isProposal : Nat → Option Loop := fun n => none
theorem F_impl_isProposal_eq (x : (Int × (Int × (ByteArray × (List Int))))) : Fev env_impl_isProposal loops_impl_isProposal c_impl_isProposal.ps c_impl_isProposal.rs Tryd.f39 x = F_impl_isProposal x := by kernel_rfl
theorem env_impl_isProposal_ok : EnvOK Tryd.prog env_impl_isProposal := envOK_of (fun f c h => by
  simp only [env_impl_isProposal] at h
  split at h
  · cases h; exact con_impl_within
  · cases h; exact con_impl_IsGloss
  · cases h; exact con_impl_allWithin
  · cases h) (fun f c h => by cases h) rfl
theorem con_impl_isProposal : ConOK Tryd.prog 39 c_impl_isProposal := con_of_ev' (body := Tryd.f39.body.getD .skip) (Λ := loops_impl_isProposal) mixed Tryd.func39 (by kernel_rfl) (by kernel_rfl) env_impl_isProposal_ok rfl (by kernel_rfl) (fun n L h => by cases h) F_impl_isProposal_eq

theorem Itoa_ex : ∃ f : Int → Option ByteArray, f = fun n => bif decide (-9223372036854775808 ≤ n) && decide (n ≤ 9223372036854775807) then some ⟨(Lib.itoa n).toArray⟩ else none := ⟨_, rfl⟩
noncomputable def F_strconv_Itoa : Int → Option ByteArray := Classical.choose Itoa_ex
theorem F_strconv_Itoa_is (n : Int) : F_strconv_Itoa n = bif decide (-9223372036854775808 ≤ n) && decide (n ≤ 9223372036854775807) then some ⟨(Lib.itoa n).toArray⟩ else none := congrFun (Classical.choose_spec Itoa_ex) n
noncomputable def c_strconv_Itoa : Con := { ps := [(.val, .int .i64)], rs := [(.val, .str)], F := F_strconv_Itoa }
theorem calls_F_strconv_Itoa (w : World) (x : Int) (y : ByteArray) (hy : F_strconv_Itoa x = some y) (ht : Tabs Tryd.prog w) : Calls Tryd.prog 40 #[.int .i64 x] w fun e w' => e = .returned (.string y) ∧ Fr NoB w w' := by
  rw [F_strconv_Itoa_is] at hy
  obtain ⟨hg, hy⟩ := bif_none hy
  obtain ⟨h0, h1⟩ := and_b hg
  have h0 : -9223372036854775808 ≤ x := of_decide_eq_true h0
  have h1 : x ≤ 9223372036854775807 := of_decide_eq_true h1
  have e : y = ⟨(Lib.itoa x).toArray⟩ := (Option.some.inj hy).symm
  subst e
  refine (Tryd.strconv_Itoa x h0 h1 w (ht.1 _ (List.mem_cons_self ..)).2).mono ?_
  rintro e w' ⟨rfl, k, os, rfl⟩
  exact ⟨rfl, fr_of_below (Go.Lib.below_grow _ _ (Nat.le_refl _) k os)⟩
theorem con_strconv_Itoa : ConOK Tryd.prog 40 c_strconv_Itoa := con_of_pure ⟨Tryd.f40, Tryd.func40, by kernel_rfl, by kernel_rfl⟩ rfl rfl fun w x y hy ht => calls_F_strconv_Itoa w x y hy ht

noncomputable def step_impl_ProposalText_0 (s : ByteArray × (List Int) × Int × Int) : Option ((ByteArray × (List Int) × Int × Int) ⊕ ((ByteArray))) :=
  bif (decide (s.2.2.2 < s.2.2.1)) then
    bif decide (0 ≤ s.2.2.2) && decide (s.2.2.2 < (s.2.1.length : Int)) then
      let v5 := IntKind.i64.wrap ((s.2.1.getD (s.2.2.2).toNat 0) + 1)
      bif decide (0 ≤ v5) && decide (v5 < (3 : Int)) then
        bif decide (s.1.size + ([(⟨#[110]⟩ : ByteArray), (⟨#[46]⟩ : ByteArray), (⟨#[121]⟩ : ByteArray)].getD (v5).toNat ByteArray.empty).size ≤ 9223372036854775807) then
          let v6 := IntKind.i64.wrap (s.2.2.2 + 1)
          some (.inl (((s.1 ++ ([(⟨#[110]⟩ : ByteArray), (⟨#[46]⟩ : ByteArray), (⟨#[121]⟩ : ByteArray)].getD (v5).toNat ByteArray.empty)), (s.2.1, s.2.2.1, v6))))
        else none
      else none
    else none
  else
    some (.inr (s.1))
def pat_impl_ProposalText_0 : Pat := { tmps := [.any, .any, .any, .any, .v .str, .any, .any, .any, .any, .any, .any, .any, .any, .any, .any, .any, .any, .any, .any, .any, .any, .any, .any, .v (.slice (.int .i64)), .v (.int .i64), .v (.int .i64), .any, .any, .any, .any, .any, .any, .any, .any, .any, .any, .any], blks := [] }
def outs_impl_ProposalText_0 : List (Exit × Pat) := [(.exit 0, { tmps := [.any, .any, .any, .any, .v .str, .any, .any, .any, .any, .any, .any, .any, .any, .any, .any, .any, .any, .any, .any, .any, .any, .any, .any, .any, .any, .any, .any, .any, .any, .any, .any, .any, .any, .any, .any, .any, .any], blks := [] })]
noncomputable def F_impl_ProposalText (x : (Int × (Int × (ByteArray × (List Int))))) : Option (ByteArray × Bool) :=
  match F_impl_isProposal (x) with
  | none => none
  | some y1 =>
    bif (!y1) then
      some (((⟨#[]⟩ : ByteArray), false))
    else
      match F_strconv_Itoa (x.1) with
      | none => none
      | some y2 =>
        bif decide (0 ≤ x.2.1) && decide (x.2.1 < (2 : Int)) then
          bif decide (y2.size + ([(⟨#[43]⟩ : ByteArray), (⟨#[45]⟩ : ByteArray)].getD (x.2.1).toNat ByteArray.empty).size ≤ 9223372036854775807) then
            bif decide ((y2 ++ ([(⟨#[43]⟩ : ByteArray), (⟨#[45]⟩ : ByteArray)].getD (x.2.1).toNat ByteArray.empty)).size + x.2.2.1.size ≤ 9223372036854775807) then
              bif decide (((y2 ++ ([(⟨#[43]⟩ : ByteArray), (⟨#[45]⟩ : ByteArray)].getD (x.2.1).toNat ByteArray.empty)) ++ x.2.2.1).size + (⟨#[32]⟩ : ByteArray).size ≤ 9223372036854775807) then
                match runL step_impl_ProposalText_0 (((((y2 ++ ([(⟨#[43]⟩ : ByteArray), (⟨#[45]⟩ : ByteArray)].getD (x.2.1).toNat ByteArray.empty)) ++ x.2.2.1) ++ (⟨#[32]⟩ : ByteArray)), (x.2.2.2, (x.2.2.2.length : Int), 0))) with
                | none => none
                | some o7 =>
                  some ((o7, true))
              else none
            else none
          else none
        else none
noncomputable def c_impl_ProposalText : Con := { ps := [(.val, (.st (.pair (.int .i64) (.pair (.int .i64) (.pair .str (.slice (.int .i64)))))))], rs := [(.val, .str), (.val, .bool)], F := F_impl_ProposalText }
noncomputable def env_impl_ProposalText : Env := { par := [], con := fun f => match f with | 39 => some c_impl_isProposal | 40 => some c_strconv_Itoa | _ => none, clo := fun _ => none, T := tinf Tryd.prog }
noncomputable def loops_impl_ProposalText : Nat → Option Loop := fun n => match n with | 5 => some { pat := pat_impl_ProposalText_0, outs := outs_impl_ProposalText_0, run := runL (step_impl_ProposalText_0) } | _ => none
theorem step_impl_ProposalText_0_eq (s : ByteArray × (List Int) × Int × Int) : stepEv env_impl_ProposalText loops_impl_ProposalText pat_impl_ProposalText_0 outs_impl_ProposalText_0 Tryd.f18 5 s = step_impl_ProposalText_0 s := by kernel_rfl
theorem F_impl_ProposalText_eq (x : (Int × (Int × (ByteArray × (List Int))))) : Fev env_impl_ProposalText loops_impl_ProposalText c_impl_ProposalText.ps c_impl_ProposalText.rs Tryd.f18 x = F_impl_ProposalText x := by kernel_rfl
theorem env_impl_ProposalText_ok : EnvOK Tryd.prog env_impl_ProposalText := envOK_of (fun f c h => by
  simp only [env_impl_ProposalText] at h
  split at h
  · cases h; exact con_impl_isProposal
  · cases h; exact con_strconv_Itoa
  · cases h) (fun f c h => by cases h) rfl
theorem con_impl_ProposalText : ConOK Tryd.prog 18 c_impl_ProposalText := con_of_ev' (body := Tryd.f18.body.getD .skip) (Λ := loops_impl_ProposalText) mixed Tryd.func18 (by kernel_rfl) (by kernel_rfl) env_impl_ProposalText_ok rfl (by kernel_rfl) (fun n L h => by
  unfold loops_impl_ProposalText at h
  split at h
  · cases h; exact fun s o ho => loop_ok (stepF := stepEv env_impl_ProposalText loops_impl_ProposalText pat_impl_ProposalText_0 outs_impl_ProposalText_0 Tryd.f18 5) (step_impl_ProposalText_0_eq) ho
  · cases h) F_impl_ProposalText_eq

noncomputable def step_laws_eqIntS_0 (s : (List Int) × (List Int) × Int) : Option (((List Int) × (List Int) × Int) ⊕ ((Bool) ⊕ (Unit))) :=
  bif (decide (s.2.2 < (s.1.length : Int))) then
    bif decide (0 ≤ s.2.2) && decide (s.2.2 < (s.1.length : Int)) then
      bif decide (0 ≤ s.2.2) && decide (s.2.2 < (s.2.1.length : Int)) then
        bif (((s.1.getD (s.2.2).toNat 0) != (s.2.1.getD (s.2.2).toNat 0))) then
          some (.inr (.inl (false)))
        else
          let v2 := IntKind.i64.wrap (s.2.2 + 1)
          some (.inl ((s.1, s.2.1, v2)))
      else none
    else none
  else
    some (.inr (.inr (())))
def pat_laws_eqIntS_0 : Pat := { tmps := [.v (.slice (.int .i64)), .v (.slice (.int .i64)), .any, .any, .any, .v (.int .i64), .any, .any, .any, .any, .any, .any, .any, .any, .any, .any, .any, .any, .any, .any, .any, .any, .any, .any, .any, .any], blks := [] }
def outs_laws_eqIntS_0 : List (Exit × Pat) := [(.ret, { tmps := [.any, .any, .any, .any, .v .bool, .any, .any, .any, .any, .any, .any, .any, .any, .any, .any, .any, .any, .any, .any, .any, .any, .any, .any, .any, .any, .any], blks := [] }), (.exit 0, { tmps := [.any, .any, .any, .any, .any, .any, .any, .any, .any, .any, .any, .any, .any, .any, .any, .any, .any, .any, .any, .any, .any, .any, .any, .any, .any, .any], blks := [] })]
noncomputable def F_laws_eqIntS (x : (List Int) × (List Int)) : Option (Bool) :=
  bif (((x.1.length : Int) != (x.2.length : Int))) then
    some (false)
  else
    match runL step_laws_eqIntS_0 ((x.1, x.2, 0)) with
    | none => none
    | some (.inl o3) =>
      some (o3)
    | some (.inr o3) =>
      some (true)
noncomputable def c_laws_eqIntS : Con := { ps := [(.val, (.slice (.int .i64))), (.val, (.slice (.int .i64)))], rs := [(.val, .bool)], F := F_laws_eqIntS }
noncomputable def env_laws_eqIntS : Env := { par := [], con := fun _ => none, clo := fun _ => none, T := tinf Tryd.prog }
noncomputable def loops_laws_eqIntS : Nat → Option Loop := fun n => match n with | 4 => some { pat := pat_laws_eqIntS_0, outs := outs_laws_eqIntS_0, run := runL (step_laws_eqIntS_0) } | _ => none
theorem step_laws_eqIntS_0_eq (s : (List Int) × (List Int) × Int) : stepEv env_laws_eqIntS loops_laws_eqIntS pat_laws_eqIntS_0 outs_laws_eqIntS_0 Tryd.f41 4 s = step_laws_eqIntS_0 s := by kernel_rfl
theorem F_laws_eqIntS_eq (x : (List Int) × (List Int)) : Fev env_laws_eqIntS loops_laws_eqIntS c_laws_eqIntS.ps c_laws_eqIntS.rs Tryd.f41 x = F_laws_eqIntS x := by kernel_rfl
theorem env_laws_eqIntS_ok : EnvOK Tryd.prog env_laws_eqIntS := envOK_of (fun f c h => by cases h) (fun f c h => by cases h) rfl
theorem con_laws_eqIntS : ConOK Tryd.prog 41 c_laws_eqIntS := con_of_ev' (body := Tryd.f41.body.getD .skip) (Λ := loops_laws_eqIntS) mixed Tryd.func41 (by kernel_rfl) (by kernel_rfl) env_laws_eqIntS_ok rfl (by kernel_rfl) (fun n L h => by
  unfold loops_laws_eqIntS at h
  split at h
  · cases h; exact fun s o ho => loop_ok (stepF := stepEv env_laws_eqIntS loops_laws_eqIntS pat_laws_eqIntS_0 outs_laws_eqIntS_0 Tryd.f41 4) (step_laws_eqIntS_0_eq) ho
  · cases h) F_laws_eqIntS_eq

noncomputable def F_laws_eqProposal (x : (Int × (Int × (ByteArray × (List Int)))) × (Int × (Int × (ByteArray × (List Int))))) : Option (Bool) :=
  bif ((x.1.1 != x.2.1)) then
    some (false)
  else
    bif ((x.1.2.1 != x.2.2.1)) then
      some (false)
    else
      bif (!(x.1.2.2.1.toList == x.2.2.2.1.toList)) then
        some (false)
      else
        match F_laws_eqIntS ((x.1.2.2.2, x.2.2.2.2)) with
        | none => none
        | some y1 =>
          bif (!y1) then
            some (false)
          else
            some (true)
noncomputable def c_laws_eqProposal : Con := { ps := [(.val, (.st (.pair (.int .i64) (.pair (.int .i64) (.pair .str (.slice (.int .i64))))))), (.val, (.st (.pair (.int .i64) (.pair (.int .i64) (.pair .str (.slice (.int .i64)))))))], rs := [(.val, .bool)], F := F_laws_eqProposal }
noncomputable def env_laws_eqProposal : Env := { par := [], con := fun f => match f with | 41 => some c_laws_eqIntS | _ => none, clo := fun _ => none, T := tinf Tryd.prog }
noncomputable def loops_laws_eqProposal : Nat → Option Loop := fun n => none
theorem F_laws_eqProposal_eq (x : (Int × (Int × (ByteArray × (List Int)))) × (Int × (Int × (ByteArray × (List Int))))) : Fev env_laws_eqProposal loops_laws_eqProposal c_laws_eqProposal.ps c_laws_eqProposal.rs Tryd.f19 x = F_laws_eqProposal x := by kernel_rfl
theorem env_laws_eqProposal_ok : EnvOK Tryd.prog env_laws_eqProposal := envOK_of (fun f c h => by
  simp only [env_laws_eqProposal] at h
  split at h
  · cases h; exact con_laws_eqIntS
  · cases h) (fun f c h => by cases h) rfl
theorem con_laws_eqProposal : ConOK Tryd.prog 19 c_laws_eqProposal := con_of_ev' (body := Tryd.f19.body.getD .skip) (Λ := loops_laws_eqProposal) mixed Tryd.func19 (by kernel_rfl) (by kernel_rfl) env_laws_eqProposal_ok rfl (by kernel_rfl) (fun n L h => by cases h) F_laws_eqProposal_eq

noncomputable def F_laws_FnExactProposalText (x : (Int × (Int × (ByteArray × (List Int))))) : Option (Bool) :=
  match F_laws_szProposal ((x, 1048576)) with
  | none => none
  | some y1 =>
    bif (decide (y1 < 0)) then
      some (true)
    else
      match F_laws_toProposal (x) with
      | none => none
      | some y2 =>
        match F_spec_ProposalText (y2) with
        | none => none
        | some y3 =>
          match F_laws_toProposal (x) with
          | none => none
          | some y4 =>
            match F_impl_ProposalText (y4) with
            | none => none
            | some y5 =>
              bif (!(y5.1.toList == y3.1.toList)) then
                some (false)
              else
                bif (!(y5.2 == y3.2)) then
                  some (false)
                else
                  match F_laws_toProposal (x) with
                  | none => none
                  | some y6 =>
                    match F_laws_eqProposal ((y4, y6)) with
                    | none => none
                    | some y7 =>
                      bif (!y7) then
                        some (false)
                      else
                        some (true)
noncomputable def c_laws_FnExactProposalText : Con := { ps := [(.val, (.st (.pair (.int .i64) (.pair (.int .i64) (.pair .str (.slice (.int .i64)))))))], rs := [(.val, .bool)], F := F_laws_FnExactProposalText }
noncomputable def env_laws_FnExactProposalText : Env := { par := [], con := fun f => match f with | 15 => some c_laws_szProposal | 16 => some c_spec_ProposalText | 17 => some c_laws_toProposal | 18 => some c_impl_ProposalText | 19 => some c_laws_eqProposal | _ => none, clo := fun _ => none, T := tinf Tryd.prog }
noncomputable def loops_laws_FnExactProposalText : Nat → Option Loop := fun n => none
theorem F_laws_FnExactProposalText_eq (x : (Int × (Int × (ByteArray × (List Int))))) : Fev env_laws_FnExactProposalText loops_laws_FnExactProposalText c_laws_FnExactProposalText.ps c_laws_FnExactProposalText.rs Tryd.f5 x = F_laws_FnExactProposalText x := by kernel_rfl
theorem env_laws_FnExactProposalText_ok : EnvOK Tryd.prog env_laws_FnExactProposalText := envOK_of (fun f c h => by
  simp only [env_laws_FnExactProposalText] at h
  split at h
  · cases h; exact con_laws_szProposal
  · cases h; exact con_spec_ProposalText
  · cases h; exact con_laws_toProposal
  · cases h; exact con_impl_ProposalText
  · cases h; exact con_laws_eqProposal
  · cases h) (fun f c h => by cases h) rfl
theorem con_laws_FnExactProposalText : ConOK Tryd.prog 5 c_laws_FnExactProposalText := con_of_ev' (body := Tryd.f5.body.getD .skip) (Λ := loops_laws_FnExactProposalText) mixed Tryd.func5 (by kernel_rfl) (by kernel_rfl) env_laws_FnExactProposalText_ok rfl (by kernel_rfl) (fun n L h => by cases h) F_laws_FnExactProposalText_eq

end Go.Proofs.YtbdnmfiaghhhiaaDoor
