/- Contracts of functions of the program, written by a program of this claim. No conditions. -/
import Derived.Test.YteodliihhddagaaC0
set_option linter.unusedVariables false
set_option maxRecDepth 100000
namespace Go.Proofs.Yteodliihhddagaa
open Go
noncomputable def K_impl_ShortenEdits_1 (q : (Int × (ByteArray × Bool))) (x : (Int × (ByteArray × Bool))) : Option (Bool) := F_impl_ShortenEdits_1 (x, q)
noncomputable def k_impl_ShortenEdits_1 : CloCon := { caps := [(.st (.pair (.int .i64) (.pair .str .bool)))], a := (.st (.pair (.int .i64) (.pair .str .bool))), r := .bool, F := K_impl_ShortenEdits_1 }
theorem clo_impl_ShortenEdits_1 : CloOK Try.prog 44 k_impl_ShortenEdits_1 := clo_of_con k_impl_ShortenEdits_1 F_impl_ShortenEdits_1 con_impl_ShortenEdits_1 rfl (fun kx x y h => ⟨y, h, rfl⟩)
noncomputable def step_impl_ShortenEdits_0 (s : (List (Int × (ByteArray × Bool))) × (List (Int × (ByteArray × Bool))) × Int × Int × (List (Int × (ByteArray × Bool)))) : Option (((List (Int × (ByteArray × Bool))) × (List (Int × (ByteArray × Bool))) × Int × Int × (List (Int × (ByteArray × Bool)))) ⊕ (((List (Int × (ByteArray × Bool)))))) :=
  bif (decide (s.2.2.2.1 < s.2.2.1)) then
    bif decide (0 ≤ s.2.2.2.1) && decide (s.2.2.2.1 < (s.2.1.length : Int)) then
      let v11 := IntKind.i64.wrap (s.2.2.2.1 + 1)
      bif decide (0 ≤ v11) && decide (v11 ≤ (s.1.length : Int)) && decide ((s.1.length : Int) ≤ (s.1.length : Int)) then
        match F_slices_ContainsFunc_impl_LogEdit_impl_LogEdit ((((s.1.drop (v11).toNat).take (((s.1.length : Int)).toNat - (v11).toNat)), (K_impl_ShortenEdits_1 (s.2.1.getD (s.2.2.2.1).toNat (0, ByteArray.empty, false))))) with
        | none => none
        | some y12 =>
          bif (!y12) then
            bif decide ((s.2.2.2.2.length + [(s.2.1.getD (s.2.2.2.1).toNat (0, ByteArray.empty, false))].length) * 32 ≤ 140737488355328) then
              let v13 := s.2.2.2.2 ++ [(s.2.1.getD (s.2.2.2.1).toNat (0, ByteArray.empty, false))]
              let v14 := IntKind.i64.wrap (s.2.2.2.1 + 1)
              some (.inl ((s.1, s.2.1, (s.2.2.1, v14, v13))))
            else none
          else
            let v15 := IntKind.i64.wrap (s.2.2.2.1 + 1)
            some (.inl ((s.1, s.2.1, (s.2.2.1, v15, s.2.2.2.2))))
      else none
    else none
  else
    some (.inr (s.2.2.2.2))
def pat_impl_ShortenEdits_0 : Pat := { tmps := [.v (.slice (.st (.pair (.int .i64) (.pair .str .bool)))), .any, .any, .any, .own 1728, .any, .any, .any, .any, .any, .v (.slice (.st (.pair (.int .i64) (.pair .str .bool)))), .v (.int .i64), .v (.int .i64), .any, .any, .any, .any, .any, .any, .any, .any, .any, .any, .any, .any, .any, .any, .any, .any, .any], blks := [(1728, .row true (.st (.pair (.int .i64) (.pair .str .bool))))] }
def outs_impl_ShortenEdits_0 : List (Exit × Pat) := [(.exit 0, { tmps := [.any, .any, .any, .any, .own 1728, .any, .any, .any, .any, .any, .any, .any, .any, .any, .any, .any, .any, .any, .any, .any, .any, .any, .any, .any, .any, .any, .any, .any, .any, .any], blks := [(1728, .row true (.st (.pair (.int .i64) (.pair .str .bool))))] })]
noncomputable def F_impl_ShortenEdits (x : (List (Int × (ByteArray × Bool)))) : Option ((List (Int × (ByteArray × Bool))) × Bool) :=
  match F_impl_AreEdits (x) with
  | none => none
  | some y1 =>
    bif (!y1) then
      some (([], false))
    else
      match runL step_impl_ShortenEdits_0 ((x, x, ((x.length : Int), 0, []))) with
      | none => none
      | some o16 =>
        some ((o16, true))
noncomputable def c_impl_ShortenEdits : Con := { ps := [(.val, (.slice (.st (.pair (.int .i64) (.pair .str .bool)))))], rs := [(.io true, (.slice (.st (.pair (.int .i64) (.pair .str .bool))))), (.val, .bool)], F := F_impl_ShortenEdits }
noncomputable def env_impl_ShortenEdits : Env := { par := [], con := fun f => match f with | 12 => some c_impl_AreEdits | 43 => some c_slices_ContainsFunc_impl_LogEdit_impl_LogEdit | _ => none, clo := fun f => match f with | 44 => some k_impl_ShortenEdits_1 | _ => none, T := tinf Try.prog }
noncomputable def loops_impl_ShortenEdits : Nat → Option Loop := fun n => match n with | 5 => some { pat := pat_impl_ShortenEdits_0, outs := outs_impl_ShortenEdits_0, run := runL (step_impl_ShortenEdits_0) } | _ => none
theorem step_impl_ShortenEdits_0_eq (s : (List (Int × (ByteArray × Bool))) × (List (Int × (ByteArray × Bool))) × Int × Int × (List (Int × (ByteArray × Bool)))) : stepEv env_impl_ShortenEdits loops_impl_ShortenEdits pat_impl_ShortenEdits_0 outs_impl_ShortenEdits_0 Try.f20 5 s = step_impl_ShortenEdits_0 s := by kernel_rfl
theorem F_impl_ShortenEdits_eq (x : (List (Int × (ByteArray × Bool)))) : Fev env_impl_ShortenEdits loops_impl_ShortenEdits c_impl_ShortenEdits.ps c_impl_ShortenEdits.rs Try.f20 x = F_impl_ShortenEdits x := by kernel_rfl
theorem env_impl_ShortenEdits_ok : EnvOK Try.prog env_impl_ShortenEdits := envOK_of (fun f c h => by
  simp only [env_impl_ShortenEdits] at h
  split at h
  · cases h; exact con_impl_AreEdits
  · cases h; exact con_slices_ContainsFunc_impl_LogEdit_impl_LogEdit
  · cases h) (fun f c h => by
  simp only [env_impl_ShortenEdits] at h
  split at h
  · cases h; exact clo_impl_ShortenEdits_1
  · cases h) rfl
theorem con_impl_ShortenEdits : ConOK Try.prog 20 c_impl_ShortenEdits := con_of_ev' (body := Try.f20.body.getD .skip) (Λ := loops_impl_ShortenEdits) mixed Try.func20 (by kernel_rfl) (by kernel_rfl) env_impl_ShortenEdits_ok rfl (by kernel_rfl) (fun n L h => by
  unfold loops_impl_ShortenEdits at h
  split at h
  · cases h; exact fun s o ho => loop_ok (stepF := stepEv env_impl_ShortenEdits loops_impl_ShortenEdits pat_impl_ShortenEdits_0 outs_impl_ShortenEdits_0 Try.f20 5) (step_impl_ShortenEdits_0_eq) ho
  · cases h) F_impl_ShortenEdits_eq

noncomputable def step_laws_markText_0 (s : Int × ByteArray) : Option ((Int × ByteArray) ⊕ ((ByteArray))) :=
  bif (decide (s.1 > 0)) then
    bif !decide (10 = 0) then
      let v5 := (s.1).tmod 10
      let v6 := IntKind.i64.wrap (48 + v5)
      let v7 := IntKind.u8.wrap v6
      bif decide ((((bytesStr [v7]).size + s.2.size : Nat) : Int) ≤ IntKind.i64.max) then
        bif !decide (10 = 0) then
          let v8 := IntKind.i64.wrap ((s.1).tdiv 10)
          some (.inl ((v8, ((bytesStr [v7]) ++ s.2))))
        else none
      else none
    else none
  else
    some (.inr (s.2))
def pat_laws_markText_0 : Pat := { tmps := [.v (.int .i64), .any, .any, .v .str, .any, .any, .any, .any, .any, .any, .any, .any, .any, .any, .any, .any, .any, .any, .any, .any], blks := [] }
def outs_laws_markText_0 : List (Exit × Pat) := [(.exit 0, { tmps := [.any, .any, .any, .v .str, .any, .any, .any, .any, .any, .any, .any, .any, .any, .any, .any, .any, .any, .any, .any, .any], blks := [] })]
noncomputable def F_laws_markText (x : Int) : Option (ByteArray) :=
  bif (decide (x ≤ 0)) then
    some ((⟨#[109, 48]⟩ : ByteArray))
  else
    match runL step_laws_markText_0 ((x, (⟨#[]⟩ : ByteArray))) with
    | none => none
    | some o9 =>
      bif decide ((((⟨#[109]⟩ : ByteArray).size + o9.size : Nat) : Int) ≤ IntKind.i64.max) then
        some (((⟨#[109]⟩ : ByteArray) ++ o9))
      else none
noncomputable def c_laws_markText : Con := { ps := [(.val, (.int .i64))], rs := [(.val, .str)], F := F_laws_markText }
noncomputable def env_laws_markText : Env := { par := [], con := fun _ => none, clo := fun _ => none, T := tinf Try.prog }
noncomputable def loops_laws_markText : Nat → Option Loop := fun n => match n with | 4 => some { pat := pat_laws_markText_0, outs := outs_laws_markText_0, run := runL (step_laws_markText_0) } | _ => none
theorem step_laws_markText_0_eq (s : Int × ByteArray) : stepEv env_laws_markText loops_laws_markText pat_laws_markText_0 outs_laws_markText_0 Try.f45 4 s = step_laws_markText_0 s := by kernel_rfl
theorem F_laws_markText_eq (x : Int) : Fev env_laws_markText loops_laws_markText c_laws_markText.ps c_laws_markText.rs Try.f45 x = F_laws_markText x := by kernel_rfl
theorem env_laws_markText_ok : EnvOK Try.prog env_laws_markText := envOK_of (fun f c h => by cases h) (fun f c h => by cases h) rfl
theorem con_laws_markText : ConOK Try.prog 45 c_laws_markText := con_of_ev' (body := Try.f45.body.getD .skip) (Λ := loops_laws_markText) mixed Try.func45 (by kernel_rfl) (by kernel_rfl) env_laws_markText_ok rfl (by kernel_rfl) (fun n L h => by
  unfold loops_laws_markText at h
  split at h
  · cases h; exact fun s o ho => loop_ok (stepF := stepEv env_laws_markText loops_laws_markText pat_laws_markText_0 outs_laws_markText_0 Try.f45 4) (step_laws_markText_0_eq) ho
  · cases h) F_laws_markText_eq

noncomputable def step_laws_markLogEditS_0 (s : Int × Int × (List (Int × (ByteArray × Bool)))) : Option ((Int × Int × (List (Int × (ByteArray × Bool)))) ⊕ ((Int × (List (Int × (ByteArray × Bool)))))) :=
  bif (decide (s.2.1 < (s.2.2.length : Int))) then
    bif decide (0 ≤ s.2.1) && decide (s.2.1 < (s.2.2.length : Int)) then
      let v10 := s.2.2.set (s.2.1).toNat ((s.1, (s.2.2.getD (s.2.1).toNat (0, ByteArray.empty, false)).2))
      let v11 := IntKind.i64.wrap (s.1 + 1)
      match F_laws_markText (v11) with
      | none => none
      | some y12 =>
        bif decide (0 ≤ s.2.1) && decide (s.2.1 < (v10.length : Int)) then
          let v13 := v10.set (s.2.1).toNat (((v10.getD (s.2.1).toNat (0, ByteArray.empty, false)).1, y12, (v10.getD (s.2.1).toNat (0, ByteArray.empty, false)).2.2))
          let v14 := IntKind.i64.wrap (v11 + 1)
          bif !decide (3 = 0) then
            let v15 := (v14).tmod 3
            bif decide (0 ≤ s.2.1) && decide (s.2.1 < (v13.length : Int)) then
              let v16 := v13.set (s.2.1).toNat (((v13.getD (s.2.1).toNat (0, ByteArray.empty, false)).1, (v13.getD (s.2.1).toNat (0, ByteArray.empty, false)).2.1, ((v15 == 0))))
              let v17 := IntKind.i64.wrap (v14 + 1)
              let v18 := IntKind.i64.wrap (s.2.1 + 1)
              some (.inl ((v17, v18, v16)))
            else none
          else none
        else none
    else none
  else
    some (.inr ((s.1, s.2.2)))
def pat_laws_markLogEditS_0 : Pat := { tmps := [.own 63, .v (.int .i64), .any, .any, .any, .v (.int .i64), .any, .any, .any, .any, .any, .any, .any, .any, .any, .any, .any, .any, .any, .any, .any, .any, .any, .any, .any, .any, .any, .any, .any, .any, .any, .any, .any, .any, .any, .any, .any], blks := [(63, .row true (.st (.pair (.int .i64) (.pair .str .bool))))] }
def outs_laws_markLogEditS_0 : List (Exit × Pat) := [(.exit 0, { tmps := [.any, .v (.int .i64), .any, .any, .any, .any, .any, .any, .any, .any, .any, .any, .any, .any, .any, .any, .any, .any, .any, .any, .any, .any, .any, .any, .any, .any, .any, .any, .any, .any, .any, .any, .any, .any, .any, .any, .any], blks := [(63, .row true (.st (.pair (.int .i64) (.pair .str .bool))))] })]
noncomputable def F_laws_markLogEditS (x : (List (Int × (ByteArray × Bool))) × Int) : Option ((List (Int × (ByteArray × Bool))) × Int) :=
  match runL step_laws_markLogEditS_0 ((x.2, 0, x.1)) with
  | none => none
  | some o19 =>
    some ((o19.2, o19.1))
noncomputable def c_laws_markLogEditS : Con := { ps := [(.io true, (.slice (.st (.pair (.int .i64) (.pair .str .bool))))), (.val, (.int .i64))], rs := [(.val, (.int .i64))], F := F_laws_markLogEditS }
noncomputable def env_laws_markLogEditS : Env := { par := [63], con := fun f => match f with | 45 => some c_laws_markText | _ => none, clo := fun _ => none, T := tinf Try.prog }
noncomputable def loops_laws_markLogEditS : Nat → Option Loop := fun n => match n with | 2 => some { pat := pat_laws_markLogEditS_0, outs := outs_laws_markLogEditS_0, run := runL (step_laws_markLogEditS_0) } | _ => none
theorem step_laws_markLogEditS_0_eq (s : Int × Int × (List (Int × (ByteArray × Bool)))) : stepEv env_laws_markLogEditS loops_laws_markLogEditS pat_laws_markLogEditS_0 outs_laws_markLogEditS_0 Try.f21 2 s = step_laws_markLogEditS_0 s := by kernel_rfl
theorem F_laws_markLogEditS_eq (x : (List (Int × (ByteArray × Bool))) × Int) : Fev env_laws_markLogEditS loops_laws_markLogEditS c_laws_markLogEditS.ps c_laws_markLogEditS.rs Try.f21 x = F_laws_markLogEditS x := by kernel_rfl
theorem env_laws_markLogEditS_ok : EnvOK Try.prog env_laws_markLogEditS := envOK_of (fun f c h => by
  simp only [env_laws_markLogEditS] at h
  split at h
  · cases h; exact con_laws_markText
  · cases h) (fun f c h => by cases h) rfl
theorem con_laws_markLogEditS : ConOK Try.prog 21 c_laws_markLogEditS := con_of_ev' (body := Try.f21.body.getD .skip) (Λ := loops_laws_markLogEditS) mixed Try.func21 (by kernel_rfl) (by kernel_rfl) env_laws_markLogEditS_ok rfl (by kernel_rfl) (fun n L h => by
  unfold loops_laws_markLogEditS at h
  split at h
  · cases h; exact fun s o ho => loop_ok (stepF := stepEv env_laws_markLogEditS loops_laws_markLogEditS pat_laws_markLogEditS_0 outs_laws_markLogEditS_0 Try.f21 2) (step_laws_markLogEditS_0_eq) ho
  · cases h) F_laws_markLogEditS_eq

noncomputable def step_laws_heldLogEditS_0 (s : (List (Int × (ByteArray × Bool))) × Int × Int) : Option (((List (Int × (ByteArray × Bool))) × Int × Int) ⊕ ((Int) ⊕ (Int))) :=
  bif (decide (s.2.2 < (s.1.length : Int))) then
    bif decide (0 ≤ s.2.2) && decide (s.2.2 < (s.1.length : Int)) then
      bif (((s.1.getD (s.2.2).toNat (0, ByteArray.empty, false)).1 != s.2.1)) then
        some (.inr (.inl ((-1))))
      else
        let v7 := IntKind.i64.wrap (s.2.1 + 1)
        bif decide (0 ≤ s.2.2) && decide (s.2.2 < (s.1.length : Int)) then
          match F_laws_markText (v7) with
          | none => none
          | some y8 =>
            bif (!((s.1.getD (s.2.2).toNat (0, ByteArray.empty, false)).2.1.toList == y8.toList)) then
              some (.inr (.inl ((-1))))
            else
              let v9 := IntKind.i64.wrap (v7 + 1)
              bif decide (0 ≤ s.2.2) && decide (s.2.2 < (s.1.length : Int)) then
                bif !decide (3 = 0) then
                  let v10 := (v9).tmod 3
                  bif (!((s.1.getD (s.2.2).toNat (0, ByteArray.empty, false)).2.2 == ((v10 == 0)))) then
                    some (.inr (.inl ((-1))))
                  else
                    let v11 := IntKind.i64.wrap (v9 + 1)
                    let v12 := IntKind.i64.wrap (s.2.2 + 1)
                    some (.inl ((s.1, v11, v12)))
                else none
              else none
        else none
    else none
  else
    some (.inr (.inr (s.2.1)))
def pat_laws_heldLogEditS_0 : Pat := { tmps := [.v (.slice (.st (.pair (.int .i64) (.pair .str .bool)))), .v (.int .i64), .any, .any, .any, .v (.int .i64), .any, .any, .any, .any, .any, .any, .any, .any, .any, .any, .any, .any, .any, .any, .any, .any, .any, .any, .any, .any, .any, .any, .any, .any, .any, .any, .any, .any, .any, .any, .any, .any, .any, .any, .any, .any, .any], blks := [] }
def outs_laws_heldLogEditS_0 : List (Exit × Pat) := [(.ret, { tmps := [.any, .any, .any, .any, .v (.int .i64), .any, .any, .any, .any, .any, .any, .any, .any, .any, .any, .any, .any, .any, .any, .any, .any, .any, .any, .any, .any, .any, .any, .any, .any, .any, .any, .any, .any, .any, .any, .any, .any, .any, .any, .any, .any, .any, .any], blks := [] }), (.exit 0, { tmps := [.any, .v (.int .i64), .any, .any, .any, .any, .any, .any, .any, .any, .any, .any, .any, .any, .any, .any, .any, .any, .any, .any, .any, .any, .any, .any, .any, .any, .any, .any, .any, .any, .any, .any, .any, .any, .any, .any, .any, .any, .any, .any, .any, .any, .any], blks := [] })]
noncomputable def F_laws_heldLogEditS (x : (List (Int × (ByteArray × Bool))) × Int) : Option (Int) :=
  match runL step_laws_heldLogEditS_0 ((x.1, x.2, 0)) with
  | none => none
  | some (.inl o13) =>
    some (o13)
  | some (.inr o13) =>
    some (o13)
noncomputable def c_laws_heldLogEditS : Con := { ps := [(.val, (.slice (.st (.pair (.int .i64) (.pair .str .bool))))), (.val, (.int .i64))], rs := [(.val, (.int .i64))], F := F_laws_heldLogEditS }
noncomputable def env_laws_heldLogEditS : Env := { par := [], con := fun f => match f with | 45 => some c_laws_markText | _ => none, clo := fun _ => none, T := tinf Try.prog }
noncomputable def loops_laws_heldLogEditS : Nat → Option Loop := fun n => match n with | 2 => some { pat := pat_laws_heldLogEditS_0, outs := outs_laws_heldLogEditS_0, run := runL (step_laws_heldLogEditS_0) } | _ => none
theorem step_laws_heldLogEditS_0_eq (s : (List (Int × (ByteArray × Bool))) × Int × Int) : stepEv env_laws_heldLogEditS loops_laws_heldLogEditS pat_laws_heldLogEditS_0 outs_laws_heldLogEditS_0 Try.f22 2 s = step_laws_heldLogEditS_0 s := by kernel_rfl
theorem F_laws_heldLogEditS_eq (x : (List (Int × (ByteArray × Bool))) × Int) : Fev env_laws_heldLogEditS loops_laws_heldLogEditS c_laws_heldLogEditS.ps c_laws_heldLogEditS.rs Try.f22 x = F_laws_heldLogEditS x := by kernel_rfl
theorem env_laws_heldLogEditS_ok : EnvOK Try.prog env_laws_heldLogEditS := envOK_of (fun f c h => by
  simp only [env_laws_heldLogEditS] at h
  split at h
  · cases h; exact con_laws_markText
  · cases h) (fun f c h => by cases h) rfl
theorem con_laws_heldLogEditS : ConOK Try.prog 22 c_laws_heldLogEditS := con_of_ev' (body := Try.f22.body.getD .skip) (Λ := loops_laws_heldLogEditS) mixed Try.func22 (by kernel_rfl) (by kernel_rfl) env_laws_heldLogEditS_ok rfl (by kernel_rfl) (fun n L h => by
  unfold loops_laws_heldLogEditS at h
  split at h
  · cases h; exact fun s o ho => loop_ok (stepF := stepEv env_laws_heldLogEditS loops_laws_heldLogEditS pat_laws_heldLogEditS_0 outs_laws_heldLogEditS_0 Try.f22 2) (step_laws_heldLogEditS_0_eq) ho
  · cases h) F_laws_heldLogEditS_eq

noncomputable def F_laws_FnExactShortenEdits (x : (List (Int × (ByteArray × Bool)))) : Option (Bool) :=
  match F_laws_szLogEditS ((x, 1048576)) with
  | none => none
  | some y1 =>
    bif (decide (y1 < 0)) then
      some (true)
    else
      match F_laws_toLogEditS (x) with
      | none => none
      | some y2 =>
        match F_spec_ShortenEdits (y2) with
        | none => none
        | some y3 =>
          match F_laws_toLogEditS (x) with
          | none => none
          | some y4 =>
            match F_impl_ShortenEdits (y4) with
            | none => none
            | some y5 =>
              match F_laws_eqLogEditS ((y5.1, y3.1)) with
              | none => none
              | some y6 =>
                bif (!y6) then
                  some (false)
                else
                  bif (!(y5.2 == y3.2)) then
                    some (false)
                  else
                    match F_laws_toLogEditS (x) with
                    | none => none
                    | some y7 =>
                      match F_laws_eqLogEditS ((y4, y7)) with
                      | none => none
                      | some y8 =>
                        bif (!y8) then
                          some (false)
                        else
                          match F_laws_markLogEditS ((y4, 1)) with
                          | none => none
                          | some y9 =>
                            bif (decide (y9.2 < 0)) then
                              some (false)
                            else
                              match F_laws_eqLogEditS ((y5.1, y3.1)) with
                              | none => none
                              | some y10 =>
                                bif (!y10) then
                                  some (false)
                                else
                                  bif (!(y5.2 == y3.2)) then
                                    some (false)
                                  else
                                    match F_laws_markLogEditS ((y5.1, 1)) with
                                    | none => none
                                    | some y11 =>
                                      match F_laws_heldLogEditS ((y11.1, 1)) with
                                      | none => none
                                      | some y12 =>
                                        bif (decide (y12 < 0)) then
                                          some (false)
                                        else
                                          bif ((y12 != y11.2)) then
                                            some (false)
                                          else
                                            match F_laws_toLogEditS (x) with
                                            | none => none
                                            | some y13 =>
                                              match F_impl_ShortenEdits (y13) with
                                              | none => none
                                              | some y14 =>
                                                match F_laws_eqLogEditS ((y14.1, y3.1)) with
                                                | none => none
                                                | some y15 =>
                                                  bif (!y15) then
                                                    some (false)
                                                  else
                                                    bif (!(y14.2 == y3.2)) then
                                                      some (false)
                                                    else
                                                      match F_laws_heldLogEditS ((y11.1, 1)) with
                                                      | none => none
                                                      | some y16 =>
                                                        bif (decide (y16 < 0)) then
                                                          some (false)
                                                        else
                                                          bif ((y16 != y11.2)) then
                                                            some (false)
                                                          else
                                                            some (true)
noncomputable def c_laws_FnExactShortenEdits : Con := { ps := [(.val, (.slice (.st (.pair (.int .i64) (.pair .str .bool)))))], rs := [(.val, .bool)], F := F_laws_FnExactShortenEdits }
noncomputable def env_laws_FnExactShortenEdits : Env := { par := [], con := fun f => match f with | 9 => some c_laws_szLogEditS | 11 => some c_laws_toLogEditS | 13 => some c_laws_eqLogEditS | 19 => some c_spec_ShortenEdits | 20 => some c_impl_ShortenEdits | 21 => some c_laws_markLogEditS | 22 => some c_laws_heldLogEditS | _ => none, clo := fun _ => none, T := tinf Try.prog }
noncomputable def loops_laws_FnExactShortenEdits : Nat → Option Loop := fun n => none
theorem F_laws_FnExactShortenEdits_eq (x : (List (Int × (ByteArray × Bool)))) : Fev env_laws_FnExactShortenEdits loops_laws_FnExactShortenEdits c_laws_FnExactShortenEdits.ps c_laws_FnExactShortenEdits.rs Try.f5 x = F_laws_FnExactShortenEdits x := by kernel_rfl
theorem env_laws_FnExactShortenEdits_ok : EnvOK Try.prog env_laws_FnExactShortenEdits := envOK_of (fun f c h => by
  simp only [env_laws_FnExactShortenEdits] at h
  split at h
  · cases h; exact con_laws_szLogEditS
  · cases h; exact con_laws_toLogEditS
  · cases h; exact con_laws_eqLogEditS
  · cases h; exact con_spec_ShortenEdits
  · cases h; exact con_impl_ShortenEdits
  · cases h; exact con_laws_markLogEditS
  · cases h; exact con_laws_heldLogEditS
  · cases h) (fun f c h => by cases h) rfl
theorem con_laws_FnExactShortenEdits : ConOK Try.prog 5 c_laws_FnExactShortenEdits := con_of_ev' (body := Try.f5.body.getD .skip) (Λ := loops_laws_FnExactShortenEdits) mixed Try.func5 (by kernel_rfl) (by kernel_rfl) env_laws_FnExactShortenEdits_ok rfl (by kernel_rfl) (fun n L h => by cases h) F_laws_FnExactShortenEdits_eq

noncomputable def step_spec_MissingEdits_0 (s : Int × (List (Int × (ByteArray × Bool))) × Int × Int × Int × ByteArray × Bool × (List Int)) : Option ((Int × (List (Int × (ByteArray × Bool))) × Int × Int × Int × ByteArray × Bool × (List Int)) ⊕ (((List (Int × (ByteArray × Bool))) × Int × Int × Int × ByteArray × Bool × (List Int)))) :=
  bif (decide (s.1 < s.2.2.2.2.1)) then
    bif (decide ((s.2.2.2.2.2.2.2.length : Int) < 100)) then
      bif decide ((s.2.2.2.2.2.2.2.length + [s.1].length) * 8 ≤ 140737488355328) then
        let v25 := s.2.2.2.2.2.2.2 ++ [s.1]
        let v26 := IntKind.i64.wrap (s.1 + 1)
        some (.inl ((v26, (s.2.1, s.2.2.1, (s.2.2.2.1, s.2.2.2.2.1, (s.2.2.2.2.2.1, s.2.2.2.2.2.2.1, v25))))))
      else none
    else
      let v27 := IntKind.i64.wrap (s.1 + 1)
      some (.inl ((v27, s.2)))
  else
    some (.inr (s.2))
def pat_spec_MissingEdits_0 : Pat := { tmps := [.any, .any, .any, .any, .own 1856, .v (.int .i64), .any, .ptr 448 0, .any, .any, .any, .v (.slice (.st (.pair (.int .i64) (.pair .str .bool)))), .v (.int .i64), .v (.int .i64), .any, .any, .any, .any, .any, .any, .any, .any, .any, .any, .any, .any, .any, .any, .any, .any, .any, .any, .any, .any, .any], blks := [(448, .box [.v (.int .i64), .v .str, .v .bool]), (1856, .row true (.int .i64))] }
def outs_spec_MissingEdits_0 : List (Exit × Pat) := [(.exit 2, { tmps := [.any, .any, .any, .any, .own 1856, .any, .any, .ptr 448 0, .any, .any, .any, .v (.slice (.st (.pair (.int .i64) (.pair .str .bool)))), .v (.int .i64), .v (.int .i64), .any, .any, .any, .any, .any, .any, .any, .any, .any, .any, .any, .any, .any, .any, .any, .any, .any, .any, .any, .any, .any], blks := [(448, .box [.v (.int .i64), .v .str, .v .bool]), (1856, .row true (.int .i64))] })]
noncomputable def step_spec_MissingEdits_1 (s : Int × (List (Int × (ByteArray × Bool))) × Int × Int × (List Int)) : Option ((Int × (List (Int × (ByteArray × Bool))) × Int × Int × (List Int)) ⊕ (((List Int)))) :=
  bif (decide (s.2.2.2.1 < s.2.2.1)) then
    bif decide (0 ≤ s.2.2.2.1) && decide (s.2.2.2.1 < (s.2.1.length : Int)) then
      match runL step_spec_MissingEdits_0 ((s.1, (s.2.1, s.2.2.1, (s.2.2.2.1, (s.2.1.getD (s.2.2.2.1).toNat (0, ByteArray.empty, false)).1, ((s.2.1.getD (s.2.2.2.1).toNat (0, ByteArray.empty, false)).2.1, (s.2.1.getD (s.2.2.2.1).toNat (0, ByteArray.empty, false)).2.2, s.2.2.2.2))))) with
      | none => none
      | some o28 =>
        let v29 := IntKind.i64.wrap (o28.2.2.2.1 + 1)
        let v30 := IntKind.i64.wrap (o28.2.2.1 + 1)
        some (.inl ((v29, o28.1, (o28.2.1, v30, o28.2.2.2.2.2.2))))
    else none
  else
    some (.inr (s.2.2.2.2))
def pat_spec_MissingEdits_1 : Pat := { tmps := [.any, .any, .any, .any, .own 1856, .v (.int .i64), .any, .any, .any, .any, .any, .v (.slice (.st (.pair (.int .i64) (.pair .str .bool)))), .v (.int .i64), .v (.int .i64), .any, .any, .any, .any, .any, .any, .any, .any, .any, .any, .any, .any, .any, .any, .any, .any, .any, .any, .any, .any, .any], blks := [(1856, .row true (.int .i64))] }
def outs_spec_MissingEdits_1 : List (Exit × Pat) := [(.exit 0, { tmps := [.any, .any, .any, .any, .own 1856, .any, .any, .any, .any, .any, .any, .any, .any, .any, .any, .any, .any, .any, .any, .any, .any, .any, .any, .any, .any, .any, .any, .any, .any, .any, .any, .any, .any, .any, .any], blks := [(1856, .row true (.int .i64))] })]
noncomputable def F_spec_MissingEdits (x : (List (Int × (ByteArray × Bool)))) : Option ((List Int) × Bool) :=
  match F_spec_joGood (x) with
  | none => none
  | some y1 =>
    bif (!y1) then
      some (([], false))
    else
      match runL step_spec_MissingEdits_1 ((1, x, ((x.length : Int), 0, []))) with
      | none => none
      | some o31 =>
        some ((o31, true))
noncomputable def c_spec_MissingEdits : Con := { ps := [(.val, (.slice (.st (.pair (.int .i64) (.pair .str .bool)))))], rs := [(.io true, (.slice (.int .i64))), (.val, .bool)], F := F_spec_MissingEdits }
noncomputable def env_spec_MissingEdits : Env := { par := [], con := fun f => match f with | 33 => some c_spec_joGood | _ => none, clo := fun _ => none, T := tinf Try.prog }
noncomputable def loops_spec_MissingEdits : Nat → Option Loop := fun n => match n with | 8 => some { pat := pat_spec_MissingEdits_0, outs := outs_spec_MissingEdits_0, run := runL (step_spec_MissingEdits_0) } | 6 => some { pat := pat_spec_MissingEdits_1, outs := outs_spec_MissingEdits_1, run := runL (step_spec_MissingEdits_1) } | _ => none
theorem step_spec_MissingEdits_0_eq (s : Int × (List (Int × (ByteArray × Bool))) × Int × Int × Int × ByteArray × Bool × (List Int)) : stepEv env_spec_MissingEdits loops_spec_MissingEdits pat_spec_MissingEdits_0 outs_spec_MissingEdits_0 Try.f23 8 s = step_spec_MissingEdits_0 s := by kernel_rfl
theorem step_spec_MissingEdits_1_eq (s : Int × (List (Int × (ByteArray × Bool))) × Int × Int × (List Int)) : stepEv env_spec_MissingEdits loops_spec_MissingEdits pat_spec_MissingEdits_1 outs_spec_MissingEdits_1 Try.f23 6 s = step_spec_MissingEdits_1 s := by kernel_rfl
theorem F_spec_MissingEdits_eq (x : (List (Int × (ByteArray × Bool)))) : Fev env_spec_MissingEdits loops_spec_MissingEdits c_spec_MissingEdits.ps c_spec_MissingEdits.rs Try.f23 x = F_spec_MissingEdits x := by kernel_rfl
theorem env_spec_MissingEdits_ok : EnvOK Try.prog env_spec_MissingEdits := envOK_of (fun f c h => by
  simp only [env_spec_MissingEdits] at h
  split at h
  · cases h; exact con_spec_joGood
  · cases h) (fun f c h => by cases h) rfl
theorem con_spec_MissingEdits : ConOK Try.prog 23 c_spec_MissingEdits := con_of_ev' (body := Try.f23.body.getD .skip) (Λ := loops_spec_MissingEdits) mixed Try.func23 (by kernel_rfl) (by kernel_rfl) env_spec_MissingEdits_ok rfl (by kernel_rfl) (fun n L h => by
  unfold loops_spec_MissingEdits at h
  split at h
  · cases h; exact fun s o ho => loop_ok (stepF := stepEv env_spec_MissingEdits loops_spec_MissingEdits pat_spec_MissingEdits_0 outs_spec_MissingEdits_0 Try.f23 8) (step_spec_MissingEdits_0_eq) ho
  · cases h; exact fun s o ho => loop_ok (stepF := stepEv env_spec_MissingEdits loops_spec_MissingEdits pat_spec_MissingEdits_1 outs_spec_MissingEdits_1 Try.f23 6) (step_spec_MissingEdits_1_eq) ho
  · cases h) F_spec_MissingEdits_eq

noncomputable def step_impl_MissingEdits_0 (s : Int × (List (Int × (ByteArray × Bool))) × Int × Int × Int × ByteArray × Bool × (List Int)) : Option ((Int × (List (Int × (ByteArray × Bool))) × Int × Int × Int × ByteArray × Bool × (List Int)) ⊕ (((List (Int × (ByteArray × Bool))) × Int × Int × (List Int) × Int × ByteArray × Bool))) :=
  bif (decide (s.1 < s.2.2.2.2.1)) then
    bif (decide ((s.2.2.2.2.2.2.2.length : Int) < 100)) then
      bif decide ((s.2.2.2.2.2.2.2.length + [s.1].length) * 8 ≤ 140737488355328) then
        let v19 := s.2.2.2.2.2.2.2 ++ [s.1]
        let v20 := IntKind.i64.wrap (s.1 + 1)
        some (.inl ((v20, (s.2.1, s.2.2.1, (s.2.2.2.1, s.2.2.2.2.1, (s.2.2.2.2.2.1, s.2.2.2.2.2.2.1, v19))))))
      else none
    else
      some (.inr ((s.2.1, s.2.2.1, (s.2.2.2.1, s.2.2.2.2.2.2.2, (s.2.2.2.2.1, s.2.2.2.2.2.1, s.2.2.2.2.2.2.1)))))
  else
    some (.inr ((s.2.1, s.2.2.1, (s.2.2.2.1, s.2.2.2.2.2.2.2, (s.2.2.2.2.1, s.2.2.2.2.2.1, s.2.2.2.2.2.2.1)))))
def pat_impl_MissingEdits_0 : Pat := { tmps := [.any, .any, .any, .any, .own 1984, .v (.int .i64), .any, .ptr 448 0, .any, .any, .any, .v (.slice (.st (.pair (.int .i64) (.pair .str .bool)))), .v (.int .i64), .v (.int .i64), .any, .any, .any, .any, .any, .any, .any, .any, .any, .any, .any, .any, .any, .any, .any, .any, .any, .any, .any, .any, .any, .any, .any], blks := [(448, .box [.v (.int .i64), .v .str, .v .bool]), (1984, .row true (.int .i64))] }
def outs_impl_MissingEdits_0 : List (Exit × Pat) := [(.exit 2, { tmps := [.any, .any, .any, .any, .own 1984, .any, .any, .ptr 448 0, .any, .any, .any, .v (.slice (.st (.pair (.int .i64) (.pair .str .bool)))), .v (.int .i64), .v (.int .i64), .any, .any, .any, .any, .any, .any, .any, .any, .any, .any, .any, .any, .any, .any, .any, .any, .any, .any, .any, .any, .any, .any, .any], blks := [(1984, .row true (.int .i64)), (448, .box [.v (.int .i64), .v .str, .v .bool])] })]
noncomputable def step_impl_MissingEdits_1 (s : Int × (List (Int × (ByteArray × Bool))) × Int × Int × (List Int)) : Option ((Int × (List (Int × (ByteArray × Bool))) × Int × Int × (List Int)) ⊕ (((List Int)))) :=
  bif (decide (s.2.2.2.1 < s.2.2.1)) then
    bif decide (0 ≤ s.2.2.2.1) && decide (s.2.2.2.1 < (s.2.1.length : Int)) then
      match runL step_impl_MissingEdits_0 ((s.1, (s.2.1, s.2.2.1, (s.2.2.2.1, (s.2.1.getD (s.2.2.2.1).toNat (0, ByteArray.empty, false)).1, ((s.2.1.getD (s.2.2.2.1).toNat (0, ByteArray.empty, false)).2.1, (s.2.1.getD (s.2.2.2.1).toNat (0, ByteArray.empty, false)).2.2, s.2.2.2.2))))) with
      | none => none
      | some o21 =>
        let v22 := IntKind.i64.wrap (o21.2.2.2.2.1 + 1)
        let v23 := IntKind.i64.wrap (o21.2.2.1 + 1)
        some (.inl ((v22, o21.1, (o21.2.1, v23, o21.2.2.2.1))))
    else none
  else
    some (.inr (s.2.2.2.2))
def pat_impl_MissingEdits_1 : Pat := { tmps := [.any, .any, .any, .any, .own 1984, .v (.int .i64), .any, .any, .any, .any, .any, .v (.slice (.st (.pair (.int .i64) (.pair .str .bool)))), .v (.int .i64), .v (.int .i64), .any, .any, .any, .any, .any, .any, .any, .any, .any, .any, .any, .any, .any, .any, .any, .any, .any, .any, .any, .any, .any, .any, .any], blks := [(1984, .row true (.int .i64))] }
def outs_impl_MissingEdits_1 : List (Exit × Pat) := [(.exit 0, { tmps := [.any, .any, .any, .any, .own 1984, .any, .any, .any, .any, .any, .any, .any, .any, .any, .any, .any, .any, .any, .any, .any, .any, .any, .any, .any, .any, .any, .any, .any, .any, .any, .any, .any, .any, .any, .any, .any, .any], blks := [(1984, .row true (.int .i64))] })]
noncomputable def F_impl_MissingEdits (x : (List (Int × (ByteArray × Bool)))) : Option ((List Int) × Bool) :=
  match F_impl_AreEdits (x) with
  | none => none
  | some y1 =>
    bif (!y1) then
      some (([], false))
    else
      match runL step_impl_MissingEdits_1 ((1, x, ((x.length : Int), 0, []))) with
      | none => none
      | some o24 =>
        some ((o24, true))
noncomputable def c_impl_MissingEdits : Con := { ps := [(.val, (.slice (.st (.pair (.int .i64) (.pair .str .bool)))))], rs := [(.io true, (.slice (.int .i64))), (.val, .bool)], F := F_impl_MissingEdits }
noncomputable def env_impl_MissingEdits : Env := { par := [], con := fun f => match f with | 12 => some c_impl_AreEdits | _ => none, clo := fun _ => none, T := tinf Try.prog }
noncomputable def loops_impl_MissingEdits : Nat → Option Loop := fun n => match n with | 8 => some { pat := pat_impl_MissingEdits_0, outs := outs_impl_MissingEdits_0, run := runL (step_impl_MissingEdits_0) } | 6 => some { pat := pat_impl_MissingEdits_1, outs := outs_impl_MissingEdits_1, run := runL (step_impl_MissingEdits_1) } | _ => none
theorem step_impl_MissingEdits_0_eq (s : Int × (List (Int × (ByteArray × Bool))) × Int × Int × Int × ByteArray × Bool × (List Int)) : stepEv env_impl_MissingEdits loops_impl_MissingEdits pat_impl_MissingEdits_0 outs_impl_MissingEdits_0 Try.f24 8 s = step_impl_MissingEdits_0 s := by kernel_rfl
theorem step_impl_MissingEdits_1_eq (s : Int × (List (Int × (ByteArray × Bool))) × Int × Int × (List Int)) : stepEv env_impl_MissingEdits loops_impl_MissingEdits pat_impl_MissingEdits_1 outs_impl_MissingEdits_1 Try.f24 6 s = step_impl_MissingEdits_1 s := by kernel_rfl
theorem F_impl_MissingEdits_eq (x : (List (Int × (ByteArray × Bool)))) : Fev env_impl_MissingEdits loops_impl_MissingEdits c_impl_MissingEdits.ps c_impl_MissingEdits.rs Try.f24 x = F_impl_MissingEdits x := by kernel_rfl
theorem env_impl_MissingEdits_ok : EnvOK Try.prog env_impl_MissingEdits := envOK_of (fun f c h => by
  simp only [env_impl_MissingEdits] at h
  split at h
  · cases h; exact con_impl_AreEdits
  · cases h) (fun f c h => by cases h) rfl
theorem con_impl_MissingEdits : ConOK Try.prog 24 c_impl_MissingEdits := con_of_ev' (body := Try.f24.body.getD .skip) (Λ := loops_impl_MissingEdits) mixed Try.func24 (by kernel_rfl) (by kernel_rfl) env_impl_MissingEdits_ok rfl (by kernel_rfl) (fun n L h => by
  unfold loops_impl_MissingEdits at h
  split at h
  · cases h; exact fun s o ho => loop_ok (stepF := stepEv env_impl_MissingEdits loops_impl_MissingEdits pat_impl_MissingEdits_0 outs_impl_MissingEdits_0 Try.f24 8) (step_impl_MissingEdits_0_eq) ho
  · cases h; exact fun s o ho => loop_ok (stepF := stepEv env_impl_MissingEdits loops_impl_MissingEdits pat_impl_MissingEdits_1 outs_impl_MissingEdits_1 Try.f24 6) (step_impl_MissingEdits_1_eq) ho
  · cases h) F_impl_MissingEdits_eq

noncomputable def step_laws_markIntS_0 (s : Int × Int × (List Int)) : Option ((Int × Int × (List Int)) ⊕ ((Int × (List Int)))) :=
  bif (decide (s.2.1 < (s.2.2.length : Int))) then
    bif decide (0 ≤ s.2.1) && decide (s.2.1 < (s.2.2.length : Int)) then
      let v4 := s.2.2.set (s.2.1).toNat (s.1)
      let v5 := IntKind.i64.wrap (s.1 + 1)
      let v6 := IntKind.i64.wrap (s.2.1 + 1)
      some (.inl ((v5, v6, v4)))
    else none
  else
    some (.inr ((s.1, s.2.2)))
def pat_laws_markIntS_0 : Pat := { tmps := [.own 63, .v (.int .i64), .any, .any, .any, .v (.int .i64), .any, .any, .any, .any, .any, .any, .any, .any, .any, .any, .any, .any, .any], blks := [(63, .row true (.int .i64))] }
def outs_laws_markIntS_0 : List (Exit × Pat) := [(.exit 0, { tmps := [.any, .v (.int .i64), .any, .any, .any, .any, .any, .any, .any, .any, .any, .any, .any, .any, .any, .any, .any, .any, .any], blks := [(63, .row true (.int .i64))] })]
noncomputable def F_laws_markIntS (x : (List Int) × Int) : Option ((List Int) × Int) :=
  match runL step_laws_markIntS_0 ((x.2, 0, x.1)) with
  | none => none
  | some o7 =>
    some ((o7.2, o7.1))
noncomputable def c_laws_markIntS : Con := { ps := [(.io true, (.slice (.int .i64))), (.val, (.int .i64))], rs := [(.val, (.int .i64))], F := F_laws_markIntS }
noncomputable def env_laws_markIntS : Env := { par := [63], con := fun _ => none, clo := fun _ => none, T := tinf Try.prog }
noncomputable def loops_laws_markIntS : Nat → Option Loop := fun n => match n with | 2 => some { pat := pat_laws_markIntS_0, outs := outs_laws_markIntS_0, run := runL (step_laws_markIntS_0) } | _ => none
theorem step_laws_markIntS_0_eq (s : Int × Int × (List Int)) : stepEv env_laws_markIntS loops_laws_markIntS pat_laws_markIntS_0 outs_laws_markIntS_0 Try.f26 2 s = step_laws_markIntS_0 s := by kernel_rfl
theorem F_laws_markIntS_eq (x : (List Int) × Int) : Fev env_laws_markIntS loops_laws_markIntS c_laws_markIntS.ps c_laws_markIntS.rs Try.f26 x = F_laws_markIntS x := by kernel_rfl
theorem env_laws_markIntS_ok : EnvOK Try.prog env_laws_markIntS := envOK_of (fun f c h => by cases h) (fun f c h => by cases h) rfl
theorem con_laws_markIntS : ConOK Try.prog 26 c_laws_markIntS := con_of_ev' (body := Try.f26.body.getD .skip) (Λ := loops_laws_markIntS) mixed Try.func26 (by kernel_rfl) (by kernel_rfl) env_laws_markIntS_ok rfl (by kernel_rfl) (fun n L h => by
  unfold loops_laws_markIntS at h
  split at h
  · cases h; exact fun s o ho => loop_ok (stepF := stepEv env_laws_markIntS loops_laws_markIntS pat_laws_markIntS_0 outs_laws_markIntS_0 Try.f26 2) (step_laws_markIntS_0_eq) ho
  · cases h) F_laws_markIntS_eq

noncomputable def step_laws_heldIntS_0 (s : (List Int) × Int × Int) : Option (((List Int) × Int × Int) ⊕ ((Int) ⊕ (Int))) :=
  bif (decide (s.2.2 < (s.1.length : Int))) then
    bif decide (0 ≤ s.2.2) && decide (s.2.2 < (s.1.length : Int)) then
      bif (((s.1.getD (s.2.2).toNat 0) != s.2.1)) then
        some (.inr (.inl ((-1))))
      else
        let v3 := IntKind.i64.wrap (s.2.1 + 1)
        let v4 := IntKind.i64.wrap (s.2.2 + 1)
        some (.inl ((s.1, v3, v4)))
    else none
  else
    some (.inr (.inr (s.2.1)))
def pat_laws_heldIntS_0 : Pat := { tmps := [.v (.slice (.int .i64)), .v (.int .i64), .any, .any, .any, .v (.int .i64), .any, .any, .any, .any, .any, .any, .any, .any, .any, .any, .any, .any, .any, .any, .any], blks := [] }
def outs_laws_heldIntS_0 : List (Exit × Pat) := [(.ret, { tmps := [.any, .any, .any, .any, .v (.int .i64), .any, .any, .any, .any, .any, .any, .any, .any, .any, .any, .any, .any, .any, .any, .any, .any], blks := [] }), (.exit 0, { tmps := [.any, .v (.int .i64), .any, .any, .any, .any, .any, .any, .any, .any, .any, .any, .any, .any, .any, .any, .any, .any, .any, .any, .any], blks := [] })]
noncomputable def F_laws_heldIntS (x : (List Int) × Int) : Option (Int) :=
  match runL step_laws_heldIntS_0 ((x.1, x.2, 0)) with
  | none => none
  | some (.inl o5) =>
    some (o5)
  | some (.inr o5) =>
    some (o5)
noncomputable def c_laws_heldIntS : Con := { ps := [(.val, (.slice (.int .i64))), (.val, (.int .i64))], rs := [(.val, (.int .i64))], F := F_laws_heldIntS }
noncomputable def env_laws_heldIntS : Env := { par := [], con := fun _ => none, clo := fun _ => none, T := tinf Try.prog }
noncomputable def loops_laws_heldIntS : Nat → Option Loop := fun n => match n with | 2 => some { pat := pat_laws_heldIntS_0, outs := outs_laws_heldIntS_0, run := runL (step_laws_heldIntS_0) } | _ => none
theorem step_laws_heldIntS_0_eq (s : (List Int) × Int × Int) : stepEv env_laws_heldIntS loops_laws_heldIntS pat_laws_heldIntS_0 outs_laws_heldIntS_0 Try.f27 2 s = step_laws_heldIntS_0 s := by kernel_rfl
theorem F_laws_heldIntS_eq (x : (List Int) × Int) : Fev env_laws_heldIntS loops_laws_heldIntS c_laws_heldIntS.ps c_laws_heldIntS.rs Try.f27 x = F_laws_heldIntS x := by kernel_rfl
theorem env_laws_heldIntS_ok : EnvOK Try.prog env_laws_heldIntS := envOK_of (fun f c h => by cases h) (fun f c h => by cases h) rfl
theorem con_laws_heldIntS : ConOK Try.prog 27 c_laws_heldIntS := con_of_ev' (body := Try.f27.body.getD .skip) (Λ := loops_laws_heldIntS) mixed Try.func27 (by kernel_rfl) (by kernel_rfl) env_laws_heldIntS_ok rfl (by kernel_rfl) (fun n L h => by
  unfold loops_laws_heldIntS at h
  split at h
  · cases h; exact fun s o ho => loop_ok (stepF := stepEv env_laws_heldIntS loops_laws_heldIntS pat_laws_heldIntS_0 outs_laws_heldIntS_0 Try.f27 2) (step_laws_heldIntS_0_eq) ho
  · cases h) F_laws_heldIntS_eq

noncomputable def F_laws_FnExactMissingEdits (x : (List (Int × (ByteArray × Bool)))) : Option (Bool) :=
  match F_laws_szLogEditS ((x, 1048576)) with
  | none => none
  | some y1 =>
    bif (decide (y1 < 0)) then
      some (true)
    else
      match F_laws_toLogEditS (x) with
      | none => none
      | some y2 =>
        match F_spec_MissingEdits (y2) with
        | none => none
        | some y3 =>
          match F_laws_toLogEditS (x) with
          | none => none
          | some y4 =>
            match F_impl_MissingEdits (y4) with
            | none => none
            | some y5 =>
              match F_laws_eqIntS ((y5.1, y3.1)) with
              | none => none
              | some y6 =>
                bif (!y6) then
                  some (false)
                else
                  bif (!(y5.2 == y3.2)) then
                    some (false)
                  else
                    match F_laws_toLogEditS (x) with
                    | none => none
                    | some y7 =>
                      match F_laws_eqLogEditS ((y4, y7)) with
                      | none => none
                      | some y8 =>
                        bif (!y8) then
                          some (false)
                        else
                          match F_laws_markLogEditS ((y4, 1)) with
                          | none => none
                          | some y9 =>
                            bif (decide (y9.2 < 0)) then
                              some (false)
                            else
                              match F_laws_eqIntS ((y5.1, y3.1)) with
                              | none => none
                              | some y10 =>
                                bif (!y10) then
                                  some (false)
                                else
                                  bif (!(y5.2 == y3.2)) then
                                    some (false)
                                  else
                                    match F_laws_markIntS ((y5.1, 1)) with
                                    | none => none
                                    | some y11 =>
                                      match F_laws_heldIntS ((y11.1, 1)) with
                                      | none => none
                                      | some y12 =>
                                        bif (decide (y12 < 0)) then
                                          some (false)
                                        else
                                          bif ((y12 != y11.2)) then
                                            some (false)
                                          else
                                            match F_laws_toLogEditS (x) with
                                            | none => none
                                            | some y13 =>
                                              match F_impl_MissingEdits (y13) with
                                              | none => none
                                              | some y14 =>
                                                match F_laws_eqIntS ((y14.1, y3.1)) with
                                                | none => none
                                                | some y15 =>
                                                  bif (!y15) then
                                                    some (false)
                                                  else
                                                    bif (!(y14.2 == y3.2)) then
                                                      some (false)
                                                    else
                                                      match F_laws_heldIntS ((y11.1, 1)) with
                                                      | none => none
                                                      | some y16 =>
                                                        bif (decide (y16 < 0)) then
                                                          some (false)
                                                        else
                                                          bif ((y16 != y11.2)) then
                                                            some (false)
                                                          else
                                                            some (true)
noncomputable def c_laws_FnExactMissingEdits : Con := { ps := [(.val, (.slice (.st (.pair (.int .i64) (.pair .str .bool)))))], rs := [(.val, .bool)], F := F_laws_FnExactMissingEdits }
noncomputable def env_laws_FnExactMissingEdits : Env := { par := [], con := fun f => match f with | 9 => some c_laws_szLogEditS | 11 => some c_laws_toLogEditS | 13 => some c_laws_eqLogEditS | 21 => some c_laws_markLogEditS | 23 => some c_spec_MissingEdits | 24 => some c_impl_MissingEdits | 25 => some c_laws_eqIntS | 26 => some c_laws_markIntS | 27 => some c_laws_heldIntS | _ => none, clo := fun _ => none, T := tinf Try.prog }
noncomputable def loops_laws_FnExactMissingEdits : Nat → Option Loop := fun n => none
theorem F_laws_FnExactMissingEdits_eq (x : (List (Int × (ByteArray × Bool)))) : Fev env_laws_FnExactMissingEdits loops_laws_FnExactMissingEdits c_laws_FnExactMissingEdits.ps c_laws_FnExactMissingEdits.rs Try.f6 x = F_laws_FnExactMissingEdits x := by kernel_rfl
theorem env_laws_FnExactMissingEdits_ok : EnvOK Try.prog env_laws_FnExactMissingEdits := envOK_of (fun f c h => by
  simp only [env_laws_FnExactMissingEdits] at h
  split at h
  · cases h; exact con_laws_szLogEditS
  · cases h; exact con_laws_toLogEditS
  · cases h; exact con_laws_eqLogEditS
  · cases h; exact con_laws_markLogEditS
  · cases h; exact con_spec_MissingEdits
  · cases h; exact con_impl_MissingEdits
  · cases h; exact con_laws_eqIntS
  · cases h; exact con_laws_markIntS
  · cases h; exact con_laws_heldIntS
  · cases h) (fun f c h => by cases h) rfl
theorem con_laws_FnExactMissingEdits : ConOK Try.prog 6 c_laws_FnExactMissingEdits := con_of_ev' (body := Try.f6.body.getD .skip) (Λ := loops_laws_FnExactMissingEdits) mixed Try.func6 (by kernel_rfl) (by kernel_rfl) env_laws_FnExactMissingEdits_ok rfl (by kernel_rfl) (fun n L h => by cases h) F_laws_FnExactMissingEdits_eq

noncomputable def step_spec_AgreeingMembers_0 (s : (List (Int × (Int × (ByteArray × (List Int))))) × Int × Int × Int × Int × Int × Int × Int × (List (Int × (Int × (ByteArray × (List Int))))) × Int × Int) : Option (((List (Int × (Int × (ByteArray × (List Int))))) × Int × Int × Int × Int × Int × Int × Int × (List (Int × (Int × (ByteArray × (List Int))))) × Int × Int) ⊕ (((List (Int × (Int × (ByteArray × (List Int))))) × Int × Int × Int × Int × Int × Int × Int))) :=
  bif (decide (s.2.2.2.2.2.2.2.2.2.2 < s.2.2.2.2.2.2.2.2.2.1)) then
    bif decide (0 ≤ s.2.2.2.2.2.2.2.2.2.2) && decide (s.2.2.2.2.2.2.2.2.2.2 < (s.2.2.2.2.2.2.2.2.1.length : Int)) then
      bif decide (0 ≤ s.2.2.2.2.2.1) && decide (s.2.2.2.2.2.1 < ((s.2.2.2.2.2.2.2.2.1.getD (s.2.2.2.2.2.2.2.2.2.2).toNat (0, (0, ByteArray.empty, []))).2.2.2.length : Int)) then
        bif ((((s.2.2.2.2.2.2.2.2.1.getD (s.2.2.2.2.2.2.2.2.2.2).toNat (0, (0, ByteArray.empty, []))).2.2.2.getD (s.2.2.2.2.2.1).toNat 0) != 0)) then
          bif decide (0 ≤ s.2.2.2.2.2.1) && decide (s.2.2.2.2.2.1 < ((s.2.2.2.2.2.2.2.2.1.getD (s.2.2.2.2.2.2.2.2.2.2).toNat (0, (0, ByteArray.empty, []))).2.2.2.length : Int)) then
            bif decide (0 ≤ s.2.2.2.2.2.2.1) && decide (s.2.2.2.2.2.2.1 < ((s.2.2.2.2.2.2.2.2.1.getD (s.2.2.2.2.2.2.2.2.2.2).toNat (0, (0, ByteArray.empty, []))).2.2.2.length : Int)) then
              bif ((((s.2.2.2.2.2.2.2.2.1.getD (s.2.2.2.2.2.2.2.2.2.2).toNat (0, (0, ByteArray.empty, []))).2.2.2.getD (s.2.2.2.2.2.1).toNat 0) == ((s.2.2.2.2.2.2.2.2.1.getD (s.2.2.2.2.2.2.2.2.2.2).toNat (0, (0, ByteArray.empty, []))).2.2.2.getD (s.2.2.2.2.2.2.1).toNat 0))) then
                let v43 := IntKind.i64.wrap (s.2.2.2.2.2.2.2.1 + 1)
                let v44 := IntKind.i64.wrap (s.2.2.2.2.2.2.2.2.2.2 + 1)
                some (.inl ((s.1, s.2.1, (s.2.2.1, s.2.2.2.1, (s.2.2.2.2.1, s.2.2.2.2.2.1, (s.2.2.2.2.2.2.1, v43, (s.2.2.2.2.2.2.2.2.1, s.2.2.2.2.2.2.2.2.2.1, v44)))))))
              else
                let v45 := IntKind.i64.wrap (s.2.2.2.2.2.2.2.2.2.2 + 1)
                some (.inl ((s.1, s.2.1, (s.2.2.1, s.2.2.2.1, (s.2.2.2.2.1, s.2.2.2.2.2.1, (s.2.2.2.2.2.2.1, s.2.2.2.2.2.2.2.1, (s.2.2.2.2.2.2.2.2.1, s.2.2.2.2.2.2.2.2.2.1, v45)))))))
            else none
          else none
        else
          let v46 := IntKind.i64.wrap (s.2.2.2.2.2.2.2.2.2.2 + 1)
          some (.inl ((s.1, s.2.1, (s.2.2.1, s.2.2.2.1, (s.2.2.2.2.1, s.2.2.2.2.2.1, (s.2.2.2.2.2.2.1, s.2.2.2.2.2.2.2.1, (s.2.2.2.2.2.2.2.2.1, s.2.2.2.2.2.2.2.2.2.1, v46)))))))
      else none
    else none
  else
    some (.inr ((s.1, (s.2.1, s.2.2.1, (s.2.2.2.1, s.2.2.2.2.1, (s.2.2.2.2.2.1, s.2.2.2.2.2.2.1, s.2.2.2.2.2.2.2.1))))))
def pat_spec_AgreeingMembers_0 : Pat := { tmps := [.v (.slice (.st (.pair (.int .i64) (.pair (.int .i64) (.pair .str (.slice (.int .i64))))))), .v (.int .i64), .any, .any, .any, .any, .any, .any, .v (.int .i64), .v (.int .i64), .v (.int .i64), .v (.int .i64), .v (.int .i64), .v (.int .i64), .any, .any, .any, .any, .any, .any, .any, .any, .any, .any, .any, .any, .any, .any, .any, .any, .any, .any, .any, .any, .any, .any, .v (.slice (.st (.pair (.int .i64) (.pair (.int .i64) (.pair .str (.slice (.int .i64))))))), .v (.int .i64), .v (.int .i64), .any, .any, .any, .any, .any, .any, .any, .any, .any, .any, .any, .any, .any, .any, .any, .any, .any, .any, .any, .any, .any, .any, .any, .any, .any, .any, .any, .any, .any, .any, .any, .any, .any, .any], blks := [] }
def outs_spec_AgreeingMembers_0 : List (Exit × Pat) := [(.exit 4, { tmps := [.v (.slice (.st (.pair (.int .i64) (.pair (.int .i64) (.pair .str (.slice (.int .i64))))))), .v (.int .i64), .any, .any, .any, .any, .any, .any, .v (.int .i64), .v (.int .i64), .v (.int .i64), .v (.int .i64), .v (.int .i64), .v (.int .i64), .any, .any, .any, .any, .any, .any, .any, .any, .any, .any, .any, .any, .any, .any, .any, .any, .any, .any, .any, .any, .any, .any, .any, .any, .any, .any, .any, .any, .any, .any, .any, .any, .any, .any, .any, .any, .any, .any, .any, .any, .any, .any, .any, .any, .any, .any, .any, .any, .any, .any, .any, .any, .any, .any, .any, .any, .any, .any, .any], blks := [] })]
noncomputable def step_spec_AgreeingMembers_1 (s : (List (Int × (Int × (ByteArray × (List Int))))) × Int × Int × Int × Int × Int × Int) : Option (((List (Int × (Int × (ByteArray × (List Int))))) × Int × Int × Int × Int × Int × Int) ⊕ (((List (Int × (Int × (ByteArray × (List Int))))) × Int × Int × Int × Int × Int))) :=
  bif (decide (s.2.2.2.2.2.2 < s.2.1)) then
    match runL step_spec_AgreeingMembers_0 ((s.1, s.2.1, (s.2.2.1, s.2.2.2.1, (s.2.2.2.2.1, s.2.2.2.2.2.1, (s.2.2.2.2.2.2, 0, (s.1, (s.1.length : Int), 0)))))) with
    | none => none
    | some o47 =>
      bif (decide (o47.2.2.2.2.2.2.2 > o47.2.2.2.2.1)) then
        let v48 := IntKind.i64.wrap (o47.2.2.2.2.2.2.1 + 1)
        some (.inl ((o47.1, o47.2.1, (o47.2.2.2.2.2.1, o47.2.2.2.2.2.2.1, (o47.2.2.2.2.2.2.2, o47.2.2.2.2.2.1, v48)))))
      else
        let v49 := IntKind.i64.wrap (o47.2.2.2.2.2.2.1 + 1)
        some (.inl ((o47.1, o47.2.1, (o47.2.2.1, o47.2.2.2.1, (o47.2.2.2.2.1, o47.2.2.2.2.2.1, v49)))))
  else
    some (.inr ((s.1, (s.2.1, s.2.2.1, (s.2.2.2.1, s.2.2.2.2.1, s.2.2.2.2.2.1)))))
def pat_spec_AgreeingMembers_1 : Pat := { tmps := [.v (.slice (.st (.pair (.int .i64) (.pair (.int .i64) (.pair .str (.slice (.int .i64))))))), .v (.int .i64), .any, .any, .any, .any, .any, .any, .v (.int .i64), .v (.int .i64), .v (.int .i64), .v (.int .i64), .v (.int .i64), .any, .any, .any, .any, .any, .any, .any, .any, .any, .any, .any, .any, .any, .any, .any, .any, .any, .any, .any, .any, .any, .any, .any, .any, .any, .any, .any, .any, .any, .any, .any, .any, .any, .any, .any, .any, .any, .any, .any, .any, .any, .any, .any, .any, .any, .any, .any, .any, .any, .any, .any, .any, .any, .any, .any, .any, .any, .any, .any, .any], blks := [] }
def outs_spec_AgreeingMembers_1 : List (Exit × Pat) := [(.exit 2, { tmps := [.v (.slice (.st (.pair (.int .i64) (.pair (.int .i64) (.pair .str (.slice (.int .i64))))))), .v (.int .i64), .any, .any, .any, .any, .any, .any, .v (.int .i64), .v (.int .i64), .v (.int .i64), .v (.int .i64), .any, .any, .any, .any, .any, .any, .any, .any, .any, .any, .any, .any, .any, .any, .any, .any, .any, .any, .any, .any, .any, .any, .any, .any, .any, .any, .any, .any, .any, .any, .any, .any, .any, .any, .any, .any, .any, .any, .any, .any, .any, .any, .any, .any, .any, .any, .any, .any, .any, .any, .any, .any, .any, .any, .any, .any, .any, .any, .any, .any, .any], blks := [] })]
noncomputable def step_spec_AgreeingMembers_2 (s : (List (Int × (Int × (ByteArray × (List Int))))) × Int × Int × Int × Int × Int) : Option (((List (Int × (Int × (ByteArray × (List Int))))) × Int × Int × Int × Int × Int) ⊕ ((Int × Int × Int))) :=
  bif (decide (s.2.2.2.2.2 < s.2.1)) then
    let v27 := IntKind.i64.wrap (s.2.2.2.2.2 + 1)
    match runL step_spec_AgreeingMembers_1 ((s.1, s.2.1, (s.2.2.1, s.2.2.2.1, (s.2.2.2.2.1, s.2.2.2.2.2, v27)))) with
    | none => none
    | some o50 =>
      let v51 := IntKind.i64.wrap (o50.2.2.2.2.2 + 1)
      some (.inl ((o50.1, (o50.2.1, o50.2.2.1, (o50.2.2.2.1, o50.2.2.2.2.1, v51)))))
  else
    some (.inr ((s.2.2.1, s.2.2.2.1, s.2.2.2.2.1)))
def pat_spec_AgreeingMembers_2 : Pat := { tmps := [.v (.slice (.st (.pair (.int .i64) (.pair (.int .i64) (.pair .str (.slice (.int .i64))))))), .v (.int .i64), .any, .any, .any, .any, .any, .any, .v (.int .i64), .v (.int .i64), .v (.int .i64), .v (.int .i64), .any, .any, .any, .any, .any, .any, .any, .any, .any, .any, .any, .any, .any, .any, .any, .any, .any, .any, .any, .any, .any, .any, .any, .any, .any, .any, .any, .any, .any, .any, .any, .any, .any, .any, .any, .any, .any, .any, .any, .any, .any, .any, .any, .any, .any, .any, .any, .any, .any, .any, .any, .any, .any, .any, .any, .any, .any, .any, .any, .any, .any], blks := [] }
def outs_spec_AgreeingMembers_2 : List (Exit × Pat) := [(.exit 0, { tmps := [.any, .any, .any, .any, .any, .any, .any, .any, .v (.int .i64), .v (.int .i64), .v (.int .i64), .any, .any, .any, .any, .any, .any, .any, .any, .any, .any, .any, .any, .any, .any, .any, .any, .any, .any, .any, .any, .any, .any, .any, .any, .any, .any, .any, .any, .any, .any, .any, .any, .any, .any, .any, .any, .any, .any, .any, .any, .any, .any, .any, .any, .any, .any, .any, .any, .any, .any, .any, .any, .any, .any, .any, .any, .any, .any, .any, .any, .any, .any], blks := [] })]
noncomputable def F_spec_AgreeingMembers (x : (List (Int × (Int × (ByteArray × (List Int))))) × Int) : Option (Int × Int × Int × Bool) :=
  match F_spec_ofGood (x) with
  | none => none
  | some y1 =>
    bif (!y1) then
      some ((0, (0, 0, false)))
    else
      bif ((x.2 == 1)) then
        some ((0, (0, 0, false)))
      else
        match runL step_spec_AgreeingMembers_2 ((x.1, (x.2, 0, (0, (-1), 0)))) with
        | none => none
        | some o52 =>
          some ((o52.1, (o52.2.1, o52.2.2, true)))
noncomputable def c_spec_AgreeingMembers : Con := { ps := [(.val, (.slice (.st (.pair (.int .i64) (.pair (.int .i64) (.pair .str (.slice (.int .i64)))))))), (.val, (.int .i64))], rs := [(.val, (.int .i64)), (.val, (.int .i64)), (.val, (.int .i64)), (.val, .bool)], F := F_spec_AgreeingMembers }
noncomputable def env_spec_AgreeingMembers : Env := { par := [], con := fun f => match f with | 38 => some c_spec_ofGood | _ => none, clo := fun _ => none, T := tinf Try.prog }
noncomputable def loops_spec_AgreeingMembers : Nat → Option Loop := fun n => match n with | 12 => some { pat := pat_spec_AgreeingMembers_0, outs := outs_spec_AgreeingMembers_0, run := runL (step_spec_AgreeingMembers_0) } | 8 => some { pat := pat_spec_AgreeingMembers_1, outs := outs_spec_AgreeingMembers_1, run := runL (step_spec_AgreeingMembers_1) } | 5 => some { pat := pat_spec_AgreeingMembers_2, outs := outs_spec_AgreeingMembers_2, run := runL (step_spec_AgreeingMembers_2) } | _ => none
theorem step_spec_AgreeingMembers_0_eq (s : (List (Int × (Int × (ByteArray × (List Int))))) × Int × Int × Int × Int × Int × Int × Int × (List (Int × (Int × (ByteArray × (List Int))))) × Int × Int) : stepEv env_spec_AgreeingMembers loops_spec_AgreeingMembers pat_spec_AgreeingMembers_0 outs_spec_AgreeingMembers_0 Try.f28 12 s = step_spec_AgreeingMembers_0 s := by kernel_rfl
theorem step_spec_AgreeingMembers_1_eq (s : (List (Int × (Int × (ByteArray × (List Int))))) × Int × Int × Int × Int × Int × Int) : stepEv env_spec_AgreeingMembers loops_spec_AgreeingMembers pat_spec_AgreeingMembers_1 outs_spec_AgreeingMembers_1 Try.f28 8 s = step_spec_AgreeingMembers_1 s := by kernel_rfl
theorem step_spec_AgreeingMembers_2_eq (s : (List (Int × (Int × (ByteArray × (List Int))))) × Int × Int × Int × Int × Int) : stepEv env_spec_AgreeingMembers loops_spec_AgreeingMembers pat_spec_AgreeingMembers_2 outs_spec_AgreeingMembers_2 Try.f28 5 s = step_spec_AgreeingMembers_2 s := by kernel_rfl
theorem F_spec_AgreeingMembers_eq (x : (List (Int × (Int × (ByteArray × (List Int))))) × Int) : Fev env_spec_AgreeingMembers loops_spec_AgreeingMembers c_spec_AgreeingMembers.ps c_spec_AgreeingMembers.rs Try.f28 x = F_spec_AgreeingMembers x := by kernel_rfl
theorem env_spec_AgreeingMembers_ok : EnvOK Try.prog env_spec_AgreeingMembers := envOK_of (fun f c h => by
  simp only [env_spec_AgreeingMembers] at h
  split at h
  · cases h; exact con_spec_ofGood
  · cases h) (fun f c h => by cases h) rfl
theorem con_spec_AgreeingMembers : ConOK Try.prog 28 c_spec_AgreeingMembers := con_of_ev' (body := Try.f28.body.getD .skip) (Λ := loops_spec_AgreeingMembers) mixed Try.func28 (by kernel_rfl) (by kernel_rfl) env_spec_AgreeingMembers_ok rfl (by kernel_rfl) (fun n L h => by
  unfold loops_spec_AgreeingMembers at h
  split at h
  · cases h; exact fun s o ho => loop_ok (stepF := stepEv env_spec_AgreeingMembers loops_spec_AgreeingMembers pat_spec_AgreeingMembers_0 outs_spec_AgreeingMembers_0 Try.f28 12) (step_spec_AgreeingMembers_0_eq) ho
  · cases h; exact fun s o ho => loop_ok (stepF := stepEv env_spec_AgreeingMembers loops_spec_AgreeingMembers pat_spec_AgreeingMembers_1 outs_spec_AgreeingMembers_1 Try.f28 8) (step_spec_AgreeingMembers_1_eq) ho
  · cases h; exact fun s o ho => loop_ok (stepF := stepEv env_spec_AgreeingMembers loops_spec_AgreeingMembers pat_spec_AgreeingMembers_2 outs_spec_AgreeingMembers_2 Try.f28 5) (step_spec_AgreeingMembers_2_eq) ho
  · cases h) F_spec_AgreeingMembers_eq

noncomputable def F_impl_AgreeingMembers_1 (x : (Int × (Int × (ByteArray × (List Int)))) × Int × Int) : Option (Bool) :=
  bif decide (0 ≤ x.2.1) && decide (x.2.1 < (x.1.2.2.2.length : Int)) then
    bif (((x.1.2.2.2.getD (x.2.1).toNat 0) != 0)) then
      bif decide (0 ≤ x.2.1) && decide (x.2.1 < (x.1.2.2.2.length : Int)) then
        bif decide (0 ≤ x.2.2) && decide (x.2.2 < (x.1.2.2.2.length : Int)) then
          some ((((x.1.2.2.2.getD (x.2.1).toNat 0) == (x.1.2.2.2.getD (x.2.2).toNat 0))))
        else none
      else none
    else
      some (false)
  else none
noncomputable def c_impl_AgreeingMembers_1 : Con := { ps := [(.val, (.st (.pair (.int .i64) (.pair (.int .i64) (.pair .str (.slice (.int .i64))))))), (.val, (.ptr (.int .i64))), (.val, (.ptr (.int .i64)))], rs := [(.val, .bool)], F := F_impl_AgreeingMembers_1 }
noncomputable def env_impl_AgreeingMembers_1 : Env := { par := [], con := fun _ => none, clo := fun _ => none, T := tinf Try.prog }
noncomputable def loops_impl_AgreeingMembers_1 : Nat → Option Loop := fun n => none
theorem F_impl_AgreeingMembers_1_eq (x : (Int × (Int × (ByteArray × (List Int)))) × Int × Int) : Fev env_impl_AgreeingMembers_1 loops_impl_AgreeingMembers_1 c_impl_AgreeingMembers_1.ps c_impl_AgreeingMembers_1.rs Try.f47 x = F_impl_AgreeingMembers_1 x := by kernel_rfl
theorem env_impl_AgreeingMembers_1_ok : EnvOK Try.prog env_impl_AgreeingMembers_1 := envOK_of (fun f c h => by cases h) (fun f c h => by cases h) rfl
theorem con_impl_AgreeingMembers_1 : ConOK Try.prog 47 c_impl_AgreeingMembers_1 := con_of_ev' (body := Try.f47.body.getD .skip) (Λ := loops_impl_AgreeingMembers_1) mixed Try.func47 (by kernel_rfl) (by kernel_rfl) env_impl_AgreeingMembers_1_ok rfl (by kernel_rfl) (fun n L h => by cases h) F_impl_AgreeingMembers_1_eq

noncomputable def step_impl_those_impl_Proposal_0 (s : ((Int × (Int × (ByteArray × (List Int)))) → Option Bool) × (List (Int × (Int × (ByteArray × (List Int))))) × Int × Int × (List Int)) : Option ((((Int × (Int × (ByteArray × (List Int)))) → Option Bool) × (List (Int × (Int × (ByteArray × (List Int))))) × Int × Int × (List Int)) ⊕ (((List Int)))) :=
  bif (decide (s.2.2.2.1 < s.2.2.1)) then
    bif decide (0 ≤ s.2.2.2.1) && decide (s.2.2.2.1 < (s.2.1.length : Int)) then
      match s.1 ((s.2.1.getD (s.2.2.2.1).toNat (0, (0, ByteArray.empty, [])))) with
      | none => none
      | some y8 =>
        bif y8 then
          bif decide ((s.2.2.2.2.length + [s.2.2.2.1].length) * 8 ≤ 140737488355328) then
            let v9 := s.2.2.2.2 ++ [s.2.2.2.1]
            let v10 := IntKind.i64.wrap (s.2.2.2.1 + 1)
            some (.inl ((s.1, s.2.1, (s.2.2.1, v10, v9))))
          else none
        else
          let v11 := IntKind.i64.wrap (s.2.2.2.1 + 1)
          some (.inl ((s.1, s.2.1, (s.2.2.1, v11, s.2.2.2.2))))
    else none
  else
    some (.inr (s.2.2.2.2))
def pat_impl_those_impl_Proposal_0 : Pat := { tmps := [.any, .v (.fn (.st (.pair (.int .i64) (.pair (.int .i64) (.pair .str (.slice (.int .i64)))))) .bool), .any, .any, .any, .own 1344, .any, .any, .v (.slice (.st (.pair (.int .i64) (.pair (.int .i64) (.pair .str (.slice (.int .i64))))))), .v (.int .i64), .v (.int .i64), .any, .any, .any, .any, .any, .any, .any, .any, .any, .any, .any, .any, .any], blks := [(1344, .row true (.int .i64))] }
def outs_impl_those_impl_Proposal_0 : List (Exit × Pat) := [(.exit 0, { tmps := [.any, .any, .any, .any, .any, .own 1344, .any, .any, .any, .any, .any, .any, .any, .any, .any, .any, .any, .any, .any, .any, .any, .any, .any, .any], blks := [(1344, .row true (.int .i64))] })]
noncomputable def F_impl_those_impl_Proposal (x : (List (Int × (Int × (ByteArray × (List Int))))) × ((Int × (Int × (ByteArray × (List Int)))) → Option Bool)) : Option ((List Int)) :=
  match runL step_impl_those_impl_Proposal_0 ((x.2, x.1, ((x.1.length : Int), 0, []))) with
  | none => none
  | some o12 =>
    some (o12)
noncomputable def c_impl_those_impl_Proposal : Con := { ps := [(.val, (.slice (.st (.pair (.int .i64) (.pair (.int .i64) (.pair .str (.slice (.int .i64)))))))), (.val, (.fn (.st (.pair (.int .i64) (.pair (.int .i64) (.pair .str (.slice (.int .i64)))))) .bool))], rs := [(.io true, (.slice (.int .i64)))], F := F_impl_those_impl_Proposal }
noncomputable def env_impl_those_impl_Proposal : Env := { par := [], con := fun _ => none, clo := fun _ => none, T := tinf Try.prog }
noncomputable def loops_impl_those_impl_Proposal : Nat → Option Loop := fun n => match n with | 3 => some { pat := pat_impl_those_impl_Proposal_0, outs := outs_impl_those_impl_Proposal_0, run := runL (step_impl_those_impl_Proposal_0) } | _ => none
theorem step_impl_those_impl_Proposal_0_eq (s : ((Int × (Int × (ByteArray × (List Int)))) → Option Bool) × (List (Int × (Int × (ByteArray × (List Int))))) × Int × Int × (List Int)) : stepEv env_impl_those_impl_Proposal loops_impl_those_impl_Proposal pat_impl_those_impl_Proposal_0 outs_impl_those_impl_Proposal_0 Try.f46 3 s = step_impl_those_impl_Proposal_0 s := by kernel_rfl
theorem F_impl_those_impl_Proposal_eq (x : (List (Int × (Int × (ByteArray × (List Int))))) × ((Int × (Int × (ByteArray × (List Int)))) → Option Bool)) : Fev env_impl_those_impl_Proposal loops_impl_those_impl_Proposal c_impl_those_impl_Proposal.ps c_impl_those_impl_Proposal.rs Try.f46 x = F_impl_those_impl_Proposal x := by kernel_rfl
theorem env_impl_those_impl_Proposal_ok : EnvOK Try.prog env_impl_those_impl_Proposal := envOK_of (fun f c h => by cases h) (fun f c h => by cases h) rfl
theorem con_impl_those_impl_Proposal : ConOK Try.prog 46 c_impl_those_impl_Proposal := con_of_ev' (body := Try.f46.body.getD .skip) (Λ := loops_impl_those_impl_Proposal) mixed Try.func46 (by kernel_rfl) (by kernel_rfl) env_impl_those_impl_Proposal_ok rfl (by kernel_rfl) (fun n L h => by
  unfold loops_impl_those_impl_Proposal at h
  split at h
  · cases h; exact fun s o ho => loop_ok (stepF := stepEv env_impl_those_impl_Proposal loops_impl_those_impl_Proposal pat_impl_those_impl_Proposal_0 outs_impl_those_impl_Proposal_0 Try.f46 3) (step_impl_those_impl_Proposal_0_eq) ho
  · cases h) F_impl_those_impl_Proposal_eq

noncomputable def K_impl_AgreeingMembers_1 (q : Int × Int) (x : (Int × (Int × (ByteArray × (List Int))))) : Option (Bool) := F_impl_AgreeingMembers_1 (x, q)
noncomputable def k_impl_AgreeingMembers_1 : CloCon := { caps := [(.int .i64), (.int .i64)], a := (.st (.pair (.int .i64) (.pair (.int .i64) (.pair .str (.slice (.int .i64)))))), r := .bool, F := K_impl_AgreeingMembers_1 }
theorem clo_impl_AgreeingMembers_1 : CloOK Try.prog 47 k_impl_AgreeingMembers_1 := clo_of_con k_impl_AgreeingMembers_1 F_impl_AgreeingMembers_1 con_impl_AgreeingMembers_1 rfl (fun kx x y h => ⟨y, h, rfl⟩)
noncomputable def step_impl_AgreeingMembers_0 (s : (List (Int × (Int × (ByteArray × (List Int))))) × Int × Int × Int × Int × Int × Int × Int × Int) : Option (((List (Int × (Int × (ByteArray × (List Int))))) × Int × Int × Int × Int × Int × Int × Int × Int) ⊕ (((List (Int × (Int × (ByteArray × (List Int))))) × Int × Int × Int × Int × Int × Int))) :=
  bif (decide (s.2.2.2.2.2.2.2.1 < s.2.1)) then
    match F_impl_those_impl_Proposal ((s.1, (K_impl_AgreeingMembers_1 (s.2.2.2.2.2.2.2.2, s.2.2.2.2.2.2.2.1)))) with
    | none => none
    | some y15 =>
      bif (decide ((y15.length : Int) > s.2.2.2.2.1)) then
        let v16 := IntKind.i64.wrap (s.2.2.2.2.2.2.2.1 + 1)
        some (.inl ((s.1, s.2.1, (s.2.2.2.2.2.2.2.2, s.2.2.2.2.2.2.2.1, ((y15.length : Int), s.2.2.2.2.2.1, (s.2.2.2.2.2.2.1, v16, s.2.2.2.2.2.2.2.2))))))
      else
        let v17 := IntKind.i64.wrap (s.2.2.2.2.2.2.2.1 + 1)
        some (.inl ((s.1, s.2.1, (s.2.2.1, s.2.2.2.1, (s.2.2.2.2.1, s.2.2.2.2.2.1, (s.2.2.2.2.2.2.1, v17, s.2.2.2.2.2.2.2.2))))))
  else
    some (.inr ((s.1, s.2.1, (s.2.2.1, s.2.2.2.1, (s.2.2.2.2.1, s.2.2.2.2.2.1, s.2.2.2.2.2.2.1)))))
def pat_impl_AgreeingMembers_0 : Pat := { tmps := [.v (.slice (.st (.pair (.int .i64) (.pair (.int .i64) (.pair .str (.slice (.int .i64))))))), .v (.int .i64), .any, .any, .any, .any, .any, .any, .v (.int .i64), .v (.int .i64), .v (.int .i64), .ptr 704 0, .ptr 768 0, .any, .any, .any, .any, .any, .any, .any, .any, .any, .v (.int .i64), .v (.int .i64), .any, .any, .any, .any, .any, .any, .any, .any, .any, .any, .any, .any, .any, .any, .any, .any, .any, .any, .any, .any, .any, .any, .any, .any], blks := [(768, .box [.v (.int .i64)]), (704, .box [.v (.int .i64)])] }
def outs_impl_AgreeingMembers_0 : List (Exit × Pat) := [(.exit 2, { tmps := [.v (.slice (.st (.pair (.int .i64) (.pair (.int .i64) (.pair .str (.slice (.int .i64))))))), .v (.int .i64), .any, .any, .any, .any, .any, .any, .v (.int .i64), .v (.int .i64), .v (.int .i64), .any, .any, .any, .any, .any, .any, .any, .any, .any, .any, .any, .v (.int .i64), .v (.int .i64), .any, .any, .any, .any, .any, .any, .any, .any, .any, .any, .any, .any, .any, .any, .any, .any, .any, .any, .any, .any, .any, .any, .any, .any], blks := [] })]
noncomputable def step_impl_AgreeingMembers_1 (s : (List (Int × (Int × (ByteArray × (List Int))))) × Int × Int × Int × Int × Int × Int) : Option (((List (Int × (Int × (ByteArray × (List Int))))) × Int × Int × Int × Int × Int × Int) ⊕ ((Int × Int × Int))) :=
  bif (decide (s.2.2.2.2.2.2 < s.2.2.2.2.2.1)) then
    let v11 := IntKind.i64.wrap (s.2.2.2.2.2.2 + 1)
    match runL step_impl_AgreeingMembers_0 ((s.1, s.2.1, (s.2.2.1, s.2.2.2.1, (s.2.2.2.2.1, s.2.2.2.2.2.1, (s.2.2.2.2.2.2, v11, s.2.2.2.2.2.2))))) with
    | none => none
    | some o18 =>
      let v19 := IntKind.i64.wrap (o18.2.2.2.2.2.2 + 1)
      some (.inl ((o18.1, o18.2.1, (o18.2.2.1, o18.2.2.2.1, (o18.2.2.2.2.1, o18.2.2.2.2.2.1, v19)))))
  else
    some (.inr ((s.2.2.1, s.2.2.2.1, s.2.2.2.2.1)))
def pat_impl_AgreeingMembers_1 : Pat := { tmps := [.v (.slice (.st (.pair (.int .i64) (.pair (.int .i64) (.pair .str (.slice (.int .i64))))))), .v (.int .i64), .any, .any, .any, .any, .any, .any, .v (.int .i64), .v (.int .i64), .v (.int .i64), .any, .any, .any, .any, .any, .any, .any, .any, .any, .any, .any, .v (.int .i64), .v (.int .i64), .any, .any, .any, .any, .any, .any, .any, .any, .any, .any, .any, .any, .any, .any, .any, .any, .any, .any, .any, .any, .any, .any, .any, .any], blks := [] }
def outs_impl_AgreeingMembers_1 : List (Exit × Pat) := [(.exit 0, { tmps := [.any, .any, .any, .any, .any, .any, .any, .any, .v (.int .i64), .v (.int .i64), .v (.int .i64), .any, .any, .any, .any, .any, .any, .any, .any, .any, .any, .any, .any, .any, .any, .any, .any, .any, .any, .any, .any, .any, .any, .any, .any, .any, .any, .any, .any, .any, .any, .any, .any, .any, .any, .any, .any, .any], blks := [] })]
noncomputable def F_impl_AgreeingMembers (x : (List (Int × (Int × (ByteArray × (List Int))))) × Int) : Option (Int × Int × Int × Bool) :=
  match F_impl_AreProposals (x) with
  | none => none
  | some y1 =>
    bif (!y1) then
      some ((0, (0, 0, false)))
    else
      bif (decide (x.2 < 2)) then
        some ((0, (0, 0, false)))
      else
        match runL step_impl_AgreeingMembers_1 ((x.1, x.2, (0, 1, (0, x.2, 0)))) with
        | none => none
        | some o20 =>
          some ((o20.1, (o20.2.1, o20.2.2, true)))
noncomputable def c_impl_AgreeingMembers : Con := { ps := [(.val, (.slice (.st (.pair (.int .i64) (.pair (.int .i64) (.pair .str (.slice (.int .i64)))))))), (.val, (.int .i64))], rs := [(.val, (.int .i64)), (.val, (.int .i64)), (.val, (.int .i64)), (.val, .bool)], F := F_impl_AgreeingMembers }
noncomputable def env_impl_AgreeingMembers : Env := { par := [], con := fun f => match f with | 17 => some c_impl_AreProposals | 46 => some c_impl_those_impl_Proposal | _ => none, clo := fun f => match f with | 47 => some k_impl_AgreeingMembers_1 | _ => none, T := tinf Try.prog }
noncomputable def loops_impl_AgreeingMembers : Nat → Option Loop := fun n => match n with | 8 => some { pat := pat_impl_AgreeingMembers_0, outs := outs_impl_AgreeingMembers_0, run := runL (step_impl_AgreeingMembers_0) } | 5 => some { pat := pat_impl_AgreeingMembers_1, outs := outs_impl_AgreeingMembers_1, run := runL (step_impl_AgreeingMembers_1) } | _ => none
theorem step_impl_AgreeingMembers_0_eq (s : (List (Int × (Int × (ByteArray × (List Int))))) × Int × Int × Int × Int × Int × Int × Int × Int) : stepEv env_impl_AgreeingMembers loops_impl_AgreeingMembers pat_impl_AgreeingMembers_0 outs_impl_AgreeingMembers_0 Try.f29 8 s = step_impl_AgreeingMembers_0 s := by kernel_rfl
theorem step_impl_AgreeingMembers_1_eq (s : (List (Int × (Int × (ByteArray × (List Int))))) × Int × Int × Int × Int × Int × Int) : stepEv env_impl_AgreeingMembers loops_impl_AgreeingMembers pat_impl_AgreeingMembers_1 outs_impl_AgreeingMembers_1 Try.f29 5 s = step_impl_AgreeingMembers_1 s := by kernel_rfl
theorem F_impl_AgreeingMembers_eq (x : (List (Int × (Int × (ByteArray × (List Int))))) × Int) : Fev env_impl_AgreeingMembers loops_impl_AgreeingMembers c_impl_AgreeingMembers.ps c_impl_AgreeingMembers.rs Try.f29 x = F_impl_AgreeingMembers x := by kernel_rfl
theorem env_impl_AgreeingMembers_ok : EnvOK Try.prog env_impl_AgreeingMembers := envOK_of (fun f c h => by
  simp only [env_impl_AgreeingMembers] at h
  split at h
  · cases h; exact con_impl_AreProposals
  · cases h; exact con_impl_those_impl_Proposal
  · cases h) (fun f c h => by
  simp only [env_impl_AgreeingMembers] at h
  split at h
  · cases h; exact clo_impl_AgreeingMembers_1
  · cases h) rfl
theorem con_impl_AgreeingMembers : ConOK Try.prog 29 c_impl_AgreeingMembers := con_of_ev' (body := Try.f29.body.getD .skip) (Λ := loops_impl_AgreeingMembers) mixed Try.func29 (by kernel_rfl) (by kernel_rfl) env_impl_AgreeingMembers_ok rfl (by kernel_rfl) (fun n L h => by
  unfold loops_impl_AgreeingMembers at h
  split at h
  · cases h; exact fun s o ho => loop_ok (stepF := stepEv env_impl_AgreeingMembers loops_impl_AgreeingMembers pat_impl_AgreeingMembers_0 outs_impl_AgreeingMembers_0 Try.f29 8) (step_impl_AgreeingMembers_0_eq) ho
  · cases h; exact fun s o ho => loop_ok (stepF := stepEv env_impl_AgreeingMembers loops_impl_AgreeingMembers pat_impl_AgreeingMembers_1 outs_impl_AgreeingMembers_1 Try.f29 5) (step_impl_AgreeingMembers_1_eq) ho
  · cases h) F_impl_AgreeingMembers_eq

noncomputable def F_laws_FnExactAgreeingMembers (x : (List (Int × (Int × (ByteArray × (List Int))))) × Int) : Option (Bool) :=
  match F_laws_szProposalS ((x.1, 1048576)) with
  | none => none
  | some y1 =>
    bif (decide (y1 < 0)) then
      some (true)
    else
      match F_laws_toProposalS (x.1) with
      | none => none
      | some y2 =>
        match F_spec_AgreeingMembers ((y2, x.2)) with
        | none => none
        | some y3 =>
          match F_laws_toProposalS (x.1) with
          | none => none
          | some y4 =>
            match F_impl_AgreeingMembers ((y4, x.2)) with
            | none => none
            | some y5 =>
              bif ((y5.1 != y3.1)) then
                some (false)
              else
                bif ((y5.2.1 != y3.2.1)) then
                  some (false)
                else
                  bif ((y5.2.2.1 != y3.2.2.1)) then
                    some (false)
                  else
                    bif (!(y5.2.2.2 == y3.2.2.2)) then
                      some (false)
                    else
                      match F_laws_toProposalS (x.1) with
                      | none => none
                      | some y6 =>
                        match F_laws_eqProposalS ((y4, y6)) with
                        | none => none
                        | some y7 =>
                          bif (!y7) then
                            some (false)
                          else
                            some (true)
noncomputable def c_laws_FnExactAgreeingMembers : Con := { ps := [(.val, (.slice (.st (.pair (.int .i64) (.pair (.int .i64) (.pair .str (.slice (.int .i64)))))))), (.val, (.int .i64))], rs := [(.val, .bool)], F := F_laws_FnExactAgreeingMembers }
noncomputable def env_laws_FnExactAgreeingMembers : Env := { par := [], con := fun f => match f with | 14 => some c_laws_szProposalS | 16 => some c_laws_toProposalS | 18 => some c_laws_eqProposalS | 28 => some c_spec_AgreeingMembers | 29 => some c_impl_AgreeingMembers | _ => none, clo := fun _ => none, T := tinf Try.prog }
noncomputable def loops_laws_FnExactAgreeingMembers : Nat → Option Loop := fun n => none
theorem F_laws_FnExactAgreeingMembers_eq (x : (List (Int × (Int × (ByteArray × (List Int))))) × Int) : Fev env_laws_FnExactAgreeingMembers loops_laws_FnExactAgreeingMembers c_laws_FnExactAgreeingMembers.ps c_laws_FnExactAgreeingMembers.rs Try.f7 x = F_laws_FnExactAgreeingMembers x := by kernel_rfl
theorem env_laws_FnExactAgreeingMembers_ok : EnvOK Try.prog env_laws_FnExactAgreeingMembers := envOK_of (fun f c h => by
  simp only [env_laws_FnExactAgreeingMembers] at h
  split at h
  · cases h; exact con_laws_szProposalS
  · cases h; exact con_laws_toProposalS
  · cases h; exact con_laws_eqProposalS
  · cases h; exact con_spec_AgreeingMembers
  · cases h; exact con_impl_AgreeingMembers
  · cases h) (fun f c h => by cases h) rfl
theorem con_laws_FnExactAgreeingMembers : ConOK Try.prog 7 c_laws_FnExactAgreeingMembers := con_of_ev' (body := Try.f7.body.getD .skip) (Λ := loops_laws_FnExactAgreeingMembers) mixed Try.func7 (by kernel_rfl) (by kernel_rfl) env_laws_FnExactAgreeingMembers_ok rfl (by kernel_rfl) (fun n L h => by cases h) F_laws_FnExactAgreeingMembers_eq

noncomputable def step_spec_ofFind_0 (s : Int × (List (Int × (Int × (ByteArray × (List Int))))) × Int × Int) : Option ((Int × (List (Int × (Int × (ByteArray × (List Int))))) × Int × Int) ⊕ ((Int) ⊕ (Unit))) :=
  bif (decide (s.2.2.2 < s.2.2.1)) then
    bif decide (0 ≤ s.2.2.2) && decide (s.2.2.2 < (s.2.1.length : Int)) then
      bif (((s.2.1.getD (s.2.2.2).toNat (0, (0, ByteArray.empty, []))).1 == s.1)) then
        some (.inr (.inl (s.2.2.2)))
      else
        let v2 := IntKind.i64.wrap (s.2.2.2 + 1)
        some (.inl ((s.1, (s.2.1, s.2.2.1, v2))))
    else none
  else
    some (.inr (.inr (())))
def pat_spec_ofFind_0 : Pat := { tmps := [.any, .v (.int .i64), .any, .any, .any, .any, .any, .v (.slice (.st (.pair (.int .i64) (.pair (.int .i64) (.pair .str (.slice (.int .i64))))))), .v (.int .i64), .v (.int .i64), .any, .any, .any, .any, .any, .any, .any, .any, .any, .any], blks := [] }
def outs_spec_ofFind_0 : List (Exit × Pat) := [(.ret, { tmps := [.any, .any, .any, .any, .v (.int .i64), .any, .any, .any, .any, .any, .any, .any, .any, .any, .any, .any, .any, .any, .any, .any], blks := [] }), (.exit 0, { tmps := [.any, .any, .any, .any, .any, .any, .any, .any, .any, .any, .any, .any, .any, .any, .any, .any, .any, .any, .any, .any], blks := [] })]
noncomputable def F_spec_ofFind (x : (List (Int × (Int × (ByteArray × (List Int))))) × Int) : Option (Int) :=
  match runL step_spec_ofFind_0 ((x.2, (x.1, (x.1.length : Int), 0))) with
  | none => none
  | some (.inl o3) =>
    some (o3)
  | some (.inr o3) =>
    some ((-1))
noncomputable def c_spec_ofFind : Con := { ps := [(.val, (.slice (.st (.pair (.int .i64) (.pair (.int .i64) (.pair .str (.slice (.int .i64)))))))), (.val, (.int .i64))], rs := [(.val, (.int .i64))], F := F_spec_ofFind }
noncomputable def env_spec_ofFind : Env := { par := [], con := fun _ => none, clo := fun _ => none, T := tinf Try.prog }
noncomputable def loops_spec_ofFind : Nat → Option Loop := fun n => match n with | 2 => some { pat := pat_spec_ofFind_0, outs := outs_spec_ofFind_0, run := runL (step_spec_ofFind_0) } | _ => none
theorem step_spec_ofFind_0_eq (s : Int × (List (Int × (Int × (ByteArray × (List Int))))) × Int × Int) : stepEv env_spec_ofFind loops_spec_ofFind pat_spec_ofFind_0 outs_spec_ofFind_0 Try.f48 2 s = step_spec_ofFind_0 s := by kernel_rfl
theorem F_spec_ofFind_eq (x : (List (Int × (Int × (ByteArray × (List Int))))) × Int) : Fev env_spec_ofFind loops_spec_ofFind c_spec_ofFind.ps c_spec_ofFind.rs Try.f48 x = F_spec_ofFind x := by kernel_rfl
theorem env_spec_ofFind_ok : EnvOK Try.prog env_spec_ofFind := envOK_of (fun f c h => by cases h) (fun f c h => by cases h) rfl
theorem con_spec_ofFind : ConOK Try.prog 48 c_spec_ofFind := con_of_ev' (body := Try.f48.body.getD .skip) (Λ := loops_spec_ofFind) mixed Try.func48 (by kernel_rfl) (by kernel_rfl) env_spec_ofFind_ok rfl (by kernel_rfl) (fun n L h => by
  unfold loops_spec_ofFind at h
  split at h
  · cases h; exact fun s o ho => loop_ok (stepF := stepEv env_spec_ofFind loops_spec_ofFind pat_spec_ofFind_0 outs_spec_ofFind_0 Try.f48 2) (step_spec_ofFind_0_eq) ho
  · cases h) F_spec_ofFind_eq

noncomputable def step_spec_ofCount_0 (s : Int × Int × (List Int) × Int × Int) : Option ((Int × Int × (List Int) × Int × Int) ⊕ ((Int))) :=
  bif (decide (s.2.2.2.2 < s.2.2.2.1)) then
    bif decide (0 ≤ s.2.2.2.2) && decide (s.2.2.2.2 < (s.2.2.1.length : Int)) then
      bif (((s.2.2.1.getD (s.2.2.2.2).toNat 0) == s.1)) then
        let v4 := IntKind.i64.wrap (s.2.1 + 1)
        let v5 := IntKind.i64.wrap (s.2.2.2.2 + 1)
        some (.inl ((s.1, v4, (s.2.2.1, s.2.2.2.1, v5))))
      else
        let v6 := IntKind.i64.wrap (s.2.2.2.2 + 1)
        some (.inl ((s.1, s.2.1, (s.2.2.1, s.2.2.2.1, v6))))
    else none
  else
    some (.inr (s.2.1))
def pat_spec_ofCount_0 : Pat := { tmps := [.any, .v (.int .i64), .any, .any, .any, .v (.int .i64), .any, .any, .any, .v (.slice (.int .i64)), .v (.int .i64), .v (.int .i64), .any, .any, .any, .any, .any, .any, .any, .any, .any, .any], blks := [] }
def outs_spec_ofCount_0 : List (Exit × Pat) := [(.exit 0, { tmps := [.any, .any, .any, .any, .any, .v (.int .i64), .any, .any, .any, .any, .any, .any, .any, .any, .any, .any, .any, .any, .any, .any, .any, .any], blks := [] })]
noncomputable def F_spec_ofCount (x : (Int × (Int × (ByteArray × (List Int)))) × Int) : Option (Int) :=
  match runL step_spec_ofCount_0 ((x.2, 0, (x.1.2.2.2, (x.1.2.2.2.length : Int), 0))) with
  | none => none
  | some o7 =>
    some (o7)
noncomputable def c_spec_ofCount : Con := { ps := [(.val, (.st (.pair (.int .i64) (.pair (.int .i64) (.pair .str (.slice (.int .i64))))))), (.val, (.int .i64))], rs := [(.val, (.int .i64))], F := F_spec_ofCount }
noncomputable def env_spec_ofCount : Env := { par := [], con := fun _ => none, clo := fun _ => none, T := tinf Try.prog }
noncomputable def loops_spec_ofCount : Nat → Option Loop := fun n => match n with | 3 => some { pat := pat_spec_ofCount_0, outs := outs_spec_ofCount_0, run := runL (step_spec_ofCount_0) } | _ => none
theorem step_spec_ofCount_0_eq (s : Int × Int × (List Int) × Int × Int) : stepEv env_spec_ofCount loops_spec_ofCount pat_spec_ofCount_0 outs_spec_ofCount_0 Try.f60 3 s = step_spec_ofCount_0 s := by kernel_rfl
theorem F_spec_ofCount_eq (x : (Int × (Int × (ByteArray × (List Int)))) × Int) : Fev env_spec_ofCount loops_spec_ofCount c_spec_ofCount.ps c_spec_ofCount.rs Try.f60 x = F_spec_ofCount x := by kernel_rfl
theorem env_spec_ofCount_ok : EnvOK Try.prog env_spec_ofCount := envOK_of (fun f c h => by cases h) (fun f c h => by cases h) rfl
theorem con_spec_ofCount : ConOK Try.prog 60 c_spec_ofCount := con_of_ev' (body := Try.f60.body.getD .skip) (Λ := loops_spec_ofCount) mixed Try.func60 (by kernel_rfl) (by kernel_rfl) env_spec_ofCount_ok rfl (by kernel_rfl) (fun n L h => by
  unfold loops_spec_ofCount at h
  split at h
  · cases h; exact fun s o ho => loop_ok (stepF := stepEv env_spec_ofCount loops_spec_ofCount pat_spec_ofCount_0 outs_spec_ofCount_0 Try.f60 3) (step_spec_ofCount_0_eq) ho
  · cases h) F_spec_ofCount_eq

noncomputable def F_spec_ofPassed (x : (Int × (Int × (ByteArray × (List Int)))) × Int) : Option (Bool) :=
  match F_spec_ofCount ((x.1, 1)) with
  | none => none
  | some y1 =>
    let v2 := IntKind.i64.wrap (y1 + x.2)
    match F_spec_ofCount ((x.1, (-1))) with
    | none => none
    | some y3 =>
      let v4 := IntKind.i64.wrap (v2 + y3)
      let v5 := IntKind.i64.wrap (2 * v4)
      bif (decide (v5 > (x.1.2.2.2.length : Int))) then
        some ((decide (v2 > y3)))
      else
        some (false)
noncomputable def c_spec_ofPassed : Con := { ps := [(.val, (.st (.pair (.int .i64) (.pair (.int .i64) (.pair .str (.slice (.int .i64))))))), (.val, (.int .i64))], rs := [(.val, .bool)], F := F_spec_ofPassed }
noncomputable def env_spec_ofPassed : Env := { par := [], con := fun f => match f with | 60 => some c_spec_ofCount | _ => none, clo := fun _ => none, T := tinf Try.prog }
noncomputable def loops_spec_ofPassed : Nat → Option Loop := fun n => none
theorem F_spec_ofPassed_eq (x : (Int × (Int × (ByteArray × (List Int)))) × Int) : Fev env_spec_ofPassed loops_spec_ofPassed c_spec_ofPassed.ps c_spec_ofPassed.rs Try.f49 x = F_spec_ofPassed x := by kernel_rfl
theorem env_spec_ofPassed_ok : EnvOK Try.prog env_spec_ofPassed := envOK_of (fun f c h => by
  simp only [env_spec_ofPassed] at h
  split at h
  · cases h; exact con_spec_ofCount
  · cases h) (fun f c h => by cases h) rfl
theorem con_spec_ofPassed : ConOK Try.prog 49 c_spec_ofPassed := con_of_ev' (body := Try.f49.body.getD .skip) (Λ := loops_spec_ofPassed) mixed Try.func49 (by kernel_rfl) (by kernel_rfl) env_spec_ofPassed_ok rfl (by kernel_rfl) (fun n L h => by cases h) F_spec_ofPassed_eq

noncomputable def F_spec_IsPassed (x : (List (Int × (Int × (ByteArray × (List Int))))) × Int × Int) : Option (Bool × Bool) :=
  match F_spec_ofFind ((x.1, x.2.2)) with
  | none => none
  | some y1 =>
    match F_spec_ofGood ((x.1, x.2.1)) with
    | none => none
    | some y2 =>
      bif (!y2) then
        some ((false, false))
      else
        bif (decide (y1 < 0)) then
          some ((false, false))
        else
          bif decide (0 ≤ y1) && decide (y1 < (x.1.length : Int)) then
            match F_spec_ofPassed (((x.1.getD (y1).toNat (0, (0, ByteArray.empty, []))), 0)) with
            | none => none
            | some y3 =>
              some ((y3, true))
          else none
noncomputable def c_spec_IsPassed : Con := { ps := [(.val, (.slice (.st (.pair (.int .i64) (.pair (.int .i64) (.pair .str (.slice (.int .i64)))))))), (.val, (.int .i64)), (.val, (.int .i64))], rs := [(.val, .bool), (.val, .bool)], F := F_spec_IsPassed }
noncomputable def env_spec_IsPassed : Env := { par := [], con := fun f => match f with | 38 => some c_spec_ofGood | 48 => some c_spec_ofFind | 49 => some c_spec_ofPassed | _ => none, clo := fun _ => none, T := tinf Try.prog }
noncomputable def loops_spec_IsPassed : Nat → Option Loop := fun n => none
theorem F_spec_IsPassed_eq (x : (List (Int × (Int × (ByteArray × (List Int))))) × Int × Int) : Fev env_spec_IsPassed loops_spec_IsPassed c_spec_IsPassed.ps c_spec_IsPassed.rs Try.f30 x = F_spec_IsPassed x := by kernel_rfl
theorem env_spec_IsPassed_ok : EnvOK Try.prog env_spec_IsPassed := envOK_of (fun f c h => by
  simp only [env_spec_IsPassed] at h
  split at h
  · cases h; exact con_spec_ofGood
  · cases h; exact con_spec_ofFind
  · cases h; exact con_spec_ofPassed
  · cases h) (fun f c h => by cases h) rfl
theorem con_spec_IsPassed : ConOK Try.prog 30 c_spec_IsPassed := con_of_ev' (body := Try.f30.body.getD .skip) (Λ := loops_spec_IsPassed) mixed Try.func30 (by kernel_rfl) (by kernel_rfl) env_spec_IsPassed_ok rfl (by kernel_rfl) (fun n L h => by cases h) F_spec_IsPassed_eq

noncomputable def F_impl_proposalAt_1 (x : (Int × (Int × (ByteArray × (List Int)))) × Int) : Option (Bool) :=
  some (((x.1.1 == x.2)))
noncomputable def c_impl_proposalAt_1 : Con := { ps := [(.val, (.st (.pair (.int .i64) (.pair (.int .i64) (.pair .str (.slice (.int .i64))))))), (.val, (.ptr (.int .i64)))], rs := [(.val, .bool)], F := F_impl_proposalAt_1 }
noncomputable def env_impl_proposalAt_1 : Env := { par := [], con := fun _ => none, clo := fun _ => none, T := tinf Try.prog }
noncomputable def loops_impl_proposalAt_1 : Nat → Option Loop := fun n => none
theorem F_impl_proposalAt_1_eq (x : (Int × (Int × (ByteArray × (List Int)))) × Int) : Fev env_impl_proposalAt_1 loops_impl_proposalAt_1 c_impl_proposalAt_1.ps c_impl_proposalAt_1.rs Try.f62 x = F_impl_proposalAt_1 x := by kernel_rfl
theorem env_impl_proposalAt_1_ok : EnvOK Try.prog env_impl_proposalAt_1 := envOK_of (fun f c h => by cases h) (fun f c h => by cases h) rfl
theorem con_impl_proposalAt_1 : ConOK Try.prog 62 c_impl_proposalAt_1 := con_of_ev' (body := Try.f62.body.getD .skip) (Λ := loops_impl_proposalAt_1) mixed Try.func62 (by kernel_rfl) (by kernel_rfl) env_impl_proposalAt_1_ok rfl (by kernel_rfl) (fun n L h => by cases h) F_impl_proposalAt_1_eq

noncomputable def step_slices_IndexFunc_impl_Proposal_impl_Proposal_0 (s : (List (Int × (Int × (ByteArray × (List Int))))) × ((Int × (Int × (ByteArray × (List Int)))) → Option Bool) × Int × Int) : Option (((List (Int × (Int × (ByteArray × (List Int))))) × ((Int × (Int × (ByteArray × (List Int)))) → Option Bool) × Int × Int) ⊕ ((Int) ⊕ (Unit))) :=
  bif (decide (s.2.2.2 < s.2.2.1)) then
    bif decide (0 ≤ s.2.2.2) && decide (s.2.2.2 < (s.1.length : Int)) then
      match s.2.1 ((s.1.getD (s.2.2.2).toNat (0, (0, ByteArray.empty, [])))) with
      | none => none
      | some y3 =>
        bif y3 then
          some (.inr (.inl (s.2.2.2)))
        else
          let v4 := IntKind.i64.wrap (s.2.2.2 + 1)
          some (.inl ((s.1, (s.2.1, s.2.2.1, v4))))
    else none
  else
    some (.inr (.inr (())))
def pat_slices_IndexFunc_impl_Proposal_impl_Proposal_0 : Pat := { tmps := [.v (.slice (.st (.pair (.int .i64) (.pair (.int .i64) (.pair .str (.slice (.int .i64))))))), .v (.fn (.st (.pair (.int .i64) (.pair (.int .i64) (.pair .str (.slice (.int .i64)))))) .bool), .any, .any, .any, .any, .any, .v (.int .i64), .v (.int .i64), .any, .any, .any, .any, .any, .any, .any, .any, .any, .any], blks := [] }
def outs_slices_IndexFunc_impl_Proposal_impl_Proposal_0 : List (Exit × Pat) := [(.ret, { tmps := [.any, .any, .any, .any, .v (.int .i64), .any, .any, .any, .any, .any, .any, .any, .any, .any, .any, .any, .any, .any, .any], blks := [] }), (.exit 0, { tmps := [.any, .any, .any, .any, .any, .any, .any, .any, .any, .any, .any, .any, .any, .any, .any, .any, .any, .any, .any], blks := [] })]
noncomputable def F_slices_IndexFunc_impl_Proposal_impl_Proposal (x : (List (Int × (Int × (ByteArray × (List Int))))) × ((Int × (Int × (ByteArray × (List Int)))) → Option Bool)) : Option (Int) :=
  match runL step_slices_IndexFunc_impl_Proposal_impl_Proposal_0 ((x.1, (x.2, (x.1.length : Int), 0))) with
  | none => none
  | some (.inl o5) =>
    some (o5)
  | some (.inr o5) =>
    some ((-1))
noncomputable def c_slices_IndexFunc_impl_Proposal_impl_Proposal : Con := { ps := [(.val, (.slice (.st (.pair (.int .i64) (.pair (.int .i64) (.pair .str (.slice (.int .i64)))))))), (.val, (.fn (.st (.pair (.int .i64) (.pair (.int .i64) (.pair .str (.slice (.int .i64)))))) .bool))], rs := [(.val, (.int .i64))], F := F_slices_IndexFunc_impl_Proposal_impl_Proposal }
noncomputable def env_slices_IndexFunc_impl_Proposal_impl_Proposal : Env := { par := [], con := fun _ => none, clo := fun _ => none, T := tinf Try.prog }
noncomputable def loops_slices_IndexFunc_impl_Proposal_impl_Proposal : Nat → Option Loop := fun n => match n with | 2 => some { pat := pat_slices_IndexFunc_impl_Proposal_impl_Proposal_0, outs := outs_slices_IndexFunc_impl_Proposal_impl_Proposal_0, run := runL (step_slices_IndexFunc_impl_Proposal_impl_Proposal_0) } | _ => none
theorem step_slices_IndexFunc_impl_Proposal_impl_Proposal_0_eq (s : (List (Int × (Int × (ByteArray × (List Int))))) × ((Int × (Int × (ByteArray × (List Int)))) → Option Bool) × Int × Int) : stepEv env_slices_IndexFunc_impl_Proposal_impl_Proposal loops_slices_IndexFunc_impl_Proposal_impl_Proposal pat_slices_IndexFunc_impl_Proposal_impl_Proposal_0 outs_slices_IndexFunc_impl_Proposal_impl_Proposal_0 Try.f61 2 s = step_slices_IndexFunc_impl_Proposal_impl_Proposal_0 s := by kernel_rfl
theorem F_slices_IndexFunc_impl_Proposal_impl_Proposal_eq (x : (List (Int × (Int × (ByteArray × (List Int))))) × ((Int × (Int × (ByteArray × (List Int)))) → Option Bool)) : Fev env_slices_IndexFunc_impl_Proposal_impl_Proposal loops_slices_IndexFunc_impl_Proposal_impl_Proposal c_slices_IndexFunc_impl_Proposal_impl_Proposal.ps c_slices_IndexFunc_impl_Proposal_impl_Proposal.rs Try.f61 x = F_slices_IndexFunc_impl_Proposal_impl_Proposal x := by kernel_rfl
theorem env_slices_IndexFunc_impl_Proposal_impl_Proposal_ok : EnvOK Try.prog env_slices_IndexFunc_impl_Proposal_impl_Proposal := envOK_of (fun f c h => by cases h) (fun f c h => by cases h) rfl
theorem con_slices_IndexFunc_impl_Proposal_impl_Proposal : ConOK Try.prog 61 c_slices_IndexFunc_impl_Proposal_impl_Proposal := con_of_ev' (body := Try.f61.body.getD .skip) (Λ := loops_slices_IndexFunc_impl_Proposal_impl_Proposal) mixed Try.func61 (by kernel_rfl) (by kernel_rfl) env_slices_IndexFunc_impl_Proposal_impl_Proposal_ok rfl (by kernel_rfl) (fun n L h => by
  unfold loops_slices_IndexFunc_impl_Proposal_impl_Proposal at h
  split at h
  · cases h; exact fun s o ho => loop_ok (stepF := stepEv env_slices_IndexFunc_impl_Proposal_impl_Proposal loops_slices_IndexFunc_impl_Proposal_impl_Proposal pat_slices_IndexFunc_impl_Proposal_impl_Proposal_0 outs_slices_IndexFunc_impl_Proposal_impl_Proposal_0 Try.f61 2) (step_slices_IndexFunc_impl_Proposal_impl_Proposal_0_eq) ho
  · cases h) F_slices_IndexFunc_impl_Proposal_impl_Proposal_eq

noncomputable def K_impl_proposalAt_1 (q : Int) (x : (Int × (Int × (ByteArray × (List Int))))) : Option (Bool) := F_impl_proposalAt_1 (x, q)
noncomputable def k_impl_proposalAt_1 : CloCon := { caps := [(.int .i64)], a := (.st (.pair (.int .i64) (.pair (.int .i64) (.pair .str (.slice (.int .i64)))))), r := .bool, F := K_impl_proposalAt_1 }
theorem clo_impl_proposalAt_1 : CloOK Try.prog 62 k_impl_proposalAt_1 := clo_of_con k_impl_proposalAt_1 F_impl_proposalAt_1 con_impl_proposalAt_1 rfl (fun kx x y h => ⟨y, h, rfl⟩)
noncomputable def F_impl_proposalAt (x : (List (Int × (Int × (ByteArray × (List Int))))) × Int) : Option (Int) :=
  match F_slices_IndexFunc_impl_Proposal_impl_Proposal ((x.1, (K_impl_proposalAt_1 x.2))) with
  | none => none
  | some y1 =>
    some (y1)
noncomputable def c_impl_proposalAt : Con := { ps := [(.val, (.slice (.st (.pair (.int .i64) (.pair (.int .i64) (.pair .str (.slice (.int .i64)))))))), (.val, (.int .i64))], rs := [(.val, (.int .i64))], F := F_impl_proposalAt }
noncomputable def env_impl_proposalAt : Env := { par := [], con := fun f => match f with | 61 => some c_slices_IndexFunc_impl_Proposal_impl_Proposal | _ => none, clo := fun f => match f with | 62 => some k_impl_proposalAt_1 | _ => none, T := tinf Try.prog }
noncomputable def loops_impl_proposalAt : Nat → Option Loop := fun n => none
theorem F_impl_proposalAt_eq (x : (List (Int × (Int × (ByteArray × (List Int))))) × Int) : Fev env_impl_proposalAt loops_impl_proposalAt c_impl_proposalAt.ps c_impl_proposalAt.rs Try.f50 x = F_impl_proposalAt x := by kernel_rfl
theorem env_impl_proposalAt_ok : EnvOK Try.prog env_impl_proposalAt := envOK_of (fun f c h => by
  simp only [env_impl_proposalAt] at h
  split at h
  · cases h; exact con_slices_IndexFunc_impl_Proposal_impl_Proposal
  · cases h) (fun f c h => by
  simp only [env_impl_proposalAt] at h
  split at h
  · cases h; exact clo_impl_proposalAt_1
  · cases h) rfl
theorem con_impl_proposalAt : ConOK Try.prog 50 c_impl_proposalAt := con_of_ev' (body := Try.f50.body.getD .skip) (Λ := loops_impl_proposalAt) mixed Try.func50 (by kernel_rfl) (by kernel_rfl) env_impl_proposalAt_ok rfl (by kernel_rfl) (fun n L h => by cases h) F_impl_proposalAt_eq

noncomputable def step_impl_those_int_0 (s : (Int → Option Bool) × (List Int) × Int × Int × (List Int)) : Option (((Int → Option Bool) × (List Int) × Int × Int × (List Int)) ⊕ (((List Int)))) :=
  bif (decide (s.2.2.2.1 < s.2.2.1)) then
    bif decide (0 ≤ s.2.2.2.1) && decide (s.2.2.2.1 < (s.2.1.length : Int)) then
      match s.1 ((s.2.1.getD (s.2.2.2.1).toNat 0)) with
      | none => none
      | some y8 =>
        bif y8 then
          bif decide ((s.2.2.2.2.length + [s.2.2.2.1].length) * 8 ≤ 140737488355328) then
            let v9 := s.2.2.2.2 ++ [s.2.2.2.1]
            let v10 := IntKind.i64.wrap (s.2.2.2.1 + 1)
            some (.inl ((s.1, s.2.1, (s.2.2.1, v10, v9))))
          else none
        else
          let v11 := IntKind.i64.wrap (s.2.2.2.1 + 1)
          some (.inl ((s.1, s.2.1, (s.2.2.1, v11, s.2.2.2.2))))
    else none
  else
    some (.inr (s.2.2.2.2))
def pat_impl_those_int_0 : Pat := { tmps := [.any, .v (.fn (.int .i64) .bool), .any, .any, .any, .own 1344, .any, .any, .v (.slice (.int .i64)), .v (.int .i64), .v (.int .i64), .any, .any, .any, .any, .any, .any, .any, .any, .any, .any, .any, .any, .any], blks := [(1344, .row true (.int .i64))] }
def outs_impl_those_int_0 : List (Exit × Pat) := [(.exit 0, { tmps := [.any, .any, .any, .any, .any, .own 1344, .any, .any, .any, .any, .any, .any, .any, .any, .any, .any, .any, .any, .any, .any, .any, .any, .any, .any], blks := [(1344, .row true (.int .i64))] })]
noncomputable def F_impl_those_int (x : (List Int) × (Int → Option Bool)) : Option ((List Int)) :=
  match runL step_impl_those_int_0 ((x.2, x.1, ((x.1.length : Int), 0, []))) with
  | none => none
  | some o12 =>
    some (o12)
noncomputable def c_impl_those_int : Con := { ps := [(.val, (.slice (.int .i64))), (.val, (.fn (.int .i64) .bool))], rs := [(.io true, (.slice (.int .i64)))], F := F_impl_those_int }
noncomputable def env_impl_those_int : Env := { par := [], con := fun _ => none, clo := fun _ => none, T := tinf Try.prog }
noncomputable def loops_impl_those_int : Nat → Option Loop := fun n => match n with | 3 => some { pat := pat_impl_those_int_0, outs := outs_impl_those_int_0, run := runL (step_impl_those_int_0) } | _ => none
theorem step_impl_those_int_0_eq (s : (Int → Option Bool) × (List Int) × Int × Int × (List Int)) : stepEv env_impl_those_int loops_impl_those_int pat_impl_those_int_0 outs_impl_those_int_0 Try.f63 3 s = step_impl_those_int_0 s := by kernel_rfl
theorem F_impl_those_int_eq (x : (List Int) × (Int → Option Bool)) : Fev env_impl_those_int loops_impl_those_int c_impl_those_int.ps c_impl_those_int.rs Try.f63 x = F_impl_those_int x := by kernel_rfl
theorem env_impl_those_int_ok : EnvOK Try.prog env_impl_those_int := envOK_of (fun f c h => by cases h) (fun f c h => by cases h) rfl
theorem con_impl_those_int : ConOK Try.prog 63 c_impl_those_int := con_of_ev' (body := Try.f63.body.getD .skip) (Λ := loops_impl_those_int) mixed Try.func63 (by kernel_rfl) (by kernel_rfl) env_impl_those_int_ok rfl (by kernel_rfl) (fun n L h => by
  unfold loops_impl_those_int at h
  split at h
  · cases h; exact fun s o ho => loop_ok (stepF := stepEv env_impl_those_int loops_impl_those_int pat_impl_those_int_0 outs_impl_those_int_0 Try.f63 3) (step_impl_those_int_0_eq) ho
  · cases h) F_impl_those_int_eq

noncomputable def F_impl_Proposal_passed_1 (x : Int) : Option (Bool) :=
  some (((x != 0)))
noncomputable def c_impl_Proposal_passed_1 : Con := { ps := [(.val, (.int .i64))], rs := [(.val, .bool)], F := F_impl_Proposal_passed_1 }
noncomputable def env_impl_Proposal_passed_1 : Env := { par := [], con := fun _ => none, clo := fun _ => none, T := tinf Try.prog }
noncomputable def loops_impl_Proposal_passed_1 : Nat → Option Loop := fun n => none
theorem F_impl_Proposal_passed_1_eq (x : Int) : Fev env_impl_Proposal_passed_1 loops_impl_Proposal_passed_1 c_impl_Proposal_passed_1.ps c_impl_Proposal_passed_1.rs Try.f64 x = F_impl_Proposal_passed_1 x := by kernel_rfl
theorem env_impl_Proposal_passed_1_ok : EnvOK Try.prog env_impl_Proposal_passed_1 := envOK_of (fun f c h => by cases h) (fun f c h => by cases h) rfl
theorem con_impl_Proposal_passed_1 : ConOK Try.prog 64 c_impl_Proposal_passed_1 := con_of_ev' (body := Try.f64.body.getD .skip) (Λ := loops_impl_Proposal_passed_1) mixed Try.func64 (by kernel_rfl) (by kernel_rfl) env_impl_Proposal_passed_1_ok rfl (by kernel_rfl) (fun n L h => by cases h) F_impl_Proposal_passed_1_eq

noncomputable def step_impl_sumOf_0 (s : Int × (List Int) × Int × Int) : Option ((Int × (List Int) × Int × Int) ⊕ ((Int))) :=
  bif (decide (s.2.2.2 < s.2.2.1)) then
    bif decide (0 ≤ s.2.2.2) && decide (s.2.2.2 < (s.2.1.length : Int)) then
      let v3 := IntKind.i64.wrap (s.1 + (s.2.1.getD (s.2.2.2).toNat 0))
      let v4 := IntKind.i64.wrap (s.2.2.2 + 1)
      some (.inl ((v3, (s.2.1, s.2.2.1, v4))))
    else none
  else
    some (.inr (s.1))
def pat_impl_sumOf_0 : Pat := { tmps := [.any, .any, .any, .v (.int .i64), .any, .any, .v (.slice (.int .i64)), .v (.int .i64), .v (.int .i64), .any, .any, .any, .any, .any, .any, .any, .any], blks := [] }
def outs_impl_sumOf_0 : List (Exit × Pat) := [(.exit 0, { tmps := [.any, .any, .any, .v (.int .i64), .any, .any, .any, .any, .any, .any, .any, .any, .any, .any, .any, .any, .any], blks := [] })]
noncomputable def F_impl_sumOf (x : (List Int)) : Option (Int) :=
  match runL step_impl_sumOf_0 ((0, (x, (x.length : Int), 0))) with
  | none => none
  | some o5 =>
    some (o5)
noncomputable def c_impl_sumOf : Con := { ps := [(.val, (.slice (.int .i64)))], rs := [(.val, (.int .i64))], F := F_impl_sumOf }
noncomputable def env_impl_sumOf : Env := { par := [], con := fun _ => none, clo := fun _ => none, T := tinf Try.prog }
noncomputable def loops_impl_sumOf : Nat → Option Loop := fun n => match n with | 3 => some { pat := pat_impl_sumOf_0, outs := outs_impl_sumOf_0, run := runL (step_impl_sumOf_0) } | _ => none
theorem step_impl_sumOf_0_eq (s : Int × (List Int) × Int × Int) : stepEv env_impl_sumOf loops_impl_sumOf pat_impl_sumOf_0 outs_impl_sumOf_0 Try.f65 3 s = step_impl_sumOf_0 s := by kernel_rfl
theorem F_impl_sumOf_eq (x : (List Int)) : Fev env_impl_sumOf loops_impl_sumOf c_impl_sumOf.ps c_impl_sumOf.rs Try.f65 x = F_impl_sumOf x := by kernel_rfl
theorem env_impl_sumOf_ok : EnvOK Try.prog env_impl_sumOf := envOK_of (fun f c h => by cases h) (fun f c h => by cases h) rfl
theorem con_impl_sumOf : ConOK Try.prog 65 c_impl_sumOf := con_of_ev' (body := Try.f65.body.getD .skip) (Λ := loops_impl_sumOf) mixed Try.func65 (by kernel_rfl) (by kernel_rfl) env_impl_sumOf_ok rfl (by kernel_rfl) (fun n L h => by
  unfold loops_impl_sumOf at h
  split at h
  · cases h; exact fun s o ho => loop_ok (stepF := stepEv env_impl_sumOf loops_impl_sumOf pat_impl_sumOf_0 outs_impl_sumOf_0 Try.f65 3) (step_impl_sumOf_0_eq) ho
  · cases h) F_impl_sumOf_eq

noncomputable def K_impl_Proposal_passed_1 (q : Unit) (x : Int) : Option (Bool) := F_impl_Proposal_passed_1 x
noncomputable def k_impl_Proposal_passed_1 : CloCon := { caps := [], a := (.int .i64), r := .bool, F := K_impl_Proposal_passed_1 }
theorem clo_impl_Proposal_passed_1 : CloOK Try.prog 64 k_impl_Proposal_passed_1 := clo_of_con k_impl_Proposal_passed_1 F_impl_Proposal_passed_1 con_impl_Proposal_passed_1 rfl (fun kx x y h => ⟨y, h, rfl⟩)
noncomputable def F_impl_Proposal_passed (x : (Int × (Int × (ByteArray × (List Int)))) × Int) : Option (Bool) :=
  match F_impl_those_int ((x.1.2.2.2, (K_impl_Proposal_passed_1 ()))) with
  | none => none
  | some y1 =>
    let v2 := IntKind.i64.wrap (x.2 + (y1.length : Int))
    let v3 := IntKind.i64.wrap (2 * v2)
    bif (decide (v3 > (x.1.2.2.2.length : Int))) then
      match F_impl_sumOf (x.1.2.2.2) with
      | none => none
      | some y4 =>
        let v5 := IntKind.i64.wrap (y4 + x.2)
        some ((decide (v5 > 0)))
    else
      some (false)
noncomputable def c_impl_Proposal_passed : Con := { ps := [(.val, (.st (.pair (.int .i64) (.pair (.int .i64) (.pair .str (.slice (.int .i64))))))), (.val, (.int .i64))], rs := [(.val, .bool)], F := F_impl_Proposal_passed }
noncomputable def env_impl_Proposal_passed : Env := { par := [], con := fun f => match f with | 63 => some c_impl_those_int | 65 => some c_impl_sumOf | _ => none, clo := fun f => match f with | 64 => some k_impl_Proposal_passed_1 | _ => none, T := tinf Try.prog }
noncomputable def loops_impl_Proposal_passed : Nat → Option Loop := fun n => none
theorem F_impl_Proposal_passed_eq (x : (Int × (Int × (ByteArray × (List Int)))) × Int) : Fev env_impl_Proposal_passed loops_impl_Proposal_passed c_impl_Proposal_passed.ps c_impl_Proposal_passed.rs Try.f51 x = F_impl_Proposal_passed x := by kernel_rfl
theorem env_impl_Proposal_passed_ok : EnvOK Try.prog env_impl_Proposal_passed := envOK_of (fun f c h => by
  simp only [env_impl_Proposal_passed] at h
  split at h
  · cases h; exact con_impl_those_int
  · cases h; exact con_impl_sumOf
  · cases h) (fun f c h => by
  simp only [env_impl_Proposal_passed] at h
  split at h
  · cases h; exact clo_impl_Proposal_passed_1
  · cases h) rfl
theorem con_impl_Proposal_passed : ConOK Try.prog 51 c_impl_Proposal_passed := con_of_ev' (body := Try.f51.body.getD .skip) (Λ := loops_impl_Proposal_passed) mixed Try.func51 (by kernel_rfl) (by kernel_rfl) env_impl_Proposal_passed_ok rfl (by kernel_rfl) (fun n L h => by cases h) F_impl_Proposal_passed_eq

noncomputable def F_impl_IsPassed (x : (List (Int × (Int × (ByteArray × (List Int))))) × Int × Int) : Option (Bool × Bool) :=
  match F_impl_proposalAt ((x.1, x.2.2)) with
  | none => none
  | some y1 =>
    match F_impl_AreProposals ((x.1, x.2.1)) with
    | none => none
    | some y2 =>
      bif (!y2) then
        some ((false, false))
      else
        bif (decide (y1 < 0)) then
          some ((false, false))
        else
          bif decide (0 ≤ y1) && decide (y1 < (x.1.length : Int)) then
            match F_impl_Proposal_passed (((x.1.getD (y1).toNat (0, (0, ByteArray.empty, []))), 0)) with
            | none => none
            | some y3 =>
              some ((y3, true))
          else none
noncomputable def c_impl_IsPassed : Con := { ps := [(.val, (.slice (.st (.pair (.int .i64) (.pair (.int .i64) (.pair .str (.slice (.int .i64)))))))), (.val, (.int .i64)), (.val, (.int .i64))], rs := [(.val, .bool), (.val, .bool)], F := F_impl_IsPassed }
noncomputable def env_impl_IsPassed : Env := { par := [], con := fun f => match f with | 17 => some c_impl_AreProposals | 50 => some c_impl_proposalAt | 51 => some c_impl_Proposal_passed | _ => none, clo := fun _ => none, T := tinf Try.prog }
noncomputable def loops_impl_IsPassed : Nat → Option Loop := fun n => none
theorem F_impl_IsPassed_eq (x : (List (Int × (Int × (ByteArray × (List Int))))) × Int × Int) : Fev env_impl_IsPassed loops_impl_IsPassed c_impl_IsPassed.ps c_impl_IsPassed.rs Try.f31 x = F_impl_IsPassed x := by kernel_rfl
theorem env_impl_IsPassed_ok : EnvOK Try.prog env_impl_IsPassed := envOK_of (fun f c h => by
  simp only [env_impl_IsPassed] at h
  split at h
  · cases h; exact con_impl_AreProposals
  · cases h; exact con_impl_proposalAt
  · cases h; exact con_impl_Proposal_passed
  · cases h) (fun f c h => by cases h) rfl
theorem con_impl_IsPassed : ConOK Try.prog 31 c_impl_IsPassed := con_of_ev' (body := Try.f31.body.getD .skip) (Λ := loops_impl_IsPassed) mixed Try.func31 (by kernel_rfl) (by kernel_rfl) env_impl_IsPassed_ok rfl (by kernel_rfl) (fun n L h => by cases h) F_impl_IsPassed_eq

noncomputable def F_laws_FnExactIsPassed (x : (List (Int × (Int × (ByteArray × (List Int))))) × Int × Int) : Option (Bool) :=
  match F_laws_szProposalS ((x.1, 1048576)) with
  | none => none
  | some y1 =>
    bif (decide (y1 < 0)) then
      some (true)
    else
      match F_laws_toProposalS (x.1) with
      | none => none
      | some y2 =>
        match F_spec_IsPassed ((y2, x.2)) with
        | none => none
        | some y3 =>
          match F_laws_toProposalS (x.1) with
          | none => none
          | some y4 =>
            match F_impl_IsPassed ((y4, x.2)) with
            | none => none
            | some y5 =>
              bif (!(y5.1 == y3.1)) then
                some (false)
              else
                bif (!(y5.2 == y3.2)) then
                  some (false)
                else
                  match F_laws_toProposalS (x.1) with
                  | none => none
                  | some y6 =>
                    match F_laws_eqProposalS ((y4, y6)) with
                    | none => none
                    | some y7 =>
                      bif (!y7) then
                        some (false)
                      else
                        some (true)
noncomputable def c_laws_FnExactIsPassed : Con := { ps := [(.val, (.slice (.st (.pair (.int .i64) (.pair (.int .i64) (.pair .str (.slice (.int .i64)))))))), (.val, (.int .i64)), (.val, (.int .i64))], rs := [(.val, .bool)], F := F_laws_FnExactIsPassed }
noncomputable def env_laws_FnExactIsPassed : Env := { par := [], con := fun f => match f with | 14 => some c_laws_szProposalS | 16 => some c_laws_toProposalS | 18 => some c_laws_eqProposalS | 30 => some c_spec_IsPassed | 31 => some c_impl_IsPassed | _ => none, clo := fun _ => none, T := tinf Try.prog }
noncomputable def loops_laws_FnExactIsPassed : Nat → Option Loop := fun n => none
theorem F_laws_FnExactIsPassed_eq (x : (List (Int × (Int × (ByteArray × (List Int))))) × Int × Int) : Fev env_laws_FnExactIsPassed loops_laws_FnExactIsPassed c_laws_FnExactIsPassed.ps c_laws_FnExactIsPassed.rs Try.f8 x = F_laws_FnExactIsPassed x := by kernel_rfl
theorem env_laws_FnExactIsPassed_ok : EnvOK Try.prog env_laws_FnExactIsPassed := envOK_of (fun f c h => by
  simp only [env_laws_FnExactIsPassed] at h
  split at h
  · cases h; exact con_laws_szProposalS
  · cases h; exact con_laws_toProposalS
  · cases h; exact con_laws_eqProposalS
  · cases h; exact con_spec_IsPassed
  · cases h; exact con_impl_IsPassed
  · cases h) (fun f c h => by cases h) rfl
theorem con_laws_FnExactIsPassed : ConOK Try.prog 8 c_laws_FnExactIsPassed := con_of_ev' (body := Try.f8.body.getD .skip) (Λ := loops_laws_FnExactIsPassed) mixed Try.func8 (by kernel_rfl) (by kernel_rfl) env_laws_FnExactIsPassed_ok rfl (by kernel_rfl) (fun n L h => by cases h) F_laws_FnExactIsPassed_eq

end Go.Proofs.Yteodliihhddagaa
