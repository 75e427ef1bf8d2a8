/- Contracts of functions of the program, written by a program of this claim. No conditions. -/
import Derived.Test.YtbpcjfljgjekmaaGreatDoorC0
set_option linter.unusedVariables false
set_option maxRecDepth 100000
namespace Go.Proofs.YtbpcjfljgjekmaaGreatDoor
open Go
noncomputable def step_laws_heldEntryS_0 (s : (List (ByteArray × ((((Int × (Int × (Int × (Int × (Int × Bool))))) × ((Int × Int) × ((Int × (Int × Bool)) × (ByteArray × Int)))) × (Bool × ((Int × (Int × (Int × (Int × (Int × Bool))))) × ((Int × Int) × ((Int × (Int × Bool)) × (ByteArray × Int)))))) × (Int × Int)))) × Int × Int) : Option (((List (ByteArray × ((((Int × (Int × (Int × (Int × (Int × Bool))))) × ((Int × Int) × ((Int × (Int × Bool)) × (ByteArray × Int)))) × (Bool × ((Int × (Int × (Int × (Int × (Int × Bool))))) × ((Int × Int) × ((Int × (Int × Bool)) × (ByteArray × Int)))))) × (Int × Int)))) × Int × Int) ⊕ ((Int) ⊕ (Int))) :=
 bif (decide (s.2.2 < (s.1.length : Int))) then
  bif decide (0 ≤ s.2.2) && decide (s.2.2 < (s.1.length : Int)) then
   match F_laws_markText (s.2.1) with
   | none => none
   | some y40 =>
    bif (!((s.1.getD (s.2.2).toNat dz30).1.toList == y40.toList)) then
     some (.inr (.inl ((-1))))
    else
     let v41 := IntKind.i64.wrap (s.2.1 + 1)
     bif decide (0 ≤ s.2.2) && decide (s.2.2 < (s.1.length : Int)) then
      bif (((s.1.getD (s.2.2).toNat dz30).2.1.1.1.1 != v41)) then
       some (.inr (.inl ((-1))))
      else
       let v42 := IntKind.i64.wrap (v41 + 1)
       bif decide (0 ≤ s.2.2) && decide (s.2.2 < (s.1.length : Int)) then
        bif (((s.1.getD (s.2.2).toNat dz30).2.1.1.1.2.1 != v42)) then
         some (.inr (.inl ((-1))))
        else
         let v43 := IntKind.i64.wrap (v42 + 1)
         bif decide (0 ≤ s.2.2) && decide (s.2.2 < (s.1.length : Int)) then
          bif (((s.1.getD (s.2.2).toNat dz30).2.1.1.1.2.2.1 != v43)) then
           some (.inr (.inl ((-1))))
          else
           let v44 := IntKind.i64.wrap (v43 + 1)
           bif decide (0 ≤ s.2.2) && decide (s.2.2 < (s.1.length : Int)) then
            bif (((s.1.getD (s.2.2).toNat dz30).2.1.1.1.2.2.2.1 != v44)) then
             some (.inr (.inl ((-1))))
            else
             let v45 := IntKind.i64.wrap (v44 + 1)
             bif decide (0 ≤ s.2.2) && decide (s.2.2 < (s.1.length : Int)) then
              bif (((s.1.getD (s.2.2).toNat dz30).2.1.1.1.2.2.2.2.1 != v45)) then
               some (.inr (.inl ((-1))))
              else
               let v46 := IntKind.i64.wrap (v45 + 1)
               bif decide (0 ≤ s.2.2) && decide (s.2.2 < (s.1.length : Int)) then
                bif !decide (3 = 0) then
                 let v47 := (v46).tmod 3
                 bif (!((s.1.getD (s.2.2).toNat dz30).2.1.1.1.2.2.2.2.2 == ((v47 == 0)))) then
                  some (.inr (.inl ((-1))))
                 else
                  let v48 := IntKind.i64.wrap (v46 + 1)
                  bif decide (0 ≤ s.2.2) && decide (s.2.2 < (s.1.length : Int)) then
                   bif (((s.1.getD (s.2.2).toNat dz30).2.1.1.2.1.1 != v48)) then
                    some (.inr (.inl ((-1))))
                   else
                    let v49 := IntKind.i64.wrap (v48 + 1)
                    bif decide (0 ≤ s.2.2) && decide (s.2.2 < (s.1.length : Int)) then
                     bif (((s.1.getD (s.2.2).toNat dz30).2.1.1.2.1.2 != v49)) then
                      some (.inr (.inl ((-1))))
                     else
                      let v50 := IntKind.i64.wrap (v49 + 1)
                      bif decide (0 ≤ s.2.2) && decide (s.2.2 < (s.1.length : Int)) then
                       bif (((s.1.getD (s.2.2).toNat dz30).2.1.1.2.2.1.1 != v50)) then
                        some (.inr (.inl ((-1))))
                       else
                        let v51 := IntKind.i64.wrap (v50 + 1)
                        bif decide (0 ≤ s.2.2) && decide (s.2.2 < (s.1.length : Int)) then
                         bif (((s.1.getD (s.2.2).toNat dz30).2.1.1.2.2.1.2.1 != v51)) then
                          some (.inr (.inl ((-1))))
                         else
                          let v52 := IntKind.i64.wrap (v51 + 1)
                          bif decide (0 ≤ s.2.2) && decide (s.2.2 < (s.1.length : Int)) then
                           bif !decide (3 = 0) then
                            let v53 := (v52).tmod 3
                            bif (!((s.1.getD (s.2.2).toNat dz30).2.1.1.2.2.1.2.2 == ((v53 == 0)))) then
                             some (.inr (.inl ((-1))))
                            else
                             let v54 := IntKind.i64.wrap (v52 + 1)
                             bif decide (0 ≤ s.2.2) && decide (s.2.2 < (s.1.length : Int)) then
                              match F_laws_markText (v54) with
                              | none => none
                              | some y55 =>
                               bif (!((s.1.getD (s.2.2).toNat dz30).2.1.1.2.2.2.1.toList == y55.toList)) then
                                some (.inr (.inl ((-1))))
                               else
                                let v56 := IntKind.i64.wrap (v54 + 1)
                                bif decide (0 ≤ s.2.2) && decide (s.2.2 < (s.1.length : Int)) then
                                 bif (((s.1.getD (s.2.2).toNat dz30).2.1.1.2.2.2.2 != v56)) then
                                  some (.inr (.inl ((-1))))
                                 else
                                  let v57 := IntKind.i64.wrap (v56 + 1)
                                  bif decide (0 ≤ s.2.2) && decide (s.2.2 < (s.1.length : Int)) then
                                   bif !decide (3 = 0) then
                                    let v58 := (v57).tmod 3
                                    bif (!((s.1.getD (s.2.2).toNat dz30).2.1.2.1 == ((v58 == 0)))) then
                                     some (.inr (.inl ((-1))))
                                    else
                                     let v59 := IntKind.i64.wrap (v57 + 1)
                                     bif decide (0 ≤ s.2.2) && decide (s.2.2 < (s.1.length : Int)) then
                                      bif (((s.1.getD (s.2.2).toNat dz30).2.1.2.2.1.1 != v59)) then
                                       some (.inr (.inl ((-1))))
                                      else
                                       let v60 := IntKind.i64.wrap (v59 + 1)
                                       bif decide (0 ≤ s.2.2) && decide (s.2.2 < (s.1.length : Int)) then
                                        bif (((s.1.getD (s.2.2).toNat dz30).2.1.2.2.1.2.1 != v60)) then
                                         some (.inr (.inl ((-1))))
                                        else
                                         let v61 := IntKind.i64.wrap (v60 + 1)
                                         bif decide (0 ≤ s.2.2) && decide (s.2.2 < (s.1.length : Int)) then
                                          bif (((s.1.getD (s.2.2).toNat dz30).2.1.2.2.1.2.2.1 != v61)) then
                                           some (.inr (.inl ((-1))))
                                          else
                                           let v62 := IntKind.i64.wrap (v61 + 1)
                                           bif decide (0 ≤ s.2.2) && decide (s.2.2 < (s.1.length : Int)) then
                                            bif (((s.1.getD (s.2.2).toNat dz30).2.1.2.2.1.2.2.2.1 != v62)) then
                                             some (.inr (.inl ((-1))))
                                            else
                                             let v63 := IntKind.i64.wrap (v62 + 1)
                                             bif decide (0 ≤ s.2.2) && decide (s.2.2 < (s.1.length : Int)) then
                                              bif (((s.1.getD (s.2.2).toNat dz30).2.1.2.2.1.2.2.2.2.1 != v63)) then
                                               some (.inr (.inl ((-1))))
                                              else
                                               let v64 := IntKind.i64.wrap (v63 + 1)
                                               bif decide (0 ≤ s.2.2) && decide (s.2.2 < (s.1.length : Int)) then
                                                bif !decide (3 = 0) then
                                                 let v65 := (v64).tmod 3
                                                 bif (!((s.1.getD (s.2.2).toNat dz30).2.1.2.2.1.2.2.2.2.2 == ((v65 == 0)))) then
                                                  some (.inr (.inl ((-1))))
                                                 else
                                                  let v66 := IntKind.i64.wrap (v64 + 1)
                                                  bif decide (0 ≤ s.2.2) && decide (s.2.2 < (s.1.length : Int)) then
                                                   bif (((s.1.getD (s.2.2).toNat dz30).2.1.2.2.2.1.1 != v66)) then
                                                    some (.inr (.inl ((-1))))
                                                   else
                                                    let v67 := IntKind.i64.wrap (v66 + 1)
                                                    bif decide (0 ≤ s.2.2) && decide (s.2.2 < (s.1.length : Int)) then
                                                     bif (((s.1.getD (s.2.2).toNat dz30).2.1.2.2.2.1.2 != v67)) then
                                                      some (.inr (.inl ((-1))))
                                                     else
                                                      let v68 := IntKind.i64.wrap (v67 + 1)
                                                      bif decide (0 ≤ s.2.2) && decide (s.2.2 < (s.1.length : Int)) then
                                                       bif (((s.1.getD (s.2.2).toNat dz30).2.1.2.2.2.2.1.1 != v68)) then
                                                        some (.inr (.inl ((-1))))
                                                       else
                                                        let v69 := IntKind.i64.wrap (v68 + 1)
                                                        bif decide (0 ≤ s.2.2) && decide (s.2.2 < (s.1.length : Int)) then
                                                         bif (((s.1.getD (s.2.2).toNat dz30).2.1.2.2.2.2.1.2.1 != v69)) then
                                                          some (.inr (.inl ((-1))))
                                                         else
                                                          let v70 := IntKind.i64.wrap (v69 + 1)
                                                          bif decide (0 ≤ s.2.2) && decide (s.2.2 < (s.1.length : Int)) then
                                                           bif !decide (3 = 0) then
                                                            let v71 := (v70).tmod 3
                                                            bif (!((s.1.getD (s.2.2).toNat dz30).2.1.2.2.2.2.1.2.2 == ((v71 == 0)))) then
                                                             some (.inr (.inl ((-1))))
                                                            else
                                                             let v72 := IntKind.i64.wrap (v70 + 1)
                                                             bif decide (0 ≤ s.2.2) && decide (s.2.2 < (s.1.length : Int)) then
                                                              match F_laws_markText (v72) with
                                                              | none => none
                                                              | some y73 =>
                                                               bif (!((s.1.getD (s.2.2).toNat dz30).2.1.2.2.2.2.2.1.toList == y73.toList)) then
                                                                some (.inr (.inl ((-1))))
                                                               else
                                                                let v74 := IntKind.i64.wrap (v72 + 1)
                                                                bif decide (0 ≤ s.2.2) && decide (s.2.2 < (s.1.length : Int)) then
                                                                 bif (((s.1.getD (s.2.2).toNat dz30).2.1.2.2.2.2.2.2 != v74)) then
                                                                  some (.inr (.inl ((-1))))
                                                                 else
                                                                  let v75 := IntKind.i64.wrap (v74 + 1)
                                                                  bif decide (0 ≤ s.2.2) && decide (s.2.2 < (s.1.length : Int)) then
                                                                   bif (((s.1.getD (s.2.2).toNat dz30).2.2.1 != v75)) then
                                                                    some (.inr (.inl ((-1))))
                                                                   else
                                                                    let v76 := IntKind.i64.wrap (v75 + 1)
                                                                    bif decide (0 ≤ s.2.2) && decide (s.2.2 < (s.1.length : Int)) then
                                                                     bif (((s.1.getD (s.2.2).toNat dz30).2.2.2 != v76)) then
                                                                      some (.inr (.inl ((-1))))
                                                                     else
                                                                      let v77 := IntKind.i64.wrap (v76 + 1)
                                                                      let v78 := IntKind.i64.wrap (s.2.2 + 1)
                                                                      some (.inl ((s.1, v77, v78)))
                                                                    else none
                                                                  else none
                                                                else none
                                                             else none
                                                           else none
                                                          else none
                                                        else none
                                                      else none
                                                    else none
                                                  else none
                                                else none
                                               else none
                                             else none
                                           else none
                                         else none
                                       else none
                                     else none
                                   else none
                                  else none
                                else none
                             else none
                           else none
                          else none
                        else none
                      else none
                    else none
                  else none
                else none
               else none
             else none
           else none
         else none
       else none
     else none
  else none
 else
  some (.inr (.inr (s.2.1)))
def pat_laws_heldEntryS_0 : Pat := { tmps := .v (.slice (.st (.pair .str (.pair (.st (.pair (.st (.pair (.st (.pair (.int .i64) (.pair (.int .i64) (.pair (.int .i64) (.pair (.int .i64) (.pair (.int .i64) .bool)))))) (.pair (.st (.pair (.int .i64) (.int .i64))) (.pair (.st (.pair (.int .i64) (.pair (.int .i64) .bool))) (.st (.pair .str (.int .i64))))))) (.pair .bool (.st (.pair (.st (.pair (.int .i64) (.pair (.int .i64) (.pair (.int .i64) (.pair (.int .i64) (.pair (.int .i64) .bool)))))) (.pair (.st (.pair (.int .i64) (.int .i64))) (.pair (.st (.pair (.int .i64) (.pair (.int .i64) .bool))) (.st (.pair .str (.int .i64)))))))))) (.pair (.int .i64) (.int .i64)))))) :: .v (.int .i64) :: .any :: .any :: .any :: .v (.int .i64) :: an 369 [], blks := [] }
def outs_laws_heldEntryS_0 : List (Exit × Pat) := [(.ret, { tmps := an 4 (.v (.int .i64) :: an 370 []), blks := [] }), (.exit 0, { tmps := .any :: .v (.int .i64) :: an 373 [], blks := [] })]
noncomputable def F_laws_heldEntryS (x : (List (ByteArray × ((((Int × (Int × (Int × (Int × (Int × Bool))))) × ((Int × Int) × ((Int × (Int × Bool)) × (ByteArray × Int)))) × (Bool × ((Int × (Int × (Int × (Int × (Int × Bool))))) × ((Int × Int) × ((Int × (Int × Bool)) × (ByteArray × Int)))))) × (Int × Int)))) × Int) : Option (Int) :=
 match runL step_laws_heldEntryS_0 ((x.1, x.2, 0)) with
 | none => none
 | some (.inl o79) =>
  some (o79)
 | some (.inr o79) =>
  some (o79)
noncomputable def c_laws_heldEntryS : Con := { ps := [(.val, (.slice (.st (.pair .str (.pair (.st (.pair (.st (.pair (.st (.pair (.int .i64) (.pair (.int .i64) (.pair (.int .i64) (.pair (.int .i64) (.pair (.int .i64) .bool)))))) (.pair (.st (.pair (.int .i64) (.int .i64))) (.pair (.st (.pair (.int .i64) (.pair (.int .i64) .bool))) (.st (.pair .str (.int .i64))))))) (.pair .bool (.st (.pair (.st (.pair (.int .i64) (.pair (.int .i64) (.pair (.int .i64) (.pair (.int .i64) (.pair (.int .i64) .bool)))))) (.pair (.st (.pair (.int .i64) (.int .i64))) (.pair (.st (.pair (.int .i64) (.pair (.int .i64) .bool))) (.st (.pair .str (.int .i64)))))))))) (.pair (.int .i64) (.int .i64))))))), (.val, (.int .i64))], rs := [(.val, (.int .i64))], F := F_laws_heldEntryS }
noncomputable def env_laws_heldEntryS : Env := { par := [], dp := false, settle := [], con := fun f => match f with | 66 => some c_laws_markText | _ => none, clo := fun _ => none, T := tinf Tryz.prog }
noncomputable def loops_laws_heldEntryS : Nat → Option Loop := fun n => match n with | 2 => some { pat := pat_laws_heldEntryS_0, outs := outs_laws_heldEntryS_0, run := runL (step_laws_heldEntryS_0) } | _ => none
theorem step_laws_heldEntryS_0_eq (s : (List (ByteArray × ((((Int × (Int × (Int × (Int × (Int × Bool))))) × ((Int × Int) × ((Int × (Int × Bool)) × (ByteArray × Int)))) × (Bool × ((Int × (Int × (Int × (Int × (Int × Bool))))) × ((Int × Int) × ((Int × (Int × Bool)) × (ByteArray × Int)))))) × (Int × Int)))) × Int × Int) : stepEv env_laws_heldEntryS loops_laws_heldEntryS pat_laws_heldEntryS_0 outs_laws_heldEntryS_0 Tryz.f32 2 s = step_laws_heldEntryS_0 s := by kernel_rfl
theorem F_laws_heldEntryS_eq (x : (List (ByteArray × ((((Int × (Int × (Int × (Int × (Int × Bool))))) × ((Int × Int) × ((Int × (Int × Bool)) × (ByteArray × Int)))) × (Bool × ((Int × (Int × (Int × (Int × (Int × Bool))))) × ((Int × Int) × ((Int × (Int × Bool)) × (ByteArray × Int)))))) × (Int × Int)))) × Int) : Fev env_laws_heldEntryS loops_laws_heldEntryS c_laws_heldEntryS.ps c_laws_heldEntryS.rs Tryz.f32 x = F_laws_heldEntryS x := by kernel_rfl
theorem env_laws_heldEntryS_ok : EnvOK Tryz.prog env_laws_heldEntryS := envOK_of (fun f c h => by
  simp only [env_laws_heldEntryS] at h
  split at h
  · cases h; exact con_laws_markText
  · cases h) (fun f c h => by cases h) rfl
theorem con_laws_heldEntryS : ConOK Tryz.prog 32 c_laws_heldEntryS := con_of_ev' (body := Tryz.f32.body.getD .skip) (Λ := loops_laws_heldEntryS) mixed Tryz.func32 (by kernel_rfl) (by kernel_rfl) env_laws_heldEntryS_ok (by kernel_rfl) (by kernel_rfl) (fun n L h => by
  unfold loops_laws_heldEntryS at h
  split at h
  · cases h; exact fun s o ho => loop_ok (stepF := stepEv env_laws_heldEntryS loops_laws_heldEntryS pat_laws_heldEntryS_0 outs_laws_heldEntryS_0 Tryz.f32 2) (step_laws_heldEntryS_0_eq) ho
  · cases h) F_laws_heldEntryS_eq

noncomputable def F_laws_FnExactAddEntry (x : (List (ByteArray × ((((Int × (Int × (Int × (Int × (Int × Bool))))) × ((Int × Int) × ((Int × (Int × Bool)) × (ByteArray × Int)))) × (Bool × ((Int × (Int × (Int × (Int × (Int × Bool))))) × ((Int × Int) × ((Int × (Int × Bool)) × (ByteArray × Int)))))) × (Int × Int)))) × (ByteArray × ((((Int × (Int × (Int × (Int × (Int × Bool))))) × ((Int × Int) × ((Int × (Int × Bool)) × (ByteArray × Int)))) × (Bool × ((Int × (Int × (Int × (Int × (Int × Bool))))) × ((Int × Int) × ((Int × (Int × Bool)) × (ByteArray × Int)))))) × (Int × Int)))) : Option (Bool) :=
 match F_laws_szEntryS ((x.1, 1048576)) with
 | none => none
 | some y1 =>
  bif (decide (y1 < 0)) then
   some (true)
  else
   match F_laws_szEntry ((x.2, y1)) with
   | none => none
   | some y2 =>
    bif (decide (y2 < 0)) then
     some (true)
    else
     match F_laws_toEntryS (x.1) with
     | none => none
     | some y3 =>
      match F_laws_toEntry (x.2) with
      | none => none
      | some y4 =>
       match F_spec_AddEntry ((y3, y4)) with
       | none => none
       | some y5 =>
        match F_laws_toEntryS (x.1) with
        | none => none
        | some y6 =>
         match F_laws_toEntry (x.2) with
         | none => none
         | some y7 =>
          match F_impl_AddEntry ((y6, y7)) with
          | none => none
          | some y8 =>
           match F_laws_eqEntryS ((y8.1, y5.1)) with
           | none => none
           | some y9 =>
            bif (!y9) then
             some (false)
            else
             bif (!(y8.2 == y5.2)) then
              some (false)
             else
              match F_laws_toEntryS (x.1) with
              | none => none
              | some y10 =>
               match F_laws_eqEntryS ((y6, y10)) with
               | none => none
               | some y11 =>
                bif (!y11) then
                 some (false)
                else
                 match F_laws_markEntryS ((y6, 1)) with
                 | none => none
                 | some y12 =>
                  bif (decide (y12.2 < 0)) then
                   some (false)
                  else
                   match F_laws_eqEntryS ((y8.1, y5.1)) with
                   | none => none
                   | some y13 =>
                    bif (!y13) then
                     some (false)
                    else
                     bif (!(y8.2 == y5.2)) then
                      some (false)
                     else
                      match F_laws_markEntryS ((y8.1, 1)) with
                      | none => none
                      | some y14 =>
                       match F_laws_heldEntryS ((y14.1, 1)) with
                       | none => none
                       | some y15 =>
                        bif (decide (y15 < 0)) then
                         some (false)
                        else
                         bif ((y15 != y14.2)) then
                          some (false)
                         else
                          match F_laws_toEntryS (x.1) with
                          | none => none
                          | some y16 =>
                           match F_laws_toEntry (x.2) with
                           | none => none
                           | some y17 =>
                            match F_impl_AddEntry ((y16, y17)) with
                            | none => none
                            | some y18 =>
                             match F_laws_eqEntryS ((y18.1, y5.1)) with
                             | none => none
                             | some y19 =>
                              bif (!y19) then
                               some (false)
                              else
                               bif (!(y18.2 == y5.2)) then
                                some (false)
                               else
                                match F_laws_heldEntryS ((y14.1, 1)) with
                                | none => none
                                | some y20 =>
                                 bif (decide (y20 < 0)) then
                                  some (false)
                                 else
                                  bif ((y20 != y14.2)) then
                                   some (false)
                                  else
                                   some (true)
noncomputable def c_laws_FnExactAddEntry : Con := { ps := [(.val, (.slice (.st (.pair .str (.pair (.st (.pair (.st (.pair (.st (.pair (.int .i64) (.pair (.int .i64) (.pair (.int .i64) (.pair (.int .i64) (.pair (.int .i64) .bool)))))) (.pair (.st (.pair (.int .i64) (.int .i64))) (.pair (.st (.pair (.int .i64) (.pair (.int .i64) .bool))) (.st (.pair .str (.int .i64))))))) (.pair .bool (.st (.pair (.st (.pair (.int .i64) (.pair (.int .i64) (.pair (.int .i64) (.pair (.int .i64) (.pair (.int .i64) .bool)))))) (.pair (.st (.pair (.int .i64) (.int .i64))) (.pair (.st (.pair (.int .i64) (.pair (.int .i64) .bool))) (.st (.pair .str (.int .i64)))))))))) (.pair (.int .i64) (.int .i64))))))), (.val, (.st (.pair .str (.pair (.st (.pair (.st (.pair (.st (.pair (.int .i64) (.pair (.int .i64) (.pair (.int .i64) (.pair (.int .i64) (.pair (.int .i64) .bool)))))) (.pair (.st (.pair (.int .i64) (.int .i64))) (.pair (.st (.pair (.int .i64) (.pair (.int .i64) .bool))) (.st (.pair .str (.int .i64))))))) (.pair .bool (.st (.pair (.st (.pair (.int .i64) (.pair (.int .i64) (.pair (.int .i64) (.pair (.int .i64) (.pair (.int .i64) .bool)))))) (.pair (.st (.pair (.int .i64) (.int .i64))) (.pair (.st (.pair (.int .i64) (.pair (.int .i64) .bool))) (.st (.pair .str (.int .i64)))))))))) (.pair (.int .i64) (.int .i64))))))], rs := [(.val, .bool)], F := F_laws_FnExactAddEntry }
noncomputable def env_laws_FnExactAddEntry : Env := { par := [], dp := false, settle := [], con := fun f => match f with | 24 => some c_laws_szEntryS | 25 => some c_laws_szEntry | 26 => some c_spec_AddEntry | 27 => some c_laws_toEntryS | 28 => some c_laws_toEntry | 29 => some c_impl_AddEntry | 30 => some c_laws_eqEntryS | 31 => some c_laws_markEntryS | 32 => some c_laws_heldEntryS | _ => none, clo := fun _ => none, T := tinf Tryz.prog }
noncomputable def loops_laws_FnExactAddEntry : Nat → Option Loop := fun n => none
theorem F_laws_FnExactAddEntry_eq (x : (List (ByteArray × ((((Int × (Int × (Int × (Int × (Int × Bool))))) × ((Int × Int) × ((Int × (Int × Bool)) × (ByteArray × Int)))) × (Bool × ((Int × (Int × (Int × (Int × (Int × Bool))))) × ((Int × Int) × ((Int × (Int × Bool)) × (ByteArray × Int)))))) × (Int × Int)))) × (ByteArray × ((((Int × (Int × (Int × (Int × (Int × Bool))))) × ((Int × Int) × ((Int × (Int × Bool)) × (ByteArray × Int)))) × (Bool × ((Int × (Int × (Int × (Int × (Int × Bool))))) × ((Int × Int) × ((Int × (Int × Bool)) × (ByteArray × Int)))))) × (Int × Int)))) : Fev env_laws_FnExactAddEntry loops_laws_FnExactAddEntry c_laws_FnExactAddEntry.ps c_laws_FnExactAddEntry.rs Tryz.f4 x = F_laws_FnExactAddEntry x := by kernel_rfl
theorem env_laws_FnExactAddEntry_ok : EnvOK Tryz.prog env_laws_FnExactAddEntry := envOK_of (fun f c h => by
  simp only [env_laws_FnExactAddEntry] at h
  split at h
  · cases h; exact con_laws_szEntryS
  · cases h; exact con_laws_szEntry
  · cases h; exact con_spec_AddEntry
  · cases h; exact con_laws_toEntryS
  · cases h; exact con_laws_toEntry
  · cases h; exact con_impl_AddEntry
  · cases h; exact con_laws_eqEntryS
  · cases h; exact con_laws_markEntryS
  · cases h; exact con_laws_heldEntryS
  · cases h) (fun f c h => by cases h) rfl
theorem con_laws_FnExactAddEntry : ConOK Tryz.prog 4 c_laws_FnExactAddEntry := con_of_ev' (body := Tryz.f4.body.getD .skip) (Λ := loops_laws_FnExactAddEntry) mixed Tryz.func4 (by kernel_rfl) (by kernel_rfl) env_laws_FnExactAddEntry_ok (by kernel_rfl) (by kernel_rfl) (fun n L h => by cases h) F_laws_FnExactAddEntry_eq

end Go.Proofs.YtbpcjfljgjekmaaGreatDoor
