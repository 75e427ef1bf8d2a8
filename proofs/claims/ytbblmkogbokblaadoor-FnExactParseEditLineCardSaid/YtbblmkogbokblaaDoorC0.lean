/- Contracts of functions of the program, written by a program of this claim. No conditions. -/
import Derived.Test.YtbblmkogbokblaaDoorEvZk
import Derived.Test.YtbblmkogbokblaaDoorRows
import Derived.Shelf.Strings.Search1
import Derived.Lib.AppendIntMem
import Derived.Test.YtbblmkogbokblaaDoorNu
import Derived.Test.YtbblmkogbokblaaDoorIdz
import Derived.Test.YtbblmkogbokblaaDoorShelf
set_option linter.unusedVariables false
set_option maxRecDepth 100000
namespace Go.Proofs.YtbblmkogbokblaaDoor
open Go
theorem mixed : Tryd.prog.follows .mixedOrders = true := by kernel_rfl
noncomputable def step_spec_l1Split_0 (s : ByteArray × Int × Int × Int × (List ByteArray)) : Option ((ByteArray × Int × Int × Int × (List ByteArray)) ⊕ ((ByteArray × Int × (List ByteArray)))) :=
  bif (decide (s.2.2.2.1 < (s.1.size : Int))) then
    bif decide (0 ≤ s.2.2.2.1) && decide (s.2.2.2.1 < (s.1.size : Int)) then
      bif (((byteAt s.1 (s.2.2.2.1).toNat) == s.2.1)) then
        bif decide (0 ≤ s.2.2.1) && decide (s.2.2.1 ≤ s.2.2.2.1) && decide (s.2.2.2.1 ≤ (s.1.size : Int)) then
          bif decide ((s.2.2.2.2.length + [(s.1.extract (s.2.2.1).toNat (s.2.2.2.1).toNat)].length) * 16 ≤ 140737488355328) then
            let v8 := s.2.2.2.2 ++ [(s.1.extract (s.2.2.1).toNat (s.2.2.2.1).toNat)]
            let v9 := IntKind.i64.wrap (s.2.2.2.1 + 1)
            let v10 := IntKind.i64.wrap (s.2.2.2.1 + 1)
            some (.inl ((s.1, s.2.1, (v9, v10, v8))))
          else none
        else none
      else
        let v11 := IntKind.i64.wrap (s.2.2.2.1 + 1)
        some (.inl ((s.1, s.2.1, (s.2.2.1, v11, s.2.2.2.2))))
    else none
  else
    some (.inr ((s.1, s.2.2.1, s.2.2.2.2)))
def pat_spec_l1Split_0 : Pat := { tmps := [.v .str, .v (.int .u8), .any, .any, .any, .own 1600, .v (.int .i64), .v (.int .i64), .any, .any, .any, .any, .any, .any, .any, .any, .any, .any, .any, .any, .any, .any, .any, .any, .any, .any, .any, .any, .any, .any, .any, .any, .any, .any], blks := [(1600, .row true .str)] }
def outs_spec_l1Split_0 : List (Exit × Pat) := [(.exit 0, { tmps := [.v .str, .any, .any, .any, .any, .own 1600, .v (.int .i64), .any, .any, .any, .any, .any, .any, .any, .any, .any, .any, .any, .any, .any, .any, .any, .any, .any, .any, .any, .any, .any, .any, .any, .any, .any, .any, .any], blks := [(1600, .row true .str)] })]
noncomputable def F_spec_l1Split (x : ByteArray × Int) : Option ((List ByteArray)) :=
  match runL step_spec_l1Split_0 ((x.1, x.2, (0, 0, []))) with
  | none => none
  | some o12 =>
    bif decide (0 ≤ o12.2.1) && decide (o12.2.1 ≤ (o12.1.size : Int)) && decide ((o12.1.size : Int) ≤ (o12.1.size : Int)) then
      bif decide ((o12.2.2.length + [(o12.1.extract (o12.2.1).toNat ((o12.1.size : Int)).toNat)].length) * 16 ≤ 140737488355328) then
        let v13 := o12.2.2 ++ [(o12.1.extract (o12.2.1).toNat ((o12.1.size : Int)).toNat)]
        some (v13)
      else none
    else none
noncomputable def c_spec_l1Split : Con := { ps := [(.val, .str), (.val, (.int .u8))], rs := [(.io true, (.slice .str))], F := F_spec_l1Split }
noncomputable def env_spec_l1Split : Env := { par := [], dp := false, settle := [], con := fun _ => none, clo := fun _ => none, T := tinf Tryd.prog }
noncomputable def loops_spec_l1Split : Nat → Option Loop := fun n => match n with | 4 => some { pat := pat_spec_l1Split_0, outs := outs_spec_l1Split_0, run := runL (step_spec_l1Split_0) } | _ => none
theorem step_spec_l1Split_0_eq (s : ByteArray × Int × Int × Int × (List ByteArray)) : stepEv env_spec_l1Split loops_spec_l1Split pat_spec_l1Split_0 outs_spec_l1Split_0 Tryd.f28 4 s = step_spec_l1Split_0 s := by kernel_rfl
theorem F_spec_l1Split_eq (x : ByteArray × Int) : Fev env_spec_l1Split loops_spec_l1Split c_spec_l1Split.ps c_spec_l1Split.rs Tryd.f28 x = F_spec_l1Split x := by kernel_rfl
theorem env_spec_l1Split_ok : EnvOK Tryd.prog env_spec_l1Split := envOK_of (fun f c h => by cases h) (fun f c h => by cases h) rfl
theorem con_spec_l1Split : ConOK Tryd.prog 28 c_spec_l1Split := con_of_ev' (body := Tryd.f28.body.getD .skip) (Λ := loops_spec_l1Split) mixed Tryd.func28 (by kernel_rfl) (by kernel_rfl) env_spec_l1Split_ok (by kernel_rfl) (by kernel_rfl) (fun n L h => by
  unfold loops_spec_l1Split at h
  split at h
  · cases h; exact fun s o ho => loop_ok (stepF := stepEv env_spec_l1Split loops_spec_l1Split pat_spec_l1Split_0 outs_spec_l1Split_0 Tryd.f28 4) (step_spec_l1Split_0_eq) ho
  · cases h) F_spec_l1Split_eq

noncomputable def F_spec_l1In (x : Int × Int × Int) : Option (Bool) :=
  bif (decide (x.1 ≥ x.2.1)) then
    some ((decide (x.1 ≤ x.2.2)))
  else
    some (false)
noncomputable def c_spec_l1In : Con := { ps := [(.val, (.int .i64)), (.val, (.int .i64)), (.val, (.int .i64))], rs := [(.val, .bool)], F := F_spec_l1In }
noncomputable def env_spec_l1In : Env := { par := [], dp := false, settle := [], con := fun _ => none, clo := fun _ => none, T := tinf Tryd.prog }
noncomputable def loops_spec_l1In : Nat → Option Loop := fun n => none
theorem F_spec_l1In_eq (x : Int × Int × Int) : Fev env_spec_l1In loops_spec_l1In c_spec_l1In.ps c_spec_l1In.rs Tryd.f42 x = F_spec_l1In x := by kernel_rfl
theorem env_spec_l1In_ok : EnvOK Tryd.prog env_spec_l1In := envOK_of (fun f c h => by cases h) (fun f c h => by cases h) rfl
theorem con_spec_l1In : ConOK Tryd.prog 42 c_spec_l1In := con_of_ev' (body := Tryd.f42.body.getD .skip) (Λ := loops_spec_l1In) mixed Tryd.func42 (by kernel_rfl) (by kernel_rfl) env_spec_l1In_ok (by kernel_rfl) (by kernel_rfl) (fun n L h => by cases h) F_spec_l1In_eq

noncomputable def step_spec_l1Read_0 (s : ByteArray × Int × Int) : Option ((ByteArray × Int × Int) ⊕ ((Int) ⊕ (Int))) :=
  bif (decide (s.2.2 < (s.1.size : Int))) then
    bif decide (0 ≤ s.2.2) && decide (s.2.2 < (s.1.size : Int)) then
      bif (decide ((byteAt s.1 (s.2.2).toNat) < 48)) then
        some (.inr (.inl ((-1))))
      else
        bif decide (0 ≤ s.2.2) && decide (s.2.2 < (s.1.size : Int)) then
          bif (decide ((byteAt s.1 (s.2.2).toNat) > 57)) then
            some (.inr (.inl ((-1))))
          else
            let v18 := IntKind.i64.wrap (10 * s.2.1)
            bif decide (0 ≤ s.2.2) && decide (s.2.2 < (s.1.size : Int)) then
              let v19 := IntKind.u8.wrap ((byteAt s.1 (s.2.2).toNat) - 48)
              let v20 := IntKind.i64.wrap v19
              let v21 := IntKind.i64.wrap (v18 + v20)
              let v22 := IntKind.i64.wrap (s.2.2 + 1)
              some (.inl ((s.1, v21, v22)))
            else none
        else none
    else none
  else
    some (.inr (.inr (s.2.1)))
def pat_spec_l1Read_0 : Pat := { tmps := [.v .str, .any, .any, .v (.int .i64), .v (.int .i64), .any, .any, .any, .any, .any, .any, .any, .any, .any, .any, .any, .any, .any, .any, .any, .any, .any, .any, .any, .any, .any, .any, .any, .any, .any, .any, .any, .any, .any, .any, .any, .any, .any, .any, .any, .any, .any, .any, .any], blks := [] }
def outs_spec_l1Read_0 : List (Exit × Pat) := [(.ret, { tmps := [.any, .any, .v (.int .i64), .any, .any, .any, .any, .any, .any, .any, .any, .any, .any, .any, .any, .any, .any, .any, .any, .any, .any, .any, .any, .any, .any, .any, .any, .any, .any, .any, .any, .any, .any, .any, .any, .any, .any, .any, .any, .any, .any, .any, .any, .any], blks := [] }), (.exit 0, { tmps := [.any, .any, .any, .v (.int .i64), .any, .any, .any, .any, .any, .any, .any, .any, .any, .any, .any, .any, .any, .any, .any, .any, .any, .any, .any, .any, .any, .any, .any, .any, .any, .any, .any, .any, .any, .any, .any, .any, .any, .any, .any, .any, .any, .any, .any, .any], blks := [] })]
noncomputable def F_spec_l1Read (x : ByteArray) : Option (Int) :=
  match F_spec_l1In (((x.size : Int), 1, 6)) with
  | none => none
  | some y1 =>
    bif (!y1) then
      some ((-1))
    else
      bif decide (0 ≤ 0) && decide (0 < (x.size : Int)) then
        bif (((byteAt x (0 : Int).toNat) == 48)) then
          bif (decide ((x.size : Int) > 1)) then
            some ((-1))
          else
            match runL step_spec_l1Read_0 ((x, 0, 0)) with
            | none => none
            | some (.inl o12) =>
              some (o12)
            | some (.inr o12) =>
              some (o12)
        else
          match runL step_spec_l1Read_0 ((x, 0, 0)) with
          | none => none
          | some (.inl o23) =>
            some (o23)
          | some (.inr o23) =>
            some (o23)
      else none
noncomputable def c_spec_l1Read : Con := { ps := [(.val, .str)], rs := [(.val, (.int .i64))], F := F_spec_l1Read }
noncomputable def env_spec_l1Read : Env := { par := [], dp := false, settle := [], con := fun f => match f with | 42 => some c_spec_l1In | _ => none, clo := fun _ => none, T := tinf Tryd.prog }
noncomputable def loops_spec_l1Read : Nat → Option Loop := fun n => match n with | 5 => some { pat := pat_spec_l1Read_0, outs := outs_spec_l1Read_0, run := runL (step_spec_l1Read_0) } | _ => none
theorem step_spec_l1Read_0_eq (s : ByteArray × Int × Int) : stepEv env_spec_l1Read loops_spec_l1Read pat_spec_l1Read_0 outs_spec_l1Read_0 Tryd.f29 5 s = step_spec_l1Read_0 s := by kernel_rfl
theorem F_spec_l1Read_eq (x : ByteArray) : Fev env_spec_l1Read loops_spec_l1Read c_spec_l1Read.ps c_spec_l1Read.rs Tryd.f29 x = F_spec_l1Read x := by kernel_rfl
theorem env_spec_l1Read_ok : EnvOK Tryd.prog env_spec_l1Read := envOK_of (fun f c h => by
  simp only [env_spec_l1Read] at h
  split at h
  · cases h; exact con_spec_l1In
  · cases h) (fun f c h => by cases h) rfl
theorem con_spec_l1Read : ConOK Tryd.prog 29 c_spec_l1Read := con_of_ev' (body := Tryd.f29.body.getD .skip) (Λ := loops_spec_l1Read) mixed Tryd.func29 (by kernel_rfl) (by kernel_rfl) env_spec_l1Read_ok (by kernel_rfl) (by kernel_rfl) (fun n L h => by
  unfold loops_spec_l1Read at h
  split at h
  · cases h; exact fun s o ho => loop_ok (stepF := stepEv env_spec_l1Read loops_spec_l1Read pat_spec_l1Read_0 outs_spec_l1Read_0 Tryd.f29 5) (step_spec_l1Read_0_eq) ho
  · cases h) F_spec_l1Read_eq

noncomputable def step_spec_fsWord_0 (s : ByteArray × Int) : Option ((ByteArray × Int) ⊕ ((Bool) ⊕ (ByteArray))) :=
  bif (decide (s.2 < (s.1.size : Int))) then
    bif decide (0 ≤ s.2) && decide (s.2 < (s.1.size : Int)) then
      bif (decide ((byteAt s.1 (s.2).toNat) < 65)) then
        some (.inr (.inl (false)))
      else
        bif decide (0 ≤ s.2) && decide (s.2 < (s.1.size : Int)) then
          bif (decide ((byteAt s.1 (s.2).toNat) > 90)) then
            some (.inr (.inl (false)))
          else
            let v2 := IntKind.i64.wrap (s.2 + 1)
            some (.inl ((s.1, v2)))
        else none
    else none
  else
    some (.inr (.inr (s.1)))
def pat_spec_fsWord_0 : Pat := { tmps := [.v .str, .any, .any, .v (.int .i64), .any, .any, .any, .any, .any, .any, .any, .any, .any, .any, .any, .any, .any, .any, .any, .any, .any, .any, .any], blks := [] }
def outs_spec_fsWord_0 : List (Exit × Pat) := [(.ret, { tmps := [.any, .any, .v .bool, .any, .any, .any, .any, .any, .any, .any, .any, .any, .any, .any, .any, .any, .any, .any, .any, .any, .any, .any, .any], blks := [] }), (.exit 0, { tmps := [.v .str, .any, .any, .any, .any, .any, .any, .any, .any, .any, .any, .any, .any, .any, .any, .any, .any, .any, .any, .any, .any, .any, .any], blks := [] })]
noncomputable def F_spec_fsWord (x : ByteArray) : Option (Bool) :=
  match runL step_spec_fsWord_0 ((x, 0)) with
  | none => none
  | some (.inl o3) =>
    some (o3)
  | some (.inr o3) =>
    match F_spec_l1In (((o3.size : Int), 1, 8)) with
    | none => none
    | some y4 =>
      some (y4)
noncomputable def c_spec_fsWord : Con := { ps := [(.val, .str)], rs := [(.val, .bool)], F := F_spec_fsWord }
noncomputable def env_spec_fsWord : Env := { par := [], dp := false, settle := [], con := fun f => match f with | 42 => some c_spec_l1In | _ => none, clo := fun _ => none, T := tinf Tryd.prog }
noncomputable def loops_spec_fsWord : Nat → Option Loop := fun n => match n with | 2 => some { pat := pat_spec_fsWord_0, outs := outs_spec_fsWord_0, run := runL (step_spec_fsWord_0) } | _ => none
theorem step_spec_fsWord_0_eq (s : ByteArray × Int) : stepEv env_spec_fsWord loops_spec_fsWord pat_spec_fsWord_0 outs_spec_fsWord_0 Tryd.f43 2 s = step_spec_fsWord_0 s := by kernel_rfl
theorem F_spec_fsWord_eq (x : ByteArray) : Fev env_spec_fsWord loops_spec_fsWord c_spec_fsWord.ps c_spec_fsWord.rs Tryd.f43 x = F_spec_fsWord x := by kernel_rfl
theorem env_spec_fsWord_ok : EnvOK Tryd.prog env_spec_fsWord := envOK_of (fun f c h => by
  simp only [env_spec_fsWord] at h
  split at h
  · cases h; exact con_spec_l1In
  · cases h) (fun f c h => by cases h) rfl
theorem con_spec_fsWord : ConOK Tryd.prog 43 c_spec_fsWord := con_of_ev' (body := Tryd.f43.body.getD .skip) (Λ := loops_spec_fsWord) mixed Tryd.func43 (by kernel_rfl) (by kernel_rfl) env_spec_fsWord_ok (by kernel_rfl) (by kernel_rfl) (fun n L h => by
  unfold loops_spec_fsWord at h
  split at h
  · cases h; exact fun s o ho => loop_ok (stepF := stepEv env_spec_fsWord loops_spec_fsWord pat_spec_fsWord_0 outs_spec_fsWord_0 Tryd.f43 2) (step_spec_fsWord_0_eq) ho
  · cases h) F_spec_fsWord_eq

noncomputable def F_spec_joOne (x : (Int × (ByteArray × Bool))) : Option (Bool) :=
  match F_spec_l1In ((x.1, 1, 999)) with
  | none => none
  | some y1 =>
    bif y1 then
      match F_spec_fsWord (x.2.1) with
      | none => none
      | some y2 =>
        some (y2)
    else
      some (false)
noncomputable def c_spec_joOne : Con := { ps := [(.val, (.st (.pair (.int .i64) (.pair .str .bool))))], rs := [(.val, .bool)], F := F_spec_joOne }
noncomputable def env_spec_joOne : Env := { par := [], dp := false, settle := [], con := fun f => match f with | 42 => some c_spec_l1In | 43 => some c_spec_fsWord | _ => none, clo := fun _ => none, T := tinf Tryd.prog }
noncomputable def loops_spec_joOne : Nat → Option Loop := fun n => none
theorem F_spec_joOne_eq (x : (Int × (ByteArray × Bool))) : Fev env_spec_joOne loops_spec_joOne c_spec_joOne.ps c_spec_joOne.rs Tryd.f30 x = F_spec_joOne x := by kernel_rfl
theorem env_spec_joOne_ok : EnvOK Tryd.prog env_spec_joOne := envOK_of (fun f c h => by
  simp only [env_spec_joOne] at h
  split at h
  · cases h; exact con_spec_l1In
  · cases h; exact con_spec_fsWord
  · cases h) (fun f c h => by cases h) rfl
theorem con_spec_joOne : ConOK Tryd.prog 30 c_spec_joOne := con_of_ev' (body := Tryd.f30.body.getD .skip) (Λ := loops_spec_joOne) mixed Tryd.func30 (by kernel_rfl) (by kernel_rfl) env_spec_joOne_ok (by kernel_rfl) (by kernel_rfl) (fun n L h => by cases h) F_spec_joOne_eq


noncomputable def step_spec_joLine_0 (s : ByteArray × Int × Int) : Option ((ByteArray × Int × Int) ⊕ ((ByteArray × Int))) :=
  bif (decide (s.2.2 < (s.1.size : Int))) then
    let v20 := IntKind.i64.wrap (7 * s.2.1)
    bif decide (0 ≤ s.2.2) && decide (s.2.2 < (s.1.size : Int)) then
      let v21 := IntKind.i64.wrap (byteAt s.1 (s.2.2).toNat)
      let v22 := IntKind.i64.wrap (v20 + v21)
      bif !decide (9973 = 0) then
        let v23 := (v22).tmod 9973
        let v24 := IntKind.i64.wrap (s.2.2 + 1)
        some (.inl ((s.1, v23, v24)))
      else none
    else none
  else
    some (.inr ((s.1, s.2.1)))
def pat_spec_joLine_0 : Pat := { tmps := [.any, .any, .any, .v .str, .v (.int .i64), .v (.int .i64), .any, .any, .any, .any, .any, .any, .any, .any, .any, .any, .any, .any, .any, .any, .any, .any, .any, .any, .any, .any, .any, .any, .any, .any, .any, .any, .any, .any, .any, .any, .any, .any, .any, .any, .any, .any], blks := [] }
def outs_spec_joLine_0 : List (Exit × Pat) := [(.exit 0, { tmps := [.any, .any, .any, .v .str, .v (.int .i64), .any, .any, .any, .any, .any, .any, .any, .any, .any, .any, .any, .any, .any, .any, .any, .any, .any, .any, .any, .any, .any, .any, .any, .any, .any, .any, .any, .any, .any, .any, .any, .any, .any, .any, .any, .any, .any], blks := [] })]
noncomputable def F_spec_joLine (x : (Int × (ByteArray × Bool))) : Option (ByteArray) :=
  match F_spec_l1Num (x.1) with
  | none => none
  | some y1 =>
    bif decide (y1.size + (⟨#[43]⟩ : ByteArray).size ≤ 9223372036854775807) then
      bif decide ((y1 ++ (⟨#[43]⟩ : ByteArray)).size + x.2.1.size ≤ 9223372036854775807) then
        bif x.2.2 then
          match F_spec_l1Num (x.1) with
          | none => none
          | some y2 =>
            bif decide (y2.size + (⟨#[45]⟩ : ByteArray).size ≤ 9223372036854775807) then
              bif decide ((y2 ++ (⟨#[45]⟩ : ByteArray)).size + x.2.1.size ≤ 9223372036854775807) then
                match runL step_spec_joLine_0 ((((y2 ++ (⟨#[45]⟩ : ByteArray)) ++ x.2.1), 3, 0)) with
                | none => none
                | some o13 =>
                  bif decide (o13.1.size + (⟨#[46]⟩ : ByteArray).size ≤ 9223372036854775807) then
                    match F_spec_l1Num (o13.2) with
                    | none => none
                    | some y14 =>
                      bif decide ((o13.1 ++ (⟨#[46]⟩ : ByteArray)).size + y14.size ≤ 9223372036854775807) then
                        bif decide (((o13.1 ++ (⟨#[46]⟩ : ByteArray)) ++ y14).size + (⟨#[10]⟩ : ByteArray).size ≤ 9223372036854775807) then
                          some ((((o13.1 ++ (⟨#[46]⟩ : ByteArray)) ++ y14) ++ (⟨#[10]⟩ : ByteArray)))
                        else none
                      else none
                  else none
              else none
            else none
        else
          match runL step_spec_joLine_0 ((((y1 ++ (⟨#[43]⟩ : ByteArray)) ++ x.2.1), 3, 0)) with
          | none => none
          | some o25 =>
            bif decide (o25.1.size + (⟨#[46]⟩ : ByteArray).size ≤ 9223372036854775807) then
              match F_spec_l1Num (o25.2) with
              | none => none
              | some y26 =>
                bif decide ((o25.1 ++ (⟨#[46]⟩ : ByteArray)).size + y26.size ≤ 9223372036854775807) then
                  bif decide (((o25.1 ++ (⟨#[46]⟩ : ByteArray)) ++ y26).size + (⟨#[10]⟩ : ByteArray).size ≤ 9223372036854775807) then
                    some ((((o25.1 ++ (⟨#[46]⟩ : ByteArray)) ++ y26) ++ (⟨#[10]⟩ : ByteArray)))
                  else none
                else none
            else none
      else none
    else none
noncomputable def c_spec_joLine : Con := { ps := [(.val, (.st (.pair (.int .i64) (.pair .str .bool))))], rs := [(.val, .str)], F := F_spec_joLine }
noncomputable def env_spec_joLine : Env := { par := [], dp := false, settle := [], con := fun f => match f with | 44 => some c_spec_l1Num | _ => none, clo := fun _ => none, T := tinf Tryd.prog }
noncomputable def loops_spec_joLine : Nat → Option Loop := fun n => match n with | 6 => some { pat := pat_spec_joLine_0, outs := outs_spec_joLine_0, run := runL (step_spec_joLine_0) } | _ => none
theorem step_spec_joLine_0_eq (s : ByteArray × Int × Int) : stepEv env_spec_joLine loops_spec_joLine pat_spec_joLine_0 outs_spec_joLine_0 Tryd.f31 6 s = step_spec_joLine_0 s := by kernel_rfl
theorem F_spec_joLine_eq (x : (Int × (ByteArray × Bool))) : Fev env_spec_joLine loops_spec_joLine c_spec_joLine.ps c_spec_joLine.rs Tryd.f31 x = F_spec_joLine x := by kernel_rfl
theorem env_spec_joLine_ok : EnvOK Tryd.prog env_spec_joLine := envOK_of (fun f c h => by
  simp only [env_spec_joLine] at h
  split at h
  · cases h; exact con_spec_l1Num
  · cases h) (fun f c h => by cases h) rfl
theorem con_spec_joLine : ConOK Tryd.prog 31 c_spec_joLine := con_of_ev' (body := Tryd.f31.body.getD .skip) (Λ := loops_spec_joLine) mixed Tryd.func31 (by kernel_rfl) (by kernel_rfl) env_spec_joLine_ok (by kernel_rfl) (by kernel_rfl) (fun n L h => by
  unfold loops_spec_joLine at h
  split at h
  · cases h; exact fun s o ho => loop_ok (stepF := stepEv env_spec_joLine loops_spec_joLine pat_spec_joLine_0 outs_spec_joLine_0 Tryd.f31 6) (step_spec_joLine_0_eq) ho
  · cases h) F_spec_joLine_eq

noncomputable def step_spec_joParse_0 (s : ByteArray × Int × Int × ByteArray × Bool) : Option ((ByteArray × Int × Int × ByteArray × Bool) ⊕ ((Bool × Int × ByteArray × Bool) ⊕ (Int × ByteArray × Bool))) :=
  bif (decide (s.2.1 < (s.1.size : Int))) then
    bif (decide (s.2.1 < 4)) then
      bif decide (0 ≤ s.2.1) && decide (s.2.1 < (s.1.size : Int)) then
        bif (((byteAt s.1 (s.2.1).toNat) != 43)) then
          bif decide (0 ≤ s.2.1) && decide (s.2.1 < (s.1.size : Int)) then
            bif (((byteAt s.1 (s.2.1).toNat) != 45)) then
              let v12 := IntKind.i64.wrap (s.2.1 + 1)
              some (.inl ((s.1, v12, s.2.2)))
            else
              let v13 := IntKind.i64.wrap (s.2.1 + 1)
              bif decide (0 ≤ v13) && decide (v13 ≤ (s.1.size : Int)) && decide ((s.1.size : Int) ≤ (s.1.size : Int)) then
                match F_spec_l1Split (((s.1.extract (v13).toNat ((s.1.size : Int)).toNat), 46)) with
                | none => none
                | some y14 =>
                  bif decide (0 ≤ (0 : Int)) && decide ((0 : Int) ≤ s.2.1) && decide (s.2.1 ≤ (s.1.size : Int)) then
                    bif decide (0 ≤ 0) && decide (0 < (y14.length : Int)) then
                      bif decide (0 ≤ s.2.1) && decide (s.2.1 < (s.1.size : Int)) then
                        match F_spec_l1Read ((s.1.extract ((0 : Int)).toNat (s.2.1).toNat)) with
                        | none => none
                        | some y15 =>
                          match F_spec_joOne ((y15, (y14.getD (0 : Int).toNat ByteArray.empty), (((byteAt s.1 (s.2.1).toNat) == 45)))) with
                          | none => none
                          | some y16 =>
                            bif y16 then
                              match F_spec_joLine ((y15, (y14.getD (0 : Int).toNat ByteArray.empty), (((byteAt s.1 (s.2.1).toNat) == 45)))) with
                              | none => none
                              | some y17 =>
                                bif (y17.toList == s.1.toList) then
                                  some (.inr (.inl ((true, (y15, (y14.getD (0 : Int).toNat ByteArray.empty), (((byteAt s.1 (s.2.1).toNat) == 45)))))))
                                else
                                  some (.inr (.inr (s.2.2)))
                            else
                              some (.inr (.inr (s.2.2)))
                      else none
                    else none
                  else none
              else none
          else none
        else
          let v18 := IntKind.i64.wrap (s.2.1 + 1)
          bif decide (0 ≤ v18) && decide (v18 ≤ (s.1.size : Int)) && decide ((s.1.size : Int) ≤ (s.1.size : Int)) then
            match F_spec_l1Split (((s.1.extract (v18).toNat ((s.1.size : Int)).toNat), 46)) with
            | none => none
            | some y19 =>
              bif decide (0 ≤ (0 : Int)) && decide ((0 : Int) ≤ s.2.1) && decide (s.2.1 ≤ (s.1.size : Int)) then
                bif decide (0 ≤ 0) && decide (0 < (y19.length : Int)) then
                  bif decide (0 ≤ s.2.1) && decide (s.2.1 < (s.1.size : Int)) then
                    match F_spec_l1Read ((s.1.extract ((0 : Int)).toNat (s.2.1).toNat)) with
                    | none => none
                    | some y20 =>
                      match F_spec_joOne ((y20, (y19.getD (0 : Int).toNat ByteArray.empty), (((byteAt s.1 (s.2.1).toNat) == 45)))) with
                      | none => none
                      | some y21 =>
                        bif y21 then
                          match F_spec_joLine ((y20, (y19.getD (0 : Int).toNat ByteArray.empty), (((byteAt s.1 (s.2.1).toNat) == 45)))) with
                          | none => none
                          | some y22 =>
                            bif (y22.toList == s.1.toList) then
                              some (.inr (.inl ((true, (y20, (y19.getD (0 : Int).toNat ByteArray.empty), (((byteAt s.1 (s.2.1).toNat) == 45)))))))
                            else
                              some (.inr (.inr (s.2.2)))
                        else
                          some (.inr (.inr (s.2.2)))
                  else none
                else none
              else none
          else none
      else none
    else
      some (.inr (.inr (s.2.2)))
  else
    some (.inr (.inr (s.2.2)))
def pat_spec_joParse_0 : Pat := { tmps := [.v .str, .any, .ptr 128 0, .any, .v (.int .i64), .any, .any, .any, .any, .any, .any, .any, .any, .any, .any, .any, .any, .any, .any, .any, .any, .any, .any, .any, .any, .any, .any, .any, .any, .any, .any, .any, .any, .any, .any, .any, .any, .any, .any, .any, .any, .any, .any, .any, .any, .any, .any, .any, .any, .any, .any, .any, .any, .any], blks := [(128, .box [.v (.int .i64), .v .str, .v .bool])] }
def outs_spec_joParse_0 : List (Exit × Pat) := [(.ret, { tmps := [.any, .any, .ptr 128 0, .v .bool, .any, .any, .any, .any, .any, .any, .any, .any, .any, .any, .any, .any, .any, .any, .any, .any, .any, .any, .any, .any, .any, .any, .any, .any, .any, .any, .any, .any, .any, .any, .any, .any, .any, .any, .any, .any, .any, .any, .any, .any, .any, .any, .any, .any, .any, .any, .any, .any, .any, .any], blks := [(128, .box [.v (.int .i64), .v .str, .v .bool])] }), (.exit 0, { tmps := [.any, .any, .ptr 128 0, .any, .any, .any, .any, .any, .any, .any, .any, .any, .any, .any, .any, .any, .any, .any, .any, .any, .any, .any, .any, .any, .any, .any, .any, .any, .any, .any, .any, .any, .any, .any, .any, .any, .any, .any, .any, .any, .any, .any, .any, .any, .any, .any, .any, .any, .any, .any, .any, .any, .any, .any], blks := [(128, .box [.v (.int .i64), .v .str, .v .bool])] })]
noncomputable def F_spec_joParse (x : ByteArray) : Option ((Int × (ByteArray × Bool)) × Bool) :=
  match runL step_spec_joParse_0 ((x, 0, (0, ByteArray.empty, false))) with
  | none => none
  | some (.inl o23) =>
    some ((o23.2, o23.1))
  | some (.inr o23) =>
    some (((0, ByteArray.empty, false), false))
noncomputable def c_spec_joParse : Con := { ps := [(.val, .str)], rs := [(.val, (.st (.pair (.int .i64) (.pair .str .bool)))), (.val, .bool)], F := F_spec_joParse }
noncomputable def env_spec_joParse : Env := { par := [], dp := false, settle := [], con := fun f => match f with | 28 => some c_spec_l1Split | 29 => some c_spec_l1Read | 30 => some c_spec_joOne | 31 => some c_spec_joLine | _ => none, clo := fun _ => none, T := tinf Tryd.prog }
noncomputable def loops_spec_joParse : Nat → Option Loop := fun n => match n with | 2 => some { pat := pat_spec_joParse_0, outs := outs_spec_joParse_0, run := runL (step_spec_joParse_0) } | _ => none
theorem step_spec_joParse_0_eq (s : ByteArray × Int × Int × ByteArray × Bool) : stepEv env_spec_joParse loops_spec_joParse pat_spec_joParse_0 outs_spec_joParse_0 Tryd.f16 2 s = step_spec_joParse_0 s := by kernel_rfl
theorem F_spec_joParse_eq (x : ByteArray) : Fev env_spec_joParse loops_spec_joParse c_spec_joParse.ps c_spec_joParse.rs Tryd.f16 x = F_spec_joParse x := by kernel_rfl
theorem env_spec_joParse_ok : EnvOK Tryd.prog env_spec_joParse := envOK_of (fun f c h => by
  simp only [env_spec_joParse] at h
  split at h
  · cases h; exact con_spec_l1Split
  · cases h; exact con_spec_l1Read
  · cases h; exact con_spec_joOne
  · cases h; exact con_spec_joLine
  · cases h) (fun f c h => by cases h) rfl
theorem con_spec_joParse : ConOK Tryd.prog 16 c_spec_joParse := con_of_ev' (body := Tryd.f16.body.getD .skip) (Λ := loops_spec_joParse) mixed Tryd.func16 (by kernel_rfl) (by kernel_rfl) env_spec_joParse_ok (by kernel_rfl) (by kernel_rfl) (fun n L h => by
  unfold loops_spec_joParse at h
  split at h
  · cases h; exact fun s o ho => loop_ok (stepF := stepEv env_spec_joParse loops_spec_joParse pat_spec_joParse_0 outs_spec_joParse_0 Tryd.f16 2) (step_spec_joParse_0_eq) ho
  · cases h) F_spec_joParse_eq

noncomputable def F_spec_ParseEditLine (x : ByteArray) : Option ((Int × (ByteArray × Bool)) × Bool) :=
  match F_spec_joParse (x) with
  | none => none
  | some y1 =>
    some (y1)
noncomputable def c_spec_ParseEditLine : Con := { ps := [(.val, .str)], rs := [(.val, (.st (.pair (.int .i64) (.pair .str .bool)))), (.val, .bool)], F := F_spec_ParseEditLine }
noncomputable def env_spec_ParseEditLine : Env := { par := [], dp := false, settle := [], con := fun f => match f with | 16 => some c_spec_joParse | _ => none, clo := fun _ => none, T := tinf Tryd.prog }
noncomputable def loops_spec_ParseEditLine : Nat → Option Loop := fun n => none
theorem F_spec_ParseEditLine_eq (x : ByteArray) : Fev env_spec_ParseEditLine loops_spec_ParseEditLine c_spec_ParseEditLine.ps c_spec_ParseEditLine.rs Tryd.f6 x = F_spec_ParseEditLine x := by kernel_rfl
theorem env_spec_ParseEditLine_ok : EnvOK Tryd.prog env_spec_ParseEditLine := envOK_of (fun f c h => by
  simp only [env_spec_ParseEditLine] at h
  split at h
  · cases h; exact con_spec_joParse
  · cases h) (fun f c h => by cases h) rfl
theorem con_spec_ParseEditLine : ConOK Tryd.prog 6 c_spec_ParseEditLine := con_of_ev' (body := Tryd.f6.body.getD .skip) (Λ := loops_spec_ParseEditLine) mixed Tryd.func6 (by kernel_rfl) (by kernel_rfl) env_spec_ParseEditLine_ok (by kernel_rfl) (by kernel_rfl) (fun n L h => by cases h) F_spec_ParseEditLine_eq

theorem IndexAny_ex : ∃ f : ByteArray × ByteArray → Option Int, f = fun x => bif decide (x.1.size < 4294967281) && decide (x.2 = pm) then some (Lib.indexAny x.1.data.toList [43, 45]) else none := ⟨_, rfl⟩
noncomputable def F_strings_IndexAny : ByteArray × ByteArray → Option Int := Classical.choose IndexAny_ex
theorem F_strings_IndexAny_is (x : ByteArray × ByteArray) : F_strings_IndexAny x = bif decide (x.1.size < 4294967281) && decide (x.2 = pm) then some (Lib.indexAny x.1.data.toList [43, 45]) else none := congrFun (Classical.choose_spec IndexAny_ex) x
noncomputable def c_strings_IndexAny : Con := { ps := [(.val, .str), (.val, .str)], rs := [(.val, .int .i64)], F := F_strings_IndexAny }
theorem calls_F_strings_IndexAny (w : World) (s t : ByteArray) (y : Int) (hy : F_strings_IndexAny (s, t) = some y) : Calls Tryd.prog 17 #[.string s, .string t] w fun e w' => e = .returned (.int .i64 y) ∧ Fr NoB w w' := by
  rw [F_strings_IndexAny_is] at hy
  obtain ⟨hg, hy⟩ := bif_none hy
  have hg : (decide (s.size < 4294967281) && decide (t = pm)) = true := hg
  obtain ⟨h0, h1⟩ := and_b hg
  have h0 : s.size < 4294967281 := of_decide_eq_true h0
  have h1 : t = pm := of_decide_eq_true h1
  subst h1
  have e : y = Lib.indexAny s.data.toList [43, 45] := (Option.some.inj hy).symm
  subst e
  refine (idxAny s h0 w).mono ?_
  rintro e w' ⟨rfl, hw⟩
  exact ⟨rfl, fr_of_below hw⟩
theorem con_strings_IndexAny : ConOK Tryd.prog 17 c_strings_IndexAny := con_of_pure ⟨Tryd.f17, Tryd.func17, by kernel_rfl, by kernel_rfl⟩ rfl rfl fun w x y hy _ => calls_F_strings_IndexAny w x.1 x.2 y hy

set_option maxHeartbeats 1000000 in
theorem calls_strings_IndexByte (s : ByteArray) (c : Int) (w : World) :
    Calls Tryd.prog 18 #[.string s, .int .u8 c] w fun e w' => e = .returned (.int .i64 (Lib.indexByte s.data.toList c.toNat.toUInt8)) ∧ w' = w := by
  go_enter Tryd.func18, Tryd.ntmps18
  go_wp2
  rw [run_callFunc_extern Tryd.func48 (by kernel_rfl) (by kernel_rfl) (by kernel_rfl) (e := Extern.BytealgIndexByte.indexByte) (by kernel_rfl), Lib.run_indexByteString]
  simp only [Result.andThen]
  rw [Oper.upon_value]
  go_wp2
  go_ret
  exact ⟨rfl, rfl⟩
def F_strings_IndexByte (x : ByteArray × Int) : Option Int := some (Lib.indexByte x.1.data.toList x.2.toNat.toUInt8)
def c_strings_IndexByte : Con := { ps := [(.val, .str), (.val, .int .u8)], rs := [(.val, .int .i64)], F := F_strings_IndexByte }
theorem con_strings_IndexByte : ConOK Tryd.prog 18 c_strings_IndexByte := con_of_pure ⟨Tryd.f18, Tryd.func18, by kernel_rfl, by kernel_rfl⟩ rfl rfl fun w x y hy _ => by
  have e : y = Lib.indexByte x.1.data.toList x.2.toNat.toUInt8 := (Option.some.inj hy).symm
  subst e
  refine (calls_strings_IndexByte x.1 x.2 w).mono ?_
  rintro e w' ⟨rfl, rfl⟩
  exact ⟨rfl, Fr.refl _ _⟩

theorem decimal_ex : ∃ f : ByteArray → Option (Int × Bool), f = fun x => bif decide (x.size ≤ 281474976710656) then some (decOf x) else none := ⟨_, rfl⟩
noncomputable def F_impl_decimal : ByteArray → Option (Int × Bool) := Classical.choose decimal_ex
theorem F_impl_decimal_is (x : ByteArray) : F_impl_decimal x = bif decide (x.size ≤ 281474976710656) then some (decOf x) else none := congrFun (Classical.choose_spec decimal_ex) x
noncomputable def c_impl_decimal : Con := { ps := [(.val, .str)], rs := [(.val, .int .i64), (.val, .bool)], F := F_impl_decimal }
theorem var_of_ifc {w : World} (ht : Tabs Tryd.prog w) {q : String} (hq : q ∈ ifcList) : ∃ tp p, w.var? Tryd.prog q = some #[.iface tp p] := (ht.2.2.2 q hq).2
theorem calls_F_impl_decimal (w : World) (s : ByteArray) (y : Int × Bool) (hy : F_impl_decimal s = some y) (ht : Tabs Tryd.prog w) : Calls Tryd.prog 19 #[.string s] w fun e w' => e = .returned (.tuple #[.int .i64 y.1, .bool y.2]) ∧ Fr NoB w w' := by
  rw [F_impl_decimal_is] at hy
  obtain ⟨hg, hy⟩ := bif_none hy
  have h0 : s.size ≤ 281474976710656 := of_decide_eq_true hg
  have e : y = decOf s := (Option.some.inj hy).symm
  subst e
  refine (calls_decimal s h0 w (var_of_ifc ht (by simp [ifcList])) (var_of_ifc ht (by simp [ifcList])) fun w' hw => (((fr_of_below hw).tabs ht).1 _ (List.mem_cons_self ..)).2).mono ?_
  rintro e w' ⟨rfl, hw⟩
  exact ⟨rfl, fr_of_below hw⟩
theorem con_impl_decimal : ConOK Tryd.prog 19 c_impl_decimal := con_of_pure ⟨Tryd.f19, Tryd.func19, by kernel_rfl, by kernel_rfl⟩ rfl rfl fun w x y hy ht => calls_F_impl_decimal w x y hy ht

noncomputable def F_impl_within (x : Int × Int × Int) : Option (Bool) :=
  bif (decide (x.1 ≥ x.2.1)) then
    some ((decide (x.1 ≤ x.2.2)))
  else
    some (false)
noncomputable def c_impl_within : Con := { ps := [(.val, (.int .i64)), (.val, (.int .i64)), (.val, (.int .i64))], rs := [(.val, .bool)], F := F_impl_within }
noncomputable def env_impl_within : Env := { par := [], dp := false, settle := [], con := fun _ => none, clo := fun _ => none, T := tinf Tryd.prog }
noncomputable def loops_impl_within : Nat → Option Loop := fun n => none
theorem F_impl_within_eq (x : Int × Int × Int) : Fev env_impl_within loops_impl_within c_impl_within.ps c_impl_within.rs Tryd.f39 x = F_impl_within x := by kernel_rfl
theorem env_impl_within_ok : EnvOK Tryd.prog env_impl_within := envOK_of (fun f c h => by cases h) (fun f c h => by cases h) rfl
theorem con_impl_within : ConOK Tryd.prog 39 c_impl_within := con_of_ev' (body := Tryd.f39.body.getD .skip) (Λ := loops_impl_within) mixed Tryd.func39 (by kernel_rfl) (by kernel_rfl) env_impl_within_ok (by kernel_rfl) (by kernel_rfl) (fun n L h => by cases h) F_impl_within_eq

noncomputable def step_impl_hasOnly_0 (s : ByteArray × ByteArray × Int × Int) : Option ((ByteArray × ByteArray × Int × Int) ⊕ ((Bool) ⊕ (Unit))) :=
  bif (decide (s.2.2.2 < s.2.2.1)) then
    bif decide (0 ≤ s.2.2.2) && decide (s.2.2.2 < (s.1.size : Int)) then
      match F_strings_IndexByte ((s.2.1, (byteAt s.1 (s.2.2.2).toNat))) with
      | none => none
      | some y3 =>
        bif (decide (y3 < 0)) then
          some (.inr (.inl (false)))
        else
          let v4 := IntKind.i64.wrap (s.2.2.2 + 1)
          some (.inl ((s.1, (s.2.1, s.2.2.1, v4))))
    else none
  else
    some (.inr (.inr (())))
def pat_impl_hasOnly_0 : Pat := { tmps := [.v .str, .v .str, .any, .any, .any, .any, .any, .v (.int .i64), .v (.int .i64), .any, .any, .any, .any, .any, .any, .any, .any, .any], blks := [] }
def outs_impl_hasOnly_0 : List (Exit × Pat) := [(.ret, { tmps := [.any, .any, .any, .any, .v .bool, .any, .any, .any, .any, .any, .any, .any, .any, .any, .any, .any, .any, .any], blks := [] }), (.exit 0, { tmps := [.any, .any, .any, .any, .any, .any, .any, .any, .any, .any, .any, .any, .any, .any, .any, .any, .any, .any], blks := [] })]
noncomputable def F_impl_hasOnly (x : ByteArray × ByteArray) : Option (Bool) :=
  match runL step_impl_hasOnly_0 ((x.1, (x.2, (x.1.size : Int), 0))) with
  | none => none
  | some (.inl o5) =>
    some (o5)
  | some (.inr o5) =>
    some (true)
noncomputable def c_impl_hasOnly : Con := { ps := [(.val, .str), (.val, .str)], rs := [(.val, .bool)], F := F_impl_hasOnly }
noncomputable def env_impl_hasOnly : Env := { par := [], dp := false, settle := [], con := fun f => match f with | 18 => some c_strings_IndexByte | _ => none, clo := fun _ => none, T := tinf Tryd.prog }
noncomputable def loops_impl_hasOnly : Nat → Option Loop := fun n => match n with | 2 => some { pat := pat_impl_hasOnly_0, outs := outs_impl_hasOnly_0, run := runL (step_impl_hasOnly_0) } | _ => none
theorem step_impl_hasOnly_0_eq (s : ByteArray × ByteArray × Int × Int) : stepEv env_impl_hasOnly loops_impl_hasOnly pat_impl_hasOnly_0 outs_impl_hasOnly_0 Tryd.f59 2 s = step_impl_hasOnly_0 s := by kernel_rfl
theorem F_impl_hasOnly_eq (x : ByteArray × ByteArray) : Fev env_impl_hasOnly loops_impl_hasOnly c_impl_hasOnly.ps c_impl_hasOnly.rs Tryd.f59 x = F_impl_hasOnly x := by kernel_rfl
theorem env_impl_hasOnly_ok : EnvOK Tryd.prog env_impl_hasOnly := envOK_of (fun f c h => by
  simp only [env_impl_hasOnly] at h
  split at h
  · cases h; exact con_strings_IndexByte
  · cases h) (fun f c h => by cases h) rfl
theorem con_impl_hasOnly : ConOK Tryd.prog 59 c_impl_hasOnly := con_of_ev' (body := Tryd.f59.body.getD .skip) (Λ := loops_impl_hasOnly) mixed Tryd.func59 (by kernel_rfl) (by kernel_rfl) env_impl_hasOnly_ok (by kernel_rfl) (by kernel_rfl) (fun n L h => by
  unfold loops_impl_hasOnly at h
  split at h
  · cases h; exact fun s o ho => loop_ok (stepF := stepEv env_impl_hasOnly loops_impl_hasOnly pat_impl_hasOnly_0 outs_impl_hasOnly_0 Tryd.f59 2) (step_impl_hasOnly_0_eq) ho
  · cases h) F_impl_hasOnly_eq

noncomputable def F_impl_isWordOf (x : ByteArray × ByteArray) : Option (Bool) :=
  match F_impl_within (((x.1.size : Int), 1, 8)) with
  | none => none
  | some y1 =>
    bif y1 then
      match F_impl_hasOnly (x) with
      | none => none
      | some y2 =>
        some (y2)
    else
      some (false)
noncomputable def c_impl_isWordOf : Con := { ps := [(.val, .str), (.val, .str)], rs := [(.val, .bool)], F := F_impl_isWordOf }
noncomputable def env_impl_isWordOf : Env := { par := [], dp := false, settle := [], con := fun f => match f with | 39 => some c_impl_within | 59 => some c_impl_hasOnly | _ => none, clo := fun _ => none, T := tinf Tryd.prog }
noncomputable def loops_impl_isWordOf : Nat → Option Loop := fun n => none
theorem F_impl_isWordOf_eq (x : ByteArray × ByteArray) : Fev env_impl_isWordOf loops_impl_isWordOf c_impl_isWordOf.ps c_impl_isWordOf.rs Tryd.f52 x = F_impl_isWordOf x := by kernel_rfl
theorem env_impl_isWordOf_ok : EnvOK Tryd.prog env_impl_isWordOf := envOK_of (fun f c h => by
  simp only [env_impl_isWordOf] at h
  split at h
  · cases h; exact con_impl_within
  · cases h; exact con_impl_hasOnly
  · cases h) (fun f c h => by cases h) rfl
theorem con_impl_isWordOf : ConOK Tryd.prog 52 c_impl_isWordOf := con_of_ev' (body := Tryd.f52.body.getD .skip) (Λ := loops_impl_isWordOf) mixed Tryd.func52 (by kernel_rfl) (by kernel_rfl) env_impl_isWordOf_ok (by kernel_rfl) (by kernel_rfl) (fun n L h => by cases h) F_impl_isWordOf_eq

noncomputable def F_impl_IsGloss (x : ByteArray) : Option (Bool) :=
  match F_impl_isWordOf ((x, (⟨#[65, 66, 67, 68, 69, 70, 71, 72, 73, 74, 75, 76, 77, 78, 79, 80, 81, 82, 83, 84, 85, 86, 87, 88, 89, 90]⟩ : ByteArray))) with
  | none => none
  | some y1 =>
    some (y1)
noncomputable def c_impl_IsGloss : Con := { ps := [(.val, .str)], rs := [(.val, .bool)], F := F_impl_IsGloss }
noncomputable def env_impl_IsGloss : Env := { par := [], dp := false, settle := [], con := fun f => match f with | 52 => some c_impl_isWordOf | _ => none, clo := fun _ => none, T := tinf Tryd.prog }
noncomputable def loops_impl_IsGloss : Nat → Option Loop := fun n => none
theorem F_impl_IsGloss_eq (x : ByteArray) : Fev env_impl_IsGloss loops_impl_IsGloss c_impl_IsGloss.ps c_impl_IsGloss.rs Tryd.f40 x = F_impl_IsGloss x := by kernel_rfl
theorem env_impl_IsGloss_ok : EnvOK Tryd.prog env_impl_IsGloss := envOK_of (fun f c h => by
  simp only [env_impl_IsGloss] at h
  split at h
  · cases h; exact con_impl_isWordOf
  · cases h) (fun f c h => by cases h) rfl
theorem con_impl_IsGloss : ConOK Tryd.prog 40 c_impl_IsGloss := con_of_ev' (body := Tryd.f40.body.getD .skip) (Λ := loops_impl_IsGloss) mixed Tryd.func40 (by kernel_rfl) (by kernel_rfl) env_impl_IsGloss_ok (by kernel_rfl) (by kernel_rfl) (fun n L h => by cases h) F_impl_IsGloss_eq

noncomputable def F_impl_isLogEdit (x : (Int × (ByteArray × Bool))) : Option (Bool) :=
  match F_impl_within ((x.1, 1, 999)) with
  | none => none
  | some y1 =>
    bif y1 then
      match F_impl_IsGloss (x.2.1) with
      | none => none
      | some y2 =>
        some (y2)
    else
      some (false)
noncomputable def c_impl_isLogEdit : Con := { ps := [(.val, (.st (.pair (.int .i64) (.pair .str .bool))))], rs := [(.val, .bool)], F := F_impl_isLogEdit }
noncomputable def env_impl_isLogEdit : Env := { par := [], dp := false, settle := [], con := fun f => match f with | 39 => some c_impl_within | 40 => some c_impl_IsGloss | _ => none, clo := fun _ => none, T := tinf Tryd.prog }
noncomputable def loops_impl_isLogEdit : Nat → Option Loop := fun n => none
theorem F_impl_isLogEdit_eq (x : (Int × (ByteArray × Bool))) : Fev env_impl_isLogEdit loops_impl_isLogEdit c_impl_isLogEdit.ps c_impl_isLogEdit.rs Tryd.f20 x = F_impl_isLogEdit x := by kernel_rfl
theorem env_impl_isLogEdit_ok : EnvOK Tryd.prog env_impl_isLogEdit := envOK_of (fun f c h => by
  simp only [env_impl_isLogEdit] at h
  split at h
  · cases h; exact con_impl_within
  · cases h; exact con_impl_IsGloss
  · cases h) (fun f c h => by cases h) rfl
theorem con_impl_isLogEdit : ConOK Tryd.prog 20 c_impl_isLogEdit := con_of_ev' (body := Tryd.f20.body.getD .skip) (Λ := loops_impl_isLogEdit) mixed Tryd.func20 (by kernel_rfl) (by kernel_rfl) env_impl_isLogEdit_ok (by kernel_rfl) (by kernel_rfl) (fun n L h => by cases h) F_impl_isLogEdit_eq

theorem Itoa_ex : ∃ f : Int → Option ByteArray, f = fun n => bif decide (-9223372036854775808 ≤ n) && decide (n ≤ 9223372036854775807) then some ⟨(Lib.itoa n).toArray⟩ else none := ⟨_, rfl⟩
noncomputable def F_strconv_Itoa : Int → Option ByteArray := Classical.choose Itoa_ex
theorem F_strconv_Itoa_is (n : Int) : F_strconv_Itoa n = bif decide (-9223372036854775808 ≤ n) && decide (n ≤ 9223372036854775807) then some ⟨(Lib.itoa n).toArray⟩ else none := congrFun (Classical.choose_spec Itoa_ex) n
noncomputable def c_strconv_Itoa : Con := { ps := [(.val, .int .i64)], rs := [(.val, .str)], F := F_strconv_Itoa }
theorem calls_F_strconv_Itoa (w : World) (x : Int) (y : ByteArray) (hy : F_strconv_Itoa x = some y) (ht : Tabs Tryd.prog w) : Calls Tryd.prog 38 #[.int .i64 x] w fun e w' => e = .returned (.string y) ∧ Fr NoB w w' := by
  rw [F_strconv_Itoa_is] at hy
  obtain ⟨hg, hy⟩ := bif_none hy
  obtain ⟨h0, h1⟩ := and_b hg
  have h0 : -9223372036854775808 ≤ x := of_decide_eq_true h0
  have h1 : x ≤ 9223372036854775807 := of_decide_eq_true h1
  have e : y = ⟨(Lib.itoa x).toArray⟩ := (Option.some.inj hy).symm
  subst e
  refine (Tryd.strconv_Itoa x h0 h1 w (ht.1 _ (List.mem_cons_self ..)).2).mono ?_
  rintro e w' ⟨rfl, k, os, rfl⟩
  exact ⟨rfl, fr_of_below (Go.Lib.below_grow _ _ (Nat.le_refl _) k os)⟩
theorem con_strconv_Itoa : ConOK Tryd.prog 38 c_strconv_Itoa := con_of_pure ⟨Tryd.f38, Tryd.func38, by kernel_rfl, by kernel_rfl⟩ rfl rfl fun w x y hy ht => calls_F_strconv_Itoa w x y hy ht

noncomputable def step_impl_LogEdit_line_0 (s : ByteArray × Int × Int × Int) : Option ((ByteArray × Int × Int × Int) ⊕ ((ByteArray × Int))) :=
  bif (decide (s.2.2.2 < s.2.2.1)) then
    let v20 := IntKind.i64.wrap (7 * s.2.1)
    bif decide (0 ≤ s.2.2.2) && decide (s.2.2.2 < (s.1.size : Int)) then
      let v21 := IntKind.i64.wrap (byteAt s.1 (s.2.2.2).toNat)
      let v22 := IntKind.i64.wrap (v20 + v21)
      bif !decide (9973 = 0) then
        let v23 := (v22).tmod 9973
        let v24 := IntKind.i64.wrap (s.2.2.2 + 1)
        some (.inl ((s.1, (v23, s.2.2.1, v24))))
      else none
    else none
  else
    some (.inr ((s.1, s.2.1)))
def pat_impl_LogEdit_line_0 : Pat := { tmps := [.any, .any, .any, .v .str, .v (.int .i64), .any, .any, .any, .any, .any, .any, .any, .any, .any, .any, .any, .any, .any, .any, .any, .any, .any, .any, .v (.int .i64), .v (.int .i64), .any, .any, .any, .any, .any, .any, .any, .any, .any, .any, .any, .any, .any, .any, .any, .any, .any], blks := [] }
def outs_impl_LogEdit_line_0 : List (Exit × Pat) := [(.exit 0, { tmps := [.any, .any, .any, .v .str, .v (.int .i64), .any, .any, .any, .any, .any, .any, .any, .any, .any, .any, .any, .any, .any, .any, .any, .any, .any, .any, .any, .any, .any, .any, .any, .any, .any, .any, .any, .any, .any, .any, .any, .any, .any, .any, .any, .any, .any], blks := [] })]
noncomputable def F_impl_LogEdit_line (x : (Int × (ByteArray × Bool))) : Option (ByteArray) :=
  match F_strconv_Itoa (x.1) with
  | none => none
  | some y1 =>
    bif decide (y1.size + (⟨#[43]⟩ : ByteArray).size ≤ 9223372036854775807) then
      bif decide ((y1 ++ (⟨#[43]⟩ : ByteArray)).size + x.2.1.size ≤ 9223372036854775807) then
        bif x.2.2 then
          match F_strconv_Itoa (x.1) with
          | none => none
          | some y2 =>
            bif decide (y2.size + (⟨#[45]⟩ : ByteArray).size ≤ 9223372036854775807) then
              bif decide ((y2 ++ (⟨#[45]⟩ : ByteArray)).size + x.2.1.size ≤ 9223372036854775807) then
                match runL step_impl_LogEdit_line_0 ((((y2 ++ (⟨#[45]⟩ : ByteArray)) ++ x.2.1), (3, (((y2 ++ (⟨#[45]⟩ : ByteArray)) ++ x.2.1).size : Int), 0))) with
                | none => none
                | some o13 =>
                  bif decide (o13.1.size + (⟨#[46]⟩ : ByteArray).size ≤ 9223372036854775807) then
                    match F_strconv_Itoa (o13.2) with
                    | none => none
                    | some y14 =>
                      bif decide ((o13.1 ++ (⟨#[46]⟩ : ByteArray)).size + y14.size ≤ 9223372036854775807) then
                        bif decide (((o13.1 ++ (⟨#[46]⟩ : ByteArray)) ++ y14).size + (⟨#[10]⟩ : ByteArray).size ≤ 9223372036854775807) then
                          some ((((o13.1 ++ (⟨#[46]⟩ : ByteArray)) ++ y14) ++ (⟨#[10]⟩ : ByteArray)))
                        else none
                      else none
                  else none
              else none
            else none
        else
          match runL step_impl_LogEdit_line_0 ((((y1 ++ (⟨#[43]⟩ : ByteArray)) ++ x.2.1), (3, (((y1 ++ (⟨#[43]⟩ : ByteArray)) ++ x.2.1).size : Int), 0))) with
          | none => none
          | some o25 =>
            bif decide (o25.1.size + (⟨#[46]⟩ : ByteArray).size ≤ 9223372036854775807) then
              match F_strconv_Itoa (o25.2) with
              | none => none
              | some y26 =>
                bif decide ((o25.1 ++ (⟨#[46]⟩ : ByteArray)).size + y26.size ≤ 9223372036854775807) then
                  bif decide (((o25.1 ++ (⟨#[46]⟩ : ByteArray)) ++ y26).size + (⟨#[10]⟩ : ByteArray).size ≤ 9223372036854775807) then
                    some ((((o25.1 ++ (⟨#[46]⟩ : ByteArray)) ++ y26) ++ (⟨#[10]⟩ : ByteArray)))
                  else none
                else none
            else none
      else none
    else none
noncomputable def c_impl_LogEdit_line : Con := { ps := [(.val, (.st (.pair (.int .i64) (.pair .str .bool))))], rs := [(.val, .str)], F := F_impl_LogEdit_line }
noncomputable def env_impl_LogEdit_line : Env := { par := [], dp := false, settle := [], con := fun f => match f with | 38 => some c_strconv_Itoa | _ => none, clo := fun _ => none, T := tinf Tryd.prog }
noncomputable def loops_impl_LogEdit_line : Nat → Option Loop := fun n => match n with | 6 => some { pat := pat_impl_LogEdit_line_0, outs := outs_impl_LogEdit_line_0, run := runL (step_impl_LogEdit_line_0) } | _ => none
theorem step_impl_LogEdit_line_0_eq (s : ByteArray × Int × Int × Int) : stepEv env_impl_LogEdit_line loops_impl_LogEdit_line pat_impl_LogEdit_line_0 outs_impl_LogEdit_line_0 Tryd.f21 6 s = step_impl_LogEdit_line_0 s := by kernel_rfl
theorem F_impl_LogEdit_line_eq (x : (Int × (ByteArray × Bool))) : Fev env_impl_LogEdit_line loops_impl_LogEdit_line c_impl_LogEdit_line.ps c_impl_LogEdit_line.rs Tryd.f21 x = F_impl_LogEdit_line x := by kernel_rfl
theorem env_impl_LogEdit_line_ok : EnvOK Tryd.prog env_impl_LogEdit_line := envOK_of (fun f c h => by
  simp only [env_impl_LogEdit_line] at h
  split at h
  · cases h; exact con_strconv_Itoa
  · cases h) (fun f c h => by cases h) rfl
theorem con_impl_LogEdit_line : ConOK Tryd.prog 21 c_impl_LogEdit_line := con_of_ev' (body := Tryd.f21.body.getD .skip) (Λ := loops_impl_LogEdit_line) mixed Tryd.func21 (by kernel_rfl) (by kernel_rfl) env_impl_LogEdit_line_ok (by kernel_rfl) (by kernel_rfl) (fun n L h => by
  unfold loops_impl_LogEdit_line at h
  split at h
  · cases h; exact fun s o ho => loop_ok (stepF := stepEv env_impl_LogEdit_line loops_impl_LogEdit_line pat_impl_LogEdit_line_0 outs_impl_LogEdit_line_0 Tryd.f21 6) (step_impl_LogEdit_line_0_eq) ho
  · cases h) F_impl_LogEdit_line_eq

noncomputable def F_impl_ParseEditLine (x : ByteArray) : Option ((Int × (ByteArray × Bool)) × Bool) :=
  match F_strings_IndexAny ((x, (⟨#[43, 45]⟩ : ByteArray))) with
  | none => none
  | some y1 =>
    match F_strings_IndexByte ((x, 46)) with
    | none => none
    | some y2 =>
      bif (decide (y1 < 0)) then
        some (((0, ByteArray.empty, false), false))
      else
        bif (decide (y2 < y1)) then
          some (((0, ByteArray.empty, false), false))
        else
          bif (decide ((x.size : Int) > 2000)) then
            some (((0, ByteArray.empty, false), false))
          else
            let v3 := IntKind.i64.wrap (y1 + 1)
            bif decide (0 ≤ v3) && decide (v3 ≤ y2) && decide (y2 ≤ (x.size : Int)) then
              bif decide (0 ≤ y1) && decide (y1 < (x.size : Int)) then
                bif decide (0 ≤ (0 : Int)) && decide ((0 : Int) ≤ y1) && decide (y1 ≤ (x.size : Int)) then
                  match F_impl_decimal ((x.extract ((0 : Int)).toNat (y1).toNat)) with
                  | none => none
                  | some y4 =>
                    match F_impl_isLogEdit ((y4.1, (x.extract (v3).toNat (y2).toNat), (((byteAt x (y1).toNat) == 45)))) with
                    | none => none
                    | some y5 =>
                      bif (!y5) then
                        some (((0, ByteArray.empty, false), false))
                      else
                        match F_impl_LogEdit_line ((y4.1, (x.extract (v3).toNat (y2).toNat), (((byteAt x (y1).toNat) == 45)))) with
                        | none => none
                        | some y6 =>
                          bif (!(y6.toList == x.toList)) then
                            some (((0, ByteArray.empty, false), false))
                          else
                            some (((y4.1, (x.extract (v3).toNat (y2).toNat), (((byteAt x (y1).toNat) == 45))), true))
                else none
              else none
            else none
noncomputable def c_impl_ParseEditLine : Con := { ps := [(.val, .str)], rs := [(.val, (.st (.pair (.int .i64) (.pair .str .bool)))), (.val, .bool)], F := F_impl_ParseEditLine }
noncomputable def env_impl_ParseEditLine : Env := { par := [], dp := false, settle := [], con := fun f => match f with | 17 => some c_strings_IndexAny | 18 => some c_strings_IndexByte | 19 => some c_impl_decimal | 20 => some c_impl_isLogEdit | 21 => some c_impl_LogEdit_line | _ => none, clo := fun _ => none, T := tinf Tryd.prog }
noncomputable def loops_impl_ParseEditLine : Nat → Option Loop := fun n => none
theorem F_impl_ParseEditLine_eq (x : ByteArray) : Fev env_impl_ParseEditLine loops_impl_ParseEditLine c_impl_ParseEditLine.ps c_impl_ParseEditLine.rs Tryd.f7 x = F_impl_ParseEditLine x := by kernel_rfl
theorem env_impl_ParseEditLine_ok : EnvOK Tryd.prog env_impl_ParseEditLine := envOK_of (fun f c h => by
  simp only [env_impl_ParseEditLine] at h
  split at h
  · cases h; exact con_strings_IndexAny
  · cases h; exact con_strings_IndexByte
  · cases h; exact con_impl_decimal
  · cases h; exact con_impl_isLogEdit
  · cases h; exact con_impl_LogEdit_line
  · cases h) (fun f c h => by cases h) rfl
theorem con_impl_ParseEditLine : ConOK Tryd.prog 7 c_impl_ParseEditLine := con_of_ev' (body := Tryd.f7.body.getD .skip) (Λ := loops_impl_ParseEditLine) mixed Tryd.func7 (by kernel_rfl) (by kernel_rfl) env_impl_ParseEditLine_ok (by kernel_rfl) (by kernel_rfl) (fun n L h => by cases h) F_impl_ParseEditLine_eq

noncomputable def F_laws_eqLogEdit (x : (Int × (ByteArray × Bool)) × (Int × (ByteArray × Bool))) : Option (Bool) :=
  bif ((x.1.1 != x.2.1)) then
    some (false)
  else
    bif (!(x.1.2.1.toList == x.2.2.1.toList)) then
      some (false)
    else
      bif (!(x.1.2.2 == x.2.2.2)) then
        some (false)
      else
        some (true)
noncomputable def c_laws_eqLogEdit : Con := { ps := [(.val, (.st (.pair (.int .i64) (.pair .str .bool)))), (.val, (.st (.pair (.int .i64) (.pair .str .bool))))], rs := [(.val, .bool)], F := F_laws_eqLogEdit }
noncomputable def env_laws_eqLogEdit : Env := { par := [], dp := false, settle := [], con := fun _ => none, clo := fun _ => none, T := tinf Tryd.prog }
noncomputable def loops_laws_eqLogEdit : Nat → Option Loop := fun n => none
theorem F_laws_eqLogEdit_eq (x : (Int × (ByteArray × Bool)) × (Int × (ByteArray × Bool))) : Fev env_laws_eqLogEdit loops_laws_eqLogEdit c_laws_eqLogEdit.ps c_laws_eqLogEdit.rs Tryd.f8 x = F_laws_eqLogEdit x := by kernel_rfl
theorem env_laws_eqLogEdit_ok : EnvOK Tryd.prog env_laws_eqLogEdit := envOK_of (fun f c h => by cases h) (fun f c h => by cases h) rfl
theorem con_laws_eqLogEdit : ConOK Tryd.prog 8 c_laws_eqLogEdit := con_of_ev' (body := Tryd.f8.body.getD .skip) (Λ := loops_laws_eqLogEdit) mixed Tryd.func8 (by kernel_rfl) (by kernel_rfl) env_laws_eqLogEdit_ok (by kernel_rfl) (by kernel_rfl) (fun n L h => by cases h) F_laws_eqLogEdit_eq

noncomputable def F_laws_FnExactParseEditLine (x : ByteArray) : Option (Bool) :=
  bif (decide ((x.size : Int) > 1048576)) then
    some (true)
  else
    match F_spec_ParseEditLine (x) with
    | none => none
    | some y1 =>
      match F_impl_ParseEditLine (x) with
      | none => none
      | some y2 =>
        match F_laws_eqLogEdit ((y2.1, y1.1)) with
        | none => none
        | some y3 =>
          bif (!y3) then
            some (false)
          else
            bif (!(y2.2 == y1.2)) then
              some (false)
            else
              some (true)
noncomputable def c_laws_FnExactParseEditLine : Con := { ps := [(.val, .str)], rs := [(.val, .bool)], F := F_laws_FnExactParseEditLine }
noncomputable def env_laws_FnExactParseEditLine : Env := { par := [], dp := false, settle := [], con := fun f => match f with | 6 => some c_spec_ParseEditLine | 7 => some c_impl_ParseEditLine | 8 => some c_laws_eqLogEdit | _ => none, clo := fun _ => none, T := tinf Tryd.prog }
noncomputable def loops_laws_FnExactParseEditLine : Nat → Option Loop := fun n => none
theorem F_laws_FnExactParseEditLine_eq (x : ByteArray) : Fev env_laws_FnExactParseEditLine loops_laws_FnExactParseEditLine c_laws_FnExactParseEditLine.ps c_laws_FnExactParseEditLine.rs Tryd.f3 x = F_laws_FnExactParseEditLine x := by kernel_rfl
theorem env_laws_FnExactParseEditLine_ok : EnvOK Tryd.prog env_laws_FnExactParseEditLine := envOK_of (fun f c h => by
  simp only [env_laws_FnExactParseEditLine] at h
  split at h
  · cases h; exact con_spec_ParseEditLine
  · cases h; exact con_impl_ParseEditLine
  · cases h; exact con_laws_eqLogEdit
  · cases h) (fun f c h => by cases h) rfl
theorem con_laws_FnExactParseEditLine : ConOK Tryd.prog 3 c_laws_FnExactParseEditLine := con_of_ev' (body := Tryd.f3.body.getD .skip) (Λ := loops_laws_FnExactParseEditLine) mixed Tryd.func3 (by kernel_rfl) (by kernel_rfl) env_laws_FnExactParseEditLine_ok (by kernel_rfl) (by kernel_rfl) (fun n L h => by cases h) F_laws_FnExactParseEditLine_eq

end Go.Proofs.YtbblmkogbokblaaDoor
