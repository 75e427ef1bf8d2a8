/- Contracts of functions of the program, written by a program of this claim. No conditions. -/
import Derived.Test.YtbdnmfiaghhhiaaDoorEvZk
import Derived.Test.YtbdnmfiaghhhiaaDoorRows
import Derived.Shelf.Strings.Search1
import Derived.Lib.AppendIntMem
import Derived.Test.YtbdnmfiaghhhiaaDoorNu
import Derived.Test.YtbdnmfiaghhhiaaDoorShelf
set_option linter.unusedVariables false
set_option maxRecDepth 100000
namespace Go.Proofs.YtbdnmfiaghhhiaaDoor
open Go
theorem mixed : Tryd.prog.follows .mixedOrders = true := by kernel_rfl
noncomputable def F_laws_szLogEdit (x : (Int × (ByteArray × Bool)) × Int) : Option (Int) :=
  let v1 := IntKind.i64.wrap (x.2 - (x.1.2.1.size : Int))
  bif (decide (v1 < 0)) then
    some ((-1))
  else
    some (v1)
noncomputable def c_laws_szLogEdit : Con := { ps := [(.val, (.st (.pair (.int .i64) (.pair .str .bool)))), (.val, (.int .i64))], rs := [(.val, (.int .i64))], F := F_laws_szLogEdit }
noncomputable def env_laws_szLogEdit : Env := { par := [], con := fun _ => none, clo := fun _ => none, T := tinf Tryd.prog }
noncomputable def loops_laws_szLogEdit : Nat → Option Loop := fun n => none
theorem F_laws_szLogEdit_eq (x : (Int × (ByteArray × Bool)) × Int) : Fev env_laws_szLogEdit loops_laws_szLogEdit c_laws_szLogEdit.ps c_laws_szLogEdit.rs Tryd.f11 x = F_laws_szLogEdit x := by kernel_rfl
theorem env_laws_szLogEdit_ok : EnvOK Tryd.prog env_laws_szLogEdit := envOK_of (fun f c h => by cases h) (fun f c h => by cases h) rfl
theorem con_laws_szLogEdit : ConOK Tryd.prog 11 c_laws_szLogEdit := con_of_ev' (body := Tryd.f11.body.getD .skip) (Λ := loops_laws_szLogEdit) mixed Tryd.func11 (by kernel_rfl) (by kernel_rfl) env_laws_szLogEdit_ok rfl (by kernel_rfl) (fun n L h => by cases h) F_laws_szLogEdit_eq

noncomputable def F_laws_toLogEdit (x : (Int × (ByteArray × Bool))) : Option ((Int × (ByteArray × Bool))) :=
  some (x)
noncomputable def c_laws_toLogEdit : Con := { ps := [(.val, (.st (.pair (.int .i64) (.pair .str .bool))))], rs := [(.val, (.st (.pair (.int .i64) (.pair .str .bool))))], F := F_laws_toLogEdit }
noncomputable def env_laws_toLogEdit : Env := { par := [], con := fun _ => none, clo := fun _ => none, T := tinf Tryd.prog }
noncomputable def loops_laws_toLogEdit : Nat → Option Loop := fun n => none
theorem F_laws_toLogEdit_eq (x : (Int × (ByteArray × Bool))) : Fev env_laws_toLogEdit loops_laws_toLogEdit c_laws_toLogEdit.ps c_laws_toLogEdit.rs Tryd.f13 x = F_laws_toLogEdit x := by kernel_rfl
theorem env_laws_toLogEdit_ok : EnvOK Tryd.prog env_laws_toLogEdit := envOK_of (fun f c h => by cases h) (fun f c h => by cases h) rfl
theorem con_laws_toLogEdit : ConOK Tryd.prog 13 c_laws_toLogEdit := con_of_ev' (body := Tryd.f13.body.getD .skip) (Λ := loops_laws_toLogEdit) mixed Tryd.func13 (by kernel_rfl) (by kernel_rfl) env_laws_toLogEdit_ok rfl (by kernel_rfl) (fun n L h => by cases h) F_laws_toLogEdit_eq

noncomputable def F_spec_l1In (x : Int × Int × Int) : Option (Bool) :=
  bif (decide (x.1 ≥ x.2.1)) then
    some ((decide (x.1 ≤ x.2.2)))
  else
    some (false)
noncomputable def c_spec_l1In : Con := { ps := [(.val, (.int .i64)), (.val, (.int .i64)), (.val, (.int .i64))], rs := [(.val, .bool)], F := F_spec_l1In }
noncomputable def env_spec_l1In : Env := { par := [], con := fun _ => none, clo := fun _ => none, T := tinf Tryd.prog }
noncomputable def loops_spec_l1In : Nat → Option Loop := fun n => none
theorem F_spec_l1In_eq (x : Int × Int × Int) : Fev env_spec_l1In loops_spec_l1In c_spec_l1In.ps c_spec_l1In.rs Tryd.f47 x = F_spec_l1In x := by kernel_rfl
theorem env_spec_l1In_ok : EnvOK Tryd.prog env_spec_l1In := envOK_of (fun f c h => by cases h) (fun f c h => by cases h) rfl
theorem con_spec_l1In : ConOK Tryd.prog 47 c_spec_l1In := con_of_ev' (body := Tryd.f47.body.getD .skip) (Λ := loops_spec_l1In) mixed Tryd.func47 (by kernel_rfl) (by kernel_rfl) env_spec_l1In_ok rfl (by kernel_rfl) (fun n L h => by cases h) F_spec_l1In_eq

noncomputable def step_spec_fsWord_0 (s : ByteArray × Int) : Option ((ByteArray × Int) ⊕ ((Bool) ⊕ (ByteArray))) :=
  bif (decide (s.2 < (s.1.size : Int))) then
    bif decide (0 ≤ s.2) && decide (s.2 < (s.1.size : Int)) then
      bif (decide ((byteAt s.1 (s.2).toNat) < 65)) then
        some (.inr (.inl (false)))
      else
        bif decide (0 ≤ s.2) && decide (s.2 < (s.1.size : Int)) then
          bif (decide ((byteAt s.1 (s.2).toNat) > 90)) then
            some (.inr (.inl (false)))
          else
            let v2 := IntKind.i64.wrap (s.2 + 1)
            some (.inl ((s.1, v2)))
        else none
    else none
  else
    some (.inr (.inr (s.1)))
def pat_spec_fsWord_0 : Pat := { tmps := [.v .str, .any, .any, .v (.int .i64), .any, .any, .any, .any, .any, .any, .any, .any, .any, .any, .any, .any, .any, .any, .any, .any, .any, .any, .any], blks := [] }
def outs_spec_fsWord_0 : List (Exit × Pat) := [(.ret, { tmps := [.any, .any, .v .bool, .any, .any, .any, .any, .any, .any, .any, .any, .any, .any, .any, .any, .any, .any, .any, .any, .any, .any, .any, .any], blks := [] }), (.exit 0, { tmps := [.v .str, .any, .any, .any, .any, .any, .any, .any, .any, .any, .any, .any, .any, .any, .any, .any, .any, .any, .any, .any, .any, .any, .any], blks := [] })]
noncomputable def F_spec_fsWord (x : ByteArray) : Option (Bool) :=
  match runL step_spec_fsWord_0 ((x, 0)) with
  | none => none
  | some (.inl o3) =>
    some (o3)
  | some (.inr o3) =>
    match F_spec_l1In (((o3.size : Int), 1, 8)) with
    | none => none
    | some y4 =>
      some (y4)
noncomputable def c_spec_fsWord : Con := { ps := [(.val, .str)], rs := [(.val, .bool)], F := F_spec_fsWord }
noncomputable def env_spec_fsWord : Env := { par := [], con := fun f => match f with | 47 => some c_spec_l1In | _ => none, clo := fun _ => none, T := tinf Tryd.prog }
noncomputable def loops_spec_fsWord : Nat → Option Loop := fun n => match n with | 2 => some { pat := pat_spec_fsWord_0, outs := outs_spec_fsWord_0, run := runL (step_spec_fsWord_0) } | _ => none
theorem step_spec_fsWord_0_eq (s : ByteArray × Int) : stepEv env_spec_fsWord loops_spec_fsWord pat_spec_fsWord_0 outs_spec_fsWord_0 Tryd.f53 2 s = step_spec_fsWord_0 s := by kernel_rfl
theorem F_spec_fsWord_eq (x : ByteArray) : Fev env_spec_fsWord loops_spec_fsWord c_spec_fsWord.ps c_spec_fsWord.rs Tryd.f53 x = F_spec_fsWord x := by kernel_rfl
theorem env_spec_fsWord_ok : EnvOK Tryd.prog env_spec_fsWord := envOK_of (fun f c h => by
  simp only [env_spec_fsWord] at h
  split at h
  · cases h; exact con_spec_l1In
  · cases h) (fun f c h => by cases h) rfl
theorem con_spec_fsWord : ConOK Tryd.prog 53 c_spec_fsWord := con_of_ev' (body := Tryd.f53.body.getD .skip) (Λ := loops_spec_fsWord) mixed Tryd.func53 (by kernel_rfl) (by kernel_rfl) env_spec_fsWord_ok rfl (by kernel_rfl) (fun n L h => by
  unfold loops_spec_fsWord at h
  split at h
  · cases h; exact fun s o ho => loop_ok (stepF := stepEv env_spec_fsWord loops_spec_fsWord pat_spec_fsWord_0 outs_spec_fsWord_0 Tryd.f53 2) (step_spec_fsWord_0_eq) ho
  · cases h) F_spec_fsWord_eq

noncomputable def F_spec_joOne (x : (Int × (ByteArray × Bool))) : Option (Bool) :=
  match F_spec_l1In ((x.1, 1, 999)) with
  | none => none
  | some y1 =>
    bif y1 then
      match F_spec_fsWord (x.2.1) with
      | none => none
      | some y2 =>
        some (y2)
    else
      some (false)
noncomputable def c_spec_joOne : Con := { ps := [(.val, (.st (.pair (.int .i64) (.pair .str .bool))))], rs := [(.val, .bool)], F := F_spec_joOne }
noncomputable def env_spec_joOne : Env := { par := [], con := fun f => match f with | 47 => some c_spec_l1In | 53 => some c_spec_fsWord | _ => none, clo := fun _ => none, T := tinf Tryd.prog }
noncomputable def loops_spec_joOne : Nat → Option Loop := fun n => none
theorem F_spec_joOne_eq (x : (Int × (ByteArray × Bool))) : Fev env_spec_joOne loops_spec_joOne c_spec_joOne.ps c_spec_joOne.rs Tryd.f31 x = F_spec_joOne x := by kernel_rfl
theorem env_spec_joOne_ok : EnvOK Tryd.prog env_spec_joOne := envOK_of (fun f c h => by
  simp only [env_spec_joOne] at h
  split at h
  · cases h; exact con_spec_l1In
  · cases h; exact con_spec_fsWord
  · cases h) (fun f c h => by cases h) rfl
theorem con_spec_joOne : ConOK Tryd.prog 31 c_spec_joOne := con_of_ev' (body := Tryd.f31.body.getD .skip) (Λ := loops_spec_joOne) mixed Tryd.func31 (by kernel_rfl) (by kernel_rfl) env_spec_joOne_ok rfl (by kernel_rfl) (fun n L h => by cases h) F_spec_joOne_eq


noncomputable def step_spec_joLine_0 (s : ByteArray × Int × Int) : Option ((ByteArray × Int × Int) ⊕ ((ByteArray × Int))) :=
  bif (decide (s.2.2 < (s.1.size : Int))) then
    let v20 := IntKind.i64.wrap (7 * s.2.1)
    bif decide (0 ≤ s.2.2) && decide (s.2.2 < (s.1.size : Int)) then
      let v21 := IntKind.i64.wrap (byteAt s.1 (s.2.2).toNat)
      let v22 := IntKind.i64.wrap (v20 + v21)
      bif !decide (9973 = 0) then
        let v23 := (v22).tmod 9973
        let v24 := IntKind.i64.wrap (s.2.2 + 1)
        some (.inl ((s.1, v23, v24)))
      else none
    else none
  else
    some (.inr ((s.1, s.2.1)))
def pat_spec_joLine_0 : Pat := { tmps := [.any, .any, .any, .v .str, .v (.int .i64), .v (.int .i64), .any, .any, .any, .any, .any, .any, .any, .any, .any, .any, .any, .any, .any, .any, .any, .any, .any, .any, .any, .any, .any, .any, .any, .any, .any, .any, .any, .any, .any, .any, .any, .any, .any, .any, .any, .any], blks := [] }
def outs_spec_joLine_0 : List (Exit × Pat) := [(.exit 0, { tmps := [.any, .any, .any, .v .str, .v (.int .i64), .any, .any, .any, .any, .any, .any, .any, .any, .any, .any, .any, .any, .any, .any, .any, .any, .any, .any, .any, .any, .any, .any, .any, .any, .any, .any, .any, .any, .any, .any, .any, .any, .any, .any, .any, .any, .any], blks := [] })]
noncomputable def F_spec_joLine (x : (Int × (ByteArray × Bool))) : Option (ByteArray) :=
  match F_spec_l1Num (x.1) with
  | none => none
  | some y1 =>
    bif decide (y1.size + (⟨#[43]⟩ : ByteArray).size ≤ 9223372036854775807) then
      bif decide ((y1 ++ (⟨#[43]⟩ : ByteArray)).size + x.2.1.size ≤ 9223372036854775807) then
        bif x.2.2 then
          match F_spec_l1Num (x.1) with
          | none => none
          | some y2 =>
            bif decide (y2.size + (⟨#[45]⟩ : ByteArray).size ≤ 9223372036854775807) then
              bif decide ((y2 ++ (⟨#[45]⟩ : ByteArray)).size + x.2.1.size ≤ 9223372036854775807) then
                match runL step_spec_joLine_0 ((((y2 ++ (⟨#[45]⟩ : ByteArray)) ++ x.2.1), 3, 0)) with
                | none => none
                | some o13 =>
                  bif decide (o13.1.size + (⟨#[46]⟩ : ByteArray).size ≤ 9223372036854775807) then
                    match F_spec_l1Num (o13.2) with
                    | none => none
                    | some y14 =>
                      bif decide ((o13.1 ++ (⟨#[46]⟩ : ByteArray)).size + y14.size ≤ 9223372036854775807) then
                        bif decide (((o13.1 ++ (⟨#[46]⟩ : ByteArray)) ++ y14).size + (⟨#[10]⟩ : ByteArray).size ≤ 9223372036854775807) then
                          some ((((o13.1 ++ (⟨#[46]⟩ : ByteArray)) ++ y14) ++ (⟨#[10]⟩ : ByteArray)))
                        else none
                      else none
                  else none
              else none
            else none
        else
          match runL step_spec_joLine_0 ((((y1 ++ (⟨#[43]⟩ : ByteArray)) ++ x.2.1), 3, 0)) with
          | none => none
          | some o25 =>
            bif decide (o25.1.size + (⟨#[46]⟩ : ByteArray).size ≤ 9223372036854775807) then
              match F_spec_l1Num (o25.2) with
              | none => none
              | some y26 =>
                bif decide ((o25.1 ++ (⟨#[46]⟩ : ByteArray)).size + y26.size ≤ 9223372036854775807) then
                  bif decide (((o25.1 ++ (⟨#[46]⟩ : ByteArray)) ++ y26).size + (⟨#[10]⟩ : ByteArray).size ≤ 9223372036854775807) then
                    some ((((o25.1 ++ (⟨#[46]⟩ : ByteArray)) ++ y26) ++ (⟨#[10]⟩ : ByteArray)))
                  else none
                else none
            else none
      else none
    else none
noncomputable def c_spec_joLine : Con := { ps := [(.val, (.st (.pair (.int .i64) (.pair .str .bool))))], rs := [(.val, .str)], F := F_spec_joLine }
noncomputable def env_spec_joLine : Env := { par := [], con := fun f => match f with | 37 => some c_spec_l1Num | _ => none, clo := fun _ => none, T := tinf Tryd.prog }
noncomputable def loops_spec_joLine : Nat → Option Loop := fun n => match n with | 6 => some { pat := pat_spec_joLine_0, outs := outs_spec_joLine_0, run := runL (step_spec_joLine_0) } | _ => none
theorem step_spec_joLine_0_eq (s : ByteArray × Int × Int) : stepEv env_spec_joLine loops_spec_joLine pat_spec_joLine_0 outs_spec_joLine_0 Tryd.f32 6 s = step_spec_joLine_0 s := by kernel_rfl
theorem F_spec_joLine_eq (x : (Int × (ByteArray × Bool))) : Fev env_spec_joLine loops_spec_joLine c_spec_joLine.ps c_spec_joLine.rs Tryd.f32 x = F_spec_joLine x := by kernel_rfl
theorem env_spec_joLine_ok : EnvOK Tryd.prog env_spec_joLine := envOK_of (fun f c h => by
  simp only [env_spec_joLine] at h
  split at h
  · cases h; exact con_spec_l1Num
  · cases h) (fun f c h => by cases h) rfl
theorem con_spec_joLine : ConOK Tryd.prog 32 c_spec_joLine := con_of_ev' (body := Tryd.f32.body.getD .skip) (Λ := loops_spec_joLine) mixed Tryd.func32 (by kernel_rfl) (by kernel_rfl) env_spec_joLine_ok rfl (by kernel_rfl) (fun n L h => by
  unfold loops_spec_joLine at h
  split at h
  · cases h; exact fun s o ho => loop_ok (stepF := stepEv env_spec_joLine loops_spec_joLine pat_spec_joLine_0 outs_spec_joLine_0 Tryd.f32 6) (step_spec_joLine_0_eq) ho
  · cases h) F_spec_joLine_eq

noncomputable def F_spec_EditLine (x : (Int × (ByteArray × Bool))) : Option (ByteArray × Bool) :=
  match F_spec_joOne (x) with
  | none => none
  | some y1 =>
    bif (!y1) then
      some (((⟨#[]⟩ : ByteArray), false))
    else
      match F_spec_joLine (x) with
      | none => none
      | some y2 =>
        some ((y2, true))
noncomputable def c_spec_EditLine : Con := { ps := [(.val, (.st (.pair (.int .i64) (.pair .str .bool))))], rs := [(.val, .str), (.val, .bool)], F := F_spec_EditLine }
noncomputable def env_spec_EditLine : Env := { par := [], con := fun f => match f with | 31 => some c_spec_joOne | 32 => some c_spec_joLine | _ => none, clo := fun _ => none, T := tinf Tryd.prog }
noncomputable def loops_spec_EditLine : Nat → Option Loop := fun n => none
theorem F_spec_EditLine_eq (x : (Int × (ByteArray × Bool))) : Fev env_spec_EditLine loops_spec_EditLine c_spec_EditLine.ps c_spec_EditLine.rs Tryd.f12 x = F_spec_EditLine x := by kernel_rfl
theorem env_spec_EditLine_ok : EnvOK Tryd.prog env_spec_EditLine := envOK_of (fun f c h => by
  simp only [env_spec_EditLine] at h
  split at h
  · cases h; exact con_spec_joOne
  · cases h; exact con_spec_joLine
  · cases h) (fun f c h => by cases h) rfl
theorem con_spec_EditLine : ConOK Tryd.prog 12 c_spec_EditLine := con_of_ev' (body := Tryd.f12.body.getD .skip) (Λ := loops_spec_EditLine) mixed Tryd.func12 (by kernel_rfl) (by kernel_rfl) env_spec_EditLine_ok rfl (by kernel_rfl) (fun n L h => by cases h) F_spec_EditLine_eq

noncomputable def F_impl_within (x : Int × Int × Int) : Option (Bool) :=
  bif (decide (x.1 ≥ x.2.1)) then
    some ((decide (x.1 ≤ x.2.2)))
  else
    some (false)
noncomputable def c_impl_within : Con := { ps := [(.val, (.int .i64)), (.val, (.int .i64)), (.val, (.int .i64))], rs := [(.val, .bool)], F := F_impl_within }
noncomputable def env_impl_within : Env := { par := [], con := fun _ => none, clo := fun _ => none, T := tinf Tryd.prog }
noncomputable def loops_impl_within : Nat → Option Loop := fun n => none
theorem F_impl_within_eq (x : Int × Int × Int) : Fev env_impl_within loops_impl_within c_impl_within.ps c_impl_within.rs Tryd.f48 x = F_impl_within x := by kernel_rfl
theorem env_impl_within_ok : EnvOK Tryd.prog env_impl_within := envOK_of (fun f c h => by cases h) (fun f c h => by cases h) rfl
theorem con_impl_within : ConOK Tryd.prog 48 c_impl_within := con_of_ev' (body := Tryd.f48.body.getD .skip) (Λ := loops_impl_within) mixed Tryd.func48 (by kernel_rfl) (by kernel_rfl) env_impl_within_ok rfl (by kernel_rfl) (fun n L h => by cases h) F_impl_within_eq

set_option maxHeartbeats 1000000 in
theorem calls_strings_IndexByte (s : ByteArray) (c : Int) (w : World) :
    Calls Tryd.prog 81 #[.string s, .int .u8 c] w fun e w' => e = .returned (.int .i64 (Lib.indexByte s.data.toList c.toNat.toUInt8)) ∧ w' = w := by
  go_enter Tryd.func81, Tryd.ntmps81
  go_wp2
  rw [run_callFunc_extern Tryd.func87 (by kernel_rfl) (by kernel_rfl) (by kernel_rfl) (e := Extern.BytealgIndexByte.indexByte) (by kernel_rfl), Lib.run_indexByteString]
  simp only [Result.andThen]
  rw [Oper.upon_value]
  go_wp2
  go_ret
  exact ⟨rfl, rfl⟩
def F_strings_IndexByte (x : ByteArray × Int) : Option Int := some (Lib.indexByte x.1.data.toList x.2.toNat.toUInt8)
def c_strings_IndexByte : Con := { ps := [(.val, .str), (.val, .int .u8)], rs := [(.val, .int .i64)], F := F_strings_IndexByte }
theorem con_strings_IndexByte : ConOK Tryd.prog 81 c_strings_IndexByte := con_of_pure ⟨Tryd.f81, Tryd.func81, by kernel_rfl, by kernel_rfl⟩ rfl rfl fun w x y hy _ => by
  have e : y = Lib.indexByte x.1.data.toList x.2.toNat.toUInt8 := (Option.some.inj hy).symm
  subst e
  refine (calls_strings_IndexByte x.1 x.2 w).mono ?_
  rintro e w' ⟨rfl, rfl⟩
  exact ⟨rfl, Fr.refl _ _⟩

noncomputable def step_impl_hasOnly_0 (s : ByteArray × ByteArray × Int × Int) : Option ((ByteArray × ByteArray × Int × Int) ⊕ ((Bool) ⊕ (Unit))) :=
  bif (decide (s.2.2.2 < s.2.2.1)) then
    bif decide (0 ≤ s.2.2.2) && decide (s.2.2.2 < (s.1.size : Int)) then
      match F_strings_IndexByte ((s.2.1, (byteAt s.1 (s.2.2.2).toNat))) with
      | none => none
      | some y3 =>
        bif (decide (y3 < 0)) then
          some (.inr (.inl (false)))
        else
          let v4 := IntKind.i64.wrap (s.2.2.2 + 1)
          some (.inl ((s.1, (s.2.1, s.2.2.1, v4))))
    else none
  else
    some (.inr (.inr (())))
def pat_impl_hasOnly_0 : Pat := { tmps := [.v .str, .v .str, .any, .any, .any, .any, .any, .v (.int .i64), .v (.int .i64), .any, .any, .any, .any, .any, .any, .any, .any, .any], blks := [] }
def outs_impl_hasOnly_0 : List (Exit × Pat) := [(.ret, { tmps := [.any, .any, .any, .any, .v .bool, .any, .any, .any, .any, .any, .any, .any, .any, .any, .any, .any, .any, .any], blks := [] }), (.exit 0, { tmps := [.any, .any, .any, .any, .any, .any, .any, .any, .any, .any, .any, .any, .any, .any, .any, .any, .any, .any], blks := [] })]
noncomputable def F_impl_hasOnly (x : ByteArray × ByteArray) : Option (Bool) :=
  match runL step_impl_hasOnly_0 ((x.1, (x.2, (x.1.size : Int), 0))) with
  | none => none
  | some (.inl o5) =>
    some (o5)
  | some (.inr o5) =>
    some (true)
noncomputable def c_impl_hasOnly : Con := { ps := [(.val, .str), (.val, .str)], rs := [(.val, .bool)], F := F_impl_hasOnly }
noncomputable def env_impl_hasOnly : Env := { par := [], con := fun f => match f with | 81 => some c_strings_IndexByte | _ => none, clo := fun _ => none, T := tinf Tryd.prog }
noncomputable def loops_impl_hasOnly : Nat → Option Loop := fun n => match n with | 2 => some { pat := pat_impl_hasOnly_0, outs := outs_impl_hasOnly_0, run := runL (step_impl_hasOnly_0) } | _ => none
theorem step_impl_hasOnly_0_eq (s : ByteArray × ByteArray × Int × Int) : stepEv env_impl_hasOnly loops_impl_hasOnly pat_impl_hasOnly_0 outs_impl_hasOnly_0 Tryd.f70 2 s = step_impl_hasOnly_0 s := by kernel_rfl
theorem F_impl_hasOnly_eq (x : ByteArray × ByteArray) : Fev env_impl_hasOnly loops_impl_hasOnly c_impl_hasOnly.ps c_impl_hasOnly.rs Tryd.f70 x = F_impl_hasOnly x := by kernel_rfl
theorem env_impl_hasOnly_ok : EnvOK Tryd.prog env_impl_hasOnly := envOK_of (fun f c h => by
  simp only [env_impl_hasOnly] at h
  split at h
  · cases h; exact con_strings_IndexByte
  · cases h) (fun f c h => by cases h) rfl
theorem con_impl_hasOnly : ConOK Tryd.prog 70 c_impl_hasOnly := con_of_ev' (body := Tryd.f70.body.getD .skip) (Λ := loops_impl_hasOnly) mixed Tryd.func70 (by kernel_rfl) (by kernel_rfl) env_impl_hasOnly_ok rfl (by kernel_rfl) (fun n L h => by
  unfold loops_impl_hasOnly at h
  split at h
  · cases h; exact fun s o ho => loop_ok (stepF := stepEv env_impl_hasOnly loops_impl_hasOnly pat_impl_hasOnly_0 outs_impl_hasOnly_0 Tryd.f70 2) (step_impl_hasOnly_0_eq) ho
  · cases h) F_impl_hasOnly_eq

noncomputable def F_impl_isWordOf (x : ByteArray × ByteArray) : Option (Bool) :=
  match F_impl_within (((x.1.size : Int), 1, 8)) with
  | none => none
  | some y1 =>
    bif y1 then
      match F_impl_hasOnly (x) with
      | none => none
      | some y2 =>
        some (y2)
    else
      some (false)
noncomputable def c_impl_isWordOf : Con := { ps := [(.val, .str), (.val, .str)], rs := [(.val, .bool)], F := F_impl_isWordOf }
noncomputable def env_impl_isWordOf : Env := { par := [], con := fun f => match f with | 48 => some c_impl_within | 70 => some c_impl_hasOnly | _ => none, clo := fun _ => none, T := tinf Tryd.prog }
noncomputable def loops_impl_isWordOf : Nat → Option Loop := fun n => none
theorem F_impl_isWordOf_eq (x : ByteArray × ByteArray) : Fev env_impl_isWordOf loops_impl_isWordOf c_impl_isWordOf.ps c_impl_isWordOf.rs Tryd.f64 x = F_impl_isWordOf x := by kernel_rfl
theorem env_impl_isWordOf_ok : EnvOK Tryd.prog env_impl_isWordOf := envOK_of (fun f c h => by
  simp only [env_impl_isWordOf] at h
  split at h
  · cases h; exact con_impl_within
  · cases h; exact con_impl_hasOnly
  · cases h) (fun f c h => by cases h) rfl
theorem con_impl_isWordOf : ConOK Tryd.prog 64 c_impl_isWordOf := con_of_ev' (body := Tryd.f64.body.getD .skip) (Λ := loops_impl_isWordOf) mixed Tryd.func64 (by kernel_rfl) (by kernel_rfl) env_impl_isWordOf_ok rfl (by kernel_rfl) (fun n L h => by cases h) F_impl_isWordOf_eq

noncomputable def F_impl_IsGloss (x : ByteArray) : Option (Bool) :=
  match F_impl_isWordOf ((x, (⟨#[65, 66, 67, 68, 69, 70, 71, 72, 73, 74, 75, 76, 77, 78, 79, 80, 81, 82, 83, 84, 85, 86, 87, 88, 89, 90]⟩ : ByteArray))) with
  | none => none
  | some y1 =>
    some (y1)
noncomputable def c_impl_IsGloss : Con := { ps := [(.val, .str)], rs := [(.val, .bool)], F := F_impl_IsGloss }
noncomputable def env_impl_IsGloss : Env := { par := [], con := fun f => match f with | 64 => some c_impl_isWordOf | _ => none, clo := fun _ => none, T := tinf Tryd.prog }
noncomputable def loops_impl_IsGloss : Nat → Option Loop := fun n => none
theorem F_impl_IsGloss_eq (x : ByteArray) : Fev env_impl_IsGloss loops_impl_IsGloss c_impl_IsGloss.ps c_impl_IsGloss.rs Tryd.f54 x = F_impl_IsGloss x := by kernel_rfl
theorem env_impl_IsGloss_ok : EnvOK Tryd.prog env_impl_IsGloss := envOK_of (fun f c h => by
  simp only [env_impl_IsGloss] at h
  split at h
  · cases h; exact con_impl_isWordOf
  · cases h) (fun f c h => by cases h) rfl
theorem con_impl_IsGloss : ConOK Tryd.prog 54 c_impl_IsGloss := con_of_ev' (body := Tryd.f54.body.getD .skip) (Λ := loops_impl_IsGloss) mixed Tryd.func54 (by kernel_rfl) (by kernel_rfl) env_impl_IsGloss_ok rfl (by kernel_rfl) (fun n L h => by cases h) F_impl_IsGloss_eq

noncomputable def F_impl_isLogEdit (x : (Int × (ByteArray × Bool))) : Option (Bool) :=
  match F_impl_within ((x.1, 1, 999)) with
  | none => none
  | some y1 =>
    bif y1 then
      match F_impl_IsGloss (x.2.1) with
      | none => none
      | some y2 =>
        some (y2)
    else
      some (false)
noncomputable def c_impl_isLogEdit : Con := { ps := [(.val, (.st (.pair (.int .i64) (.pair .str .bool))))], rs := [(.val, .bool)], F := F_impl_isLogEdit }
noncomputable def env_impl_isLogEdit : Env := { par := [], con := fun f => match f with | 48 => some c_impl_within | 54 => some c_impl_IsGloss | _ => none, clo := fun _ => none, T := tinf Tryd.prog }
noncomputable def loops_impl_isLogEdit : Nat → Option Loop := fun n => none
theorem F_impl_isLogEdit_eq (x : (Int × (ByteArray × Bool))) : Fev env_impl_isLogEdit loops_impl_isLogEdit c_impl_isLogEdit.ps c_impl_isLogEdit.rs Tryd.f33 x = F_impl_isLogEdit x := by kernel_rfl
theorem env_impl_isLogEdit_ok : EnvOK Tryd.prog env_impl_isLogEdit := envOK_of (fun f c h => by
  simp only [env_impl_isLogEdit] at h
  split at h
  · cases h; exact con_impl_within
  · cases h; exact con_impl_IsGloss
  · cases h) (fun f c h => by cases h) rfl
theorem con_impl_isLogEdit : ConOK Tryd.prog 33 c_impl_isLogEdit := con_of_ev' (body := Tryd.f33.body.getD .skip) (Λ := loops_impl_isLogEdit) mixed Tryd.func33 (by kernel_rfl) (by kernel_rfl) env_impl_isLogEdit_ok rfl (by kernel_rfl) (fun n L h => by cases h) F_impl_isLogEdit_eq

theorem Itoa_ex : ∃ f : Int → Option ByteArray, f = fun n => bif decide (-9223372036854775808 ≤ n) && decide (n ≤ 9223372036854775807) then some ⟨(Lib.itoa n).toArray⟩ else none := ⟨_, rfl⟩
noncomputable def F_strconv_Itoa : Int → Option ByteArray := Classical.choose Itoa_ex
theorem F_strconv_Itoa_is (n : Int) : F_strconv_Itoa n = bif decide (-9223372036854775808 ≤ n) && decide (n ≤ 9223372036854775807) then some ⟨(Lib.itoa n).toArray⟩ else none := congrFun (Classical.choose_spec Itoa_ex) n
noncomputable def c_strconv_Itoa : Con := { ps := [(.val, .int .i64)], rs := [(.val, .str)], F := F_strconv_Itoa }
theorem calls_F_strconv_Itoa (w : World) (x : Int) (y : ByteArray) (hy : F_strconv_Itoa x = some y) (ht : Tabs Tryd.prog w) : Calls Tryd.prog 40 #[.int .i64 x] w fun e w' => e = .returned (.string y) ∧ Fr NoB w w' := by
  rw [F_strconv_Itoa_is] at hy
  obtain ⟨hg, hy⟩ := bif_none hy
  obtain ⟨h0, h1⟩ := and_b hg
  have h0 : -9223372036854775808 ≤ x := of_decide_eq_true h0
  have h1 : x ≤ 9223372036854775807 := of_decide_eq_true h1
  have e : y = ⟨(Lib.itoa x).toArray⟩ := (Option.some.inj hy).symm
  subst e
  refine (Tryd.strconv_Itoa x h0 h1 w (ht.1 _ (List.mem_cons_self ..)).2).mono ?_
  rintro e w' ⟨rfl, k, os, rfl⟩
  exact ⟨rfl, fr_of_below (Go.Lib.below_grow _ _ (Nat.le_refl _) k os)⟩
theorem con_strconv_Itoa : ConOK Tryd.prog 40 c_strconv_Itoa := con_of_pure ⟨Tryd.f40, Tryd.func40, by kernel_rfl, by kernel_rfl⟩ rfl rfl fun w x y hy ht => calls_F_strconv_Itoa w x y hy ht

noncomputable def step_impl_LogEdit_line_0 (s : ByteArray × Int × Int × Int) : Option ((ByteArray × Int × Int × Int) ⊕ ((ByteArray × Int))) :=
  bif (decide (s.2.2.2 < s.2.2.1)) then
    let v20 := IntKind.i64.wrap (7 * s.2.1)
    bif decide (0 ≤ s.2.2.2) && decide (s.2.2.2 < (s.1.size : Int)) then
      let v21 := IntKind.i64.wrap (byteAt s.1 (s.2.2.2).toNat)
      let v22 := IntKind.i64.wrap (v20 + v21)
      bif !decide (9973 = 0) then
        let v23 := (v22).tmod 9973
        let v24 := IntKind.i64.wrap (s.2.2.2 + 1)
        some (.inl ((s.1, (v23, s.2.2.1, v24))))
      else none
    else none
  else
    some (.inr ((s.1, s.2.1)))
def pat_impl_LogEdit_line_0 : Pat := { tmps := [.any, .any, .any, .v .str, .v (.int .i64), .any, .any, .any, .any, .any, .any, .any, .any, .any, .any, .any, .any, .any, .any, .any, .any, .any, .any, .v (.int .i64), .v (.int .i64), .any, .any, .any, .any, .any, .any, .any, .any, .any, .any, .any, .any, .any, .any, .any, .any, .any], blks := [] }
def outs_impl_LogEdit_line_0 : List (Exit × Pat) := [(.exit 0, { tmps := [.any, .any, .any, .v .str, .v (.int .i64), .any, .any, .any, .any, .any, .any, .any, .any, .any, .any, .any, .any, .any, .any, .any, .any, .any, .any, .any, .any, .any, .any, .any, .any, .any, .any, .any, .any, .any, .any, .any, .any, .any, .any, .any, .any, .any], blks := [] })]
noncomputable def F_impl_LogEdit_line (x : (Int × (ByteArray × Bool))) : Option (ByteArray) :=
  match F_strconv_Itoa (x.1) with
  | none => none
  | some y1 =>
    bif decide (y1.size + (⟨#[43]⟩ : ByteArray).size ≤ 9223372036854775807) then
      bif decide ((y1 ++ (⟨#[43]⟩ : ByteArray)).size + x.2.1.size ≤ 9223372036854775807) then
        bif x.2.2 then
          match F_strconv_Itoa (x.1) with
          | none => none
          | some y2 =>
            bif decide (y2.size + (⟨#[45]⟩ : ByteArray).size ≤ 9223372036854775807) then
              bif decide ((y2 ++ (⟨#[45]⟩ : ByteArray)).size + x.2.1.size ≤ 9223372036854775807) then
                match runL step_impl_LogEdit_line_0 ((((y2 ++ (⟨#[45]⟩ : ByteArray)) ++ x.2.1), (3, (((y2 ++ (⟨#[45]⟩ : ByteArray)) ++ x.2.1).size : Int), 0))) with
                | none => none
                | some o13 =>
                  bif decide (o13.1.size + (⟨#[46]⟩ : ByteArray).size ≤ 9223372036854775807) then
                    match F_strconv_Itoa (o13.2) with
                    | none => none
                    | some y14 =>
                      bif decide ((o13.1 ++ (⟨#[46]⟩ : ByteArray)).size + y14.size ≤ 9223372036854775807) then
                        bif decide (((o13.1 ++ (⟨#[46]⟩ : ByteArray)) ++ y14).size + (⟨#[10]⟩ : ByteArray).size ≤ 9223372036854775807) then
                          some ((((o13.1 ++ (⟨#[46]⟩ : ByteArray)) ++ y14) ++ (⟨#[10]⟩ : ByteArray)))
                        else none
                      else none
                  else none
              else none
            else none
        else
          match runL step_impl_LogEdit_line_0 ((((y1 ++ (⟨#[43]⟩ : ByteArray)) ++ x.2.1), (3, (((y1 ++ (⟨#[43]⟩ : ByteArray)) ++ x.2.1).size : Int), 0))) with
          | none => none
          | some o25 =>
            bif decide (o25.1.size + (⟨#[46]⟩ : ByteArray).size ≤ 9223372036854775807) then
              match F_strconv_Itoa (o25.2) with
              | none => none
              | some y26 =>
                bif decide ((o25.1 ++ (⟨#[46]⟩ : ByteArray)).size + y26.size ≤ 9223372036854775807) then
                  bif decide (((o25.1 ++ (⟨#[46]⟩ : ByteArray)) ++ y26).size + (⟨#[10]⟩ : ByteArray).size ≤ 9223372036854775807) then
                    some ((((o25.1 ++ (⟨#[46]⟩ : ByteArray)) ++ y26) ++ (⟨#[10]⟩ : ByteArray)))
                  else none
                else none
            else none
      else none
    else none
noncomputable def c_impl_LogEdit_line : Con := { ps := [(.val, (.st (.pair (.int .i64) (.pair .str .bool))))], rs := [(.val, .str)], F := F_impl_LogEdit_line }
noncomputable def env_impl_LogEdit_line : Env := { par := [], con := fun f => match f with | 40 => some c_strconv_Itoa | _ => none, clo := fun _ => none, T := tinf Tryd.prog }
noncomputable def loops_impl_LogEdit_line : Nat → Option Loop := fun n => match n with | 6 => some { pat := pat_impl_LogEdit_line_0, outs := outs_impl_LogEdit_line_0, run := runL (step_impl_LogEdit_line_0) } | _ => none
theorem step_impl_LogEdit_line_0_eq (s : ByteArray × Int × Int × Int) : stepEv env_impl_LogEdit_line loops_impl_LogEdit_line pat_impl_LogEdit_line_0 outs_impl_LogEdit_line_0 Tryd.f34 6 s = step_impl_LogEdit_line_0 s := by kernel_rfl
theorem F_impl_LogEdit_line_eq (x : (Int × (ByteArray × Bool))) : Fev env_impl_LogEdit_line loops_impl_LogEdit_line c_impl_LogEdit_line.ps c_impl_LogEdit_line.rs Tryd.f34 x = F_impl_LogEdit_line x := by kernel_rfl
theorem env_impl_LogEdit_line_ok : EnvOK Tryd.prog env_impl_LogEdit_line := envOK_of (fun f c h => by
  simp only [env_impl_LogEdit_line] at h
  split at h
  · cases h; exact con_strconv_Itoa
  · cases h) (fun f c h => by cases h) rfl
theorem con_impl_LogEdit_line : ConOK Tryd.prog 34 c_impl_LogEdit_line := con_of_ev' (body := Tryd.f34.body.getD .skip) (Λ := loops_impl_LogEdit_line) mixed Tryd.func34 (by kernel_rfl) (by kernel_rfl) env_impl_LogEdit_line_ok rfl (by kernel_rfl) (fun n L h => by
  unfold loops_impl_LogEdit_line at h
  split at h
  · cases h; exact fun s o ho => loop_ok (stepF := stepEv env_impl_LogEdit_line loops_impl_LogEdit_line pat_impl_LogEdit_line_0 outs_impl_LogEdit_line_0 Tryd.f34 6) (step_impl_LogEdit_line_0_eq) ho
  · cases h) F_impl_LogEdit_line_eq

noncomputable def F_impl_EditLine (x : (Int × (ByteArray × Bool))) : Option (ByteArray × Bool) :=
  match F_impl_isLogEdit (x) with
  | none => none
  | some y1 =>
    bif (!y1) then
      some (((⟨#[]⟩ : ByteArray), false))
    else
      match F_impl_LogEdit_line (x) with
      | none => none
      | some y2 =>
        some ((y2, true))
noncomputable def c_impl_EditLine : Con := { ps := [(.val, (.st (.pair (.int .i64) (.pair .str .bool))))], rs := [(.val, .str), (.val, .bool)], F := F_impl_EditLine }
noncomputable def env_impl_EditLine : Env := { par := [], con := fun f => match f with | 33 => some c_impl_isLogEdit | 34 => some c_impl_LogEdit_line | _ => none, clo := fun _ => none, T := tinf Tryd.prog }
noncomputable def loops_impl_EditLine : Nat → Option Loop := fun n => none
theorem F_impl_EditLine_eq (x : (Int × (ByteArray × Bool))) : Fev env_impl_EditLine loops_impl_EditLine c_impl_EditLine.ps c_impl_EditLine.rs Tryd.f14 x = F_impl_EditLine x := by kernel_rfl
theorem env_impl_EditLine_ok : EnvOK Tryd.prog env_impl_EditLine := envOK_of (fun f c h => by
  simp only [env_impl_EditLine] at h
  split at h
  · cases h; exact con_impl_isLogEdit
  · cases h; exact con_impl_LogEdit_line
  · cases h) (fun f c h => by cases h) rfl
theorem con_impl_EditLine : ConOK Tryd.prog 14 c_impl_EditLine := con_of_ev' (body := Tryd.f14.body.getD .skip) (Λ := loops_impl_EditLine) mixed Tryd.func14 (by kernel_rfl) (by kernel_rfl) env_impl_EditLine_ok rfl (by kernel_rfl) (fun n L h => by cases h) F_impl_EditLine_eq

noncomputable def F_laws_FnExactEditLine (x : (Int × (ByteArray × Bool))) : Option (Bool) :=
  match F_laws_szLogEdit ((x, 1048576)) with
  | none => none
  | some y1 =>
    bif (decide (y1 < 0)) then
      some (true)
    else
      match F_laws_toLogEdit (x) with
      | none => none
      | some y2 =>
        match F_spec_EditLine (y2) with
        | none => none
        | some y3 =>
          match F_laws_toLogEdit (x) with
          | none => none
          | some y4 =>
            match F_impl_EditLine (y4) with
            | none => none
            | some y5 =>
              bif (!(y5.1.toList == y3.1.toList)) then
                some (false)
              else
                bif (!(y5.2 == y3.2)) then
                  some (false)
                else
                  some (true)
noncomputable def c_laws_FnExactEditLine : Con := { ps := [(.val, (.st (.pair (.int .i64) (.pair .str .bool))))], rs := [(.val, .bool)], F := F_laws_FnExactEditLine }
noncomputable def env_laws_FnExactEditLine : Env := { par := [], con := fun f => match f with | 11 => some c_laws_szLogEdit | 12 => some c_spec_EditLine | 13 => some c_laws_toLogEdit | 14 => some c_impl_EditLine | _ => none, clo := fun _ => none, T := tinf Tryd.prog }
noncomputable def loops_laws_FnExactEditLine : Nat → Option Loop := fun n => none
theorem F_laws_FnExactEditLine_eq (x : (Int × (ByteArray × Bool))) : Fev env_laws_FnExactEditLine loops_laws_FnExactEditLine c_laws_FnExactEditLine.ps c_laws_FnExactEditLine.rs Tryd.f4 x = F_laws_FnExactEditLine x := by kernel_rfl
theorem env_laws_FnExactEditLine_ok : EnvOK Tryd.prog env_laws_FnExactEditLine := envOK_of (fun f c h => by
  simp only [env_laws_FnExactEditLine] at h
  split at h
  · cases h; exact con_laws_szLogEdit
  · cases h; exact con_spec_EditLine
  · cases h; exact con_laws_toLogEdit
  · cases h; exact con_impl_EditLine
  · cases h) (fun f c h => by cases h) rfl
theorem con_laws_FnExactEditLine : ConOK Tryd.prog 4 c_laws_FnExactEditLine := con_of_ev' (body := Tryd.f4.body.getD .skip) (Λ := loops_laws_FnExactEditLine) mixed Tryd.func4 (by kernel_rfl) (by kernel_rfl) env_laws_FnExactEditLine_ok rfl (by kernel_rfl) (fun n L h => by cases h) F_laws_FnExactEditLine_eq

noncomputable def step_laws_szLogEditS_0 (s : (List (Int × (ByteArray × Bool))) × Int × Int) : Option (((List (Int × (ByteArray × Bool))) × Int × Int) ⊕ ((Int) ⊕ (Int))) :=
  bif (decide (s.2.2 < (s.1.length : Int))) then
    bif decide (0 ≤ s.2.2) && decide (s.2.2 < (s.1.length : Int)) then
      match F_laws_szLogEdit (((s.1.getD (s.2.2).toNat (0, ByteArray.empty, false)), s.2.1)) with
      | none => none
      | some y4 =>
        bif (decide (y4 < 0)) then
          some (.inr (.inl ((-1))))
        else
          let v5 := IntKind.i64.wrap (s.2.2 + 1)
          some (.inl ((s.1, y4, v5)))
    else none
  else
    some (.inr (.inr (s.2.1)))
def pat_laws_szLogEditS_0 : Pat := { tmps := [.v (.slice (.st (.pair (.int .i64) (.pair .str .bool)))), .v (.int .i64), .any, .any, .any, .v (.int .i64), .any, .any, .any, .any, .any, .any, .any, .any, .any, .any, .any, .any, .any, .any, .any, .any, .any, .any, .any, .any, .any], blks := [] }
def outs_laws_szLogEditS_0 : List (Exit × Pat) := [(.ret, { tmps := [.any, .any, .any, .any, .v (.int .i64), .any, .any, .any, .any, .any, .any, .any, .any, .any, .any, .any, .any, .any, .any, .any, .any, .any, .any, .any, .any, .any, .any], blks := [] }), (.exit 0, { tmps := [.any, .v (.int .i64), .any, .any, .any, .any, .any, .any, .any, .any, .any, .any, .any, .any, .any, .any, .any, .any, .any, .any, .any, .any, .any, .any, .any, .any, .any], blks := [] })]
noncomputable def F_laws_szLogEditS (x : (List (Int × (ByteArray × Bool))) × Int) : Option (Int) :=
  let v1 := IntKind.i64.wrap (x.2 - (x.1.length : Int))
  bif (decide (v1 < 0)) then
    some ((-1))
  else
    match runL step_laws_szLogEditS_0 ((x.1, v1, 0)) with
    | none => none
    | some (.inl o6) =>
      some (o6)
    | some (.inr o6) =>
      some (o6)
noncomputable def c_laws_szLogEditS : Con := { ps := [(.val, (.slice (.st (.pair (.int .i64) (.pair .str .bool))))), (.val, (.int .i64))], rs := [(.val, (.int .i64))], F := F_laws_szLogEditS }
noncomputable def env_laws_szLogEditS : Env := { par := [], con := fun f => match f with | 11 => some c_laws_szLogEdit | _ => none, clo := fun _ => none, T := tinf Tryd.prog }
noncomputable def loops_laws_szLogEditS : Nat → Option Loop := fun n => match n with | 5 => some { pat := pat_laws_szLogEditS_0, outs := outs_laws_szLogEditS_0, run := runL (step_laws_szLogEditS_0) } | _ => none
theorem step_laws_szLogEditS_0_eq (s : (List (Int × (ByteArray × Bool))) × Int × Int) : stepEv env_laws_szLogEditS loops_laws_szLogEditS pat_laws_szLogEditS_0 outs_laws_szLogEditS_0 Tryd.f20 5 s = step_laws_szLogEditS_0 s := by kernel_rfl
theorem F_laws_szLogEditS_eq (x : (List (Int × (ByteArray × Bool))) × Int) : Fev env_laws_szLogEditS loops_laws_szLogEditS c_laws_szLogEditS.ps c_laws_szLogEditS.rs Tryd.f20 x = F_laws_szLogEditS x := by kernel_rfl
theorem env_laws_szLogEditS_ok : EnvOK Tryd.prog env_laws_szLogEditS := envOK_of (fun f c h => by
  simp only [env_laws_szLogEditS] at h
  split at h
  · cases h; exact con_laws_szLogEdit
  · cases h) (fun f c h => by cases h) rfl
theorem con_laws_szLogEditS : ConOK Tryd.prog 20 c_laws_szLogEditS := con_of_ev' (body := Tryd.f20.body.getD .skip) (Λ := loops_laws_szLogEditS) mixed Tryd.func20 (by kernel_rfl) (by kernel_rfl) env_laws_szLogEditS_ok rfl (by kernel_rfl) (fun n L h => by
  unfold loops_laws_szLogEditS at h
  split at h
  · cases h; exact fun s o ho => loop_ok (stepF := stepEv env_laws_szLogEditS loops_laws_szLogEditS pat_laws_szLogEditS_0 outs_laws_szLogEditS_0 Tryd.f20 5) (step_laws_szLogEditS_0_eq) ho
  · cases h) F_laws_szLogEditS_eq

noncomputable def step_laws_toLogEditS_0 (s : (List (Int × (ByteArray × Bool))) × Int × (List (Int × (ByteArray × Bool)))) : Option (((List (Int × (ByteArray × Bool))) × Int × (List (Int × (ByteArray × Bool)))) ⊕ (((List (Int × (ByteArray × Bool)))))) :=
  bif (decide (s.2.1 < (s.1.length : Int))) then
    bif decide (0 ≤ s.2.1) && decide (s.2.1 < (s.1.length : Int)) then
      match F_laws_toLogEdit ((s.1.getD (s.2.1).toNat (0, ByteArray.empty, false))) with
      | none => none
      | some y4 =>
        bif decide (0 ≤ s.2.1) && decide (s.2.1 < (s.2.2.length : Int)) then
          let v5 := s.2.2.set (s.2.1).toNat (y4)
          let v6 := IntKind.i64.wrap (s.2.1 + 1)
          some (.inl ((s.1, v6, v5)))
        else none
    else none
  else
    some (.inr (s.2.2))
def pat_laws_toLogEditS_0 : Pat := { tmps := [.v (.slice (.st (.pair (.int .i64) (.pair .str .bool)))), .any, .any, .own 448, .v (.int .i64), .any, .any, .any, .any, .any, .any, .any, .any, .any, .any, .any, .any, .any, .any, .any, .any, .any, .any], blks := [(448, .row true (.st (.pair (.int .i64) (.pair .str .bool))))] }
def outs_laws_toLogEditS_0 : List (Exit × Pat) := [(.exit 0, { tmps := [.any, .any, .any, .own 448, .any, .any, .any, .any, .any, .any, .any, .any, .any, .any, .any, .any, .any, .any, .any, .any, .any, .any, .any], blks := [(448, .row true (.st (.pair (.int .i64) (.pair .str .bool))))] })]
noncomputable def F_laws_toLogEditS (x : (List (Int × (ByteArray × Bool)))) : Option ((List (Int × (ByteArray × Bool)))) :=
  bif decide (0 ≤ (x.length : Int)) && decide ((x.length : Int) ≤ (x.length : Int)) && decide ((x.length : Int) * (32 : Int) ≤ 140737488355328) then
    match runL step_laws_toLogEditS_0 ((x, 0, (List.replicate ((x.length : Int)).toNat ((0, ByteArray.empty, false))))) with
    | none => none
    | some o7 =>
      some (o7)
  else none
noncomputable def c_laws_toLogEditS : Con := { ps := [(.val, (.slice (.st (.pair (.int .i64) (.pair .str .bool)))))], rs := [(.io true, (.slice (.st (.pair (.int .i64) (.pair .str .bool)))))], F := F_laws_toLogEditS }
noncomputable def env_laws_toLogEditS : Env := { par := [], con := fun f => match f with | 13 => some c_laws_toLogEdit | _ => none, clo := fun _ => none, T := tinf Tryd.prog }
noncomputable def loops_laws_toLogEditS : Nat → Option Loop := fun n => match n with | 3 => some { pat := pat_laws_toLogEditS_0, outs := outs_laws_toLogEditS_0, run := runL (step_laws_toLogEditS_0) } | _ => none
theorem step_laws_toLogEditS_0_eq (s : (List (Int × (ByteArray × Bool))) × Int × (List (Int × (ByteArray × Bool)))) : stepEv env_laws_toLogEditS loops_laws_toLogEditS pat_laws_toLogEditS_0 outs_laws_toLogEditS_0 Tryd.f22 3 s = step_laws_toLogEditS_0 s := by kernel_rfl
theorem F_laws_toLogEditS_eq (x : (List (Int × (ByteArray × Bool)))) : Fev env_laws_toLogEditS loops_laws_toLogEditS c_laws_toLogEditS.ps c_laws_toLogEditS.rs Tryd.f22 x = F_laws_toLogEditS x := by kernel_rfl
theorem env_laws_toLogEditS_ok : EnvOK Tryd.prog env_laws_toLogEditS := envOK_of (fun f c h => by
  simp only [env_laws_toLogEditS] at h
  split at h
  · cases h; exact con_laws_toLogEdit
  · cases h) (fun f c h => by cases h) rfl
theorem con_laws_toLogEditS : ConOK Tryd.prog 22 c_laws_toLogEditS := con_of_ev' (body := Tryd.f22.body.getD .skip) (Λ := loops_laws_toLogEditS) mixed Tryd.func22 (by kernel_rfl) (by kernel_rfl) env_laws_toLogEditS_ok rfl (by kernel_rfl) (fun n L h => by
  unfold loops_laws_toLogEditS at h
  split at h
  · cases h; exact fun s o ho => loop_ok (stepF := stepEv env_laws_toLogEditS loops_laws_toLogEditS pat_laws_toLogEditS_0 outs_laws_toLogEditS_0 Tryd.f22 3) (step_laws_toLogEditS_0_eq) ho
  · cases h) F_laws_toLogEditS_eq

noncomputable def step_spec_joGood_0 (s : (List (Int × (ByteArray × Bool))) × (List (Int × (ByteArray × Bool))) × Int × Int) : Option (((List (Int × (ByteArray × Bool))) × (List (Int × (ByteArray × Bool))) × Int × Int) ⊕ ((Bool) ⊕ ((List (Int × (ByteArray × Bool)))))) :=
  bif (decide (s.2.2.2 < s.2.2.1)) then
    bif decide (0 ≤ s.2.2.2) && decide (s.2.2.2 < (s.2.1.length : Int)) then
      match F_spec_joOne ((s.2.1.getD (s.2.2.2).toNat (0, ByteArray.empty, false))) with
      | none => none
      | some y5 =>
        bif (!y5) then
          some (.inr (.inl (false)))
        else
          bif (decide (s.2.2.2 > 0)) then
            let v6 := IntKind.i64.wrap (s.2.2.2 - 1)
            bif decide (0 ≤ v6) && decide (v6 < (s.1.length : Int)) then
              bif (decide ((s.1.getD (v6).toNat (0, ByteArray.empty, false)).1 ≥ (s.2.1.getD (s.2.2.2).toNat (0, ByteArray.empty, false)).1)) then
                some (.inr (.inl (false)))
              else
                let v7 := IntKind.i64.wrap (s.2.2.2 + 1)
                some (.inl ((s.1, (s.2.1, s.2.2.1, v7))))
            else none
          else
            let v8 := IntKind.i64.wrap (s.2.2.2 + 1)
            some (.inl ((s.1, (s.2.1, s.2.2.1, v8))))
    else none
  else
    some (.inr (.inr (s.1)))
def pat_spec_joGood_0 : Pat := { tmps := [.v (.slice (.st (.pair (.int .i64) (.pair .str .bool)))), .any, .any, .any, .any, .v (.slice (.st (.pair (.int .i64) (.pair .str .bool)))), .v (.int .i64), .v (.int .i64), .any, .any, .any, .any, .any, .any, .any, .any, .any, .any, .any, .any, .any, .any, .any, .any, .any, .any, .any, .any, .any, .any, .any, .any, .any, .any], blks := [] }
def outs_spec_joGood_0 : List (Exit × Pat) := [(.ret, { tmps := [.any, .any, .v .bool, .any, .any, .any, .any, .any, .any, .any, .any, .any, .any, .any, .any, .any, .any, .any, .any, .any, .any, .any, .any, .any, .any, .any, .any, .any, .any, .any, .any, .any, .any, .any], blks := [] }), (.exit 0, { tmps := [.v (.slice (.st (.pair (.int .i64) (.pair .str .bool)))), .any, .any, .any, .any, .any, .any, .any, .any, .any, .any, .any, .any, .any, .any, .any, .any, .any, .any, .any, .any, .any, .any, .any, .any, .any, .any, .any, .any, .any, .any, .any, .any, .any], blks := [] })]
noncomputable def F_spec_joGood (x : (List (Int × (ByteArray × Bool)))) : Option (Bool) :=
  match runL step_spec_joGood_0 ((x, (x, (x.length : Int), 0))) with
  | none => none
  | some (.inl o9) =>
    some (o9)
  | some (.inr o9) =>
    some ((decide ((o9.length : Int) ≤ 40)))
noncomputable def c_spec_joGood : Con := { ps := [(.val, (.slice (.st (.pair (.int .i64) (.pair .str .bool)))))], rs := [(.val, .bool)], F := F_spec_joGood }
noncomputable def env_spec_joGood : Env := { par := [], con := fun f => match f with | 31 => some c_spec_joOne | _ => none, clo := fun _ => none, T := tinf Tryd.prog }
noncomputable def loops_spec_joGood : Nat → Option Loop := fun n => match n with | 2 => some { pat := pat_spec_joGood_0, outs := outs_spec_joGood_0, run := runL (step_spec_joGood_0) } | _ => none
theorem step_spec_joGood_0_eq (s : (List (Int × (ByteArray × Bool))) × (List (Int × (ByteArray × Bool))) × Int × Int) : stepEv env_spec_joGood loops_spec_joGood pat_spec_joGood_0 outs_spec_joGood_0 Tryd.f42 2 s = step_spec_joGood_0 s := by kernel_rfl
theorem F_spec_joGood_eq (x : (List (Int × (ByteArray × Bool)))) : Fev env_spec_joGood loops_spec_joGood c_spec_joGood.ps c_spec_joGood.rs Tryd.f42 x = F_spec_joGood x := by kernel_rfl
theorem env_spec_joGood_ok : EnvOK Tryd.prog env_spec_joGood := envOK_of (fun f c h => by
  simp only [env_spec_joGood] at h
  split at h
  · cases h; exact con_spec_joOne
  · cases h) (fun f c h => by cases h) rfl
theorem con_spec_joGood : ConOK Tryd.prog 42 c_spec_joGood := con_of_ev' (body := Tryd.f42.body.getD .skip) (Λ := loops_spec_joGood) mixed Tryd.func42 (by kernel_rfl) (by kernel_rfl) env_spec_joGood_ok rfl (by kernel_rfl) (fun n L h => by
  unfold loops_spec_joGood at h
  split at h
  · cases h; exact fun s o ho => loop_ok (stepF := stepEv env_spec_joGood loops_spec_joGood pat_spec_joGood_0 outs_spec_joGood_0 Tryd.f42 2) (step_spec_joGood_0_eq) ho
  · cases h) F_spec_joGood_eq

noncomputable def step_spec_joText_0 (s : ByteArray × (List (Int × (ByteArray × Bool))) × Int × Int) : Option ((ByteArray × (List (Int × (ByteArray × Bool))) × Int × Int) ⊕ ((ByteArray))) :=
  bif (decide (s.2.2.2 < s.2.2.1)) then
    bif decide (0 ≤ s.2.2.2) && decide (s.2.2.2 < (s.2.1.length : Int)) then
      match F_spec_joLine ((s.2.1.getD (s.2.2.2).toNat (0, ByteArray.empty, false))) with
      | none => none
      | some y3 =>
        bif decide (s.1.size + y3.size ≤ 9223372036854775807) then
          let v4 := IntKind.i64.wrap (s.2.2.2 + 1)
          some (.inl (((s.1 ++ y3), (s.2.1, s.2.2.1, v4))))
        else none
    else none
  else
    some (.inr (s.1))
def pat_spec_joText_0 : Pat := { tmps := [.any, .any, .any, .v .str, .any, .any, .v (.slice (.st (.pair (.int .i64) (.pair .str .bool)))), .v (.int .i64), .v (.int .i64), .any, .any, .any, .any, .any, .any, .any, .any, .any], blks := [] }
def outs_spec_joText_0 : List (Exit × Pat) := [(.exit 0, { tmps := [.any, .any, .any, .v .str, .any, .any, .any, .any, .any, .any, .any, .any, .any, .any, .any, .any, .any, .any], blks := [] })]
noncomputable def F_spec_joText (x : (List (Int × (ByteArray × Bool)))) : Option (ByteArray) :=
  match runL step_spec_joText_0 (((⟨#[]⟩ : ByteArray), (x, (x.length : Int), 0))) with
  | none => none
  | some o5 =>
    some (o5)
noncomputable def c_spec_joText : Con := { ps := [(.val, (.slice (.st (.pair (.int .i64) (.pair .str .bool)))))], rs := [(.val, .str)], F := F_spec_joText }
noncomputable def env_spec_joText : Env := { par := [], con := fun f => match f with | 32 => some c_spec_joLine | _ => none, clo := fun _ => none, T := tinf Tryd.prog }
noncomputable def loops_spec_joText : Nat → Option Loop := fun n => match n with | 3 => some { pat := pat_spec_joText_0, outs := outs_spec_joText_0, run := runL (step_spec_joText_0) } | _ => none
theorem step_spec_joText_0_eq (s : ByteArray × (List (Int × (ByteArray × Bool))) × Int × Int) : stepEv env_spec_joText loops_spec_joText pat_spec_joText_0 outs_spec_joText_0 Tryd.f43 3 s = step_spec_joText_0 s := by kernel_rfl
theorem F_spec_joText_eq (x : (List (Int × (ByteArray × Bool)))) : Fev env_spec_joText loops_spec_joText c_spec_joText.ps c_spec_joText.rs Tryd.f43 x = F_spec_joText x := by kernel_rfl
theorem env_spec_joText_ok : EnvOK Tryd.prog env_spec_joText := envOK_of (fun f c h => by
  simp only [env_spec_joText] at h
  split at h
  · cases h; exact con_spec_joLine
  · cases h) (fun f c h => by cases h) rfl
theorem con_spec_joText : ConOK Tryd.prog 43 c_spec_joText := con_of_ev' (body := Tryd.f43.body.getD .skip) (Λ := loops_spec_joText) mixed Tryd.func43 (by kernel_rfl) (by kernel_rfl) env_spec_joText_ok rfl (by kernel_rfl) (fun n L h => by
  unfold loops_spec_joText at h
  split at h
  · cases h; exact fun s o ho => loop_ok (stepF := stepEv env_spec_joText loops_spec_joText pat_spec_joText_0 outs_spec_joText_0 Tryd.f43 3) (step_spec_joText_0_eq) ho
  · cases h) F_spec_joText_eq

noncomputable def F_spec_EditsText (x : (List (Int × (ByteArray × Bool)))) : Option (ByteArray × Bool) :=
  match F_spec_joGood (x) with
  | none => none
  | some y1 =>
    bif (!y1) then
      some (((⟨#[]⟩ : ByteArray), false))
    else
      match F_spec_joText (x) with
      | none => none
      | some y2 =>
        some ((y2, true))
noncomputable def c_spec_EditsText : Con := { ps := [(.val, (.slice (.st (.pair (.int .i64) (.pair .str .bool)))))], rs := [(.val, .str), (.val, .bool)], F := F_spec_EditsText }
noncomputable def env_spec_EditsText : Env := { par := [], con := fun f => match f with | 42 => some c_spec_joGood | 43 => some c_spec_joText | _ => none, clo := fun _ => none, T := tinf Tryd.prog }
noncomputable def loops_spec_EditsText : Nat → Option Loop := fun n => none
theorem F_spec_EditsText_eq (x : (List (Int × (ByteArray × Bool)))) : Fev env_spec_EditsText loops_spec_EditsText c_spec_EditsText.ps c_spec_EditsText.rs Tryd.f21 x = F_spec_EditsText x := by kernel_rfl
theorem env_spec_EditsText_ok : EnvOK Tryd.prog env_spec_EditsText := envOK_of (fun f c h => by
  simp only [env_spec_EditsText] at h
  split at h
  · cases h; exact con_spec_joGood
  · cases h; exact con_spec_joText
  · cases h) (fun f c h => by cases h) rfl
theorem con_spec_EditsText : ConOK Tryd.prog 21 c_spec_EditsText := con_of_ev' (body := Tryd.f21.body.getD .skip) (Λ := loops_spec_EditsText) mixed Tryd.func21 (by kernel_rfl) (by kernel_rfl) env_spec_EditsText_ok rfl (by kernel_rfl) (fun n L h => by cases h) F_spec_EditsText_eq

noncomputable def step_impl_AreEdits_0 (s : (List (Int × (ByteArray × Bool))) × (List (Int × (ByteArray × Bool))) × Int × Int) : Option (((List (Int × (ByteArray × Bool))) × (List (Int × (ByteArray × Bool))) × Int × Int) ⊕ ((Bool) ⊕ ((List (Int × (ByteArray × Bool)))))) :=
  bif (decide (s.2.2.2 < s.2.2.1)) then
    bif decide (0 ≤ s.2.2.2) && decide (s.2.2.2 < (s.2.1.length : Int)) then
      match F_impl_isLogEdit ((s.2.1.getD (s.2.2.2).toNat (0, ByteArray.empty, false))) with
      | none => none
      | some y5 =>
        bif (!y5) then
          some (.inr (.inl (false)))
        else
          bif (decide (s.2.2.2 > 0)) then
            let v6 := IntKind.i64.wrap (s.2.2.2 - 1)
            bif decide (0 ≤ v6) && decide (v6 < (s.1.length : Int)) then
              bif (decide ((s.2.1.getD (s.2.2.2).toNat (0, ByteArray.empty, false)).1 ≤ (s.1.getD (v6).toNat (0, ByteArray.empty, false)).1)) then
                some (.inr (.inl (false)))
              else
                let v7 := IntKind.i64.wrap (s.2.2.2 + 1)
                some (.inl ((s.1, (s.2.1, s.2.2.1, v7))))
            else none
          else
            let v8 := IntKind.i64.wrap (s.2.2.2 + 1)
            some (.inl ((s.1, (s.2.1, s.2.2.1, v8))))
    else none
  else
    some (.inr (.inr (s.1)))
def pat_impl_AreEdits_0 : Pat := { tmps := [.v (.slice (.st (.pair (.int .i64) (.pair .str .bool)))), .any, .any, .any, .any, .v (.slice (.st (.pair (.int .i64) (.pair .str .bool)))), .v (.int .i64), .v (.int .i64), .any, .any, .any, .any, .any, .any, .any, .any, .any, .any, .any, .any, .any, .any, .any, .any, .any, .any, .any, .any, .any, .any, .any, .any, .any, .any], blks := [] }
def outs_impl_AreEdits_0 : List (Exit × Pat) := [(.ret, { tmps := [.any, .any, .v .bool, .any, .any, .any, .any, .any, .any, .any, .any, .any, .any, .any, .any, .any, .any, .any, .any, .any, .any, .any, .any, .any, .any, .any, .any, .any, .any, .any, .any, .any, .any, .any], blks := [] }), (.exit 0, { tmps := [.v (.slice (.st (.pair (.int .i64) (.pair .str .bool)))), .any, .any, .any, .any, .any, .any, .any, .any, .any, .any, .any, .any, .any, .any, .any, .any, .any, .any, .any, .any, .any, .any, .any, .any, .any, .any, .any, .any, .any, .any, .any, .any, .any], blks := [] })]
noncomputable def F_impl_AreEdits (x : (List (Int × (ByteArray × Bool)))) : Option (Bool) :=
  match runL step_impl_AreEdits_0 ((x, (x, (x.length : Int), 0))) with
  | none => none
  | some (.inl o9) =>
    some (o9)
  | some (.inr o9) =>
    some ((decide ((o9.length : Int) ≤ 40)))
noncomputable def c_impl_AreEdits : Con := { ps := [(.val, (.slice (.st (.pair (.int .i64) (.pair .str .bool)))))], rs := [(.val, .bool)], F := F_impl_AreEdits }
noncomputable def env_impl_AreEdits : Env := { par := [], con := fun f => match f with | 33 => some c_impl_isLogEdit | _ => none, clo := fun _ => none, T := tinf Tryd.prog }
noncomputable def loops_impl_AreEdits : Nat → Option Loop := fun n => match n with | 2 => some { pat := pat_impl_AreEdits_0, outs := outs_impl_AreEdits_0, run := runL (step_impl_AreEdits_0) } | _ => none
theorem step_impl_AreEdits_0_eq (s : (List (Int × (ByteArray × Bool))) × (List (Int × (ByteArray × Bool))) × Int × Int) : stepEv env_impl_AreEdits loops_impl_AreEdits pat_impl_AreEdits_0 outs_impl_AreEdits_0 Tryd.f44 2 s = step_impl_AreEdits_0 s := by kernel_rfl
theorem F_impl_AreEdits_eq (x : (List (Int × (ByteArray × Bool)))) : Fev env_impl_AreEdits loops_impl_AreEdits c_impl_AreEdits.ps c_impl_AreEdits.rs Tryd.f44 x = F_impl_AreEdits x := by kernel_rfl
theorem env_impl_AreEdits_ok : EnvOK Tryd.prog env_impl_AreEdits := envOK_of (fun f c h => by
  simp only [env_impl_AreEdits] at h
  split at h
  · cases h; exact con_impl_isLogEdit
  · cases h) (fun f c h => by cases h) rfl
theorem con_impl_AreEdits : ConOK Tryd.prog 44 c_impl_AreEdits := con_of_ev' (body := Tryd.f44.body.getD .skip) (Λ := loops_impl_AreEdits) mixed Tryd.func44 (by kernel_rfl) (by kernel_rfl) env_impl_AreEdits_ok rfl (by kernel_rfl) (fun n L h => by
  unfold loops_impl_AreEdits at h
  split at h
  · cases h; exact fun s o ho => loop_ok (stepF := stepEv env_impl_AreEdits loops_impl_AreEdits pat_impl_AreEdits_0 outs_impl_AreEdits_0 Tryd.f44 2) (step_impl_AreEdits_0_eq) ho
  · cases h) F_impl_AreEdits_eq

noncomputable def step_impl_editsText_0 (s : ByteArray × (List (Int × (ByteArray × Bool))) × Int × Int) : Option ((ByteArray × (List (Int × (ByteArray × Bool))) × Int × Int) ⊕ ((ByteArray))) :=
  bif (decide (s.2.2.2 < s.2.2.1)) then
    bif decide (0 ≤ s.2.2.2) && decide (s.2.2.2 < (s.2.1.length : Int)) then
      match F_impl_LogEdit_line ((s.2.1.getD (s.2.2.2).toNat (0, ByteArray.empty, false))) with
      | none => none
      | some y3 =>
        bif decide (s.1.size + y3.size ≤ 9223372036854775807) then
          let v4 := IntKind.i64.wrap (s.2.2.2 + 1)
          some (.inl (((s.1 ++ y3), (s.2.1, s.2.2.1, v4))))
        else none
    else none
  else
    some (.inr (s.1))
def pat_impl_editsText_0 : Pat := { tmps := [.any, .any, .any, .v .str, .any, .any, .v (.slice (.st (.pair (.int .i64) (.pair .str .bool)))), .v (.int .i64), .v (.int .i64), .any, .any, .any, .any, .any, .any, .any, .any, .any], blks := [] }
def outs_impl_editsText_0 : List (Exit × Pat) := [(.exit 0, { tmps := [.any, .any, .any, .v .str, .any, .any, .any, .any, .any, .any, .any, .any, .any, .any, .any, .any, .any, .any], blks := [] })]
noncomputable def F_impl_editsText (x : (List (Int × (ByteArray × Bool)))) : Option (ByteArray) :=
  match runL step_impl_editsText_0 (((⟨#[]⟩ : ByteArray), (x, (x.length : Int), 0))) with
  | none => none
  | some o5 =>
    some (o5)
noncomputable def c_impl_editsText : Con := { ps := [(.val, (.slice (.st (.pair (.int .i64) (.pair .str .bool)))))], rs := [(.val, .str)], F := F_impl_editsText }
noncomputable def env_impl_editsText : Env := { par := [], con := fun f => match f with | 34 => some c_impl_LogEdit_line | _ => none, clo := fun _ => none, T := tinf Tryd.prog }
noncomputable def loops_impl_editsText : Nat → Option Loop := fun n => match n with | 3 => some { pat := pat_impl_editsText_0, outs := outs_impl_editsText_0, run := runL (step_impl_editsText_0) } | _ => none
theorem step_impl_editsText_0_eq (s : ByteArray × (List (Int × (ByteArray × Bool))) × Int × Int) : stepEv env_impl_editsText loops_impl_editsText pat_impl_editsText_0 outs_impl_editsText_0 Tryd.f45 3 s = step_impl_editsText_0 s := by kernel_rfl
theorem F_impl_editsText_eq (x : (List (Int × (ByteArray × Bool)))) : Fev env_impl_editsText loops_impl_editsText c_impl_editsText.ps c_impl_editsText.rs Tryd.f45 x = F_impl_editsText x := by kernel_rfl
theorem env_impl_editsText_ok : EnvOK Tryd.prog env_impl_editsText := envOK_of (fun f c h => by
  simp only [env_impl_editsText] at h
  split at h
  · cases h; exact con_impl_LogEdit_line
  · cases h) (fun f c h => by cases h) rfl
theorem con_impl_editsText : ConOK Tryd.prog 45 c_impl_editsText := con_of_ev' (body := Tryd.f45.body.getD .skip) (Λ := loops_impl_editsText) mixed Tryd.func45 (by kernel_rfl) (by kernel_rfl) env_impl_editsText_ok rfl (by kernel_rfl) (fun n L h => by
  unfold loops_impl_editsText at h
  split at h
  · cases h; exact fun s o ho => loop_ok (stepF := stepEv env_impl_editsText loops_impl_editsText pat_impl_editsText_0 outs_impl_editsText_0 Tryd.f45 3) (step_impl_editsText_0_eq) ho
  · cases h) F_impl_editsText_eq

noncomputable def F_impl_EditsText (x : (List (Int × (ByteArray × Bool)))) : Option (ByteArray × Bool) :=
  match F_impl_AreEdits (x) with
  | none => none
  | some y1 =>
    bif (!y1) then
      some (((⟨#[]⟩ : ByteArray), false))
    else
      match F_impl_editsText (x) with
      | none => none
      | some y2 =>
        some ((y2, true))
noncomputable def c_impl_EditsText : Con := { ps := [(.val, (.slice (.st (.pair (.int .i64) (.pair .str .bool)))))], rs := [(.val, .str), (.val, .bool)], F := F_impl_EditsText }
noncomputable def env_impl_EditsText : Env := { par := [], con := fun f => match f with | 44 => some c_impl_AreEdits | 45 => some c_impl_editsText | _ => none, clo := fun _ => none, T := tinf Tryd.prog }
noncomputable def loops_impl_EditsText : Nat → Option Loop := fun n => none
theorem F_impl_EditsText_eq (x : (List (Int × (ByteArray × Bool)))) : Fev env_impl_EditsText loops_impl_EditsText c_impl_EditsText.ps c_impl_EditsText.rs Tryd.f23 x = F_impl_EditsText x := by kernel_rfl
theorem env_impl_EditsText_ok : EnvOK Tryd.prog env_impl_EditsText := envOK_of (fun f c h => by
  simp only [env_impl_EditsText] at h
  split at h
  · cases h; exact con_impl_AreEdits
  · cases h; exact con_impl_editsText
  · cases h) (fun f c h => by cases h) rfl
theorem con_impl_EditsText : ConOK Tryd.prog 23 c_impl_EditsText := con_of_ev' (body := Tryd.f23.body.getD .skip) (Λ := loops_impl_EditsText) mixed Tryd.func23 (by kernel_rfl) (by kernel_rfl) env_impl_EditsText_ok rfl (by kernel_rfl) (fun n L h => by cases h) F_impl_EditsText_eq

noncomputable def F_laws_eqLogEdit (x : (Int × (ByteArray × Bool)) × (Int × (ByteArray × Bool))) : Option (Bool) :=
  bif ((x.1.1 != x.2.1)) then
    some (false)
  else
    bif (!(x.1.2.1.toList == x.2.2.1.toList)) then
      some (false)
    else
      bif (!(x.1.2.2 == x.2.2.2)) then
        some (false)
      else
        some (true)
noncomputable def c_laws_eqLogEdit : Con := { ps := [(.val, (.st (.pair (.int .i64) (.pair .str .bool)))), (.val, (.st (.pair (.int .i64) (.pair .str .bool))))], rs := [(.val, .bool)], F := F_laws_eqLogEdit }
noncomputable def env_laws_eqLogEdit : Env := { par := [], con := fun _ => none, clo := fun _ => none, T := tinf Tryd.prog }
noncomputable def loops_laws_eqLogEdit : Nat → Option Loop := fun n => none
theorem F_laws_eqLogEdit_eq (x : (Int × (ByteArray × Bool)) × (Int × (ByteArray × Bool))) : Fev env_laws_eqLogEdit loops_laws_eqLogEdit c_laws_eqLogEdit.ps c_laws_eqLogEdit.rs Tryd.f46 x = F_laws_eqLogEdit x := by kernel_rfl
theorem env_laws_eqLogEdit_ok : EnvOK Tryd.prog env_laws_eqLogEdit := envOK_of (fun f c h => by cases h) (fun f c h => by cases h) rfl
theorem con_laws_eqLogEdit : ConOK Tryd.prog 46 c_laws_eqLogEdit := con_of_ev' (body := Tryd.f46.body.getD .skip) (Λ := loops_laws_eqLogEdit) mixed Tryd.func46 (by kernel_rfl) (by kernel_rfl) env_laws_eqLogEdit_ok rfl (by kernel_rfl) (fun n L h => by cases h) F_laws_eqLogEdit_eq

noncomputable def step_laws_eqLogEditS_0 (s : (List (Int × (ByteArray × Bool))) × (List (Int × (ByteArray × Bool))) × Int) : Option (((List (Int × (ByteArray × Bool))) × (List (Int × (ByteArray × Bool))) × Int) ⊕ ((Bool) ⊕ (Unit))) :=
  bif (decide (s.2.2 < (s.1.length : Int))) then
    bif decide (0 ≤ s.2.2) && decide (s.2.2 < (s.1.length : Int)) then
      bif decide (0 ≤ s.2.2) && decide (s.2.2 < (s.2.1.length : Int)) then
        match F_laws_eqLogEdit (((s.1.getD (s.2.2).toNat (0, ByteArray.empty, false)), (s.2.1.getD (s.2.2).toNat (0, ByteArray.empty, false)))) with
        | none => none
        | some y3 =>
          bif (!y3) then
            some (.inr (.inl (false)))
          else
            let v4 := IntKind.i64.wrap (s.2.2 + 1)
            some (.inl ((s.1, s.2.1, v4)))
      else none
    else none
  else
    some (.inr (.inr (())))
def pat_laws_eqLogEditS_0 : Pat := { tmps := [.v (.slice (.st (.pair (.int .i64) (.pair .str .bool)))), .v (.slice (.st (.pair (.int .i64) (.pair .str .bool)))), .any, .any, .any, .v (.int .i64), .any, .any, .any, .any, .any, .any, .any, .any, .any, .any, .any, .any, .any, .any, .any, .any, .any, .any, .any, .any, .any], blks := [] }
def outs_laws_eqLogEditS_0 : List (Exit × Pat) := [(.ret, { tmps := [.any, .any, .any, .any, .v .bool, .any, .any, .any, .any, .any, .any, .any, .any, .any, .any, .any, .any, .any, .any, .any, .any, .any, .any, .any, .any, .any, .any], blks := [] }), (.exit 0, { tmps := [.any, .any, .any, .any, .any, .any, .any, .any, .any, .any, .any, .any, .any, .any, .any, .any, .any, .any, .any, .any, .any, .any, .any, .any, .any, .any, .any], blks := [] })]
noncomputable def F_laws_eqLogEditS (x : (List (Int × (ByteArray × Bool))) × (List (Int × (ByteArray × Bool)))) : Option (Bool) :=
  bif (((x.1.length : Int) != (x.2.length : Int))) then
    some (false)
  else
    match runL step_laws_eqLogEditS_0 ((x.1, x.2, 0)) with
    | none => none
    | some (.inl o5) =>
      some (o5)
    | some (.inr o5) =>
      some (true)
noncomputable def c_laws_eqLogEditS : Con := { ps := [(.val, (.slice (.st (.pair (.int .i64) (.pair .str .bool))))), (.val, (.slice (.st (.pair (.int .i64) (.pair .str .bool)))))], rs := [(.val, .bool)], F := F_laws_eqLogEditS }
noncomputable def env_laws_eqLogEditS : Env := { par := [], con := fun f => match f with | 46 => some c_laws_eqLogEdit | _ => none, clo := fun _ => none, T := tinf Tryd.prog }
noncomputable def loops_laws_eqLogEditS : Nat → Option Loop := fun n => match n with | 4 => some { pat := pat_laws_eqLogEditS_0, outs := outs_laws_eqLogEditS_0, run := runL (step_laws_eqLogEditS_0) } | _ => none
theorem step_laws_eqLogEditS_0_eq (s : (List (Int × (ByteArray × Bool))) × (List (Int × (ByteArray × Bool))) × Int) : stepEv env_laws_eqLogEditS loops_laws_eqLogEditS pat_laws_eqLogEditS_0 outs_laws_eqLogEditS_0 Tryd.f24 4 s = step_laws_eqLogEditS_0 s := by kernel_rfl
theorem F_laws_eqLogEditS_eq (x : (List (Int × (ByteArray × Bool))) × (List (Int × (ByteArray × Bool)))) : Fev env_laws_eqLogEditS loops_laws_eqLogEditS c_laws_eqLogEditS.ps c_laws_eqLogEditS.rs Tryd.f24 x = F_laws_eqLogEditS x := by kernel_rfl
theorem env_laws_eqLogEditS_ok : EnvOK Tryd.prog env_laws_eqLogEditS := envOK_of (fun f c h => by
  simp only [env_laws_eqLogEditS] at h
  split at h
  · cases h; exact con_laws_eqLogEdit
  · cases h) (fun f c h => by cases h) rfl
theorem con_laws_eqLogEditS : ConOK Tryd.prog 24 c_laws_eqLogEditS := con_of_ev' (body := Tryd.f24.body.getD .skip) (Λ := loops_laws_eqLogEditS) mixed Tryd.func24 (by kernel_rfl) (by kernel_rfl) env_laws_eqLogEditS_ok rfl (by kernel_rfl) (fun n L h => by
  unfold loops_laws_eqLogEditS at h
  split at h
  · cases h; exact fun s o ho => loop_ok (stepF := stepEv env_laws_eqLogEditS loops_laws_eqLogEditS pat_laws_eqLogEditS_0 outs_laws_eqLogEditS_0 Tryd.f24 4) (step_laws_eqLogEditS_0_eq) ho
  · cases h) F_laws_eqLogEditS_eq

noncomputable def F_laws_FnExactEditsText (x : (List (Int × (ByteArray × Bool)))) : Option (Bool) :=
  match F_laws_szLogEditS ((x, 1048576)) with
  | none => none
  | some y1 =>
    bif (decide (y1 < 0)) then
      some (true)
    else
      match F_laws_toLogEditS (x) with
      | none => none
      | some y2 =>
        match F_spec_EditsText (y2) with
        | none => none
        | some y3 =>
          match F_laws_toLogEditS (x) with
          | none => none
          | some y4 =>
            match F_impl_EditsText (y4) with
            | none => none
            | some y5 =>
              bif (!(y5.1.toList == y3.1.toList)) then
                some (false)
              else
                bif (!(y5.2 == y3.2)) then
                  some (false)
                else
                  match F_laws_toLogEditS (x) with
                  | none => none
                  | some y6 =>
                    match F_laws_eqLogEditS ((y4, y6)) with
                    | none => none
                    | some y7 =>
                      bif (!y7) then
                        some (false)
                      else
                        some (true)
noncomputable def c_laws_FnExactEditsText : Con := { ps := [(.val, (.slice (.st (.pair (.int .i64) (.pair .str .bool)))))], rs := [(.val, .bool)], F := F_laws_FnExactEditsText }
noncomputable def env_laws_FnExactEditsText : Env := { par := [], con := fun f => match f with | 20 => some c_laws_szLogEditS | 21 => some c_spec_EditsText | 22 => some c_laws_toLogEditS | 23 => some c_impl_EditsText | 24 => some c_laws_eqLogEditS | _ => none, clo := fun _ => none, T := tinf Tryd.prog }
noncomputable def loops_laws_FnExactEditsText : Nat → Option Loop := fun n => none
theorem F_laws_FnExactEditsText_eq (x : (List (Int × (ByteArray × Bool)))) : Fev env_laws_FnExactEditsText loops_laws_FnExactEditsText c_laws_FnExactEditsText.ps c_laws_FnExactEditsText.rs Tryd.f6 x = F_laws_FnExactEditsText x := by kernel_rfl
theorem env_laws_FnExactEditsText_ok : EnvOK Tryd.prog env_laws_FnExactEditsText := envOK_of (fun f c h => by
  simp only [env_laws_FnExactEditsText] at h
  split at h
  · cases h; exact con_laws_szLogEditS
  · cases h; exact con_spec_EditsText
  · cases h; exact con_laws_toLogEditS
  · cases h; exact con_impl_EditsText
  · cases h; exact con_laws_eqLogEditS
  · cases h) (fun f c h => by cases h) rfl
theorem con_laws_FnExactEditsText : ConOK Tryd.prog 6 c_laws_FnExactEditsText := con_of_ev' (body := Tryd.f6.body.getD .skip) (Λ := loops_laws_FnExactEditsText) mixed Tryd.func6 (by kernel_rfl) (by kernel_rfl) env_laws_FnExactEditsText_ok rfl (by kernel_rfl) (fun n L h => by cases h) F_laws_FnExactEditsText_eq

noncomputable def F_spec_TearText (x : (List (Int × (ByteArray × Bool))) × Int) : Option (ByteArray × Bool) :=
  match F_spec_joGood (x.1) with
  | none => none
  | some y1 =>
    bif (!y1) then
      some (((⟨#[]⟩ : ByteArray), false))
    else
      match F_spec_joText (x.1) with
      | none => none
      | some y2 =>
        match F_spec_l1In ((x.2, 0, (y2.size : Int))) with
        | none => none
        | some y3 =>
          bif (!y3) then
            some (((⟨#[]⟩ : ByteArray), false))
          else
            match F_spec_joText (x.1) with
            | none => none
            | some y4 =>
              bif decide (0 ≤ (0 : Int)) && decide ((0 : Int) ≤ x.2) && decide (x.2 ≤ (y4.size : Int)) then
                some (((y4.extract ((0 : Int)).toNat (x.2).toNat), true))
              else none
noncomputable def c_spec_TearText : Con := { ps := [(.val, (.slice (.st (.pair (.int .i64) (.pair .str .bool))))), (.val, (.int .i64))], rs := [(.val, .str), (.val, .bool)], F := F_spec_TearText }
noncomputable def env_spec_TearText : Env := { par := [], con := fun f => match f with | 42 => some c_spec_joGood | 43 => some c_spec_joText | 47 => some c_spec_l1In | _ => none, clo := fun _ => none, T := tinf Tryd.prog }
noncomputable def loops_spec_TearText : Nat → Option Loop := fun n => none
theorem F_spec_TearText_eq (x : (List (Int × (ByteArray × Bool))) × Int) : Fev env_spec_TearText loops_spec_TearText c_spec_TearText.ps c_spec_TearText.rs Tryd.f25 x = F_spec_TearText x := by kernel_rfl
theorem env_spec_TearText_ok : EnvOK Tryd.prog env_spec_TearText := envOK_of (fun f c h => by
  simp only [env_spec_TearText] at h
  split at h
  · cases h; exact con_spec_joGood
  · cases h; exact con_spec_joText
  · cases h; exact con_spec_l1In
  · cases h) (fun f c h => by cases h) rfl
theorem con_spec_TearText : ConOK Tryd.prog 25 c_spec_TearText := con_of_ev' (body := Tryd.f25.body.getD .skip) (Λ := loops_spec_TearText) mixed Tryd.func25 (by kernel_rfl) (by kernel_rfl) env_spec_TearText_ok rfl (by kernel_rfl) (fun n L h => by cases h) F_spec_TearText_eq

noncomputable def F_impl_TearText (x : (List (Int × (ByteArray × Bool))) × Int) : Option (ByteArray × Bool) :=
  match F_impl_AreEdits (x.1) with
  | none => none
  | some y1 =>
    bif (!y1) then
      some (((⟨#[]⟩ : ByteArray), false))
    else
      match F_impl_editsText (x.1) with
      | none => none
      | some y2 =>
        match F_impl_within ((x.2, 0, (y2.size : Int))) with
        | none => none
        | some y3 =>
          bif (!y3) then
            some (((⟨#[]⟩ : ByteArray), false))
          else
            match F_impl_editsText (x.1) with
            | none => none
            | some y4 =>
              bif decide (0 ≤ (0 : Int)) && decide ((0 : Int) ≤ x.2) && decide (x.2 ≤ (y4.size : Int)) then
                some (((y4.extract ((0 : Int)).toNat (x.2).toNat), true))
              else none
noncomputable def c_impl_TearText : Con := { ps := [(.val, (.slice (.st (.pair (.int .i64) (.pair .str .bool))))), (.val, (.int .i64))], rs := [(.val, .str), (.val, .bool)], F := F_impl_TearText }
noncomputable def env_impl_TearText : Env := { par := [], con := fun f => match f with | 44 => some c_impl_AreEdits | 45 => some c_impl_editsText | 48 => some c_impl_within | _ => none, clo := fun _ => none, T := tinf Tryd.prog }
noncomputable def loops_impl_TearText : Nat → Option Loop := fun n => none
theorem F_impl_TearText_eq (x : (List (Int × (ByteArray × Bool))) × Int) : Fev env_impl_TearText loops_impl_TearText c_impl_TearText.ps c_impl_TearText.rs Tryd.f26 x = F_impl_TearText x := by kernel_rfl
theorem env_impl_TearText_ok : EnvOK Tryd.prog env_impl_TearText := envOK_of (fun f c h => by
  simp only [env_impl_TearText] at h
  split at h
  · cases h; exact con_impl_AreEdits
  · cases h; exact con_impl_editsText
  · cases h; exact con_impl_within
  · cases h) (fun f c h => by cases h) rfl
theorem con_impl_TearText : ConOK Tryd.prog 26 c_impl_TearText := con_of_ev' (body := Tryd.f26.body.getD .skip) (Λ := loops_impl_TearText) mixed Tryd.func26 (by kernel_rfl) (by kernel_rfl) env_impl_TearText_ok rfl (by kernel_rfl) (fun n L h => by cases h) F_impl_TearText_eq

noncomputable def F_laws_FnExactTearText (x : (List (Int × (ByteArray × Bool))) × Int) : Option (Bool) :=
  match F_laws_szLogEditS ((x.1, 1048576)) with
  | none => none
  | some y1 =>
    bif (decide (y1 < 0)) then
      some (true)
    else
      match F_laws_toLogEditS (x.1) with
      | none => none
      | some y2 =>
        match F_spec_TearText ((y2, x.2)) with
        | none => none
        | some y3 =>
          match F_laws_toLogEditS (x.1) with
          | none => none
          | some y4 =>
            match F_impl_TearText ((y4, x.2)) with
            | none => none
            | some y5 =>
              bif (!(y5.1.toList == y3.1.toList)) then
                some (false)
              else
                bif (!(y5.2 == y3.2)) then
                  some (false)
                else
                  match F_laws_toLogEditS (x.1) with
                  | none => none
                  | some y6 =>
                    match F_laws_eqLogEditS ((y4, y6)) with
                    | none => none
                    | some y7 =>
                      bif (!y7) then
                        some (false)
                      else
                        some (true)
noncomputable def c_laws_FnExactTearText : Con := { ps := [(.val, (.slice (.st (.pair (.int .i64) (.pair .str .bool))))), (.val, (.int .i64))], rs := [(.val, .bool)], F := F_laws_FnExactTearText }
noncomputable def env_laws_FnExactTearText : Env := { par := [], con := fun f => match f with | 20 => some c_laws_szLogEditS | 22 => some c_laws_toLogEditS | 24 => some c_laws_eqLogEditS | 25 => some c_spec_TearText | 26 => some c_impl_TearText | _ => none, clo := fun _ => none, T := tinf Tryd.prog }
noncomputable def loops_laws_FnExactTearText : Nat → Option Loop := fun n => none
theorem F_laws_FnExactTearText_eq (x : (List (Int × (ByteArray × Bool))) × Int) : Fev env_laws_FnExactTearText loops_laws_FnExactTearText c_laws_FnExactTearText.ps c_laws_FnExactTearText.rs Tryd.f7 x = F_laws_FnExactTearText x := by kernel_rfl
theorem env_laws_FnExactTearText_ok : EnvOK Tryd.prog env_laws_FnExactTearText := envOK_of (fun f c h => by
  simp only [env_laws_FnExactTearText] at h
  split at h
  · cases h; exact con_laws_szLogEditS
  · cases h; exact con_laws_toLogEditS
  · cases h; exact con_laws_eqLogEditS
  · cases h; exact con_spec_TearText
  · cases h; exact con_impl_TearText
  · cases h) (fun f c h => by cases h) rfl
theorem con_laws_FnExactTearText : ConOK Tryd.prog 7 c_laws_FnExactTearText := con_of_ev' (body := Tryd.f7.body.getD .skip) (Λ := loops_laws_FnExactTearText) mixed Tryd.func7 (by kernel_rfl) (by kernel_rfl) env_laws_FnExactTearText_ok rfl (by kernel_rfl) (fun n L h => by cases h) F_laws_FnExactTearText_eq

noncomputable def F_spec_DamageText (x : (List (Int × (ByteArray × Bool))) × Int × Int) : Option (ByteArray × Bool) :=
  match F_spec_joGood (x.1) with
  | none => none
  | some y1 =>
    bif (!y1) then
      some (((⟨#[]⟩ : ByteArray), false))
    else
      match F_spec_joText (x.1) with
      | none => none
      | some y2 =>
        let v3 := IntKind.i64.wrap ((y2.size : Int) - 1)
        match F_spec_l1In ((x.2.1, 0, v3)) with
        | none => none
        | some y4 =>
          bif (!y4) then
            some (((⟨#[]⟩ : ByteArray), false))
          else
            match F_spec_l1In ((x.2.2, 0, 255)) with
            | none => none
            | some y5 =>
              bif (!y5) then
                some (((⟨#[]⟩ : ByteArray), false))
              else
                match F_spec_joText (x.1) with
                | none => none
                | some y6 =>
                  bif decide (0 ≤ (0 : Int)) && decide ((0 : Int) ≤ x.2.1) && decide (x.2.1 ≤ (y6.size : Int)) then
                    let v7 := IntKind.u8.wrap x.2.2
                    let v8 := IntKind.i64.wrap (x.2.1 + 1)
                    bif decide (0 ≤ v8) && decide (v8 ≤ (y6.size : Int)) && decide ((y6.size : Int) ≤ (y6.size : Int)) then
                      bif decide ((y6.extract ((0 : Int)).toNat (x.2.1).toNat).size + (bytesStr [v7]).size ≤ 9223372036854775807) then
                        bif decide (((y6.extract ((0 : Int)).toNat (x.2.1).toNat) ++ (bytesStr [v7])).size + (y6.extract (v8).toNat ((y6.size : Int)).toNat).size ≤ 9223372036854775807) then
                          some (((((y6.extract ((0 : Int)).toNat (x.2.1).toNat) ++ (bytesStr [v7])) ++ (y6.extract (v8).toNat ((y6.size : Int)).toNat)), true))
                        else none
                      else none
                    else none
                  else none
noncomputable def c_spec_DamageText : Con := { ps := [(.val, (.slice (.st (.pair (.int .i64) (.pair .str .bool))))), (.val, (.int .i64)), (.val, (.int .i64))], rs := [(.val, .str), (.val, .bool)], F := F_spec_DamageText }
noncomputable def env_spec_DamageText : Env := { par := [], con := fun f => match f with | 42 => some c_spec_joGood | 43 => some c_spec_joText | 47 => some c_spec_l1In | _ => none, clo := fun _ => none, T := tinf Tryd.prog }
noncomputable def loops_spec_DamageText : Nat → Option Loop := fun n => none
theorem F_spec_DamageText_eq (x : (List (Int × (ByteArray × Bool))) × Int × Int) : Fev env_spec_DamageText loops_spec_DamageText c_spec_DamageText.ps c_spec_DamageText.rs Tryd.f27 x = F_spec_DamageText x := by kernel_rfl
theorem env_spec_DamageText_ok : EnvOK Tryd.prog env_spec_DamageText := envOK_of (fun f c h => by
  simp only [env_spec_DamageText] at h
  split at h
  · cases h; exact con_spec_joGood
  · cases h; exact con_spec_joText
  · cases h; exact con_spec_l1In
  · cases h) (fun f c h => by cases h) rfl
theorem con_spec_DamageText : ConOK Tryd.prog 27 c_spec_DamageText := con_of_ev' (body := Tryd.f27.body.getD .skip) (Λ := loops_spec_DamageText) mixed Tryd.func27 (by kernel_rfl) (by kernel_rfl) env_spec_DamageText_ok rfl (by kernel_rfl) (fun n L h => by cases h) F_spec_DamageText_eq

noncomputable def F_impl_DamageText (x : (List (Int × (ByteArray × Bool))) × Int × Int) : Option (ByteArray × Bool) :=
  match F_impl_AreEdits (x.1) with
  | none => none
  | some y1 =>
    bif (!y1) then
      some (((⟨#[]⟩ : ByteArray), false))
    else
      match F_impl_editsText (x.1) with
      | none => none
      | some y2 =>
        let v3 := IntKind.i64.wrap ((y2.size : Int) - 1)
        match F_impl_within ((x.2.1, 0, v3)) with
        | none => none
        | some y4 =>
          bif (!y4) then
            some (((⟨#[]⟩ : ByteArray), false))
          else
            match F_impl_within ((x.2.2, 0, 255)) with
            | none => none
            | some y5 =>
              bif (!y5) then
                some (((⟨#[]⟩ : ByteArray), false))
              else
                match F_impl_editsText (x.1) with
                | none => none
                | some y6 =>
                  let v7 := IntKind.u8.wrap x.2.2
                  bif decide (0 ≤ x.2.1) && decide (x.2.1 < ((strBytes y6).length : Int)) then
                    let v8 := (strBytes y6).set (x.2.1).toNat (v7)
                    some (((bytesStr v8), true))
                  else none
noncomputable def c_impl_DamageText : Con := { ps := [(.val, (.slice (.st (.pair (.int .i64) (.pair .str .bool))))), (.val, (.int .i64)), (.val, (.int .i64))], rs := [(.val, .str), (.val, .bool)], F := F_impl_DamageText }
noncomputable def env_impl_DamageText : Env := { par := [], con := fun f => match f with | 44 => some c_impl_AreEdits | 45 => some c_impl_editsText | 48 => some c_impl_within | _ => none, clo := fun _ => none, T := tinf Tryd.prog }
noncomputable def loops_impl_DamageText : Nat → Option Loop := fun n => none
theorem F_impl_DamageText_eq (x : (List (Int × (ByteArray × Bool))) × Int × Int) : Fev env_impl_DamageText loops_impl_DamageText c_impl_DamageText.ps c_impl_DamageText.rs Tryd.f28 x = F_impl_DamageText x := by kernel_rfl
theorem env_impl_DamageText_ok : EnvOK Tryd.prog env_impl_DamageText := envOK_of (fun f c h => by
  simp only [env_impl_DamageText] at h
  split at h
  · cases h; exact con_impl_AreEdits
  · cases h; exact con_impl_editsText
  · cases h; exact con_impl_within
  · cases h) (fun f c h => by cases h) rfl
theorem con_impl_DamageText : ConOK Tryd.prog 28 c_impl_DamageText := con_of_ev' (body := Tryd.f28.body.getD .skip) (Λ := loops_impl_DamageText) mixed Tryd.func28 (by kernel_rfl) (by kernel_rfl) env_impl_DamageText_ok rfl (by kernel_rfl) (fun n L h => by cases h) F_impl_DamageText_eq

noncomputable def F_laws_FnExactDamageText (x : (List (Int × (ByteArray × Bool))) × Int × Int) : Option (Bool) :=
  match F_laws_szLogEditS ((x.1, 1048576)) with
  | none => none
  | some y1 =>
    bif (decide (y1 < 0)) then
      some (true)
    else
      match F_laws_toLogEditS (x.1) with
      | none => none
      | some y2 =>
        match F_spec_DamageText ((y2, x.2)) with
        | none => none
        | some y3 =>
          match F_laws_toLogEditS (x.1) with
          | none => none
          | some y4 =>
            match F_impl_DamageText ((y4, x.2)) with
            | none => none
            | some y5 =>
              bif (!(y5.1.toList == y3.1.toList)) then
                some (false)
              else
                bif (!(y5.2 == y3.2)) then
                  some (false)
                else
                  match F_laws_toLogEditS (x.1) with
                  | none => none
                  | some y6 =>
                    match F_laws_eqLogEditS ((y4, y6)) with
                    | none => none
                    | some y7 =>
                      bif (!y7) then
                        some (false)
                      else
                        some (true)
noncomputable def c_laws_FnExactDamageText : Con := { ps := [(.val, (.slice (.st (.pair (.int .i64) (.pair .str .bool))))), (.val, (.int .i64)), (.val, (.int .i64))], rs := [(.val, .bool)], F := F_laws_FnExactDamageText }
noncomputable def env_laws_FnExactDamageText : Env := { par := [], con := fun f => match f with | 20 => some c_laws_szLogEditS | 22 => some c_laws_toLogEditS | 24 => some c_laws_eqLogEditS | 27 => some c_spec_DamageText | 28 => some c_impl_DamageText | _ => none, clo := fun _ => none, T := tinf Tryd.prog }
noncomputable def loops_laws_FnExactDamageText : Nat → Option Loop := fun n => none
theorem F_laws_FnExactDamageText_eq (x : (List (Int × (ByteArray × Bool))) × Int × Int) : Fev env_laws_FnExactDamageText loops_laws_FnExactDamageText c_laws_FnExactDamageText.ps c_laws_FnExactDamageText.rs Tryd.f8 x = F_laws_FnExactDamageText x := by kernel_rfl
theorem env_laws_FnExactDamageText_ok : EnvOK Tryd.prog env_laws_FnExactDamageText := envOK_of (fun f c h => by
  simp only [env_laws_FnExactDamageText] at h
  split at h
  · cases h; exact con_laws_szLogEditS
  · cases h; exact con_laws_toLogEditS
  · cases h; exact con_laws_eqLogEditS
  · cases h; exact con_spec_DamageText
  · cases h; exact con_impl_DamageText
  · cases h) (fun f c h => by cases h) rfl
theorem con_laws_FnExactDamageText : ConOK Tryd.prog 8 c_laws_FnExactDamageText := con_of_ev' (body := Tryd.f8.body.getD .skip) (Λ := loops_laws_FnExactDamageText) mixed Tryd.func8 (by kernel_rfl) (by kernel_rfl) env_laws_FnExactDamageText_ok rfl (by kernel_rfl) (fun n L h => by cases h) F_laws_FnExactDamageText_eq

end Go.Proofs.YtbdnmfiaghhhiaaDoor
