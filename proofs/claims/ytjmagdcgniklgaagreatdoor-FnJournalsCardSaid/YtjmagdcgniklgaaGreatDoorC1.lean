/- Contracts of functions of the program, written by a program of this claim. No conditions. -/
import Derived.Test.YtjmagdcgniklgaaGreatDoorC0
set_option linter.unusedVariables false
set_option maxRecDepth 100000
namespace Go.Proofs.YtjmagdcgniklgaaGreatDoor
open Go
noncomputable def step_laws_FnJournals_0 (s : (List (Int × (ByteArray × Bool))) × Int × ByteArray × Bool × ByteArray × ByteArray × Bool × Int × Int × Int × (List (Int × (ByteArray × Bool))) × Int × Int × (List Int) × Int × ByteArray × Bool) : Option (((List (Int × (ByteArray × Bool))) × Int × ByteArray × Bool × ByteArray × ByteArray × Bool × Int × Int × Int × (List (Int × (ByteArray × Bool))) × Int × Int × (List Int) × Int × ByteArray × Bool) ⊕ ((Bool) ⊕ ((List (Int × (ByteArray × Bool))) × Int × ByteArray × Bool × ByteArray × ByteArray × Bool × Int × Int × (List Int) × Int × ByteArray × Bool))) :=
  bif (decide (s.2.2.2.2.2.2.2.2.2.2.2.2.1 < s.2.2.2.2.2.2.2.2.2.2.2.1)) then
    bif decide (0 ≤ s.2.2.2.2.2.2.2.2.2.2.2.2.1) && decide (s.2.2.2.2.2.2.2.2.2.2.2.2.1 < (s.2.2.2.2.2.2.2.2.2.2.1.length : Int)) then
      bif (((s.2.2.2.2.2.2.2.2.2.2.1.getD (s.2.2.2.2.2.2.2.2.2.2.2.2.1).toNat (0, ByteArray.empty, false)).1 == s.2.2.2.2.2.2.2.1)) then
        some (.inr (.inl (false)))
      else
        let v34 := IntKind.i64.wrap (s.2.2.2.2.2.2.2.2.2.2.2.2.1 + 1)
        some (.inl ((s.1, (s.2.1, s.2.2.1, (s.2.2.2.1, s.2.2.2.2.1, (s.2.2.2.2.2.1, s.2.2.2.2.2.2.1, (s.2.2.2.2.2.2.2.1, s.2.2.2.2.2.2.2.2.1, (s.2.2.2.2.2.2.2.2.2.1, s.2.2.2.2.2.2.2.2.2.2.1, (s.2.2.2.2.2.2.2.2.2.2.2.1, v34, s.2.2.2.2.2.2.2.2.2.2.2.2.2)))))))))
    else none
  else
    some (.inr (.inr ((s.1, (s.2.1, s.2.2.1, (s.2.2.2.1, s.2.2.2.2.1, (s.2.2.2.2.2.1, s.2.2.2.2.2.2.1, (s.2.2.2.2.2.2.2.2.1, s.2.2.2.2.2.2.2.2.2.1, s.2.2.2.2.2.2.2.2.2.2.2.2.2))))))))
def pat_laws_FnJournals_0 : Pat := { tmps := [.any, .any, .any, .any, .any, .v (.slice (.st (.pair (.int .i64) (.pair .str .bool)))), .v (.int .i64), .v .str, .v .bool, .v .str, .any, .any, .any, .any, .any, .any, .any, .any, .any, .any, .any, .any, .any, .any, .any, .any, .any, .ptr 1728 0, .v .str, .v .bool, .any, .any, .any, .any, .any, .any, .any, .any, .v (.int .i64), .any, .any, .any, .any, .any, .any, .any, .any, .any, .any, .any, .any, .any, .any, .any, .any, .any, .any, .any, .any, .any, .any, .any, .any, .any, .any, .any, .any, .any, .any, .any, .any, .any, .any, .any, .any, .any, .any, .any, .any, .any, .any, .any, .any, .any, .any, .any, .any, .any, .any, .any, .any, .any, .any, .any, .any, .any, .any, .any, .any, .any, .any, .any, .any, .any, .any, .any, .any, .any, .any, .any, .any, .any, .any, .any, .any, .any, .any, .any, .any, .any, .any, .any, .any, .any, .any, .any, .any, .any, .any, .any, .any, .any, .any, .any, .any, .any, .any, .any, .any, .any, .any, .any, .any, .any, .any, .any, .any, .any, .any, .any, .any, .any, .any, .any, .any, .any, .any, .any, .any, .any, .any, .any, .any, .any, .any, .any, .any, .any, .any, .any, .any, .any, .any, .any, .any, .any, .any, .any, .any, .any, .any, .any, .any, .any, .any, .any, .any, .any, .any, .any, .any, .any, .any, .any, .any, .any, .any, .any, .any, .any, .any, .any, .any, .any, .any, .any, .any, .any, .any, .any, .any, .any, .any, .any, .any, .any, .any, .any, .any, .any, .any, .any, .any, .any, .any, .any, .any, .any, .any, .any, .any, .any, .any, .any, .any, .any, .any, .any, .any, .any, .any, .any, .any, .any, .any, .any, .any, .any, .any, .any, .any, .any, .any, .any, .any, .any, .any, .any, .any, .own 6976, .v (.int .i64), .v (.int .i64), .any, .any, .any, .v (.slice (.st (.pair (.int .i64) (.pair .str .bool)))), .v (.int .i64), .v (.int .i64), .any, .any, .any, .any, .any, .any, .any, .any, .any, .any, .any, .any, .any, .any, .any, .any, .any, .any, .any, .any, .any, .any, .any, .any, .any, .any, .any, .any, .any, .any, .any, .any, .any, .any, .any, .any, .any, .any, .any, .any, .any, .any, .any, .any, .any, .any, .any, .any, .any, .any, .any, .any, .any, .any, .any, .any, .any, .any, .any, .any, .any, .any, .any, .any, .any, .any, .any, .any, .any, .any, .any, .any], blks := [(6976, .row true (.int .i64)), (1728, .box [.v (.int .i64), .v .str, .v .bool])] }
def outs_laws_FnJournals_0 : List (Exit × Pat) := [(.ret, { tmps := [.any, .any, .any, .any, .v .bool, .any, .any, .any, .any, .any, .any, .any, .any, .any, .any, .any, .any, .any, .any, .any, .any, .any, .any, .any, .any, .any, .any, .any, .any, .any, .any, .any, .any, .any, .any, .any, .any, .any, .any, .any, .any, .any, .any, .any, .any, .any, .any, .any, .any, .any, .any, .any, .any, .any, .any, .any, .any, .any, .any, .any, .any, .any, .any, .any, .any, .any, .any, .any, .any, .any, .any, .any, .any, .any, .any, .any, .any, .any, .any, .any, .any, .any, .any, .any, .any, .any, .any, .any, .any, .any, .any, .any, .any, .any, .any, .any, .any, .any, .any, .any, .any, .any, .any, .any, .any, .any, .any, .any, .any, .any, .any, .any, .any, .any, .any, .any, .any, .any, .any, .any, .any, .any, .any, .any, .any, .any, .any, .any, .any, .any, .any, .any, .any, .any, .any, .any, .any, .any, .any, .any, .any, .any, .any, .any, .any, .any, .any, .any, .any, .any, .any, .any, .any, .any, .any, .any, .any, .any, .any, .any, .any, .any, .any, .any, .any, .any, .any, .any, .any, .any, .any, .any, .any, .any, .any, .any, .any, .any, .any, .any, .any, .any, .any, .any, .any, .any, .any, .any, .any, .any, .any, .any, .any, .any, .any, .any, .any, .any, .any, .any, .any, .any, .any, .any, .any, .any, .any, .any, .any, .any, .any, .any, .any, .any, .any, .any, .any, .any, .any, .any, .any, .any, .any, .any, .any, .any, .any, .any, .any, .any, .any, .any, .any, .any, .any, .any, .any, .any, .any, .any, .any, .any, .any, .any, .any, .any, .any, .any, .any, .any, .any, .any, .any, .any, .any, .any, .any, .any, .any, .any, .any, .any, .any, .any, .any, .any, .any, .any, .any, .any, .any, .any, .any, .any, .any, .any, .any, .any, .any, .any, .any, .any, .any, .any, .any, .any, .any, .any, .any, .any, .any, .any, .any, .any, .any, .any, .any, .any, .any, .any, .any, .any, .any, .any, .any, .any, .any, .any, .any, .any, .any, .any, .any, .any, .any, .any, .any, .any, .any, .any, .any, .any, .any, .any, .any, .any, .any, .any, .any, .any, .any, .any, .any, .any, .any, .any, .any, .any, .any, .any], blks := [] }), (.exit 2, { tmps := [.any, .any, .any, .any, .any, .v (.slice (.st (.pair (.int .i64) (.pair .str .bool)))), .v (.int .i64), .v .str, .v .bool, .v .str, .any, .any, .any, .any, .any, .any, .any, .any, .any, .any, .any, .any, .any, .any, .any, .any, .any, .ptr 1728 0, .v .str, .v .bool, .any, .any, .any, .any, .any, .any, .any, .any, .any, .any, .any, .any, .any, .any, .any, .any, .any, .any, .any, .any, .any, .any, .any, .any, .any, .any, .any, .any, .any, .any, .any, .any, .any, .any, .any, .any, .any, .any, .any, .any, .any, .any, .any, .any, .any, .any, .any, .any, .any, .any, .any, .any, .any, .any, .any, .any, .any, .any, .any, .any, .any, .any, .any, .any, .any, .any, .any, .any, .any, .any, .any, .any, .any, .any, .any, .any, .any, .any, .any, .any, .any, .any, .any, .any, .any, .any, .any, .any, .any, .any, .any, .any, .any, .any, .any, .any, .any, .any, .any, .any, .any, .any, .any, .any, .any, .any, .any, .any, .any, .any, .any, .any, .any, .any, .any, .any, .any, .any, .any, .any, .any, .any, .any, .any, .any, .any, .any, .any, .any, .any, .any, .any, .any, .any, .any, .any, .any, .any, .any, .any, .any, .any, .any, .any, .any, .any, .any, .any, .any, .any, .any, .any, .any, .any, .any, .any, .any, .any, .any, .any, .any, .any, .any, .any, .any, .any, .any, .any, .any, .any, .any, .any, .any, .any, .any, .any, .any, .any, .any, .any, .any, .any, .any, .any, .any, .any, .any, .any, .any, .any, .any, .any, .any, .any, .any, .any, .any, .any, .any, .any, .any, .any, .any, .any, .any, .any, .any, .any, .any, .any, .any, .any, .any, .any, .any, .any, .any, .any, .any, .any, .any, .any, .any, .any, .any, .any, .any, .any, .any, .own 6976, .v (.int .i64), .v (.int .i64), .any, .any, .any, .any, .any, .any, .any, .any, .any, .any, .any, .any, .any, .any, .any, .any, .any, .any, .any, .any, .any, .any, .any, .any, .any, .any, .any, .any, .any, .any, .any, .any, .any, .any, .any, .any, .any, .any, .any, .any, .any, .any, .any, .any, .any, .any, .any, .any, .any, .any, .any, .any, .any, .any, .any, .any, .any, .any, .any, .any, .any, .any, .any, .any, .any, .any, .any, .any, .any, .any, .any, .any, .any, .any, .any, .any, .any, .any], blks := [(6976, .row true (.int .i64)), (1728, .box [.v (.int .i64), .v .str, .v .bool])] })]
noncomputable def step_laws_FnJournals_1 (s : (List (Int × (ByteArray × Bool))) × Int × ByteArray × Bool × ByteArray × ByteArray × Bool × Int × Int × (List Int) × Int × ByteArray × Bool) : Option (((List (Int × (ByteArray × Bool))) × Int × ByteArray × Bool × ByteArray × ByteArray × Bool × Int × Int × (List Int) × Int × ByteArray × Bool) ⊕ ((Bool) ⊕ ((List (Int × (ByteArray × Bool))) × Int × ByteArray × Bool × ByteArray × ByteArray × Bool × Int × ByteArray × Bool))) :=
  bif (decide (s.2.2.2.2.2.2.2.2.1 < s.2.2.2.2.2.2.2.1)) then
    bif decide (0 ≤ s.2.2.2.2.2.2.2.2.1) && decide (s.2.2.2.2.2.2.2.2.1 < (s.2.2.2.2.2.2.2.2.2.1.length : Int)) then
      match runL step_laws_FnJournals_0 ((s.1, (s.2.1, s.2.2.1, (s.2.2.2.1, s.2.2.2.2.1, (s.2.2.2.2.2.1, s.2.2.2.2.2.2.1, ((s.2.2.2.2.2.2.2.2.2.1.getD (s.2.2.2.2.2.2.2.2.1).toNat 0), s.2.2.2.2.2.2.2.1, (s.2.2.2.2.2.2.2.2.1, s.1, ((s.1.length : Int), 0, s.2.2.2.2.2.2.2.2.2)))))))) with
      | none => none
      | some (.inl o35) =>
        some (.inr (.inl (o35)))
      | some (.inr o35) =>
        let v36 := IntKind.i64.wrap (o35.2.2.2.2.2.2.2.2.1 + 1)
        some (.inl ((o35.1, (o35.2.1, o35.2.2.1, (o35.2.2.2.1, o35.2.2.2.2.1, (o35.2.2.2.2.2.1, o35.2.2.2.2.2.2.1, (o35.2.2.2.2.2.2.2.1, v36, o35.2.2.2.2.2.2.2.2.2)))))))
    else none
  else
    some (.inr (.inr ((s.1, (s.2.1, s.2.2.1, (s.2.2.2.1, s.2.2.2.2.1, (s.2.2.2.2.2.1, s.2.2.2.2.2.2.1, s.2.2.2.2.2.2.2.2.2.2)))))))
def pat_laws_FnJournals_1 : Pat := { tmps := [.any, .any, .any, .any, .any, .v (.slice (.st (.pair (.int .i64) (.pair .str .bool)))), .v (.int .i64), .v .str, .v .bool, .v .str, .any, .any, .any, .any, .any, .any, .any, .any, .any, .any, .any, .any, .any, .any, .any, .any, .any, .ptr 1728 0, .v .str, .v .bool, .any, .any, .any, .any, .any, .any, .any, .any, .any, .any, .any, .any, .any, .any, .any, .any, .any, .any, .any, .any, .any, .any, .any, .any, .any, .any, .any, .any, .any, .any, .any, .any, .any, .any, .any, .any, .any, .any, .any, .any, .any, .any, .any, .any, .any, .any, .any, .any, .any, .any, .any, .any, .any, .any, .any, .any, .any, .any, .any, .any, .any, .any, .any, .any, .any, .any, .any, .any, .any, .any, .any, .any, .any, .any, .any, .any, .any, .any, .any, .any, .any, .any, .any, .any, .any, .any, .any, .any, .any, .any, .any, .any, .any, .any, .any, .any, .any, .any, .any, .any, .any, .any, .any, .any, .any, .any, .any, .any, .any, .any, .any, .any, .any, .any, .any, .any, .any, .any, .any, .any, .any, .any, .any, .any, .any, .any, .any, .any, .any, .any, .any, .any, .any, .any, .any, .any, .any, .any, .any, .any, .any, .any, .any, .any, .any, .any, .any, .any, .any, .any, .any, .any, .any, .any, .any, .any, .any, .any, .any, .any, .any, .any, .any, .any, .any, .any, .any, .any, .any, .any, .any, .any, .any, .any, .any, .any, .any, .any, .any, .any, .any, .any, .any, .any, .any, .any, .any, .any, .any, .any, .any, .any, .any, .any, .any, .any, .any, .any, .any, .any, .any, .any, .any, .any, .any, .any, .any, .any, .any, .any, .any, .any, .any, .any, .any, .any, .any, .any, .any, .any, .any, .any, .any, .any, .any, .any, .any, .any, .any, .own 6976, .v (.int .i64), .v (.int .i64), .any, .any, .any, .any, .any, .any, .any, .any, .any, .any, .any, .any, .any, .any, .any, .any, .any, .any, .any, .any, .any, .any, .any, .any, .any, .any, .any, .any, .any, .any, .any, .any, .any, .any, .any, .any, .any, .any, .any, .any, .any, .any, .any, .any, .any, .any, .any, .any, .any, .any, .any, .any, .any, .any, .any, .any, .any, .any, .any, .any, .any, .any, .any, .any, .any, .any, .any, .any, .any, .any, .any, .any, .any, .any, .any, .any, .any, .any], blks := [(6976, .row true (.int .i64)), (1728, .box [.v (.int .i64), .v .str, .v .bool])] }
def outs_laws_FnJournals_1 : List (Exit × Pat) := [(.ret, { tmps := [.any, .any, .any, .any, .v .bool, .any, .any, .any, .any, .any, .any, .any, .any, .any, .any, .any, .any, .any, .any, .any, .any, .any, .any, .any, .any, .any, .any, .any, .any, .any, .any, .any, .any, .any, .any, .any, .any, .any, .any, .any, .any, .any, .any, .any, .any, .any, .any, .any, .any, .any, .any, .any, .any, .any, .any, .any, .any, .any, .any, .any, .any, .any, .any, .any, .any, .any, .any, .any, .any, .any, .any, .any, .any, .any, .any, .any, .any, .any, .any, .any, .any, .any, .any, .any, .any, .any, .any, .any, .any, .any, .any, .any, .any, .any, .any, .any, .any, .any, .any, .any, .any, .any, .any, .any, .any, .any, .any, .any, .any, .any, .any, .any, .any, .any, .any, .any, .any, .any, .any, .any, .any, .any, .any, .any, .any, .any, .any, .any, .any, .any, .any, .any, .any, .any, .any, .any, .any, .any, .any, .any, .any, .any, .any, .any, .any, .any, .any, .any, .any, .any, .any, .any, .any, .any, .any, .any, .any, .any, .any, .any, .any, .any, .any, .any, .any, .any, .any, .any, .any, .any, .any, .any, .any, .any, .any, .any, .any, .any, .any, .any, .any, .any, .any, .any, .any, .any, .any, .any, .any, .any, .any, .any, .any, .any, .any, .any, .any, .any, .any, .any, .any, .any, .any, .any, .any, .any, .any, .any, .any, .any, .any, .any, .any, .any, .any, .any, .any, .any, .any, .any, .any, .any, .any, .any, .any, .any, .any, .any, .any, .any, .any, .any, .any, .any, .any, .any, .any, .any, .any, .any, .any, .any, .any, .any, .any, .any, .any, .any, .any, .any, .any, .any, .any, .any, .any, .any, .any, .any, .any, .any, .any, .any, .any, .any, .any, .any, .any, .any, .any, .any, .any, .any, .any, .any, .any, .any, .any, .any, .any, .any, .any, .any, .any, .any, .any, .any, .any, .any, .any, .any, .any, .any, .any, .any, .any, .any, .any, .any, .any, .any, .any, .any, .any, .any, .any, .any, .any, .any, .any, .any, .any, .any, .any, .any, .any, .any, .any, .any, .any, .any, .any, .any, .any, .any, .any, .any, .any, .any, .any, .any, .any, .any, .any, .any, .any, .any, .any, .any, .any, .any], blks := [] }), (.exit 0, { tmps := [.any, .any, .any, .any, .any, .v (.slice (.st (.pair (.int .i64) (.pair .str .bool)))), .v (.int .i64), .v .str, .v .bool, .v .str, .any, .any, .any, .any, .any, .any, .any, .any, .any, .any, .any, .any, .any, .any, .any, .any, .any, .ptr 1728 0, .v .str, .v .bool, .any, .any, .any, .any, .any, .any, .any, .any, .any, .any, .any, .any, .any, .any, .any, .any, .any, .any, .any, .any, .any, .any, .any, .any, .any, .any, .any, .any, .any, .any, .any, .any, .any, .any, .any, .any, .any, .any, .any, .any, .any, .any, .any, .any, .any, .any, .any, .any, .any, .any, .any, .any, .any, .any, .any, .any, .any, .any, .any, .any, .any, .any, .any, .any, .any, .any, .any, .any, .any, .any, .any, .any, .any, .any, .any, .any, .any, .any, .any, .any, .any, .any, .any, .any, .any, .any, .any, .any, .any, .any, .any, .any, .any, .any, .any, .any, .any, .any, .any, .any, .any, .any, .any, .any, .any, .any, .any, .any, .any, .any, .any, .any, .any, .any, .any, .any, .any, .any, .any, .any, .any, .any, .any, .any, .any, .any, .any, .any, .any, .any, .any, .any, .any, .any, .any, .any, .any, .any, .any, .any, .any, .any, .any, .any, .any, .any, .any, .any, .any, .any, .any, .any, .any, .any, .any, .any, .any, .any, .any, .any, .any, .any, .any, .any, .any, .any, .any, .any, .any, .any, .any, .any, .any, .any, .any, .any, .any, .any, .any, .any, .any, .any, .any, .any, .any, .any, .any, .any, .any, .any, .any, .any, .any, .any, .any, .any, .any, .any, .any, .any, .any, .any, .any, .any, .any, .any, .any, .any, .any, .any, .any, .any, .any, .any, .any, .any, .any, .any, .any, .any, .any, .any, .any, .any, .any, .any, .any, .any, .any, .any, .any, .any, .any, .any, .any, .any, .any, .any, .any, .any, .any, .any, .any, .any, .any, .any, .any, .any, .any, .any, .any, .any, .any, .any, .any, .any, .any, .any, .any, .any, .any, .any, .any, .any, .any, .any, .any, .any, .any, .any, .any, .any, .any, .any, .any, .any, .any, .any, .any, .any, .any, .any, .any, .any, .any, .any, .any, .any, .any, .any, .any, .any, .any, .any, .any, .any, .any, .any, .any, .any, .any, .any, .any, .any, .any, .any, .any, .any, .any, .any], blks := [(1728, .box [.v (.int .i64), .v .str, .v .bool])] })]
def pat_laws_FnJournals_J19 : Pat := { tmps := [.any, .any, .any, .any, .any, .v (.slice (.st (.pair (.int .i64) (.pair .str .bool)))), .v (.int .i64), .v .str, .v .bool, .v .str, .any, .v .str, .v .bool, .v .str, .any, .any, .any, .v (.slice .str), .any, .own 6016, .any, .any, .any, .any, .any, .own 6976, .any, .ptr 1728 0, .v .str, .v .bool, .any, .any, .any, .any, .any, .any, .any, .any, .any, .any, .any, .any, .any, .any, .any, .any, .any, .any, .any, .any, .any, .any, .any, .any, .any, .any, .any, .any, .any, .any, .any, .any, .any, .any, .any, .any, .any, .any, .any, .any, .any, .any, .any, .any, .any, .any, .any, .any, .any, .any, .any, .any, .any, .any, .any, .any, .any, .any, .any, .any, .any, .any, .any, .any, .any, .any, .any, .any, .any, .any, .any, .any, .any, .any, .any, .any, .any, .any, .any, .any, .any, .any, .any, .any, .any, .any, .any, .any, .any, .any, .any, .any, .any, .any, .any, .any, .any, .any, .any, .any, .any, .any, .any, .any, .any, .any, .any, .any, .any, .any, .any, .any, .any, .any, .any, .any, .any, .any, .any, .any, .any, .any, .any, .any, .any, .any, .any, .any, .any, .any, .any, .any, .any, .any, .any, .any, .any, .any, .any, .any, .any, .any, .any, .any, .any, .any, .any, .any, .any, .any, .any, .any, .any, .any, .any, .any, .any, .any, .any, .any, .any, .any, .any, .any, .any, .any, .any, .any, .any, .any, .any, .any, .any, .any, .any, .any, .any, .any, .any, .any, .any, .any, .any, .any, .any, .any, .any, .any, .any, .any, .any, .any, .any, .any, .any, .any, .any, .any, .any, .any, .any, .any, .any, .any, .any, .any, .any, .any, .any, .any, .any, .any, .any, .any, .any, .any, .any, .any, .any, .any, .any, .any, .any, .any, .any, .any, .any, .any, .any, .any, .any, .any, .any, .any, .any, .any, .any, .any, .any, .any, .any, .any, .any, .any, .any, .any, .any, .any, .any, .any, .any, .any, .any, .any, .any, .any, .any, .any, .any, .any, .any, .any, .any, .any, .any, .any, .any, .any, .any, .any, .any, .any, .any, .any, .any, .any, .any, .any, .any, .any, .any, .any, .any, .any, .any, .any, .any, .any, .any, .any, .any, .any, .any, .any, .any, .any, .any, .any, .any, .any, .any, .any, .any, .any, .any, .any, .any, .any, .any, .any], blks := [(1728, .box [.v (.int .i64), .v .str, .v .bool]), (6976, .row true (.int .i64)), (6016, .row true (.st (.pair (.int .i64) (.pair .str .bool))))] }
def pat_laws_FnJournals_J24 : Pat := { tmps := [.any, .any, .any, .any, .any, .v (.slice (.st (.pair (.int .i64) (.pair .str .bool)))), .v (.int .i64), .v .str, .v .bool, .v .str, .any, .any, .any, .any, .any, .any, .any, .any, .any, .any, .any, .any, .any, .any, .any, .own 6976, .any, .ptr 1728 0, .v .str, .v .bool, .any, .any, .any, .any, .any, .any, .any, .any, .any, .any, .any, .any, .any, .any, .any, .any, .any, .any, .any, .any, .any, .any, .any, .any, .any, .any, .any, .any, .any, .any, .any, .any, .any, .any, .any, .any, .any, .any, .any, .any, .any, .any, .any, .any, .any, .any, .any, .any, .any, .any, .any, .any, .any, .any, .any, .any, .any, .any, .any, .any, .any, .any, .any, .any, .any, .any, .any, .any, .any, .any, .any, .any, .any, .any, .any, .any, .any, .any, .any, .any, .any, .any, .any, .any, .any, .any, .any, .any, .any, .any, .any, .any, .any, .any, .any, .any, .any, .any, .any, .any, .any, .any, .any, .any, .any, .any, .any, .any, .any, .any, .any, .any, .any, .any, .any, .any, .any, .any, .any, .any, .any, .any, .any, .any, .any, .any, .any, .any, .any, .any, .any, .any, .any, .any, .any, .any, .any, .any, .any, .any, .any, .any, .any, .any, .any, .any, .any, .any, .any, .any, .any, .any, .any, .any, .any, .any, .any, .any, .any, .any, .any, .any, .any, .any, .any, .any, .any, .any, .any, .any, .any, .any, .any, .any, .any, .any, .any, .any, .any, .any, .any, .any, .any, .any, .any, .any, .any, .any, .any, .any, .any, .any, .any, .any, .any, .any, .any, .any, .any, .any, .any, .any, .any, .any, .any, .any, .any, .any, .any, .any, .any, .any, .any, .any, .any, .any, .any, .any, .any, .any, .any, .any, .any, .any, .any, .any, .any, .any, .any, .any, .any, .any, .any, .any, .any, .any, .any, .any, .any, .any, .any, .any, .any, .any, .any, .any, .any, .any, .any, .any, .any, .any, .any, .any, .any, .any, .any, .any, .any, .any, .any, .any, .any, .any, .any, .any, .any, .any, .any, .any, .any, .any, .any, .any, .any, .any, .any, .any, .any, .any, .any, .any, .any, .any, .any, .any, .any, .any, .any, .any, .any, .any, .any, .any, .any, .any, .any, .any, .any, .any, .any, .any, .any, .any, .any, .any, .any, .any, .any, .any], blks := [(1728, .box [.v (.int .i64), .v .str, .v .bool]), (6976, .row true (.int .i64))] }
def pat_laws_FnJournals_J34 : Pat := { tmps := [.any, .any, .any, .any, .any, .v (.slice (.st (.pair (.int .i64) (.pair .str .bool)))), .v (.int .i64), .v .str, .v .bool, .v .str, .any, .any, .any, .any, .any, .any, .any, .any, .any, .any, .any, .any, .any, .any, .any, .any, .any, .ptr 1728 0, .v .str, .v .bool, .any, .any, .any, .any, .any, .any, .any, .any, .any, .any, .any, .any, .any, .any, .any, .any, .any, .any, .any, .any, .any, .any, .any, .any, .any, .any, .any, .any, .any, .any, .any, .any, .any, .any, .any, .any, .any, .any, .any, .any, .any, .any, .any, .any, .any, .any, .any, .any, .any, .any, .any, .any, .any, .any, .any, .any, .any, .any, .any, .any, .any, .any, .any, .any, .any, .any, .any, .any, .any, .any, .any, .any, .any, .any, .any, .any, .any, .any, .any, .any, .any, .any, .any, .any, .any, .any, .any, .any, .any, .any, .any, .any, .any, .any, .any, .any, .any, .any, .any, .any, .any, .any, .any, .any, .any, .any, .any, .any, .any, .any, .any, .any, .any, .any, .any, .any, .any, .any, .any, .any, .any, .any, .any, .any, .any, .any, .any, .any, .any, .any, .any, .any, .any, .any, .any, .any, .any, .any, .any, .any, .any, .any, .any, .any, .any, .any, .any, .any, .any, .any, .any, .any, .any, .any, .any, .any, .any, .any, .any, .any, .any, .any, .any, .any, .any, .any, .any, .any, .any, .any, .any, .any, .any, .any, .any, .any, .any, .any, .any, .any, .any, .any, .any, .any, .any, .any, .any, .any, .any, .any, .any, .any, .any, .any, .any, .any, .any, .any, .any, .any, .any, .any, .any, .any, .any, .any, .any, .any, .any, .any, .any, .any, .any, .any, .any, .any, .any, .any, .any, .any, .any, .any, .any, .any, .any, .any, .any, .any, .any, .any, .any, .any, .any, .any, .any, .any, .any, .any, .any, .any, .any, .any, .any, .any, .any, .any, .any, .any, .any, .any, .any, .any, .any, .any, .any, .any, .any, .any, .any, .any, .any, .any, .any, .any, .any, .any, .any, .any, .any, .any, .any, .any, .any, .any, .any, .any, .any, .any, .any, .any, .any, .any, .any, .any, .any, .any, .any, .any, .any, .any, .any, .any, .any, .any, .any, .any, .any, .any, .any, .any, .any, .any, .any, .any, .any, .any, .any, .any, .any, .any], blks := [(1728, .box [.v (.int .i64), .v .str, .v .bool])] }
def pat_laws_FnJournals_J39 : Pat := { tmps := [.any, .any, .any, .any, .any, .any, .any, .any, .any, .any, .any, .any, .any, .any, .any, .any, .any, .any, .any, .any, .any, .any, .any, .any, .any, .any, .any, .ptr 1728 0, .v .str, .v .bool, .any, .any, .any, .any, .any, .any, .any, .any, .any, .any, .any, .any, .any, .any, .any, .any, .any, .any, .any, .any, .any, .any, .any, .any, .any, .any, .any, .any, .any, .any, .any, .any, .any, .any, .any, .any, .any, .any, .any, .any, .any, .any, .any, .any, .any, .any, .any, .any, .any, .any, .any, .any, .any, .any, .any, .any, .any, .any, .any, .any, .any, .any, .any, .any, .any, .any, .any, .any, .any, .any, .any, .any, .any, .any, .any, .any, .any, .any, .any, .any, .any, .any, .any, .any, .any, .any, .any, .any, .any, .any, .any, .any, .any, .any, .any, .any, .any, .any, .any, .any, .any, .any, .any, .any, .any, .any, .any, .any, .any, .any, .any, .any, .any, .any, .any, .any, .any, .any, .any, .any, .any, .any, .any, .any, .any, .any, .any, .any, .any, .any, .any, .any, .any, .any, .any, .any, .any, .any, .any, .any, .any, .any, .any, .any, .any, .any, .any, .any, .any, .any, .any, .any, .any, .any, .any, .any, .any, .any, .any, .any, .any, .any, .any, .any, .any, .any, .any, .any, .any, .any, .any, .any, .any, .any, .any, .any, .any, .any, .any, .any, .any, .any, .any, .any, .any, .any, .any, .any, .any, .any, .any, .any, .any, .any, .any, .any, .any, .any, .any, .any, .any, .any, .any, .any, .any, .any, .any, .any, .any, .any, .any, .any, .any, .any, .any, .any, .any, .any, .any, .any, .any, .any, .any, .any, .any, .any, .any, .any, .any, .any, .any, .any, .any, .any, .any, .any, .any, .any, .any, .any, .any, .any, .any, .any, .any, .any, .any, .any, .any, .any, .any, .any, .any, .any, .any, .any, .any, .any, .any, .any, .any, .any, .any, .any, .any, .any, .any, .any, .any, .any, .any, .any, .any, .any, .any, .any, .any, .any, .any, .any, .any, .any, .any, .any, .any, .any, .any, .any, .any, .any, .any, .any, .any, .any, .any, .any, .any, .any, .any, .any, .any, .any, .any, .any, .any, .any, .any, .any, .any, .any], blks := [(1728, .box [.v (.int .i64), .v .str, .v .bool])] }
noncomputable def F_laws_FnJournals (x : (List Int) × (List Int)) : Option (Bool) :=
  let v1 := IntKind.i64.wrap ((x.1.length : Int) + (x.2.length : Int))
  bif (decide (v1 > 1048576)) then
    some (true)
  else
    match F_spec_DrawTearText (x.1) with
    | none => none
    | some y2 =>
      match F_impl_TearText (y2) with
      | none => none
      | some y3 =>
        match F_spec_TearText (y2) with
        | none => none
        | some y4 =>
          match F_impl_EditsText (y2.1) with
          | none => none
          | some y5 =>
            match F_spec_EditsText (y2.1) with
            | none => none
            | some y6 =>
              match F_impl_GlossesIn (y2.1) with
              | none => none
              | some y7 =>
                match F_spec_GlossesIn (y2.1) with
                | none => none
                | some y8 =>
                  match F_impl_ShortenEdits (y2.1) with
                  | none => none
                  | some y9 =>
                    match F_spec_ShortenEdits (y2.1) with
                    | none => none
                    | some y10 =>
                      match F_impl_MissingEdits (y2.1) with
                      | none => none
                      | some y11 =>
                        match F_spec_MissingEdits (y2.1) with
                        | none => none
                        | some y12 =>
                          match F_spec_DrawEditLine (x.2) with
                          | none => none
                          | some y13 =>
                            match F_impl_EditLine (y13) with
                            | none => none
                            | some y14 =>
                              match F_spec_EditLine (y13) with
                              | none => none
                              | some y15 =>
                                match (bif (!(y3.2 == y4.2)) then
                                  some (.inr (false))
                                else
                                  bif (!(y3.1.toList == y4.1.toList)) then
                                    some (.inr (false))
                                  else
                                    bif (!(y5.2 == y6.2)) then
                                      some (.inr (false))
                                    else
                                      bif (!(y5.1.toList == y6.1.toList)) then
                                        some (.inr (false))
                                      else
                                        bif (!(y7.2 == y8.2)) then
                                          some (.inr (false))
                                        else
                                          match F_laws_qTexts ((y7.1, y8.1)) with
                                          | none => none
                                          | some y16 =>
                                            bif (!y16) then
                                              some (.inr (false))
                                            else
                                              bif (!(y9.2 == y10.2)) then
                                                some (.inr (false))
                                              else
                                                match F_laws_qEdits ((y9.1, y10.1)) with
                                                | none => none
                                                | some y17 =>
                                                  bif (!y17) then
                                                    some (.inr (false))
                                                  else
                                                    bif (!(y11.2 == y12.2)) then
                                                      some (.inr (false))
                                                    else
                                                      match F_laws_qInts ((y11.1, y12.1)) with
                                                      | none => none
                                                      | some y18 =>
                                                        bif (!y18) then
                                                          some (.inr (false))
                                                        else
                                                          bif (!(y14.2 == y15.2)) then
                                                            some (.inr (false))
                                                          else
                                                            bif (!(y14.1.toList == y15.1.toList)) then
                                                              some (.inr (false))
                                                            else
                                                              match F_impl_AreEdits (y2.1) with
                                                              | none => none
                                                              | some y19 =>
                                                                bif (!(y5.2 == y19)) then
                                                                  some (.inr (false))
                                                                else
                                                                  bif (!(y7.2 == y5.2)) then
                                                                    some (.inr (false))
                                                                  else
                                                                    bif (!(y9.2 == y5.2)) then
                                                                      some (.inr (false))
                                                                    else
                                                                      bif (!(y11.2 == y5.2)) then
                                                                        some (.inr (false))
                                                                      else
                                                                        bif y3.2 then
                                                                          bif (!y5.2) then
                                                                            some (.inr (false))
                                                                          else
                                                                            some (.inl ((y2.1, (y2.2, y3.1, (y3.2, y4.1, (y5.1, y5.2, (y6.1, y8.1, (y14.1, y14.2, (y13.1, y13.2.1, (y13.2.2, y12.1, y9.1))))))))))
                                                                        else
                                                                          some (.inl ((y2.1, (y2.2, y3.1, (y3.2, y4.1, (y5.1, y5.2, (y6.1, y8.1, (y14.1, y14.2, (y13.1, y13.2.1, (y13.2.2, y12.1, y9.1)))))))))) : Option (((List (Int × (ByteArray × Bool))) × Int × ByteArray × Bool × ByteArray × ByteArray × Bool × ByteArray × (List ByteArray) × ByteArray × Bool × Int × ByteArray × Bool × (List Int) × (List (Int × (ByteArray × Bool)))) ⊕ (Bool))) with
                                | none => none
                                | some (.inl j20) =>
                                  match (bif j20.2.2.2.2.2.2.1 then
                                    match F_impl_ReadEdits (j20.2.2.2.2.2.1) with
                                    | none => none
                                    | some y21 =>
                                      match F_impl_GlossesIn (j20.2.2.2.2.2.2.2.2.2.2.2.2.2.2.2) with
                                      | none => none
                                      | some y22 =>
                                        match (bif (decide ((j20.2.2.2.2.2.2.2.1.size : Int) ≤ 2000)) then
                                          bif (!y21.2.2) then
                                            some (.inr (.inr (false)))
                                          else
                                            match F_laws_qEdits ((y21.1, j20.1)) with
                                            | none => none
                                            | some y23 =>
                                              bif (!y23) then
                                                some (.inr (.inr (false)))
                                              else
                                                bif ((y21.2.1 != (j20.2.2.2.2.2.2.2.1.size : Int))) then
                                                  some (.inr (.inr (false)))
                                                else
                                                  bif (!y22.2) then
                                                    some (.inr (.inr (false)))
                                                  else
                                                    match F_laws_qTexts ((y22.1, j20.2.2.2.2.2.2.2.2.1)) with
                                                    | none => none
                                                    | some y24 =>
                                                      bif (!y24) then
                                                        some (.inr (.inr (false)))
                                                      else
                                                        match F_impl_AreEdits (j20.2.2.2.2.2.2.2.2.2.2.2.2.2.2.2) with
                                                        | none => none
                                                        | some y25 =>
                                                          bif (!y25) then
                                                            some (.inr (.inr (false)))
                                                          else
                                                            some (.inl ((j20.1, j20.2.1, (j20.2.2.1, j20.2.2.2.1, (j20.2.2.2.2.1, j20.2.2.2.2.2.2.2.2.2.1, (j20.2.2.2.2.2.2.2.2.2.2.1, j20.2.2.2.2.2.2.2.2.2.2.2.1, (j20.2.2.2.2.2.2.2.2.2.2.2.2.1, j20.2.2.2.2.2.2.2.2.2.2.2.2.2.1, j20.2.2.2.2.2.2.2.2.2.2.2.2.2.2.1)))))))
                                        else
                                          bif (!y22.2) then
                                            some (.inr (.inr (false)))
                                          else
                                            match F_laws_qTexts ((y22.1, j20.2.2.2.2.2.2.2.2.1)) with
                                            | none => none
                                            | some y26 =>
                                              bif (!y26) then
                                                some (.inr (.inr (false)))
                                              else
                                                match F_impl_AreEdits (j20.2.2.2.2.2.2.2.2.2.2.2.2.2.2.2) with
                                                | none => none
                                                | some y27 =>
                                                  bif (!y27) then
                                                    some (.inr (.inr (false)))
                                                  else
                                                    some (.inl ((j20.1, j20.2.1, (j20.2.2.1, j20.2.2.2.1, (j20.2.2.2.2.1, j20.2.2.2.2.2.2.2.2.2.1, (j20.2.2.2.2.2.2.2.2.2.2.1, j20.2.2.2.2.2.2.2.2.2.2.2.1, (j20.2.2.2.2.2.2.2.2.2.2.2.2.1, j20.2.2.2.2.2.2.2.2.2.2.2.2.2.1, j20.2.2.2.2.2.2.2.2.2.2.2.2.2.2.1))))))) : Option (((List (Int × (ByteArray × Bool))) × Int × ByteArray × Bool × ByteArray × ByteArray × Bool × Int × ByteArray × Bool × (List Int)) ⊕ (((List (Int × (ByteArray × Bool))) × Int × ByteArray × Bool × ByteArray × ByteArray × Bool × Int × ByteArray × Bool) ⊕ (Bool)))) with
                                        | none => none
                                        | some (.inl j28) =>
                                          match runL step_laws_FnJournals_1 ((j28.1, j28.2.1, (j28.2.2.1, j28.2.2.2.1, (j28.2.2.2.2.1, j28.2.2.2.2.2.1, (j28.2.2.2.2.2.2.1, (j28.2.2.2.2.2.2.2.2.2.2.length : Int), (0, j28.2.2.2.2.2.2.2.2.2.2, (j28.2.2.2.2.2.2.2.1, j28.2.2.2.2.2.2.2.2.1, j28.2.2.2.2.2.2.2.2.2.1))))))) with
                                          | none => none
                                          | some (.inl o37) =>
                                            some (.inr (o37))
                                          | some (.inr o37) =>
                                            some (.inl (o37))
                                        | some (.inr r) => some r
                                  else
                                    some (.inl ((j20.1, (j20.2.1, j20.2.2.1, (j20.2.2.2.1, j20.2.2.2.2.1, (j20.2.2.2.2.2.2.2.2.2.1, j20.2.2.2.2.2.2.2.2.2.2.1, (j20.2.2.2.2.2.2.2.2.2.2.2.1, j20.2.2.2.2.2.2.2.2.2.2.2.2.1, j20.2.2.2.2.2.2.2.2.2.2.2.2.2.1))))))) : Option (((List (Int × (ByteArray × Bool))) × Int × ByteArray × Bool × ByteArray × ByteArray × Bool × Int × ByteArray × Bool) ⊕ (Bool))) with
                                  | none => none
                                  | some (.inl j38) =>
                                    match (bif j38.2.2.2.1 then
                                      match F_impl_ReadEdits (j38.2.2.1) with
                                      | none => none
                                      | some y39 =>
                                        match F_spec_ReadEdits (j38.2.2.2.2.1) with
                                        | none => none
                                        | some y40 =>
                                          bif (!(y39.2.2 == y40.2.2)) then
                                            some (.inr (false))
                                          else
                                            match F_laws_qEdits ((y39.1, y40.1)) with
                                            | none => none
                                            | some y41 =>
                                              bif (!y41) then
                                                some (.inr (false))
                                              else
                                                bif ((y39.2.1 != y40.2.1)) then
                                                  some (.inr (false))
                                                else
                                                  bif y40.2.2 then
                                                    bif (decide (y40.2.1 > j38.2.1)) then
                                                      some (.inr (false))
                                                    else
                                                      bif (decide ((y40.1.length : Int) > (j38.1.length : Int))) then
                                                        some (.inr (false))
                                                      else
                                                        bif decide (0 ≤ (0 : Int)) && decide ((0 : Int) ≤ (y40.1.length : Int)) && decide ((y40.1.length : Int) ≤ (j38.1.length : Int)) then
                                                          match F_laws_qEdits ((y40.1, ((j38.1.drop ((0 : Int)).toNat).take (((y40.1.length : Int)).toNat - ((0 : Int)).toNat)))) with
                                                          | none => none
                                                          | some y42 =>
                                                            bif (!y42) then
                                                              some (.inr (false))
                                                            else
                                                              some (.inl (j38.2.2.2.2.2))
                                                        else none
                                                  else
                                                    some (.inl (j38.2.2.2.2.2))
                                    else
                                      some (.inl (j38.2.2.2.2.2)) : Option ((ByteArray × Bool × Int × ByteArray × Bool) ⊕ (Bool))) with
                                    | none => none
                                    | some (.inl j43) =>
                                      bif j43.2.1 then
                                        match F_impl_ParseEditLine (j43.1) with
                                        | none => none
                                        | some y44 =>
                                          bif y44.2 then
                                            some (((y44.1.1 == j43.2.2.1) && ((y44.1.2.1.toList == j43.2.2.2.1.toList) && ((y44.1.2.2 == j43.2.2.2.2) && true))))
                                          else
                                            some (false)
                                      else
                                        some (true)
                                    | some (.inr r) => some r
                                  | some (.inr r) => some r
                                | some (.inr r) => some r
noncomputable def c_laws_FnJournals : Con := { ps := [(.val, (.slice (.int .u8))), (.val, (.slice (.int .u8)))], rs := [(.val, .bool)], F := F_laws_FnJournals }
noncomputable def env_laws_FnJournals : Env := { par := [], dp := false, settle := [], con := fun f => match f with | 4 => some c_spec_DrawTearText | 5 => some c_impl_TearText | 6 => some c_spec_TearText | 7 => some c_impl_EditsText | 8 => some c_spec_EditsText | 9 => some c_impl_GlossesIn | 10 => some c_spec_GlossesIn | 11 => some c_impl_ShortenEdits | 12 => some c_spec_ShortenEdits | 13 => some c_impl_MissingEdits | 14 => some c_spec_MissingEdits | 15 => some c_spec_DrawEditLine | 16 => some c_impl_EditLine | 17 => some c_spec_EditLine | 18 => some c_laws_qTexts | 19 => some c_laws_qEdits | 20 => some c_laws_qInts | 21 => some c_impl_AreEdits | 22 => some c_impl_ReadEdits | 23 => some c_spec_ReadEdits | 24 => some c_impl_ParseEditLine | _ => none, clo := fun _ => none, T := tinf Tryz.prog }
noncomputable def loops_laws_FnJournals : Nat → Option Loop := fun n => match n with | 28 => some { pat := pat_laws_FnJournals_0, outs := outs_laws_FnJournals_0, run := runL (step_laws_FnJournals_0) } | 25 => some { pat := pat_laws_FnJournals_1, outs := outs_laws_FnJournals_1, run := runL (step_laws_FnJournals_1) } | 1019 => some { pat := pat_laws_FnJournals_J19, outs := [], run := fun _ => none } | 1024 => some { pat := pat_laws_FnJournals_J24, outs := [], run := fun _ => none } | 1034 => some { pat := pat_laws_FnJournals_J34, outs := [], run := fun _ => none } | 1039 => some { pat := pat_laws_FnJournals_J39, outs := [], run := fun _ => none } | _ => none
theorem step_laws_FnJournals_0_eq (s : (List (Int × (ByteArray × Bool))) × Int × ByteArray × Bool × ByteArray × ByteArray × Bool × Int × Int × Int × (List (Int × (ByteArray × Bool))) × Int × Int × (List Int) × Int × ByteArray × Bool) : stepEv env_laws_FnJournals loops_laws_FnJournals pat_laws_FnJournals_0 outs_laws_FnJournals_0 Tryz.f3 28 s = step_laws_FnJournals_0 s := by kernel_rfl
theorem step_laws_FnJournals_1_eq (s : (List (Int × (ByteArray × Bool))) × Int × ByteArray × Bool × ByteArray × ByteArray × Bool × Int × Int × (List Int) × Int × ByteArray × Bool) : stepEv env_laws_FnJournals loops_laws_FnJournals pat_laws_FnJournals_1 outs_laws_FnJournals_1 Tryz.f3 25 s = step_laws_FnJournals_1 s := by kernel_rfl
theorem F_laws_FnJournals_eq (x : (List Int) × (List Int)) : Fev env_laws_FnJournals loops_laws_FnJournals c_laws_FnJournals.ps c_laws_FnJournals.rs Tryz.f3 x = F_laws_FnJournals x := by kernel_rfl
theorem env_laws_FnJournals_ok : EnvOK Tryz.prog env_laws_FnJournals := envOK_of (fun f c h => by
  simp only [env_laws_FnJournals] at h
  split at h
  · cases h; exact con_spec_DrawTearText
  · cases h; exact con_impl_TearText
  · cases h; exact con_spec_TearText
  · cases h; exact con_impl_EditsText
  · cases h; exact con_spec_EditsText
  · cases h; exact con_impl_GlossesIn
  · cases h; exact con_spec_GlossesIn
  · cases h; exact con_impl_ShortenEdits
  · cases h; exact con_spec_ShortenEdits
  · cases h; exact con_impl_MissingEdits
  · cases h; exact con_spec_MissingEdits
  · cases h; exact con_spec_DrawEditLine
  · cases h; exact con_impl_EditLine
  · cases h; exact con_spec_EditLine
  · cases h; exact con_laws_qTexts
  · cases h; exact con_laws_qEdits
  · cases h; exact con_laws_qInts
  · cases h; exact con_impl_AreEdits
  · cases h; exact con_impl_ReadEdits
  · cases h; exact con_spec_ReadEdits
  · cases h; exact con_impl_ParseEditLine
  · cases h) (fun f c h => by cases h) rfl
theorem con_laws_FnJournals : ConOK Tryz.prog 3 c_laws_FnJournals := con_of_ev' (body := Tryz.f3.body.getD .skip) (Λ := loops_laws_FnJournals) mixed Tryz.func3 (by kernel_rfl) (by kernel_rfl) env_laws_FnJournals_ok (by kernel_rfl) (by kernel_rfl) (fun n L h => by
  unfold loops_laws_FnJournals at h
  split at h
  · cases h; exact fun s o ho => loop_ok (stepF := stepEv env_laws_FnJournals loops_laws_FnJournals pat_laws_FnJournals_0 outs_laws_FnJournals_0 Tryz.f3 28) (step_laws_FnJournals_0_eq) ho
  · cases h; exact fun s o ho => loop_ok (stepF := stepEv env_laws_FnJournals loops_laws_FnJournals pat_laws_FnJournals_1 outs_laws_FnJournals_1 Tryz.f3 25) (step_laws_FnJournals_1_eq) ho
  · cases h; exact fun s o ho => by cases ho
  · cases h; exact fun s o ho => by cases ho
  · cases h; exact fun s o ho => by cases ho
  · cases h; exact fun s o ho => by cases ho
  · cases h) F_laws_FnJournals_eq

end Go.Proofs.YtjmagdcgniklgaaGreatDoor
