/-
  No cell of these rows narrows 'for every input' (looked for: loops, veiled, ifaces, maps, wideKeys, modest, calm, conditions, laid).
  DERIVED. THE GIVEN ROWS OF THIS SEAT. 6 by the template 'for every input the law returns true; each argument reads behind the call as it read before'; 0 by the template 'total and deterministic' (their statements: YteodliihhddagaaTotals.lean).
  GIVEN WITH THE SEED: the statements are not yours to turn. If you find one false, say at which input.
  Laid BY PROGRAM, IN A SANDBOX (cutbox-rows.mjs): the forced cells as the released guide's own fill.sh prints them over the translation 3b55d08b6547340f… (all of the seat's roots in one cut). By AI agents, Wed Nov 11 2026. No macro, syntax, notation, axiom, sorry.
-/
import Derived.Test.YteodliihhddagaaChecked
import GoSem.Claim
import GoSem.ClaimJoined
import GoSem.ClaimMapViews
import Derived.JoinedTies
import Derived.KernelRfl
namespace Go.Proofs.Yteodliihhddagaa
/- THE CELL 'sum', in the pinned program and in every row, IS THE sha256 OF THE DUMP (.gsa) THAT YteodliihhddagaaProg.lean LOADS. Nothing in Lean hashes anything: it is a label: what it is worth is what the hold of that sum in a sandbox is worth. -/
noncomputable def Try.pinned : Pinned := { name := "yteodliihhddagaa", sum := "3b55d08b6547340fc043e4ec092d56f854b35f388cde080c1cac61792f88ce07", checked := Try.checked }
namespace Rows
def none {H : Type} : Left H := { results := [], args := [] }

/-- 'laws.FnExactAreEdits': WHATEVER THE INPUT: true; the input reads as it did. -/
def fnExactAreEditsSpec : ChangeSpec := { name := "fnExactAreEdits", fn := fun _ => fun
  | [d] => { results := [.lit (.bool true)], args := [d] }
  | _ => none }
def fnExactAreEditsRow : OpenClaim := { program := "yteodliihhddagaa", sum := "3b55d08b6547340fc043e4ec092d56f854b35f388cde080c1cac61792f88ce07", func := "loop.example/g01008/laws.FnExactAreEdits", spec := "fnExactAreEdits", inPlace := ["internal/bytealg.IndexByteString"], apart := false }
def FnExactAreEditsSaid : Prop := fnExactAreEditsRow.holds Try.pinned (OpenSpec.ofChange fnExactAreEditsSpec)

/-- ITS FALSE NEIGHBOUR: 'it returns false'. Refute it at one input. -/
def fnExactAreEditsWrong : ChangeSpec := { name := "fnExactAreEdits", fn := fun _ => fun
  | [d] => { results := [.lit (.bool false)], args := [d] }
  | _ => none }
def FnExactAreEditsWrongFalsely : Prop := fnExactAreEditsRow.holds Try.pinned (OpenSpec.ofChange fnExactAreEditsWrong)

/-- 'laws.FnExactAreProposals': WHATEVER THE INPUT: true; the input reads as it did. -/
def fnExactAreProposalsSpec : ChangeSpec := { name := "fnExactAreProposals", fn := fun _ => fun
  | [d1, d2] => { results := [.lit (.bool true)], args := [d1, d2] }
  | _ => none }
def fnExactAreProposalsRow : OpenClaim := { program := "yteodliihhddagaa", sum := "3b55d08b6547340fc043e4ec092d56f854b35f388cde080c1cac61792f88ce07", func := "loop.example/g01008/laws.FnExactAreProposals", spec := "fnExactAreProposals", inPlace := ["internal/bytealg.IndexByteString"], unfollowed := true, recurses := true, apart := false }
def FnExactAreProposalsSaid : Prop := fnExactAreProposalsRow.holds Try.pinned (OpenSpec.ofChange fnExactAreProposalsSpec)

/-- ITS FALSE NEIGHBOUR: 'it returns false'. Refute it at one input. -/
def fnExactAreProposalsWrong : ChangeSpec := { name := "fnExactAreProposals", fn := fun _ => fun
  | [d1, d2] => { results := [.lit (.bool false)], args := [d1, d2] }
  | _ => none }
def FnExactAreProposalsWrongFalsely : Prop := fnExactAreProposalsRow.holds Try.pinned (OpenSpec.ofChange fnExactAreProposalsWrong)

/-- 'laws.FnExactShortenEdits': WHATEVER THE INPUT: true; the input reads as it did. -/
def fnExactShortenEditsSpec : ChangeSpec := { name := "fnExactShortenEdits", fn := fun _ => fun
  | [d] => { results := [.lit (.bool true)], args := [d] }
  | _ => none }
def fnExactShortenEditsRow : OpenClaim := { program := "yteodliihhddagaa", sum := "3b55d08b6547340fc043e4ec092d56f854b35f388cde080c1cac61792f88ce07", func := "loop.example/g01008/laws.FnExactShortenEdits", spec := "fnExactShortenEdits", inPlace := ["internal/bytealg.IndexByteString"], unfollowed := true, recurses := true, apart := false }
def FnExactShortenEditsSaid : Prop := fnExactShortenEditsRow.holds Try.pinned (OpenSpec.ofChange fnExactShortenEditsSpec)

/-- ITS FALSE NEIGHBOUR: 'it returns false'. Refute it at one input. -/
def fnExactShortenEditsWrong : ChangeSpec := { name := "fnExactShortenEdits", fn := fun _ => fun
  | [d] => { results := [.lit (.bool false)], args := [d] }
  | _ => none }
def FnExactShortenEditsWrongFalsely : Prop := fnExactShortenEditsRow.holds Try.pinned (OpenSpec.ofChange fnExactShortenEditsWrong)

/-- 'laws.FnExactMissingEdits': WHATEVER THE INPUT: true; the input reads as it did. -/
def fnExactMissingEditsSpec : ChangeSpec := { name := "fnExactMissingEdits", fn := fun _ => fun
  | [d] => { results := [.lit (.bool true)], args := [d] }
  | _ => none }
def fnExactMissingEditsRow : OpenClaim := { program := "yteodliihhddagaa", sum := "3b55d08b6547340fc043e4ec092d56f854b35f388cde080c1cac61792f88ce07", func := "loop.example/g01008/laws.FnExactMissingEdits", spec := "fnExactMissingEdits", inPlace := ["internal/bytealg.IndexByteString"], apart := false }
def FnExactMissingEditsSaid : Prop := fnExactMissingEditsRow.holds Try.pinned (OpenSpec.ofChange fnExactMissingEditsSpec)

/-- ITS FALSE NEIGHBOUR: 'it returns false'. Refute it at one input. -/
def fnExactMissingEditsWrong : ChangeSpec := { name := "fnExactMissingEdits", fn := fun _ => fun
  | [d] => { results := [.lit (.bool false)], args := [d] }
  | _ => none }
def FnExactMissingEditsWrongFalsely : Prop := fnExactMissingEditsRow.holds Try.pinned (OpenSpec.ofChange fnExactMissingEditsWrong)

/-- 'laws.FnExactAgreeingMembers': WHATEVER THE INPUT: true; the input reads as it did. -/
def fnExactAgreeingMembersSpec : ChangeSpec := { name := "fnExactAgreeingMembers", fn := fun _ => fun
  | [d1, d2] => { results := [.lit (.bool true)], args := [d1, d2] }
  | _ => none }
def fnExactAgreeingMembersRow : OpenClaim := { program := "yteodliihhddagaa", sum := "3b55d08b6547340fc043e4ec092d56f854b35f388cde080c1cac61792f88ce07", func := "loop.example/g01008/laws.FnExactAgreeingMembers", spec := "fnExactAgreeingMembers", inPlace := ["internal/bytealg.IndexByteString"], unfollowed := true, recurses := true, apart := false }
def FnExactAgreeingMembersSaid : Prop := fnExactAgreeingMembersRow.holds Try.pinned (OpenSpec.ofChange fnExactAgreeingMembersSpec)

/-- ITS FALSE NEIGHBOUR: 'it returns false'. Refute it at one input. -/
def fnExactAgreeingMembersWrong : ChangeSpec := { name := "fnExactAgreeingMembers", fn := fun _ => fun
  | [d1, d2] => { results := [.lit (.bool false)], args := [d1, d2] }
  | _ => none }
def FnExactAgreeingMembersWrongFalsely : Prop := fnExactAgreeingMembersRow.holds Try.pinned (OpenSpec.ofChange fnExactAgreeingMembersWrong)

/-- 'laws.FnExactIsPassed': WHATEVER THE INPUT: true; the input reads as it did. -/
def fnExactIsPassedSpec : ChangeSpec := { name := "fnExactIsPassed", fn := fun _ => fun
  | [d1, d2, d3] => { results := [.lit (.bool true)], args := [d1, d2, d3] }
  | _ => none }
def fnExactIsPassedRow : OpenClaim := { program := "yteodliihhddagaa", sum := "3b55d08b6547340fc043e4ec092d56f854b35f388cde080c1cac61792f88ce07", func := "loop.example/g01008/laws.FnExactIsPassed", spec := "fnExactIsPassed", inPlace := ["internal/bytealg.IndexByteString"], unfollowed := true, recurses := true, apart := false }
def FnExactIsPassedSaid : Prop := fnExactIsPassedRow.holds Try.pinned (OpenSpec.ofChange fnExactIsPassedSpec)

/-- ITS FALSE NEIGHBOUR: 'it returns false'. Refute it at one input. -/
def fnExactIsPassedWrong : ChangeSpec := { name := "fnExactIsPassed", fn := fun _ => fun
  | [d1, d2, d3] => { results := [.lit (.bool false)], args := [d1, d2, d3] }
  | _ => none }
def FnExactIsPassedWrongFalsely : Prop := fnExactIsPassedRow.holds Try.pinned (OpenSpec.ofChange fnExactIsPassedWrong)

/- THE SECOND FORM. 'bulk': how many values and letters a reading holds, each counted each time it is reached (what is shared counts as often as it is met; a slice's spare places count too). A statement '..UptoSaid' is the law's where the arguments, and the package variables that the reading takes, are together of bulk at most 1048576: NARROWER than '..Said'. Prove '..Said' where nothing that the law and all that it calls make is longer than what came in: it says more and counts as full. Else prove '..UptoSaid'. A law counts once. -/
mutual
def uptoBulk {H : Type} : DataW H → Nat
  | .lit (.string bytes) => bytes.length + 1
  | .lit _ => 1
  | .nil => 1
  | .ptr d => uptoBulk d + 1
  | .slice elems spare => uptoBulkAll elems + uptoBulkAll spare + 1
  | .agg parts => uptoBulkAll parts + 1
  | .iface _ d => uptoBulk d + 1
  | .map entries => uptoBulkEntries entries + 1
  | .held _ => 1
def uptoBulkAll {H : Type} : List (DataW H) → Nat
  | [] => 0
  | d :: r => uptoBulk d + uptoBulkAll r
def uptoBulkEntries {H : Type} : List (Lit × DataW H) → Nat
  | [] => 0
  | x :: r => uptoBulkEntry x + uptoBulkEntries r
def uptoBulkEntry {H : Type} : Lit × DataW H → Nat
  | (.string bytes, d) => bytes.length + uptoBulk d + 1
  | (_, d) => uptoBulk d + 1
 end
def uptoSmall : (H : Type) → List (DataW H) → Bool := fun _ ds => decide (uptoBulkAll ds ≤ 1048576)
def OpenSpec.upto (s : _root_.Go.ChangeSpec) : _root_.Go.OpenSpec := { _root_.Go.OpenSpec.ofChange s with cond := some uptoSmall }

/-- 'laws.FnExactAreEdits', WHERE WHAT IT READS IS OF BULK AT MOST 1048576: true; the input reads as it did. -/
def fnExactAreEditsUptoRow : OpenClaim := { program := "yteodliihhddagaa", sum := "3b55d08b6547340fc043e4ec092d56f854b35f388cde080c1cac61792f88ce07", func := "loop.example/g01008/laws.FnExactAreEdits", spec := "fnExactAreEdits", inPlace := ["internal/bytealg.IndexByteString"], apart := false, narrowed := true }
def FnExactAreEditsUptoSaid : Prop := fnExactAreEditsUptoRow.holds Try.pinned (OpenSpec.upto fnExactAreEditsSpec)

/-- 'laws.FnExactAreProposals', WHERE WHAT IT READS IS OF BULK AT MOST 1048576: true; the input reads as it did. -/
def fnExactAreProposalsUptoRow : OpenClaim := { program := "yteodliihhddagaa", sum := "3b55d08b6547340fc043e4ec092d56f854b35f388cde080c1cac61792f88ce07", func := "loop.example/g01008/laws.FnExactAreProposals", spec := "fnExactAreProposals", inPlace := ["internal/bytealg.IndexByteString"], unfollowed := true, recurses := true, apart := false, narrowed := true }
def FnExactAreProposalsUptoSaid : Prop := fnExactAreProposalsUptoRow.holds Try.pinned (OpenSpec.upto fnExactAreProposalsSpec)

/-- 'laws.FnExactShortenEdits', WHERE WHAT IT READS IS OF BULK AT MOST 1048576: true; the input reads as it did. -/
def fnExactShortenEditsUptoRow : OpenClaim := { program := "yteodliihhddagaa", sum := "3b55d08b6547340fc043e4ec092d56f854b35f388cde080c1cac61792f88ce07", func := "loop.example/g01008/laws.FnExactShortenEdits", spec := "fnExactShortenEdits", inPlace := ["internal/bytealg.IndexByteString"], unfollowed := true, recurses := true, apart := false, narrowed := true }
def FnExactShortenEditsUptoSaid : Prop := fnExactShortenEditsUptoRow.holds Try.pinned (OpenSpec.upto fnExactShortenEditsSpec)

/-- 'laws.FnExactMissingEdits', WHERE WHAT IT READS IS OF BULK AT MOST 1048576: true; the input reads as it did. -/
def fnExactMissingEditsUptoRow : OpenClaim := { program := "yteodliihhddagaa", sum := "3b55d08b6547340fc043e4ec092d56f854b35f388cde080c1cac61792f88ce07", func := "loop.example/g01008/laws.FnExactMissingEdits", spec := "fnExactMissingEdits", inPlace := ["internal/bytealg.IndexByteString"], apart := false, narrowed := true }
def FnExactMissingEditsUptoSaid : Prop := fnExactMissingEditsUptoRow.holds Try.pinned (OpenSpec.upto fnExactMissingEditsSpec)

/-- 'laws.FnExactAgreeingMembers', WHERE WHAT IT READS IS OF BULK AT MOST 1048576: true; the input reads as it did. -/
def fnExactAgreeingMembersUptoRow : OpenClaim := { program := "yteodliihhddagaa", sum := "3b55d08b6547340fc043e4ec092d56f854b35f388cde080c1cac61792f88ce07", func := "loop.example/g01008/laws.FnExactAgreeingMembers", spec := "fnExactAgreeingMembers", inPlace := ["internal/bytealg.IndexByteString"], unfollowed := true, recurses := true, apart := false, narrowed := true }
def FnExactAgreeingMembersUptoSaid : Prop := fnExactAgreeingMembersUptoRow.holds Try.pinned (OpenSpec.upto fnExactAgreeingMembersSpec)

/-- 'laws.FnExactIsPassed', WHERE WHAT IT READS IS OF BULK AT MOST 1048576: true; the input reads as it did. -/
def fnExactIsPassedUptoRow : OpenClaim := { program := "yteodliihhddagaa", sum := "3b55d08b6547340fc043e4ec092d56f854b35f388cde080c1cac61792f88ce07", func := "loop.example/g01008/laws.FnExactIsPassed", spec := "fnExactIsPassed", inPlace := ["internal/bytealg.IndexByteString"], unfollowed := true, recurses := true, apart := false, narrowed := true }
def FnExactIsPassedUptoSaid : Prop := fnExactIsPassedUptoRow.holds Try.pinned (OpenSpec.upto fnExactIsPassedSpec)

end Rows
end Go.Proofs.Yteodliihhddagaa
