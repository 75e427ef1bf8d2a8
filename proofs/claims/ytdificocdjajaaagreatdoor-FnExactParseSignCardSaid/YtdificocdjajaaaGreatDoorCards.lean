/-
  DERIVED. GIVEN WITH THE SEED: THE CARDS: each row of YtdificocdjajaaaGreatDoorRows.lean that lists a variable, with what it lists TIED to the program's text (the seventh form; the later family's looks); each row that meets fmt, with fmt's text TOLD by the authors' own Lean function (tested against real Go, not proved from fmt's source: count such statements apart). THE CARD IS WHAT COUNTS. Prove the row's statement (the work); the ties are given (YtdificocdjajaaaGreatDoorTie.lean); close each card by the builder's one call (the guide's Derived/Test/ToyasCard.lean, 'card_holds'). Laid BY PROGRAM, IN A SANDBOX (cutbox-door.mjs). By AI agents, Wed Nov 11 2026. No macro, syntax, notation, axiom, sorry.
-/
import Derived.Test.YtdificocdjajaaaGreatDoorRows
import GoSem.ClaimSeven
namespace Go.Proofs.YtdificocdjajaaaGreatDoor
namespace Rows

/-- THE TIED CARD OF 'laws.FnExactParseSign'. -/
def fnExactParseSignCard : Claim7 := { stood := { row := fnExactParseSignRow, standIns := [], harness := (true, "66b35281f606bff0917402f54490a672d7a80cbd2f0a7ea00b2ef6b62ae9a391"), looks := true }, kinds := [], alts := [], laidByText := true, laidKinds := [.data, .data, .data, .data, .sentinel, .sentinel, .pinned], laidTests := true, laidLooks := .later }
def FnExactParseSignCardSaid : Prop := Claim7.holds Tryz.pinned (.plain (OpenSpec.ofChange fnExactParseSignSpec)) fnExactParseSignCard

/-- THE SECOND FORM's CARD OF 'laws.FnExactParseSign'. -/
def fnExactParseSignUptoCard : Claim7 := { stood := { row := fnExactParseSignUptoRow, standIns := [], harness := (true, "66b35281f606bff0917402f54490a672d7a80cbd2f0a7ea00b2ef6b62ae9a391"), looks := true }, kinds := [], alts := [], laidByText := true, laidKinds := [.data, .data, .data, .data, .sentinel, .sentinel, .pinned], laidTests := true, laidLooks := .later }
def FnExactParseSignUptoCardSaid : Prop := Claim7.holds Tryz.pinned (.plain (OpenSpec.upto fnExactParseSignSpec)) fnExactParseSignUptoCard
end Rows
end Go.Proofs.YtdificocdjajaaaGreatDoor
