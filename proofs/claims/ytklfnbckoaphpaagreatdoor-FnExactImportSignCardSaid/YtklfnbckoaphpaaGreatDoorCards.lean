/-
  DERIVED. GIVEN WITH THE SEED: THE CARDS: each row of YtklfnbckoaphpaaGreatDoorRows.lean that lists a variable, with what it lists TIED to the program's text (the seventh form; the later family's looks); each row that meets fmt, with fmt's text TOLD by the authors' own Lean function (tested against real Go, not proved from fmt's source: count such statements apart). THE CARD IS WHAT COUNTS. Prove the row's statement (the work); the ties are given (YtklfnbckoaphpaaGreatDoorTie.lean); close each card by the builder's one call (the guide's Derived/Test/ToyasCard.lean, 'card_holds'). Laid BY PROGRAM, IN A SANDBOX (cutbox-door.mjs). By AI agents, Wed Nov 11 2026. No macro, syntax, notation, axiom, sorry.
-/
import Derived.Test.YtklfnbckoaphpaaGreatDoorRows
import GoSem.ClaimSeven
namespace Go.Proofs.YtklfnbckoaphpaaGreatDoor
namespace Rows

/-- THE TIED CARD OF 'laws.FnExactJoinEntries'. -/
def fnExactJoinEntriesCard : Claim7 := { stood := { row := fnExactJoinEntriesRow, standIns := [], harness := (true, "fdad223fbf689f9d9bd41b3572e15602274361acad064c20d9e7941220070897"), looks := true }, kinds := [], alts := [], laidByText := true, laidKinds := [.data, .data, .data], laidTests := true, laidLooks := .later }
def FnExactJoinEntriesCardSaid : Prop := Claim7.holds Tryz.pinned (.plain (OpenSpec.ofChange fnExactJoinEntriesSpec)) fnExactJoinEntriesCard

/-- THE TIED CARD OF 'laws.FnExactNotationsOf'. -/
def fnExactNotationsOfCard : Claim7 := { stood := { row := fnExactNotationsOfRow, standIns := [], harness := (true, "fdad223fbf689f9d9bd41b3572e15602274361acad064c20d9e7941220070897"), looks := true }, kinds := [], alts := [], laidByText := true, laidKinds := [.data, .data, .data], laidTests := true, laidLooks := .later }
def FnExactNotationsOfCardSaid : Prop := Claim7.holds Tryz.pinned (.plain (OpenSpec.ofChange fnExactNotationsOfSpec)) fnExactNotationsOfCard

/-- THE TIED CARD OF 'laws.FnExactParseSigns'. -/
def fnExactParseSignsCard : Claim7 := { stood := { row := fnExactParseSignsRow, standIns := [], harness := (true, "fdad223fbf689f9d9bd41b3572e15602274361acad064c20d9e7941220070897"), looks := true }, kinds := [], alts := [], laidByText := true, laidKinds := [.data, .data, .data, .data, .sentinel, .sentinel, .pinned], laidTests := true, laidLooks := .later }
def FnExactParseSignsCardSaid : Prop := Claim7.holds Tryz.pinned (.plain (OpenSpec.ofChange fnExactParseSignsSpec)) fnExactParseSignsCard

/-- THE TIED CARD OF 'laws.FnExactImportSign'. -/
def fnExactImportSignCard : Claim7 := { stood := { row := fnExactImportSignRow, standIns := [], harness := (true, "fdad223fbf689f9d9bd41b3572e15602274361acad064c20d9e7941220070897"), looks := true }, kinds := [], alts := [], laidByText := true, laidKinds := [.data, .data, .data, .data, .sentinel, .sentinel, .pinned], laidTests := true, laidLooks := .later }
def FnExactImportSignCardSaid : Prop := Claim7.holds Tryz.pinned (.plain (OpenSpec.ofChange fnExactImportSignSpec)) fnExactImportSignCard

/-- THE SECOND FORM's CARD OF 'laws.FnExactJoinEntries'. -/
def fnExactJoinEntriesUptoCard : Claim7 := { stood := { row := fnExactJoinEntriesUptoRow, standIns := [], harness := (true, "fdad223fbf689f9d9bd41b3572e15602274361acad064c20d9e7941220070897"), looks := true }, kinds := [], alts := [], laidByText := true, laidKinds := [.data, .data, .data], laidTests := true, laidLooks := .later }
def FnExactJoinEntriesUptoCardSaid : Prop := Claim7.holds Tryz.pinned (.plain (OpenSpec.upto fnExactJoinEntriesSpec)) fnExactJoinEntriesUptoCard

/-- THE SECOND FORM's CARD OF 'laws.FnExactNotationsOf'. -/
def fnExactNotationsOfUptoCard : Claim7 := { stood := { row := fnExactNotationsOfUptoRow, standIns := [], harness := (true, "fdad223fbf689f9d9bd41b3572e15602274361acad064c20d9e7941220070897"), looks := true }, kinds := [], alts := [], laidByText := true, laidKinds := [.data, .data, .data], laidTests := true, laidLooks := .later }
def FnExactNotationsOfUptoCardSaid : Prop := Claim7.holds Tryz.pinned (.plain (OpenSpec.upto fnExactNotationsOfSpec)) fnExactNotationsOfUptoCard

/-- THE SECOND FORM's CARD OF 'laws.FnExactParseSigns'. -/
def fnExactParseSignsUptoCard : Claim7 := { stood := { row := fnExactParseSignsUptoRow, standIns := [], harness := (true, "fdad223fbf689f9d9bd41b3572e15602274361acad064c20d9e7941220070897"), looks := true }, kinds := [], alts := [], laidByText := true, laidKinds := [.data, .data, .data, .data, .sentinel, .sentinel, .pinned], laidTests := true, laidLooks := .later }
def FnExactParseSignsUptoCardSaid : Prop := Claim7.holds Tryz.pinned (.plain (OpenSpec.upto fnExactParseSignsSpec)) fnExactParseSignsUptoCard

/-- THE SECOND FORM's CARD OF 'laws.FnExactImportSign'. -/
def fnExactImportSignUptoCard : Claim7 := { stood := { row := fnExactImportSignUptoRow, standIns := [], harness := (true, "fdad223fbf689f9d9bd41b3572e15602274361acad064c20d9e7941220070897"), looks := true }, kinds := [], alts := [], laidByText := true, laidKinds := [.data, .data, .data, .data, .sentinel, .sentinel, .pinned], laidTests := true, laidLooks := .later }
def FnExactImportSignUptoCardSaid : Prop := Claim7.holds Tryz.pinned (.plain (OpenSpec.upto fnExactImportSignSpec)) fnExactImportSignUptoCard
end Rows
end Go.Proofs.YtklfnbckoaphpaaGreatDoor
