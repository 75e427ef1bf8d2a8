/-
  DERIVED. GIVEN WITH THE SEED: THE CARDS: each row of YtbpcjfljgjekmaaGreatDoorRows.lean that lists a variable, with what it lists TIED to the program's text (the seventh form; the later family's looks); each row that meets fmt, with fmt's text TOLD by the authors' own Lean function (tested against real Go, not proved from fmt's source: count such statements apart). THE CARD IS WHAT COUNTS. Prove the row's statement (the work); the ties are given (YtbpcjfljgjekmaaGreatDoorTie.lean); close each card by the builder's one call (the guide's Derived/Test/ToyasCard.lean, 'card_holds'). Laid BY PROGRAM, IN A SANDBOX (cutbox-door.mjs). By AI agents, Wed Nov 11 2026. No macro, syntax, notation, axiom, sorry.
-/
import Derived.Test.YtbpcjfljgjekmaaGreatDoorRows
import GoSem.ClaimSeven
namespace Go.Proofs.YtbpcjfljgjekmaaGreatDoor
namespace Rows

/-- THE TIED CARD OF 'laws.FnExactAnswersWithin'. -/
def fnExactAnswersWithinCard : Claim7 := { stood := { row := fnExactAnswersWithinRow, standIns := [], harness := (true, "1fa0848a0787abfe89a7bb06020fa7dc9382d05b0191a276ed4db3eb7fe9b4c2"), looks := true }, kinds := [], alts := [], laidByText := true, laidKinds := [.data, .data, .data], laidTests := true, laidLooks := .later }
def FnExactAnswersWithinCardSaid : Prop := Claim7.holds Tryz.pinned (.plain (OpenSpec.ofChange fnExactAnswersWithinSpec)) fnExactAnswersWithinCard

/-- THE TIED CARD OF 'laws.FnExactAddEntry'. -/
def fnExactAddEntryCard : Claim7 := { stood := { row := fnExactAddEntryRow, standIns := [], harness := (true, "1fa0848a0787abfe89a7bb06020fa7dc9382d05b0191a276ed4db3eb7fe9b4c2"), looks := true }, kinds := [], alts := [], laidByText := true, laidKinds := [.data, .data, .data], laidTests := true, laidLooks := .later }
def FnExactAddEntryCardSaid : Prop := Claim7.holds Tryz.pinned (.plain (OpenSpec.ofChange fnExactAddEntrySpec)) fnExactAddEntryCard

/-- THE TIED CARD OF 'laws.FnExactRenameGloss'. -/
def fnExactRenameGlossCard : Claim7 := { stood := { row := fnExactRenameGlossRow, standIns := [], harness := (true, "1fa0848a0787abfe89a7bb06020fa7dc9382d05b0191a276ed4db3eb7fe9b4c2"), looks := true }, kinds := [], alts := [], laidByText := true, laidKinds := [.data, .data, .data], laidTests := true, laidLooks := .later }
def FnExactRenameGlossCardSaid : Prop := Claim7.holds Tryz.pinned (.plain (OpenSpec.ofChange fnExactRenameGlossSpec)) fnExactRenameGlossCard

/-- THE TIED CARD OF 'laws.FnExactImportSign'. -/
def fnExactImportSignCard : Claim7 := { stood := { row := fnExactImportSignRow, standIns := [], harness := (true, "1fa0848a0787abfe89a7bb06020fa7dc9382d05b0191a276ed4db3eb7fe9b4c2"), looks := true }, kinds := [], alts := [], laidByText := true, laidKinds := [.data, .data, .data, .data, .sentinel, .sentinel, .pinned], laidTests := true, laidLooks := .later }
def FnExactImportSignCardSaid : Prop := Claim7.holds Tryz.pinned (.plain (OpenSpec.ofChange fnExactImportSignSpec)) fnExactImportSignCard

/-- THE TIED CARD OF 'laws.FnExactNotationsOf'. -/
def fnExactNotationsOfCard : Claim7 := { stood := { row := fnExactNotationsOfRow, standIns := [], harness := (true, "1fa0848a0787abfe89a7bb06020fa7dc9382d05b0191a276ed4db3eb7fe9b4c2"), looks := true }, kinds := [], alts := [], laidByText := true, laidKinds := [.data, .data, .data], laidTests := true, laidLooks := .later }
def FnExactNotationsOfCardSaid : Prop := Claim7.holds Tryz.pinned (.plain (OpenSpec.ofChange fnExactNotationsOfSpec)) fnExactNotationsOfCard

/-- THE TIED CARD OF 'laws.FnExactClustersOf'. -/
def fnExactClustersOfCard : Claim7 := { stood := { row := fnExactClustersOfRow, standIns := [], harness := (true, "1fa0848a0787abfe89a7bb06020fa7dc9382d05b0191a276ed4db3eb7fe9b4c2"), looks := true }, kinds := [], alts := [], laidByText := true, laidKinds := [.data, .data, .data], laidTests := true, laidLooks := .later }
def FnExactClustersOfCardSaid : Prop := Claim7.holds Tryz.pinned (.plain (OpenSpec.ofChange fnExactClustersOfSpec)) fnExactClustersOfCard

/-- THE TIED CARD OF 'laws.FnExactParseShort'. -/
def fnExactParseShortCard : Claim7 := { stood := { row := fnExactParseShortRow, standIns := [], harness := (true, "1fa0848a0787abfe89a7bb06020fa7dc9382d05b0191a276ed4db3eb7fe9b4c2"), looks := true }, kinds := [], alts := [], laidByText := true, laidKinds := [.data, .data, .data, .data, .sentinel, .sentinel, .pinned], laidTests := true, laidLooks := .later }
def FnExactParseShortCardSaid : Prop := Claim7.holds Tryz.pinned (.plain (OpenSpec.ofChange fnExactParseShortSpec)) fnExactParseShortCard

/-- THE TIED CARD OF 'laws.FnExactJoinEntries'. -/
def fnExactJoinEntriesCard : Claim7 := { stood := { row := fnExactJoinEntriesRow, standIns := [], harness := (true, "1fa0848a0787abfe89a7bb06020fa7dc9382d05b0191a276ed4db3eb7fe9b4c2"), looks := true }, kinds := [], alts := [], laidByText := true, laidKinds := [.data, .data, .data], laidTests := true, laidLooks := .later }
def FnExactJoinEntriesCardSaid : Prop := Claim7.holds Tryz.pinned (.plain (OpenSpec.ofChange fnExactJoinEntriesSpec)) fnExactJoinEntriesCard

/-- THE TIED CARD OF 'laws.FnExactBestQuestion'. -/
def fnExactBestQuestionCard : Claim7 := { stood := { row := fnExactBestQuestionRow, standIns := [], harness := (true, "1fa0848a0787abfe89a7bb06020fa7dc9382d05b0191a276ed4db3eb7fe9b4c2"), looks := true }, kinds := [], alts := [], laidByText := true, laidKinds := [.data, .data, .data, .data, .pinned], laidTests := true, laidLooks := .later }
def FnExactBestQuestionCardSaid : Prop := Claim7.holds Tryz.pinned (.plain (OpenSpec.ofChange fnExactBestQuestionSpec)) fnExactBestQuestionCard

/-- THE TIED CARD OF 'laws.FnExactParseSigns'. -/
def fnExactParseSignsCard : Claim7 := { stood := { row := fnExactParseSignsRow, standIns := [], harness := (true, "1fa0848a0787abfe89a7bb06020fa7dc9382d05b0191a276ed4db3eb7fe9b4c2"), looks := true }, kinds := [], alts := [], laidByText := true, laidKinds := [.data, .data, .data, .data, .sentinel, .sentinel, .pinned], laidTests := true, laidLooks := .later }
def FnExactParseSignsCardSaid : Prop := Claim7.holds Tryz.pinned (.plain (OpenSpec.ofChange fnExactParseSignsSpec)) fnExactParseSignsCard

/-- THE SECOND FORM's CARD OF 'laws.FnExactAnswersWithin'. -/
def fnExactAnswersWithinUptoCard : Claim7 := { stood := { row := fnExactAnswersWithinUptoRow, standIns := [], harness := (true, "1fa0848a0787abfe89a7bb06020fa7dc9382d05b0191a276ed4db3eb7fe9b4c2"), looks := true }, kinds := [], alts := [], laidByText := true, laidKinds := [.data, .data, .data], laidTests := true, laidLooks := .later }
def FnExactAnswersWithinUptoCardSaid : Prop := Claim7.holds Tryz.pinned (.plain (OpenSpec.upto fnExactAnswersWithinSpec)) fnExactAnswersWithinUptoCard

/-- THE SECOND FORM's CARD OF 'laws.FnExactAddEntry'. -/
def fnExactAddEntryUptoCard : Claim7 := { stood := { row := fnExactAddEntryUptoRow, standIns := [], harness := (true, "1fa0848a0787abfe89a7bb06020fa7dc9382d05b0191a276ed4db3eb7fe9b4c2"), looks := true }, kinds := [], alts := [], laidByText := true, laidKinds := [.data, .data, .data], laidTests := true, laidLooks := .later }
def FnExactAddEntryUptoCardSaid : Prop := Claim7.holds Tryz.pinned (.plain (OpenSpec.upto fnExactAddEntrySpec)) fnExactAddEntryUptoCard

/-- THE SECOND FORM's CARD OF 'laws.FnExactRenameGloss'. -/
def fnExactRenameGlossUptoCard : Claim7 := { stood := { row := fnExactRenameGlossUptoRow, standIns := [], harness := (true, "1fa0848a0787abfe89a7bb06020fa7dc9382d05b0191a276ed4db3eb7fe9b4c2"), looks := true }, kinds := [], alts := [], laidByText := true, laidKinds := [.data, .data, .data], laidTests := true, laidLooks := .later }
def FnExactRenameGlossUptoCardSaid : Prop := Claim7.holds Tryz.pinned (.plain (OpenSpec.upto fnExactRenameGlossSpec)) fnExactRenameGlossUptoCard

/-- THE SECOND FORM's CARD OF 'laws.FnExactImportSign'. -/
def fnExactImportSignUptoCard : Claim7 := { stood := { row := fnExactImportSignUptoRow, standIns := [], harness := (true, "1fa0848a0787abfe89a7bb06020fa7dc9382d05b0191a276ed4db3eb7fe9b4c2"), looks := true }, kinds := [], alts := [], laidByText := true, laidKinds := [.data, .data, .data, .data, .sentinel, .sentinel, .pinned], laidTests := true, laidLooks := .later }
def FnExactImportSignUptoCardSaid : Prop := Claim7.holds Tryz.pinned (.plain (OpenSpec.upto fnExactImportSignSpec)) fnExactImportSignUptoCard

/-- THE SECOND FORM's CARD OF 'laws.FnExactNotationsOf'. -/
def fnExactNotationsOfUptoCard : Claim7 := { stood := { row := fnExactNotationsOfUptoRow, standIns := [], harness := (true, "1fa0848a0787abfe89a7bb06020fa7dc9382d05b0191a276ed4db3eb7fe9b4c2"), looks := true }, kinds := [], alts := [], laidByText := true, laidKinds := [.data, .data, .data], laidTests := true, laidLooks := .later }
def FnExactNotationsOfUptoCardSaid : Prop := Claim7.holds Tryz.pinned (.plain (OpenSpec.upto fnExactNotationsOfSpec)) fnExactNotationsOfUptoCard

/-- THE SECOND FORM's CARD OF 'laws.FnExactClustersOf'. -/
def fnExactClustersOfUptoCard : Claim7 := { stood := { row := fnExactClustersOfUptoRow, standIns := [], harness := (true, "1fa0848a0787abfe89a7bb06020fa7dc9382d05b0191a276ed4db3eb7fe9b4c2"), looks := true }, kinds := [], alts := [], laidByText := true, laidKinds := [.data, .data, .data], laidTests := true, laidLooks := .later }
def FnExactClustersOfUptoCardSaid : Prop := Claim7.holds Tryz.pinned (.plain (OpenSpec.upto fnExactClustersOfSpec)) fnExactClustersOfUptoCard

/-- THE SECOND FORM's CARD OF 'laws.FnExactParseShort'. -/
def fnExactParseShortUptoCard : Claim7 := { stood := { row := fnExactParseShortUptoRow, standIns := [], harness := (true, "1fa0848a0787abfe89a7bb06020fa7dc9382d05b0191a276ed4db3eb7fe9b4c2"), looks := true }, kinds := [], alts := [], laidByText := true, laidKinds := [.data, .data, .data, .data, .sentinel, .sentinel, .pinned], laidTests := true, laidLooks := .later }
def FnExactParseShortUptoCardSaid : Prop := Claim7.holds Tryz.pinned (.plain (OpenSpec.upto fnExactParseShortSpec)) fnExactParseShortUptoCard

/-- THE SECOND FORM's CARD OF 'laws.FnExactJoinEntries'. -/
def fnExactJoinEntriesUptoCard : Claim7 := { stood := { row := fnExactJoinEntriesUptoRow, standIns := [], harness := (true, "1fa0848a0787abfe89a7bb06020fa7dc9382d05b0191a276ed4db3eb7fe9b4c2"), looks := true }, kinds := [], alts := [], laidByText := true, laidKinds := [.data, .data, .data], laidTests := true, laidLooks := .later }
def FnExactJoinEntriesUptoCardSaid : Prop := Claim7.holds Tryz.pinned (.plain (OpenSpec.upto fnExactJoinEntriesSpec)) fnExactJoinEntriesUptoCard

/-- THE SECOND FORM's CARD OF 'laws.FnExactBestQuestion'. -/
def fnExactBestQuestionUptoCard : Claim7 := { stood := { row := fnExactBestQuestionUptoRow, standIns := [], harness := (true, "1fa0848a0787abfe89a7bb06020fa7dc9382d05b0191a276ed4db3eb7fe9b4c2"), looks := true }, kinds := [], alts := [], laidByText := true, laidKinds := [.data, .data, .data, .data, .pinned], laidTests := true, laidLooks := .later }
def FnExactBestQuestionUptoCardSaid : Prop := Claim7.holds Tryz.pinned (.plain (OpenSpec.upto fnExactBestQuestionSpec)) fnExactBestQuestionUptoCard

/-- THE SECOND FORM's CARD OF 'laws.FnExactParseSigns'. -/
def fnExactParseSignsUptoCard : Claim7 := { stood := { row := fnExactParseSignsUptoRow, standIns := [], harness := (true, "1fa0848a0787abfe89a7bb06020fa7dc9382d05b0191a276ed4db3eb7fe9b4c2"), looks := true }, kinds := [], alts := [], laidByText := true, laidKinds := [.data, .data, .data, .data, .sentinel, .sentinel, .pinned], laidTests := true, laidLooks := .later }
def FnExactParseSignsUptoCardSaid : Prop := Claim7.holds Tryz.pinned (.plain (OpenSpec.upto fnExactParseSignsSpec)) fnExactParseSignsUptoCard
end Rows
end Go.Proofs.YtbpcjfljgjekmaaGreatDoor
