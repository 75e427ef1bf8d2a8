/-
  DERIVED. GIVEN WITH THE SEED: THE CARDS: each row of YtbdnmfiaghhhiaaDoorRows.lean that lists a variable, with what it lists TIED to the program's text (the seventh form; the later family's looks); each row that meets fmt, with fmt's text TOLD by the authors' own Lean function (tested against real Go, not proved from fmt's source: count such statements apart). THE CARD IS WHAT COUNTS. Prove the row's statement (the work); the ties are given (YtbdnmfiaghhhiaaDoorTie.lean); close each card by the builder's one call (the guide's Derived/Test/ToyasCard.lean, 'card_holds'). Laid BY PROGRAM, IN A SANDBOX (cutbox-door.mjs). By AI agents, Wed Nov 11 2026. No macro, syntax, notation, axiom, sorry.
-/
import Derived.Test.YtbdnmfiaghhhiaaDoorRows
import GoSem.ClaimSeven
namespace Go.Proofs.YtbdnmfiaghhhiaaDoor
namespace Rows

/-- THE TIED CARD OF 'laws.FnExactJoinScripts'. -/
def fnExactJoinScriptsCard : Claim7 := { stood := { row := fnExactJoinScriptsRow, standIns := [], harness := (true, "2c9a94cc622d9abe867d582bb889a093bf6584450d2348963636208b3347a6dd"), looks := false }, kinds := [], alts := [], laidByText := true, laidKinds := [.data, .pinned], laidTests := true, laidLooks := .later }
def FnExactJoinScriptsCardSaid : Prop := Claim7.holds Tryd.pinned (.plain (OpenSpec.ofChange fnExactJoinScriptsSpec)) fnExactJoinScriptsCard

/-- THE TIED CARD OF 'laws.FnExactEditLine'. -/
def fnExactEditLineCard : Claim7 := { stood := { row := fnExactEditLineRow, standIns := [], harness := (true, "2c9a94cc622d9abe867d582bb889a093bf6584450d2348963636208b3347a6dd"), looks := false }, kinds := [], alts := [], laidByText := true, laidKinds := [.data, .data, .data], laidTests := true, laidLooks := .later }
def FnExactEditLineCardSaid : Prop := Claim7.holds Tryd.pinned (.plain (OpenSpec.ofChange fnExactEditLineSpec)) fnExactEditLineCard

/-- THE TIED CARD OF 'laws.FnExactProposalText'. -/
def fnExactProposalTextCard : Claim7 := { stood := { row := fnExactProposalTextRow, standIns := [], harness := (true, "2c9a94cc622d9abe867d582bb889a093bf6584450d2348963636208b3347a6dd"), looks := false }, kinds := [], alts := [], laidByText := true, laidKinds := [.data, .data, .data], laidTests := true, laidLooks := .later }
def FnExactProposalTextCardSaid : Prop := Claim7.holds Tryd.pinned (.plain (OpenSpec.ofChange fnExactProposalTextSpec)) fnExactProposalTextCard

/-- THE TIED CARD OF 'laws.FnExactEditsText'. -/
def fnExactEditsTextCard : Claim7 := { stood := { row := fnExactEditsTextRow, standIns := [], harness := (true, "2c9a94cc622d9abe867d582bb889a093bf6584450d2348963636208b3347a6dd"), looks := false }, kinds := [], alts := [], laidByText := true, laidKinds := [.data, .data, .data], laidTests := true, laidLooks := .later }
def FnExactEditsTextCardSaid : Prop := Claim7.holds Tryd.pinned (.plain (OpenSpec.ofChange fnExactEditsTextSpec)) fnExactEditsTextCard

/-- THE TIED CARD OF 'laws.FnExactTearText'. -/
def fnExactTearTextCard : Claim7 := { stood := { row := fnExactTearTextRow, standIns := [], harness := (true, "2c9a94cc622d9abe867d582bb889a093bf6584450d2348963636208b3347a6dd"), looks := false }, kinds := [], alts := [], laidByText := true, laidKinds := [.data, .data, .data], laidTests := true, laidLooks := .later }
def FnExactTearTextCardSaid : Prop := Claim7.holds Tryd.pinned (.plain (OpenSpec.ofChange fnExactTearTextSpec)) fnExactTearTextCard

/-- THE TIED CARD OF 'laws.FnExactDamageText'. -/
def fnExactDamageTextCard : Claim7 := { stood := { row := fnExactDamageTextRow, standIns := [], harness := (true, "2c9a94cc622d9abe867d582bb889a093bf6584450d2348963636208b3347a6dd"), looks := false }, kinds := [], alts := [], laidByText := true, laidKinds := [.data, .data, .data], laidTests := true, laidLooks := .later }
def FnExactDamageTextCardSaid : Prop := Claim7.holds Tryd.pinned (.plain (OpenSpec.ofChange fnExactDamageTextSpec)) fnExactDamageTextCard

/-- THE SECOND FORM's CARD OF 'laws.FnExactJoinScripts'. -/
def fnExactJoinScriptsUptoCard : Claim7 := { stood := { row := fnExactJoinScriptsUptoRow, standIns := [], harness := (true, "2c9a94cc622d9abe867d582bb889a093bf6584450d2348963636208b3347a6dd"), looks := false }, kinds := [], alts := [], laidByText := true, laidKinds := [.data, .pinned], laidTests := true, laidLooks := .later }
def FnExactJoinScriptsUptoCardSaid : Prop := Claim7.holds Tryd.pinned (.plain (OpenSpec.upto fnExactJoinScriptsSpec)) fnExactJoinScriptsUptoCard

/-- THE SECOND FORM's CARD OF 'laws.FnExactEditLine'. -/
def fnExactEditLineUptoCard : Claim7 := { stood := { row := fnExactEditLineUptoRow, standIns := [], harness := (true, "2c9a94cc622d9abe867d582bb889a093bf6584450d2348963636208b3347a6dd"), looks := false }, kinds := [], alts := [], laidByText := true, laidKinds := [.data, .data, .data], laidTests := true, laidLooks := .later }
def FnExactEditLineUptoCardSaid : Prop := Claim7.holds Tryd.pinned (.plain (OpenSpec.upto fnExactEditLineSpec)) fnExactEditLineUptoCard

/-- THE SECOND FORM's CARD OF 'laws.FnExactProposalText'. -/
def fnExactProposalTextUptoCard : Claim7 := { stood := { row := fnExactProposalTextUptoRow, standIns := [], harness := (true, "2c9a94cc622d9abe867d582bb889a093bf6584450d2348963636208b3347a6dd"), looks := false }, kinds := [], alts := [], laidByText := true, laidKinds := [.data, .data, .data], laidTests := true, laidLooks := .later }
def FnExactProposalTextUptoCardSaid : Prop := Claim7.holds Tryd.pinned (.plain (OpenSpec.upto fnExactProposalTextSpec)) fnExactProposalTextUptoCard

/-- THE SECOND FORM's CARD OF 'laws.FnExactEditsText'. -/
def fnExactEditsTextUptoCard : Claim7 := { stood := { row := fnExactEditsTextUptoRow, standIns := [], harness := (true, "2c9a94cc622d9abe867d582bb889a093bf6584450d2348963636208b3347a6dd"), looks := false }, kinds := [], alts := [], laidByText := true, laidKinds := [.data, .data, .data], laidTests := true, laidLooks := .later }
def FnExactEditsTextUptoCardSaid : Prop := Claim7.holds Tryd.pinned (.plain (OpenSpec.upto fnExactEditsTextSpec)) fnExactEditsTextUptoCard

/-- THE SECOND FORM's CARD OF 'laws.FnExactTearText'. -/
def fnExactTearTextUptoCard : Claim7 := { stood := { row := fnExactTearTextUptoRow, standIns := [], harness := (true, "2c9a94cc622d9abe867d582bb889a093bf6584450d2348963636208b3347a6dd"), looks := false }, kinds := [], alts := [], laidByText := true, laidKinds := [.data, .data, .data], laidTests := true, laidLooks := .later }
def FnExactTearTextUptoCardSaid : Prop := Claim7.holds Tryd.pinned (.plain (OpenSpec.upto fnExactTearTextSpec)) fnExactTearTextUptoCard

/-- THE SECOND FORM's CARD OF 'laws.FnExactDamageText'. -/
def fnExactDamageTextUptoCard : Claim7 := { stood := { row := fnExactDamageTextUptoRow, standIns := [], harness := (true, "2c9a94cc622d9abe867d582bb889a093bf6584450d2348963636208b3347a6dd"), looks := false }, kinds := [], alts := [], laidByText := true, laidKinds := [.data, .data, .data], laidTests := true, laidLooks := .later }
def FnExactDamageTextUptoCardSaid : Prop := Claim7.holds Tryd.pinned (.plain (OpenSpec.upto fnExactDamageTextSpec)) fnExactDamageTextUptoCard
end Rows
end Go.Proofs.YtbdnmfiaghhhiaaDoor
