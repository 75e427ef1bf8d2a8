/-
  DERIVED. GIVEN WITH THE SEED: THE CARDS: each row of YtadehfgciiocfaaDoorRows.lean that lists a variable, with what it lists TIED to the program's text (the seventh form; the later family's looks); each row that meets fmt, with fmt's text TOLD by the authors' own Lean function (tested against real Go, not proved from fmt's source: count such statements apart). THE CARD IS WHAT COUNTS. Prove the row's statement (the work); the ties are given (YtadehfgciiocfaaDoorTie.lean); close each card by the builder's one call (the guide's Derived/Test/ToyasCard.lean, 'card_holds'). Laid BY PROGRAM, IN A SANDBOX (cutbox-door.mjs). By AI agents, Wed Nov 11 2026. No macro, syntax, notation, axiom, sorry.
-/
import Derived.Test.YtadehfgciiocfaaDoorRows
import GoSem.ClaimSeven
namespace Go.Proofs.YtadehfgciiocfaaDoor
namespace Rows

/-- THE TIED CARD OF 'laws.FnExactParseEditLine'. -/
def fnExactParseEditLineCard : Claim7 := { stood := { row := fnExactParseEditLineRow, standIns := [], harness := (true, "c99acad7bf450d40af74d6294ee11fa02489be82c29dbc4a17eeaef4134e2a59"), looks := true }, kinds := [], alts := [], laidByText := true, laidKinds := [.data, .data, .data, .sentinel, .sentinel], laidTests := true, laidLooks := .later }
def FnExactParseEditLineCardSaid : Prop := Claim7.holds Tryd.pinned (.plain (OpenSpec.ofChange fnExactParseEditLineSpec)) fnExactParseEditLineCard

/-- THE TIED CARD OF 'laws.FnExactSalvageEdits'. -/
def fnExactSalvageEditsCard : Claim7 := { stood := { row := fnExactSalvageEditsRow, standIns := [], harness := (true, "c99acad7bf450d40af74d6294ee11fa02489be82c29dbc4a17eeaef4134e2a59"), looks := true }, kinds := [], alts := [], laidByText := true, laidKinds := [.data, .data, .data, .sentinel, .sentinel], laidTests := true, laidLooks := .later }
def FnExactSalvageEditsCardSaid : Prop := Claim7.holds Tryd.pinned (.plain (OpenSpec.ofChange fnExactSalvageEditsSpec)) fnExactSalvageEditsCard

/-- THE TIED CARD OF 'laws.FnExactReadEdits'. -/
def fnExactReadEditsCard : Claim7 := { stood := { row := fnExactReadEditsRow, standIns := [], harness := (true, "c99acad7bf450d40af74d6294ee11fa02489be82c29dbc4a17eeaef4134e2a59"), looks := true }, kinds := [], alts := [], laidByText := true, laidKinds := [.data, .data, .data, .sentinel, .sentinel], laidTests := true, laidLooks := .later }
def FnExactReadEditsCardSaid : Prop := Claim7.holds Tryd.pinned (.plain (OpenSpec.ofChange fnExactReadEditsSpec)) fnExactReadEditsCard

/-- THE SECOND FORM's CARD OF 'laws.FnExactParseEditLine'. -/
def fnExactParseEditLineUptoCard : Claim7 := { stood := { row := fnExactParseEditLineUptoRow, standIns := [], harness := (true, "c99acad7bf450d40af74d6294ee11fa02489be82c29dbc4a17eeaef4134e2a59"), looks := true }, kinds := [], alts := [], laidByText := true, laidKinds := [.data, .data, .data, .sentinel, .sentinel], laidTests := true, laidLooks := .later }
def FnExactParseEditLineUptoCardSaid : Prop := Claim7.holds Tryd.pinned (.plain (OpenSpec.upto fnExactParseEditLineSpec)) fnExactParseEditLineUptoCard

/-- THE SECOND FORM's CARD OF 'laws.FnExactSalvageEdits'. -/
def fnExactSalvageEditsUptoCard : Claim7 := { stood := { row := fnExactSalvageEditsUptoRow, standIns := [], harness := (true, "c99acad7bf450d40af74d6294ee11fa02489be82c29dbc4a17eeaef4134e2a59"), looks := true }, kinds := [], alts := [], laidByText := true, laidKinds := [.data, .data, .data, .sentinel, .sentinel], laidTests := true, laidLooks := .later }
def FnExactSalvageEditsUptoCardSaid : Prop := Claim7.holds Tryd.pinned (.plain (OpenSpec.upto fnExactSalvageEditsSpec)) fnExactSalvageEditsUptoCard

/-- THE SECOND FORM's CARD OF 'laws.FnExactReadEdits'. -/
def fnExactReadEditsUptoCard : Claim7 := { stood := { row := fnExactReadEditsUptoRow, standIns := [], harness := (true, "c99acad7bf450d40af74d6294ee11fa02489be82c29dbc4a17eeaef4134e2a59"), looks := true }, kinds := [], alts := [], laidByText := true, laidKinds := [.data, .data, .data, .sentinel, .sentinel], laidTests := true, laidLooks := .later }
def FnExactReadEditsUptoCardSaid : Prop := Claim7.holds Tryd.pinned (.plain (OpenSpec.upto fnExactReadEditsSpec)) fnExactReadEditsUptoCard
end Rows
end Go.Proofs.YtadehfgciiocfaaDoor
