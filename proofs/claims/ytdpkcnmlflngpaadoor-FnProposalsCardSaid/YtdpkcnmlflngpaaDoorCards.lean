/-
  DERIVED. GIVEN WITH THE SEED: THE CARDS: each row of YtdpkcnmlflngpaaDoorRows.lean that lists a variable, with what it lists TIED to the program's text (the seventh form; the later family's looks); each row that meets fmt, with fmt's text TOLD by the authors' own Lean function (tested against real Go, not proved from fmt's source: count such statements apart). THE CARD IS WHAT COUNTS. Prove the row's statement (the work); the ties are given (YtdpkcnmlflngpaaDoorTie.lean); close each card by the builder's one call (the guide's Derived/Test/ToyasCard.lean, 'card_holds'). Laid BY PROGRAM, IN A SANDBOX (cutbox-door.mjs). By AI agents, Wed Nov 11 2026. No macro, syntax, notation, axiom, sorry.
-/
import Derived.Test.YtdpkcnmlflngpaaDoorRows
import GoSem.ClaimSeven
namespace Go.Proofs.YtdpkcnmlflngpaaDoor
namespace Rows

/-- THE TIED CARD OF 'laws.FnProposals'. -/
def fnProposalsCard : Claim7 := { stood := { row := fnProposalsRow, standIns := [], harness := (true, "d324fb1612bfc72fac411c858ac4b311a045bc29eaeef244e4b72e49f42f9c7e"), looks := false }, kinds := [], alts := [], laidByText := true, laidKinds := [.data, .data, .data], laidTests := true, laidLooks := .later }
def FnProposalsCardSaid : Prop := Claim7.holds Tryd.pinned (.plain (OpenSpec.ofChange fnProposalsSpec)) fnProposalsCard

/-- THE SECOND FORM's CARD OF 'laws.FnProposals'. -/
def fnProposalsUptoCard : Claim7 := { stood := { row := fnProposalsUptoRow, standIns := [], harness := (true, "d324fb1612bfc72fac411c858ac4b311a045bc29eaeef244e4b72e49f42f9c7e"), looks := false }, kinds := [], alts := [], laidByText := true, laidKinds := [.data, .data, .data], laidTests := true, laidLooks := .later }
def FnProposalsUptoCardSaid : Prop := Claim7.holds Tryd.pinned (.plain (OpenSpec.upto fnProposalsSpec)) fnProposalsUptoCard
end Rows
end Go.Proofs.YtdpkcnmlflngpaaDoor
