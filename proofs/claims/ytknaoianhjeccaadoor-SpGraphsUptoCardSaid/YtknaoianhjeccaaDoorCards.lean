/-
  DERIVED. GIVEN WITH THE SEED: THE CARDS: each row of YtknaoianhjeccaaDoorRows.lean that lists a variable, with what it lists TIED to the program's text (the seventh form; the later family's looks); each row that meets fmt, with fmt's text TOLD by the authors' own Lean function (tested against real Go, not proved from fmt's source: count such statements apart). THE CARD IS WHAT COUNTS. Prove the row's statement (the work); the ties are given (YtknaoianhjeccaaDoorTie.lean); close each card by the builder's one call (the guide's Derived/Test/ToyasCard.lean, 'card_holds'). Laid BY PROGRAM, IN A SANDBOX (cutbox-door.mjs). By AI agents, Wed Nov 11 2026. No macro, syntax, notation, axiom, sorry.
-/
import Derived.Test.YtknaoianhjeccaaDoorRows
import GoSem.ClaimSeven
namespace Go.Proofs.YtknaoianhjeccaaDoor
namespace Rows

/-- THE TIED CARD OF 'forkwrightlaw.GraphCloses'. -/
def graphClosesCard : Claim7 := { stood := { row := graphClosesRow, standIns := [], harness := (true, "6508f65af26dae75b475d9f477932cfaf92a6337d7740fe8ca1cbda21153be1a"), looks := false }, kinds := [], alts := [], laidByText := true, laidKinds := [.data], laidTests := true, laidLooks := .later }
def GraphClosesCardSaid : Prop := Claim7.holds Tryd.pinned (.plain (OpenSpec.ofChange graphClosesSpec)) graphClosesCard

/-- THE TIED CARD OF 'forkwrightlaw.SpGraphs'. -/
def spGraphsCard : Claim7 := { stood := { row := spGraphsRow, standIns := [], harness := (true, "6508f65af26dae75b475d9f477932cfaf92a6337d7740fe8ca1cbda21153be1a"), looks := false }, kinds := [], alts := [], laidByText := true, laidKinds := [.data], laidTests := true, laidLooks := .later }
def SpGraphsCardSaid : Prop := Claim7.holds Tryd.pinned (.plain (OpenSpec.ofChange spGraphsSpec)) spGraphsCard

/-- THE SECOND FORM's CARD OF 'forkwrightlaw.GraphCloses'. -/
def graphClosesUptoCard : Claim7 := { stood := { row := graphClosesUptoRow, standIns := [], harness := (true, "6508f65af26dae75b475d9f477932cfaf92a6337d7740fe8ca1cbda21153be1a"), looks := false }, kinds := [], alts := [], laidByText := true, laidKinds := [.data], laidTests := true, laidLooks := .later }
def GraphClosesUptoCardSaid : Prop := Claim7.holds Tryd.pinned (.plain (OpenSpec.upto graphClosesSpec)) graphClosesUptoCard

/-- THE SECOND FORM's CARD OF 'forkwrightlaw.SpGraphs'. -/
def spGraphsUptoCard : Claim7 := { stood := { row := spGraphsUptoRow, standIns := [], harness := (true, "6508f65af26dae75b475d9f477932cfaf92a6337d7740fe8ca1cbda21153be1a"), looks := false }, kinds := [], alts := [], laidByText := true, laidKinds := [.data], laidTests := true, laidLooks := .later }
def SpGraphsUptoCardSaid : Prop := Claim7.holds Tryd.pinned (.plain (OpenSpec.upto spGraphsSpec)) spGraphsUptoCard
end Rows
end Go.Proofs.YtknaoianhjeccaaDoor
