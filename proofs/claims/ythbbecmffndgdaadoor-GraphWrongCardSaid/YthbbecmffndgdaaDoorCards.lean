/-
  DERIVED. GIVEN WITH THE SEED: THE CARDS: each row of YthbbecmffndgdaaDoorRows.lean that lists a variable, with what it lists TIED to the program's text (the seventh form; the later family's looks); each row that meets fmt, with fmt's text TOLD by the authors' own Lean function (tested against real Go, not proved from fmt's source: count such statements apart). THE CARD IS WHAT COUNTS. Prove the row's statement (the work); the ties are given (YthbbecmffndgdaaDoorTie.lean); close each card by the builder's one call (the guide's Derived/Test/ToyasCard.lean, 'card_holds'). Laid BY PROGRAM, IN A SANDBOX (cutbox-door.mjs). By AI agents, Wed Nov 11 2026. No macro, syntax, notation, axiom, sorry.
-/
import Derived.Test.YthbbecmffndgdaaDoorRows
import GoSem.ClaimSeven
namespace Go.Proofs.YthbbecmffndgdaaDoor
namespace Rows

/-- THE TIED CARD OF 'forkwrightlaw.GraphWrong'. -/
def graphWrongCard : Claim7 := { stood := { row := graphWrongRow, standIns := [], harness := (true, "4d8f4d12fbf0465377af9bb77e62b456e6f2ee6dfb2b31f9737bb2a0c6f0a7f9"), looks := false }, kinds := [], alts := [], laidByText := true, laidKinds := [.data], laidTests := true, laidLooks := .later }
def GraphWrongCardSaid : Prop := Claim7.holds Tryd.pinned (.plain (OpenSpec.ofChange graphWrongSpec)) graphWrongCard

/-- THE TIED CARD OF 'forkwrightlaw.SpGraphs'. -/
def spGraphsCard : Claim7 := { stood := { row := spGraphsRow, standIns := [], harness := (true, "4d8f4d12fbf0465377af9bb77e62b456e6f2ee6dfb2b31f9737bb2a0c6f0a7f9"), looks := false }, kinds := [], alts := [], laidByText := true, laidKinds := [.data], laidTests := true, laidLooks := .later }
def SpGraphsCardSaid : Prop := Claim7.holds Tryd.pinned (.plain (OpenSpec.ofChange spGraphsSpec)) spGraphsCard

/-- THE SECOND FORM's CARD OF 'forkwrightlaw.GraphWrong'. -/
def graphWrongUptoCard : Claim7 := { stood := { row := graphWrongUptoRow, standIns := [], harness := (true, "4d8f4d12fbf0465377af9bb77e62b456e6f2ee6dfb2b31f9737bb2a0c6f0a7f9"), looks := false }, kinds := [], alts := [], laidByText := true, laidKinds := [.data], laidTests := true, laidLooks := .later }
def GraphWrongUptoCardSaid : Prop := Claim7.holds Tryd.pinned (.plain (OpenSpec.upto graphWrongSpec)) graphWrongUptoCard

/-- THE SECOND FORM's CARD OF 'forkwrightlaw.SpGraphs'. -/
def spGraphsUptoCard : Claim7 := { stood := { row := spGraphsUptoRow, standIns := [], harness := (true, "4d8f4d12fbf0465377af9bb77e62b456e6f2ee6dfb2b31f9737bb2a0c6f0a7f9"), looks := false }, kinds := [], alts := [], laidByText := true, laidKinds := [.data], laidTests := true, laidLooks := .later }
def SpGraphsUptoCardSaid : Prop := Claim7.holds Tryd.pinned (.plain (OpenSpec.upto spGraphsSpec)) spGraphsUptoCard
end Rows
end Go.Proofs.YthbbecmffndgdaaDoor
