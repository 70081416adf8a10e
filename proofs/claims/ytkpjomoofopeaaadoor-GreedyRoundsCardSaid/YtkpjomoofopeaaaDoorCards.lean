/-
  DERIVED. GIVEN WITH THE SEED: THE CARDS: each row of YtkpjomoofopeaaaDoorRows.lean that lists a variable, with what it lists TIED to the program's text (the seventh form; the later family's looks); each row that meets fmt, with fmt's text TOLD by the authors' own Lean function (tested against real Go, not proved from fmt's source: count such statements apart). THE CARD IS WHAT COUNTS. Prove the row's statement (the work); the ties are given (YtkpjomoofopeaaaDoorTie.lean); close each card by the builder's one call (the guide's Derived/Test/ToyasCard.lean, 'card_holds'). Laid BY PROGRAM, IN A SANDBOX (cutbox-door.mjs). By AI agents, Wed Nov 11 2026. No macro, syntax, notation, axiom, sorry.
-/
import Derived.Test.YtkpjomoofopeaaaDoorRows
import GoSem.ClaimSeven
namespace Go.Proofs.YtkpjomoofopeaaaDoor
namespace Rows

/-- THE TIED CARD OF 'forkwrightlaw.GreedyRounds'. -/
def greedyRoundsCard : Claim7 := { stood := { row := greedyRoundsRow, standIns := [], harness := (true, "032d5f5498a4b92cec0376646b15fa938d63fc68e3bd81bf51cac2b51ee37510"), looks := true }, kinds := [], alts := [], laidByText := true, laidKinds := [.data], laidTests := true, laidLooks := .later }
def GreedyRoundsCardSaid : Prop := Claim7.holds Tryd.pinned (.plain (OpenSpec.ofChange greedyRoundsSpec)) greedyRoundsCard

/-- THE TIED CARD OF 'forkwrightlaw.GraphCloses'. -/
def graphClosesCard : Claim7 := { stood := { row := graphClosesRow, standIns := [], harness := (true, "032d5f5498a4b92cec0376646b15fa938d63fc68e3bd81bf51cac2b51ee37510"), looks := true }, kinds := [], alts := [], laidByText := true, laidKinds := [.data], laidTests := true, laidLooks := .later }
def GraphClosesCardSaid : Prop := Claim7.holds Tryd.pinned (.plain (OpenSpec.ofChange graphClosesSpec)) graphClosesCard

/-- THE TIED CARD OF 'forkwrightlaw.SpGraphs'. -/
def spGraphsCard : Claim7 := { stood := { row := spGraphsRow, standIns := [], harness := (true, "032d5f5498a4b92cec0376646b15fa938d63fc68e3bd81bf51cac2b51ee37510"), looks := true }, kinds := [], alts := [], laidByText := true, laidKinds := [.data], laidTests := true, laidLooks := .later }
def SpGraphsCardSaid : Prop := Claim7.holds Tryd.pinned (.plain (OpenSpec.ofChange spGraphsSpec)) spGraphsCard

/-- THE TIED CARD OF 'forkwrightlaw.LexParts'. -/
def lexPartsCard : Claim7 := { stood := { row := lexPartsRow, standIns := [], harness := (true, "032d5f5498a4b92cec0376646b15fa938d63fc68e3bd81bf51cac2b51ee37510"), looks := true }, kinds := [], alts := [], laidByText := true, laidKinds := [.data, .data, .data, .sentinel, .sentinel], laidTests := true, laidLooks := .later }
def LexPartsCardSaid : Prop := Claim7.holds Tryd.pinned (.plain (OpenSpec.ofChange lexPartsSpec)) lexPartsCard

/-- THE SECOND FORM's CARD OF 'forkwrightlaw.GreedyRounds'. -/
def greedyRoundsUptoCard : Claim7 := { stood := { row := greedyRoundsUptoRow, standIns := [], harness := (true, "032d5f5498a4b92cec0376646b15fa938d63fc68e3bd81bf51cac2b51ee37510"), looks := true }, kinds := [], alts := [], laidByText := true, laidKinds := [.data], laidTests := true, laidLooks := .later }
def GreedyRoundsUptoCardSaid : Prop := Claim7.holds Tryd.pinned (.plain (OpenSpec.upto greedyRoundsSpec)) greedyRoundsUptoCard

/-- THE SECOND FORM's CARD OF 'forkwrightlaw.GraphCloses'. -/
def graphClosesUptoCard : Claim7 := { stood := { row := graphClosesUptoRow, standIns := [], harness := (true, "032d5f5498a4b92cec0376646b15fa938d63fc68e3bd81bf51cac2b51ee37510"), looks := true }, kinds := [], alts := [], laidByText := true, laidKinds := [.data], laidTests := true, laidLooks := .later }
def GraphClosesUptoCardSaid : Prop := Claim7.holds Tryd.pinned (.plain (OpenSpec.upto graphClosesSpec)) graphClosesUptoCard

/-- THE SECOND FORM's CARD OF 'forkwrightlaw.SpGraphs'. -/
def spGraphsUptoCard : Claim7 := { stood := { row := spGraphsUptoRow, standIns := [], harness := (true, "032d5f5498a4b92cec0376646b15fa938d63fc68e3bd81bf51cac2b51ee37510"), looks := true }, kinds := [], alts := [], laidByText := true, laidKinds := [.data], laidTests := true, laidLooks := .later }
def SpGraphsUptoCardSaid : Prop := Claim7.holds Tryd.pinned (.plain (OpenSpec.upto spGraphsSpec)) spGraphsUptoCard

/-- THE SECOND FORM's CARD OF 'forkwrightlaw.LexParts'. -/
def lexPartsUptoCard : Claim7 := { stood := { row := lexPartsUptoRow, standIns := [], harness := (true, "032d5f5498a4b92cec0376646b15fa938d63fc68e3bd81bf51cac2b51ee37510"), looks := true }, kinds := [], alts := [], laidByText := true, laidKinds := [.data, .data, .data, .sentinel, .sentinel], laidTests := true, laidLooks := .later }
def LexPartsUptoCardSaid : Prop := Claim7.holds Tryd.pinned (.plain (OpenSpec.upto lexPartsSpec)) lexPartsUptoCard
end Rows
end Go.Proofs.YtkpjomoofopeaaaDoor
