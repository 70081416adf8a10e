/-
  DERIVED. GIVEN WITH THE SEED: THE CARDS: each row of YthcafocpifjopaaDoorRows.lean that lists a variable, with what it lists TIED to the program's text (the seventh form; the later family's looks); each row that meets fmt, with fmt's text TOLD by the authors' own Lean function (tested against real Go, not proved from fmt's source: count such statements apart). THE CARD IS WHAT COUNTS. Prove the row's statement (the work); the ties are given (YthcafocpifjopaaDoorTie.lean); close each card by the builder's one call (the guide's Derived/Test/ToyasCard.lean, 'card_holds'). Laid BY PROGRAM, IN A SANDBOX (cutbox-door.mjs). By AI agents, Wed Nov 11 2026. No macro, syntax, notation, axiom, sorry.
-/
import Derived.Test.YthcafocpifjopaaDoorRows
import GoSem.ClaimSeven
namespace Go.Proofs.YthcafocpifjopaaDoor
namespace Rows

/-- THE TIED CARD OF 'forkwrightlaw.BitsetLists'. -/
def bitsetListsCard : Claim7 := { stood := { row := bitsetListsRow, standIns := [], harness := (true, "f4ca79dc8678c4b2d87aff22df232c7e2bd2bf5c2734a5161ad92416c6dc281f"), looks := false }, kinds := [], alts := [], laidByText := true, laidKinds := [.data], laidTests := true, laidLooks := .later }
def BitsetListsCardSaid : Prop := Claim7.holds Tryd.pinned (.plain (OpenSpec.ofChange bitsetListsSpec)) bitsetListsCard

/-- THE TIED CARD OF 'forkwrightlaw.GraphSorts'. -/
def graphSortsCard : Claim7 := { stood := { row := graphSortsRow, standIns := [], harness := (true, "f4ca79dc8678c4b2d87aff22df232c7e2bd2bf5c2734a5161ad92416c6dc281f"), looks := false }, kinds := [], alts := [], laidByText := true, laidKinds := [.data], laidTests := true, laidLooks := .later }
def GraphSortsCardSaid : Prop := Claim7.holds Tryd.pinned (.plain (OpenSpec.ofChange graphSortsSpec)) graphSortsCard

/-- THE SECOND FORM's CARD OF 'forkwrightlaw.BitsetLists'. -/
def bitsetListsUptoCard : Claim7 := { stood := { row := bitsetListsUptoRow, standIns := [], harness := (true, "f4ca79dc8678c4b2d87aff22df232c7e2bd2bf5c2734a5161ad92416c6dc281f"), looks := false }, kinds := [], alts := [], laidByText := true, laidKinds := [.data], laidTests := true, laidLooks := .later }
def BitsetListsUptoCardSaid : Prop := Claim7.holds Tryd.pinned (.plain (OpenSpec.upto bitsetListsSpec)) bitsetListsUptoCard

/-- THE SECOND FORM's CARD OF 'forkwrightlaw.GraphSorts'. -/
def graphSortsUptoCard : Claim7 := { stood := { row := graphSortsUptoRow, standIns := [], harness := (true, "f4ca79dc8678c4b2d87aff22df232c7e2bd2bf5c2734a5161ad92416c6dc281f"), looks := false }, kinds := [], alts := [], laidByText := true, laidKinds := [.data], laidTests := true, laidLooks := .later }
def GraphSortsUptoCardSaid : Prop := Claim7.holds Tryd.pinned (.plain (OpenSpec.upto graphSortsSpec)) graphSortsUptoCard
end Rows
end Go.Proofs.YthcafocpifjopaaDoor
