/-
  DERIVED. GIVEN WITH THE SEED: THE CARDS: each row of YtijahadmaggncaaDoorRows.lean that lists a variable, with what it lists TIED to the program's text (the seventh form; the later family's looks); each row that meets fmt, with fmt's text TOLD by the authors' own Lean function (tested against real Go, not proved from fmt's source: count such statements apart). THE CARD IS WHAT COUNTS. Prove the row's statement (the work); the ties are given (YtijahadmaggncaaDoorTie.lean); close each card by the builder's one call (the guide's Derived/Test/ToyasCard.lean, 'card_holds'). Laid BY PROGRAM, IN A SANDBOX (cutbox-door.mjs). By AI agents, Wed Nov 11 2026. No macro, syntax, notation, axiom, sorry.
-/
import Derived.Test.YtijahadmaggncaaDoorRows
import GoSem.ClaimSeven
namespace Go.Proofs.YtijahadmaggncaaDoor
namespace Rows

/-- THE TIED CARD OF 'forkwrightlaw.SynPrints'. -/
def synPrintsCard : Claim7 := { stood := { row := synPrintsRow, standIns := [], harness := (true, "cc58b7642a00df5fc0fe4233b1b8fe7f2b0ad68614799dcc1c2b694de365e396"), looks := true }, kinds := [], alts := [], laidByText := true, laidKinds := [.data, .data, .data, .listed, .data], laidTests := true, laidLooks := .later }
def SynPrintsCardSaid : Prop := Claim7.holds Tryd.pinned (.plain (OpenSpec.ofChange synPrintsSpec)) synPrintsCard

/-- THE TIED CARD OF 'forkwrightlaw.SynParses'. -/
def synParsesCard : Claim7 := { stood := { row := synParsesRow, standIns := [], harness := (true, "cc58b7642a00df5fc0fe4233b1b8fe7f2b0ad68614799dcc1c2b694de365e396"), looks := true }, kinds := [], alts := [], laidByText := true, laidKinds := [.data, .data, .data, .sentinel, .sentinel], laidTests := true, laidLooks := .later }
def SynParsesCardSaid : Prop := Claim7.holds Tryd.pinned (.plain (OpenSpec.ofChange synParsesSpec)) synParsesCard

/-- THE TIED CARD OF 'forkwrightlaw.MhpPairs'. -/
def mhpPairsCard : Claim7 := { stood := { row := mhpPairsRow, standIns := [], harness := (true, "cc58b7642a00df5fc0fe4233b1b8fe7f2b0ad68614799dcc1c2b694de365e396"), looks := true }, kinds := [], alts := [], laidByText := true, laidKinds := [.data], laidTests := true, laidLooks := .later }
def MhpPairsCardSaid : Prop := Claim7.holds Tryd.pinned (.plain (OpenSpec.ofChange mhpPairsSpec)) mhpPairsCard

/-- THE SECOND FORM's CARD OF 'forkwrightlaw.SynPrints'. -/
def synPrintsUptoCard : Claim7 := { stood := { row := synPrintsUptoRow, standIns := [], harness := (true, "cc58b7642a00df5fc0fe4233b1b8fe7f2b0ad68614799dcc1c2b694de365e396"), looks := true }, kinds := [], alts := [], laidByText := true, laidKinds := [.data, .data, .data, .listed, .data], laidTests := true, laidLooks := .later }
def SynPrintsUptoCardSaid : Prop := Claim7.holds Tryd.pinned (.plain (OpenSpec.upto synPrintsSpec)) synPrintsUptoCard

/-- THE SECOND FORM's CARD OF 'forkwrightlaw.SynParses'. -/
def synParsesUptoCard : Claim7 := { stood := { row := synParsesUptoRow, standIns := [], harness := (true, "cc58b7642a00df5fc0fe4233b1b8fe7f2b0ad68614799dcc1c2b694de365e396"), looks := true }, kinds := [], alts := [], laidByText := true, laidKinds := [.data, .data, .data, .sentinel, .sentinel], laidTests := true, laidLooks := .later }
def SynParsesUptoCardSaid : Prop := Claim7.holds Tryd.pinned (.plain (OpenSpec.upto synParsesSpec)) synParsesUptoCard

/-- THE SECOND FORM's CARD OF 'forkwrightlaw.MhpPairs'. -/
def mhpPairsUptoCard : Claim7 := { stood := { row := mhpPairsUptoRow, standIns := [], harness := (true, "cc58b7642a00df5fc0fe4233b1b8fe7f2b0ad68614799dcc1c2b694de365e396"), looks := true }, kinds := [], alts := [], laidByText := true, laidKinds := [.data], laidTests := true, laidLooks := .later }
def MhpPairsUptoCardSaid : Prop := Claim7.holds Tryd.pinned (.plain (OpenSpec.upto mhpPairsSpec)) mhpPairsUptoCard
end Rows
end Go.Proofs.YtijahadmaggncaaDoor
