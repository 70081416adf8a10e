/-
  DERIVED. GIVEN WITH THE SEED: THE CARDS: each row of YtgnlchfcominaaaDoorRows.lean that lists a variable, with what it lists TIED to the program's text (the seventh form; the later family's looks); each row that meets fmt, with fmt's text TOLD by the authors' own Lean function (tested against real Go, not proved from fmt's source: count such statements apart). THE CARD IS WHAT COUNTS. Prove the row's statement (the work); the ties are given (YtgnlchfcominaaaDoorTie.lean); close each card by the builder's one call (the guide's Derived/Test/ToyasCard.lean, 'card_holds'). Laid BY PROGRAM, IN A SANDBOX (cutbox-door.mjs). By AI agents, Wed Nov 11 2026. No macro, syntax, notation, axiom, sorry.
-/
import Derived.Test.YtgnlchfcominaaaDoorRows
import GoSem.ClaimSeven
namespace Go.Proofs.YtgnlchfcominaaaDoor
namespace Rows

/-- THE TIED CARD OF 'forkwrightlaw.LexParts'. -/
def lexPartsCard : Claim7 := { stood := { row := lexPartsRow, standIns := [], harness := (true, "a589fad70c5157856e63aab342b28cdfb83e45ee5d39653bba72275c46a27ecd"), looks := true }, kinds := [], alts := [], laidByText := true, laidKinds := [.data, .data, .data, .sentinel, .sentinel], laidTests := true, laidLooks := .later }
def LexPartsCardSaid : Prop := Claim7.holds Tryd.pinned (.plain (OpenSpec.ofChange lexPartsSpec)) lexPartsCard

/-- THE TIED CARD OF 'forkwrightlaw.SynPrints'. -/
def synPrintsCard : Claim7 := { stood := { row := synPrintsRow, standIns := [], harness := (true, "a589fad70c5157856e63aab342b28cdfb83e45ee5d39653bba72275c46a27ecd"), looks := true }, kinds := [], alts := [], laidByText := true, laidKinds := [.data, .data, .data, .listed, .data], laidTests := true, laidLooks := .later }
def SynPrintsCardSaid : Prop := Claim7.holds Tryd.pinned (.plain (OpenSpec.ofChange synPrintsSpec)) synPrintsCard

/-- THE TIED CARD OF 'forkwrightlaw.SynParses'. -/
def synParsesCard : Claim7 := { stood := { row := synParsesRow, standIns := [], harness := (true, "a589fad70c5157856e63aab342b28cdfb83e45ee5d39653bba72275c46a27ecd"), looks := true }, kinds := [], alts := [], laidByText := true, laidKinds := [.data, .data, .data, .sentinel, .sentinel], laidTests := true, laidLooks := .later }
def SynParsesCardSaid : Prop := Claim7.holds Tryd.pinned (.plain (OpenSpec.ofChange synParsesSpec)) synParsesCard

/-- THE SECOND FORM's CARD OF 'forkwrightlaw.LexParts'. -/
def lexPartsUptoCard : Claim7 := { stood := { row := lexPartsUptoRow, standIns := [], harness := (true, "a589fad70c5157856e63aab342b28cdfb83e45ee5d39653bba72275c46a27ecd"), looks := true }, kinds := [], alts := [], laidByText := true, laidKinds := [.data, .data, .data, .sentinel, .sentinel], laidTests := true, laidLooks := .later }
def LexPartsUptoCardSaid : Prop := Claim7.holds Tryd.pinned (.plain (OpenSpec.upto lexPartsSpec)) lexPartsUptoCard

/-- THE SECOND FORM's CARD OF 'forkwrightlaw.SynPrints'. -/
def synPrintsUptoCard : Claim7 := { stood := { row := synPrintsUptoRow, standIns := [], harness := (true, "a589fad70c5157856e63aab342b28cdfb83e45ee5d39653bba72275c46a27ecd"), looks := true }, kinds := [], alts := [], laidByText := true, laidKinds := [.data, .data, .data, .listed, .data], laidTests := true, laidLooks := .later }
def SynPrintsUptoCardSaid : Prop := Claim7.holds Tryd.pinned (.plain (OpenSpec.upto synPrintsSpec)) synPrintsUptoCard

/-- THE SECOND FORM's CARD OF 'forkwrightlaw.SynParses'. -/
def synParsesUptoCard : Claim7 := { stood := { row := synParsesUptoRow, standIns := [], harness := (true, "a589fad70c5157856e63aab342b28cdfb83e45ee5d39653bba72275c46a27ecd"), looks := true }, kinds := [], alts := [], laidByText := true, laidKinds := [.data, .data, .data, .sentinel, .sentinel], laidTests := true, laidLooks := .later }
def SynParsesUptoCardSaid : Prop := Claim7.holds Tryd.pinned (.plain (OpenSpec.upto synParsesSpec)) synParsesUptoCard
end Rows
end Go.Proofs.YtgnlchfcominaaaDoor
