/-
  DERIVED. GIVEN WITH THE SEED: THE CARDS: each row of YtnpgpcnkdocknaaGreatDoorRows.lean that lists a variable, with what it lists TIED to the program's text (the seventh form; the later family's looks); each row that meets fmt, with fmt's text TOLD by the authors' own Lean function (tested against real Go, not proved from fmt's source: count such statements apart). THE CARD IS WHAT COUNTS. Prove the row's statement (the work); the ties are given (YtnpgpcnkdocknaaGreatDoorTie.lean); close each card by the builder's one call (the guide's Derived/Test/ToyasCard.lean, 'card_holds'). Laid BY PROGRAM, IN A SANDBOX (cutbox-door.mjs). By AI agents, Wed Nov 11 2026. No macro, syntax, notation, axiom, sorry.
-/
import Derived.Test.YtnpgpcnkdocknaaGreatDoorRows
import GoSem.ClaimSeven
namespace Go.Proofs.YtnpgpcnkdocknaaGreatDoor
namespace Rows

/-- THE TIED CARD OF 'forkwrightlaw.BenchLines'. -/
def benchLinesCard : Claim7 := { stood := { row := benchLinesRow, standIns := [], harness := (true, "cce0cb13303f92ffe5188d94cee2a6affa77407bebf948a3b32451de6c42485a"), looks := true }, kinds := [], alts := [], laidByText := true, laidKinds := [.data, .data, .data, .sentinel, .sentinel, .listed, .data], laidTests := true, laidLooks := .later }
def BenchLinesCardSaid : Prop := Claim7.holds Tryz.pinned (.plain (OpenSpec.ofChange benchLinesSpec)) benchLinesCard

/-- THE SECOND FORM's CARD OF 'forkwrightlaw.BenchLines'. -/
def benchLinesUptoCard : Claim7 := { stood := { row := benchLinesUptoRow, standIns := [], harness := (true, "cce0cb13303f92ffe5188d94cee2a6affa77407bebf948a3b32451de6c42485a"), looks := true }, kinds := [], alts := [], laidByText := true, laidKinds := [.data, .data, .data, .sentinel, .sentinel, .listed, .data], laidTests := true, laidLooks := .later }
def BenchLinesUptoCardSaid : Prop := Claim7.holds Tryz.pinned (.plain (OpenSpec.upto benchLinesSpec)) benchLinesUptoCard
end Rows
end Go.Proofs.YtnpgpcnkdocknaaGreatDoor
