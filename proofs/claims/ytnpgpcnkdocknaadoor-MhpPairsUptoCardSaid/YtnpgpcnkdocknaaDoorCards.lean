/-
  DERIVED. GIVEN WITH THE SEED: THE CARDS: each row of YtnpgpcnkdocknaaDoorRows.lean that lists a variable, with what it lists TIED to the program's text (the seventh form; the later family's looks); each row that meets fmt, with fmt's text TOLD by the authors' own Lean function (tested against real Go, not proved from fmt's source: count such statements apart). THE CARD IS WHAT COUNTS. Prove the row's statement (the work); the ties are given (YtnpgpcnkdocknaaDoorTie.lean); close each card by the builder's one call (the guide's Derived/Test/ToyasCard.lean, 'card_holds'). Laid BY PROGRAM, IN A SANDBOX (cutbox-door.mjs). By AI agents, Wed Nov 11 2026. No macro, syntax, notation, axiom, sorry.
-/
import Derived.Test.YtnpgpcnkdocknaaDoorRows
import GoSem.ClaimSeven
namespace Go.Proofs.YtnpgpcnkdocknaaDoor
namespace Rows

/-- THE TIED CARD OF 'forkwrightlaw.MhpPairs'. -/
def mhpPairsCard : Claim7 := { stood := { row := mhpPairsRow, standIns := [], harness := (true, "095c28a929dea213935683962e0c4b086dd24066ea33d3ff10993668c9b8e296"), looks := false }, kinds := [], alts := [], laidByText := true, laidKinds := [.data], laidTests := true, laidLooks := .later }
def MhpPairsCardSaid : Prop := Claim7.holds Tryd.pinned (.plain (OpenSpec.ofChange mhpPairsSpec)) mhpPairsCard

/-- THE SECOND FORM's CARD OF 'forkwrightlaw.MhpPairs'. -/
def mhpPairsUptoCard : Claim7 := { stood := { row := mhpPairsUptoRow, standIns := [], harness := (true, "095c28a929dea213935683962e0c4b086dd24066ea33d3ff10993668c9b8e296"), looks := false }, kinds := [], alts := [], laidByText := true, laidKinds := [.data], laidTests := true, laidLooks := .later }
def MhpPairsUptoCardSaid : Prop := Claim7.holds Tryd.pinned (.plain (OpenSpec.upto mhpPairsSpec)) mhpPairsUptoCard
end Rows
end Go.Proofs.YtnpgpcnkdocknaaDoor
