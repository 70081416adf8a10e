/-
  DERIVED. GIVEN WITH THE SEED: THE CARDS: each row of YtoijobnpfibboaaDoorRows.lean that lists a variable, with what it lists TIED to the program's text (the seventh form; the later family's looks); each row that meets fmt, with fmt's text TOLD by the authors' own Lean function (tested against real Go, not proved from fmt's source: count such statements apart). THE CARD IS WHAT COUNTS. Prove the row's statement (the work); the ties are given (YtoijobnpfibboaaDoorTie.lean); close each card by the builder's one call (the guide's Derived/Test/ToyasCard.lean, 'card_holds'). Laid BY PROGRAM, IN A SANDBOX (cutbox-door.mjs). By AI agents, Wed Nov 11 2026. No macro, syntax, notation, axiom, sorry.
-/
import Derived.Test.YtoijobnpfibboaaDoorRows
import GoSem.ClaimSeven
namespace Go.Proofs.YtoijobnpfibboaaDoor
namespace Rows

/-- THE TIED CARD OF 'forkwrightlaw.ScopeRenames'. -/
def scopeRenamesCard : Claim7 := { stood := { row := scopeRenamesRow, standIns := [], harness := (true, "a0aa5c540e52c5ffa88bc02a9499ec9cd7cd4c5fe71464e7de580736cace1d1e"), looks := false }, kinds := [], alts := [], laidByText := true, laidKinds := [.data, .data, .data], laidTests := true, laidLooks := .later }
def ScopeRenamesCardSaid : Prop := Claim7.holds Tryd.pinned (.plain (OpenSpec.ofChange scopeRenamesSpec)) scopeRenamesCard

/-- THE SECOND FORM's CARD OF 'forkwrightlaw.ScopeRenames'. -/
def scopeRenamesUptoCard : Claim7 := { stood := { row := scopeRenamesUptoRow, standIns := [], harness := (true, "a0aa5c540e52c5ffa88bc02a9499ec9cd7cd4c5fe71464e7de580736cace1d1e"), looks := false }, kinds := [], alts := [], laidByText := true, laidKinds := [.data, .data, .data], laidTests := true, laidLooks := .later }
def ScopeRenamesUptoCardSaid : Prop := Claim7.holds Tryd.pinned (.plain (OpenSpec.upto scopeRenamesSpec)) scopeRenamesUptoCard
end Rows
end Go.Proofs.YtoijobnpfibboaaDoor
