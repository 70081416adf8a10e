/- What the row's list of variables gives: the library's table lies; the door's own heap meets the condition. -/
import Derived.Test.YtknaoianhjeccaaDoorTzLib
import Derived.ProofKit
import Derived.LaidMore
import Derived.Lib.LaidTab
namespace Go.Proofs.YtknaoianhjeccaaDoor
open Go.ChangeShapes Go.WideShapes Go.ChangeAt Go.RowKit
set_option linter.unusedVariables false
def laid1 : List (String × DataW Unit) := [("math/bits.deBruijn64tab", Rows.laid_math_bits_deBruijn64tab)]
theorem gTab : Tryd.prog.globalNamed "math/bits.deBruijn64tab" = some 0 := by kernel_rfl
theorem tTab : (Tryd.prog.globals[0]?).map (·.type) = some 91 := by kernel_rfl
theorem cTab : Tryd.prog.cellsOf 91 = 64 := by kernel_rfl
theorem cTab1 : Tryd.prog.cellsOf 5 = 1 := by kernel_rfl
theorem tab_of_laid {W : World} (h : laidMetH Tryd.prog laid1 W) : Tab W := by
  rw [MakeChecks.laidMetH_plain _ _ _ (by kernel_rfl)] at h
  have hT : Lib.TabIs Tryd.prog W "math/bits.deBruijn64tab" .u8 (Lib.deBruijn64tab.map fun (n : Nat) => (n : Int)) := Lib.tabIs_of_head (rest := []) gTab tTab Tryd.underlying91 Tryd.underlying5 cTab1 cTab h
  have hc : TabAt 0 Lib.deBruijn64tab W := by
    intro j hj
    have := hT.cell gTab j (by simpa using hj)
    rw [this]
    simp [List.getD, hj]
  exact ⟨hc, World.block_lt_of_cell? W _ (hc 0 (by decide))⟩
/-- The door's own heap meets the condition: three closed facts. -/
theorem door_met (os : Os) (args : Array Value) : laidMetH Tryd.prog laid1 ((World.doorLaid Tryd.prog 400 os).forCall (fun _ _ => 0) ⟨#[], args, []⟩).memory :=
  laidMetH_of_parts3 (fuel := 8) (laidMet_of_run' 8 (by kernel_rfl) (by kernel_rfl)) (by kernel_rfl) (by kernel_rfl)
end Go.Proofs.YtknaoianhjeccaaDoor
