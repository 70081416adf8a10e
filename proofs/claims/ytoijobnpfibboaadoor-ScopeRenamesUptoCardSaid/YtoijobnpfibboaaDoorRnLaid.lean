/- What the row's list of variables gives: strconv's table of powers lies; the door's own heap meets the condition. -/
import Derived.Test.YtoijobnpfibboaaDoorItoaLib
import Derived.ProofKit
import Derived.LaidMore
import Derived.Lib.LaidTab
import Derived.Lib.LaidU8
import Derived.Stop.LaidErr
import Derived.Test.YtoijobnpfibboaaDoorRows
namespace Go.Proofs.YtoijobnpfibboaaDoor
open Go.ChangeShapes Go.WideShapes Go.ChangeAt Go.RowKit
set_option linter.unusedVariables false
def laid1 : List (String × DataW Unit) := [("math/bits.deBruijn32tab", Rows.laid_math_bits_deBruijn32tab), ("math/bits.deBruijn64tab", Rows.laid_math_bits_deBruijn64tab), ("internal/strconv.uint64pow10", Rows.laid_internal_strconv_uint64pow10)]
theorem gPowT : (Tryd.prog.globals[0]?).map (·.type) = some 61 := by kernel_rfl
theorem cPow : Tryd.prog.cellsOf 61 = 20 := by kernel_rfl
theorem cU64 : Tryd.prog.cellsOf 53 = 1 := by kernel_rfl
theorem pow_of_laid {W : World} (h : laidMetH Tryd.prog laid1 W) : PowT W := by
  rw [MakeChecks.laidMetH_plain _ _ _ (by kernel_rfl)] at h
  have hT : Lib.TabIs Tryd.prog W "internal/strconv.uint64pow10" .u64 Lib.pow10Tab := Lib.tabIs_of_head (rest := []) gPow gPowT Tryd.underlying61 Tryd.underlying53 cU64 cPow h.tail.tail
  have c2 : W.cell? ⟨0, 0, none⟩ = _ := Lib.TabIs.cell hT gPow 0 (by decide)
  exact ⟨hT, World.block_lt_of_cell? W _ c2⟩
/-- The door's own heap meets the condition: three closed facts. -/
theorem door_met (os : Os) (args : Array Value) : laidMetH Tryd.prog laid1 ((World.doorLaid Tryd.prog 400 os).forCall (fun _ _ => 0) ⟨#[], args, []⟩).memory :=
  laidMetH_of_parts3 (fuel := 8) (laidMet_of_run' 8 (by kernel_rfl) (by kernel_rfl)) (by kernel_rfl) (by kernel_rfl)
end Go.Proofs.YtoijobnpfibboaaDoor
