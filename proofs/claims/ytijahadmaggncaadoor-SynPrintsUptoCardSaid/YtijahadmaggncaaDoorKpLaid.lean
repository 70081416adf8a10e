/- What the row's list of variables gives: the tables of powers and of blanks lie; the door's own heap meets the condition. -/
import Derived.Test.YtijahadmaggncaaDoorFmtLib
import Derived.ProofKit
import Derived.LaidMore
import Derived.Lib.LaidTab
import Derived.Lib.LaidU8
import Derived.Stop.LaidErr
import Derived.Test.YtijahadmaggncaaDoorRows
namespace Go.Proofs.YtijahadmaggncaaDoor
open Go.ChangeShapes Go.WideShapes Go.ChangeAt Go.RowKit
set_option linter.unusedVariables false
def laid1 : List (String × DataW Unit) := [("math/bits.deBruijn32tab", Rows.laid_math_bits_deBruijn32tab), ("math/bits.deBruijn64tab", Rows.laid_math_bits_deBruijn64tab), ("internal/strconv.uint64pow10", Rows.laid_internal_strconv_uint64pow10), ("unicode.White_Space", Rows.laid_unicode_White_Space), ("strings.asciiSpace", Rows.laid_strings_asciiSpace)]
theorem gPowT : (Tryd.prog.globals[5]?).map (·.type) = some 210 := by kernel_rfl
theorem cPow : Tryd.prog.cellsOf 210 = 20 := by kernel_rfl
theorem cU64 : Tryd.prog.cellsOf 114 = 1 := by kernel_rfl
theorem gAscT : (Tryd.prog.globals[1]?).map (·.type) = some 200 := by kernel_rfl
theorem cAsc : Tryd.prog.cellsOf 200 = 256 := by kernel_rfl
theorem cU8 : Tryd.prog.cellsOf 5 = 1 := by kernel_rfl
theorem ascEq : (Rows.laid_strings_asciiSpace : DataW Unit) = Lib.tabData .u8 Lib.asciiSpaceTab := by kernel_rfl
theorem fmt_of_laid {W : World} (h : laidMetH Tryd.prog laid1 W) : FmtT W := by
  rw [MakeChecks.laidMetH_plain _ _ _ (by kernel_rfl)] at h
  have hT : Lib.TabIs Tryd.prog W "internal/strconv.uint64pow10" .u64 Lib.pow10Tab := Lib.tabIs_of_head (rest := [("unicode.White_Space", Rows.laid_unicode_White_Space), ("strings.asciiSpace", Rows.laid_strings_asciiSpace)]) gPowI gPowT Tryd.underlying210 Tryd.underlying114 cU64 cPow h.tail.tail
  have h4 : laidMet Tryd.prog [("strings.asciiSpace", Rows.laid_strings_asciiSpace)] W := h.tail.tail.tail.tail
  rw [ascEq] at h4
  have hS : Lib.TabIs Tryd.prog W "strings.asciiSpace" .u8 Lib.asciiSpaceTab := Lib.tabIs_of_head (rest := []) gAsc gAscT Tryd.underlying200 Tryd.underlying5 cU8 cAsc h4
  have c2 : W.cell? ⟨5, 0, none⟩ = _ := Lib.TabIs.cell hT gPowI 0 (by decide)
  have c3 : W.cell? ⟨1, 0, none⟩ = _ := Lib.TabIs.cell hS gAsc 0 (by rw [Lib.asciiSpaceTab_length]; decide)
  exact ⟨⟨hT, World.block_lt_of_cell? W _ c2⟩, hS, World.block_lt_of_cell? W _ c3⟩
/-- The door's own heap meets the condition: three closed facts. -/
theorem door_met (os : Os) (args : Array Value) : laidMetH Tryd.prog laid1 ((World.doorLaid Tryd.prog 400 os).forCall (fun _ _ => 0) ⟨#[], args, []⟩).memory :=
  laidMetH_of_parts3 (fuel := 8) (laidMet_of_run' 8 (by kernel_rfl) (by kernel_rfl)) (by kernel_rfl) (by kernel_rfl)
end Go.Proofs.YtijahadmaggncaaDoor
