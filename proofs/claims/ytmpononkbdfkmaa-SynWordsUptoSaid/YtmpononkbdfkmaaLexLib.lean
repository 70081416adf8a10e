/- strings.HasPrefix and IndexByte at this dump, by the shelf's contracts. -/
import Derived.Shelf.Lay
import Derived.Shelf.LaySoft
import Derived.Shelf.Strings.Prefix
import Derived.Shelf.Small.Strs
import Derived.Test.YtmpononkbdfkmaaBase
namespace Go.Proofs.Ytmpononkbdfkmaa
open Go.Shelf Go.RowKit
set_option linter.unusedVariables false
shelf_lay Lays.n99 Nm 99 at Try as lays99
shelf_lay Lays.n137 Nm 137 at Try as lays137
theorem hasPrefix_n (s p : ByteArray) (w : World) : Calls Try.prog 124 #[.string s, .string p] w fun e w' => e = .returned (.bool (Lib.hasPrefix s.data.toList p.data.toList)) ∧ w = w' := (Any.strings_HasPrefix lays99 s p w).mono fun _ _ h => ⟨h.1, h.2.symm⟩
theorem indexByte_n (s : ByteArray) (c : Int) (w : World) : Calls Try.prog 125 #[.string s, .int .u8 c] w fun e w' => e = .returned (.int .i64 (Lib.indexByte s.data.toList c.toNat.toUInt8)) ∧ w = w' := (Any.strings_IndexByte lays137 s c w).mono fun _ _ h => ⟨h.1, h.2.symm⟩
end Go.Proofs.Ytmpononkbdfkmaa
