/- math/bits.Mul64 at this dump, by the shelf's contract. -/
import Derived.Shelf.Lay
import Derived.Shelf.LaySoft
import Derived.Shelf.Bits.Mul64
import Derived.Test.YtmpononkbdfkmaaBase
namespace Go.Proofs.Ytmpononkbdfkmaa
open Go.Shelf Go.RowKit
set_option linter.unusedVariables false
shelf_lay Lays.n264 Nm 264 at Try as lays264
theorem mul64_n (x y : Nat) (hx : x < 18446744073709551616) (hy : y < 18446744073709551616) (w : World) :
    Calls Try.prog 118 #[.int .u64 x, .int .u64 y] w fun e w' => e = .returned (.tuple #[.int .u64 ((x * y / 18446744073709551616 : Nat) : Int), .int .u64 ((x * y % 18446744073709551616 : Nat) : Int)]) ∧ w' = w := Any.bits_Mul64 lays264 x y hx hy w
end Go.Proofs.Ytmpononkbdfkmaa
