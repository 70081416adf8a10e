/- math/bits.TrailingZeros64 at this dump, by the shelf's contract; its table. -/
import Derived.Shelf.Spec.TrailingZeros
import Derived.Test.YtknaoianhjeccaaDoorBase
namespace Go.Proofs.YtknaoianhjeccaaDoor
open Go.Shelf Go.RowKit
set_option linter.unusedVariables false
def lays729_ren : Go.Shelf.Ren := ⟨fun | 29 => 31 | n => n, fun | 22 => 37 | 3 => 3 | 4 => 4 | 25 => 92 | 54 => 91 | 0 => 0 | 5 => 5 | n => n, fun | 1 => 0 | n => n⟩
theorem lays729 : Go.Proofs.Lays7.n29 Tryd.prog lays729_ren where
  mixed := by kernel_rfl
  f29 := Tryd.func31.trans (congrArg some (by kernel_rfl))
  t0 := Tryd.underlying0
  a0 := Tryd.isAgg0
  z0 := Tryd.sizeOf0
  v0 := Tryd.zeroValue0
  i0 := by kernel_rfl
  t3 := Tryd.underlying3
  a3 := Tryd.isAgg3
  z3 := Tryd.sizeOf3
  v3 := Tryd.zeroValue3
  i3 := by kernel_rfl
  t4 := Tryd.underlying4
  a4 := Tryd.isAgg4
  z4 := Tryd.sizeOf4
  v4 := Tryd.zeroValue4
  i4 := by kernel_rfl
  t5 := Tryd.underlying5
  a5 := Tryd.isAgg5
  z5 := Tryd.sizeOf5
  v5 := Tryd.zeroValue5
  i5 := by kernel_rfl
  t22 := Tryd.underlying37
  a22 := Tryd.isAgg37
  z22 := Tryd.sizeOf37
  v22 := Tryd.zeroValue37
  i22 := by kernel_rfl
  t25 := Tryd.underlying92
  a25 := Tryd.isAgg92
  z25 := Tryd.sizeOf92
  v25 := Tryd.zeroValue92
  i25 := by kernel_rfl
  t54 := Tryd.underlying91
  a54 := Tryd.isAgg91
  z54 := Tryd.sizeOf91
  g1 := by kernel_rfl
/-- the library's table lies in its variable -/
def Tab (w : World) : Prop := TabAt 0 Lib.deBruijn64tab w ∧ 0 < w.heap.size
theorem Tab.below {w w' : World} {B : Nat} (h : Tab w) (hb : Below B w w') (hB : 0 < B) : Tab w' :=
  ⟨fun j hj => (hb.cell (p := ⟨0, j, none⟩) hB).trans (h.1 j hj), Nat.lt_of_lt_of_le h.2 hb.size⟩
theorem Tab.go {w w' : World} (h : Tab w) (hb : Below w.heap.size w w') : Tab w' := h.below hb h.2
theorem tz_n (x : Nat) (hx : x < 18446744073709551616) (w : World) (hT : Tab w) : Calls Tryd.prog 31 #[.int .u64 x] w fun e w' => e = .returned (.int .i64 (Lib.ctz 64 x)) ∧ w = w' :=
  (Any7.bits_TrailingZeros64 lays729 x hx w (fun _ => hT.1)).mono fun _ _ h => ⟨h.1, h.2.symm⟩
end Go.Proofs.YtknaoianhjeccaaDoor
