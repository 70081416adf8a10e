/- strconv.Itoa at this dump, by the shelf's contract. -/
import Derived.Shelf.Strconv.Itoa4
import Derived.Test.YtijahadmaggncaaDoorBase
import Derived.WalkSmall
namespace Go.Proofs.YtijahadmaggncaaDoor
open Go.Shelf Go.RowKit
set_option linter.unusedVariables false
def laysIt_ren : Go.Shelf.Ren := ⟨fun | 171 => 108 | 243 => 140 | 246 => 119 | 283 => 149 | 284 => 150 | 285 => 151 | 286 => 152 | 129 => 103 | 317 => 168 | 318 => 169 | 319 => 170 | 320 => 171 | 337 => 177 | 338 => 57 | n => n, fun | 3 => 3 | 9 => 9 | 2 => 2 | 4 => 4 | 171 => 186 | 0 => 0 | 53 => 114 | 37 => 43 | 5 => 5 | 173 => 188 | 212 => 210 | 51 => 154 | 20 => 20 | 213 => 211 | 46 => 121 | 232 => 232 | 233 => 141 | n => n, fun | 17 => 5 | 18 => 7 | 19 => 0 | n => n⟩
theorem laysIt : Go.Proofs.LaysM.n171 Tryd.prog laysIt_ren where
  mixed := by kernel_rfl
  f129 := Tryd.func103.trans (congrArg some (by kernel_rfl))
  f171 := Tryd.func108.trans (congrArg some (by kernel_rfl))
  f243 := Tryd.func140.trans (congrArg some (by kernel_rfl))
  f246 := Tryd.func119.trans (congrArg some (by kernel_rfl))
  f283 := Tryd.func149.trans (congrArg some (by kernel_rfl))
  f284 := Tryd.func150.trans (congrArg some (by kernel_rfl))
  f285 := Tryd.func151.trans (congrArg some (by kernel_rfl))
  f286 := Tryd.func152.trans (congrArg some (by kernel_rfl))
  f317 := Tryd.func168.trans (congrArg some (by kernel_rfl))
  f318 := Tryd.func169.trans (congrArg some (by kernel_rfl))
  f319 := Tryd.func170.trans (congrArg some (by kernel_rfl))
  f320 := Tryd.func171.trans (congrArg some (by kernel_rfl))
  f337 := Tryd.func177.trans (congrArg some (by kernel_rfl))
  f338 := Tryd.func57.trans (congrArg some (by kernel_rfl))
  t0 := Tryd.underlying0
  a0 := Tryd.isAgg0
  z0 := Tryd.sizeOf0
  v0 := Tryd.zeroValue0
  t2 := Tryd.underlying2
  a2 := Tryd.isAgg2
  z2 := Tryd.sizeOf2
  v2 := Tryd.zeroValue2
  t3 := Tryd.underlying3
  a3 := Tryd.isAgg3
  z3 := Tryd.sizeOf3
  v3 := Tryd.zeroValue3
  t4 := Tryd.underlying4
  a4 := Tryd.isAgg4
  z4 := Tryd.sizeOf4
  v4 := Tryd.zeroValue4
  t5 := Tryd.underlying5
  a5 := Tryd.isAgg5
  z5 := Tryd.sizeOf5
  v5 := Tryd.zeroValue5
  t9 := Tryd.underlying9
  a9 := Tryd.isAgg9
  z9 := Tryd.sizeOf9
  v9 := Tryd.zeroValue9
  t20 := Tryd.underlying20
  a20 := Tryd.isAgg20
  z20 := Tryd.sizeOf20
  v20 := Tryd.zeroValue20
  t37 := Tryd.underlying43
  a37 := Tryd.isAgg43
  z37 := Tryd.sizeOf43
  v37 := Tryd.zeroValue43
  t46 := Tryd.underlying121
  a46 := Tryd.isAgg121
  z46 := Tryd.sizeOf121
  v46 := Tryd.zeroValue121
  t51 := Tryd.underlying154
  a51 := Tryd.isAgg154
  z51 := Tryd.sizeOf154
  v51 := Tryd.zeroValue154
  t53 := Tryd.underlying114
  a53 := Tryd.isAgg114
  z53 := Tryd.sizeOf114
  v53 := Tryd.zeroValue114
  t171 := Tryd.underlying186
  a171 := Tryd.isAgg186
  z171 := Tryd.sizeOf186
  v171 := Tryd.zeroValue186
  t173 := Tryd.underlying188
  a173 := Tryd.isAgg188
  z173 := Tryd.sizeOf188
  v173 := Tryd.zeroValue188
  t212 := Tryd.underlying210
  a212 := Tryd.isAgg210
  z212 := Tryd.sizeOf210
  v212 := Tryd.zeroValue210
  t213 := Tryd.underlying211
  a213 := Tryd.isAgg211
  z213 := Tryd.sizeOf211
  t232 := Tryd.underlying232
  a232 := Tryd.isAgg232
  z232 := Tryd.sizeOf232
  v232 := Tryd.zeroValue232
  t233 := Tryd.underlying141
  a233 := Tryd.isAgg141
  z233 := Tryd.sizeOf141
  v233 := Tryd.zeroValue141
  g17 := by kernel_rfl
  g18 := by kernel_rfl
  g19 := by kernel_rfl
  i0 := by kernel_rfl
  i2 := by kernel_rfl
  i3 := by kernel_rfl
  i4 := by kernel_rfl
  i5 := by kernel_rfl
  i9 := by kernel_rfl
  i20 := by kernel_rfl
  i37 := by kernel_rfl
  i46 := by kernel_rfl
  i51 := by kernel_rfl
  i53 := by kernel_rfl
  i171 := by kernel_rfl
  i173 := by kernel_rfl
  i212 := by kernel_rfl
  i232 := by kernel_rfl
  i233 := by kernel_rfl
  m17 := by kernel_rfl
  m18 := by kernel_rfl
  m19 := by kernel_rfl
theorem gPowI : Tryd.prog.globalNamed "internal/strconv.uint64pow10" = some 5 := by kernel_rfl
/-- the library's table of powers lies -/
structure PowT (w : World) : Prop where
  tab : Lib.TabIs Tryd.prog w "internal/strconv.uint64pow10" .u64 Lib.pow10Tab
  lt : 5 < w.heap.size
theorem PowT.below {w w' : World} {B : Nat} (h : PowT w) (hb : Below B w w') (h3 : 5 < B) : PowT w' :=
  ⟨var?_below hb gPowI h3 h.tab, Nat.lt_of_lt_of_le h.lt hb.size⟩
theorem PowT.go {w w' : World} (h : PowT w) (hb : Below w.heap.size w w') : PowT w' := h.below hb h.lt
theorem itoa_n (n : Int) (h0 : -9223372036854775808 ≤ n) (h1 : n ≤ 9223372036854775807) (w : World) (hN : PowT w) :
    Calls Tryd.prog 108 #[.int .i64 n] w fun e w' => e = .returned (.string ⟨(Lib.itoa n).toArray⟩) ∧ Below w.heap.size w w' := by
  refine (Any.strconv_Itoa laysIt n h0 h1 w hN.tab).mono ?_
  rintro e w' ⟨he, k, os, rfl⟩
  refine ⟨he, rfl, rfl, rfl, by simp [Sort.grow], fun i hi => by
    show ((w.drewN k).heap ++ os)[i]? = _
    rw [Array.getElem?_append_left (by show i < w.heap.size; omega)]
    rfl⟩
end Go.Proofs.YtijahadmaggncaaDoor
